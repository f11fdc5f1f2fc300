/- seepageref13: Row. -/
import Derived.Test.YtpgkhmjlbaoagaaR13C
namespace Go.Proofs.Ytpgkhmjlbaoagaa
open Go.RowKit
set_option linter.unusedVariables false

set_option maxRecDepth 100000 in
set_option maxHeartbeats 8000000 in
theorem r13Row (w : World) (g : Nat) (A0 : Option Addr) (c0 n B : Nat) (l : List (Int × Int × Int)) (h : RG w g A0 c0 n B l) :
    Calls Try.prog 30 #[.pointer (some ⟨g, 0, none⟩)] w
      fun e w' => e = .returned (gRow n (gLb n l)) ∧ Below w.heap.size w w' := by
  have hn := h.nb
  have hA0 : Below w.heap.size w (w.alloc (.cells #[.int .i64 0, .int .i64 0, .int .i64 0] 53)) := (Below.refl _ _).alloc (Nat.le_refl _) _
  have HC := hide (r13Components _ g A0 c0 n B l (h.fresh hA0))
  have hR0 : Blk (w.alloc (.cells #[.int .i64 0, .int .i64 0, .int .i64 0] 53)) w.heap.size 53 #[.int .i64 0, .int .i64 0, .int .i64 0] := Blk.new w _ _
  have hs0 : (w.alloc (.cells #[.int .i64 0, .int .i64 0, .int .i64 0] 53)).heap.size = w.heap.size + 1 := by simp
  have hlab := gLb_lab n l
  have hlg := lrg_groups hlab
  have hsn : (grp n (gLb n l)).length = sets n (gLb n l) := grp_len _ _
  have hsle : sets n (gLb n l) ≤ n := cnt_le _ _
  have hF := glen_le n (gLb n l)
  have hgg : ∀ j g, (grp n (gLb n l))[j]? = some g → glen n (gLb n l) j = g.length := fun j g h => glen_get h
  unfold gRow
  rw [← hlg.1, ← hlg.2, ← hsn]
  rw [← hsn] at hsle
  generalize glen n (gLb n l) = F at *
  generalize hGG : grp n (gLb n l) = G at *
  clear hlab hlg hsn hGG h
  have HF := hide hF
  have HGG := hide hgg
  have HA0 := hide hA0
  have HR0 := hide hR0
  clear hF hgg hA0 hR0
  go_enter Try.func30, Try.ntmps30
  go_wp2_with fail
  generalize w.alloc (.cells #[.int .i64 0, .int .i64 0, .int .i64 0] 53) = w1 at *
  generalize hRR : w.heap.size = R at *
  have HRR := hide hRR
  clear hRR
  refine HC.out.mono ?_
  rintro e w2 ⟨v, rfl, hg, hb⟩
  obtain ⟨A, c, rfl⟩ := hg.len
  have HG := hide hg
  have HB := hide (HA0.out.trans (hb.mono (by omega)))
  have HR := hide (HR0.out.below hb (by omega))
  have hge2 : R < w2.heap.size := HR.out.lt
  clear hg hb HR0 HA0 hs0
  generalize hm : G.length = m at *
  have HM := hide hm
  clear hm
  go_wp2_with fail
  have hX1 := Blk.new w2 53 #[.int .i64 0, .int .i64 (m : Int), .int .i64 0]
  have hb3 : Below w2.heap.size w2 (w2.alloc (.cells #[.int .i64 0, .int .i64 (m : Int), .int .i64 0] 53)) := (Below.refl _ _).alloc (Nat.le_refl _) _
  generalize w2.alloc (.cells #[.int .i64 0, .int .i64 (m : Int), .int .i64 0] 53) = w3 at *
  have HX1 := hide hX1
  have HB3 := hide hb3
  generalize hX : w2.heap.size = X at *
  have HXX := hide hX
  clear hX hX1 hb3
  go_loopg [5, 6] m (fun g s s6 wr => ∃ k : Nat, k + g = m ∧ s = .int .i64 (k : Int) ∧ Below X w2 wr ∧
    Blk wr X 53 #[.int .i64 (mx F k : Int), .int .i64 (m : Int), .int .i64 (sm (fun j => F j * F j) k : Int)])
  case atStart => exact ⟨0, by omega, rfl, HB3.out, HX1.out⟩
  case round =>
    obtain ⟨k, hk, rfl, hb, hX⟩ := hrel
    have HK := hide hk
    have hkm : k ≤ m := by omega
    clear hk
    have hgr := HG.out.keep (by rw [HXX.out]; exact hb)
    by_cases hlt : k < m
    · have hgk : G[k]? = some (G[k]'(by rw [HM.out]; exact hlt)) := List.getElem?_eq_getElem _
      generalize G[k]'(by rw [HM.out]; exact hlt) = gk2 at hgk
      obtain ⟨b, o, A', c', rfl, hbl, ck, hrd⟩ := hgr.cell_ k gk2 hgk
      have hfk := HGG.out k gk2 hgk
      rw [← hfk] at ck
      clear hrd hfk hgk hgr
      have x0 : wr.cell? ⟨X, 0, none⟩ = some (.int .i64 (mx F k : Int)) := (hX.cell 0).trans rfl
      have x2 : wr.cell? ⟨X, 2, none⟩ = some (.int .i64 (sm (fun j => F j * F j) k : Int)) := (hX.cell 2).trans rfl
      have z0 := hX.frozen 0
      have z2 := hX.frozen 2
      have bm : mx F k ≤ n := mx_le fun i _ => HF.out i
      have bs : sm (fun j => F j * F j) k ≤ k * (4096 * 4096) := sm_le fun i _ => Nat.mul_le_mul (Nat.le_trans (HF.out i) hn) (Nat.le_trans (HF.out i) hn)
      have bs2 : k * (4096 * 4096) ≤ 4096 * (4096 * 4096) := Nat.mul_le_mul_right _ (by omega)
      have bf := HF.out k
      have HMX : Hid (mx F (k + 1) = max (mx F k) (F k)) := rfl
      have HSM : Hid (sm (fun j => F j * F j) (k + 1) = sm (fun j => F j * F j) k + F k * F k) := rfl
      generalize mx F k = a at *
      generalize sm (fun j => F j * F j) k = s at *
      generalize F k = z at *
      have zz : z * z ≤ 4096 * 4096 := Nat.mul_le_mul (by omega) (by omega)
      have zi : (z : Int) * (z : Int) ≤ 16777216 := by
        have : ((z * z : Nat) : Int) ≤ 16777216 := by omega
        push_cast at this; exact this
      have zi0 : 0 ≤ (z : Int) * (z : Int) := Int.mul_nonneg (by omega) (by omega)
      have bs3 : s ≤ 68719476736 := by omega
      have HX := hide hX
      have HB := hide hb
      clear hX hb bs bs2 zz
      by_cases hle : a < z
      · have HM2 : Hid (mx F (k + 1) = z) := by show _ = _; rw [HMX.out]; omega
        go_wp2_with fail
        go_roundg (m - (k + 1))
        case measure => have := HK.out; omega
        case rel =>
          have hx3 := (HX.out.set_ 0 (.int .i64 (z : Int))).set_ 2 (.int .i64 ((s : Int) + (z : Int) * (z : Int)))
          have hb3 := (HB.out.setCell (p := ⟨X, 0, none⟩) (Nat.le_refl X) (.int .i64 (z : Int))).setCell (p := ⟨X, 2, none⟩) (Nat.le_refl X) (.int .i64 ((s : Int) + (z : Int) * (z : Int)))
          exact ⟨k + 1, by omega, by go_num, hb3, by rw [HM2.out, HSM.out]; push_cast; exact hx3⟩
      · have HM2 : Hid (mx F (k + 1) = a) := by show _ = _; rw [HMX.out]; omega
        have hza : z ≤ a := by omega
        clear hle
        go_wp2_with fail
        go_roundg (m - (k + 1))
        case measure => have := HK.out; omega
        case rel =>
          have hx3 := HX.out.set_ 2 (.int .i64 ((s : Int) + (z : Int) * (z : Int)))
          have hb3 := HB.out.setCell (p := ⟨X, 2, none⟩) (Nat.le_refl X) (.int .i64 ((s : Int) + (z : Int) * (z : Int)))
          exact ⟨k + 1, by omega, by go_num, hb3, by rw [HM2.out, HSM.out]; push_cast; exact hx3⟩
    · obtain rfl : k = m := by omega
      have hR := HR.out.below hb hge2
      have r0 : wr.cell? ⟨R, 0, none⟩ = some (.int .i64 0) := (hR.cell 0).trans rfl
      have r1 : wr.cell? ⟨R, 1, none⟩ = some (.int .i64 0) := (hR.cell 1).trans rfl
      have r2 : wr.cell? ⟨R, 2, none⟩ = some (.int .i64 0) := (hR.cell 2).trans rfl
      have x0 : wr.cell? ⟨X, 0, none⟩ = some (.int .i64 (mx F k : Int)) := (hX.cell 0).trans rfl
      have x1 : wr.cell? ⟨X, 1, none⟩ = some (.int .i64 (k : Int)) := (hX.cell 1).trans rfl
      have x2 : wr.cell? ⟨X, 2, none⟩ = some (.int .i64 (sm (fun j => F j * F j) k : Int)) := (hX.cell 2).trans rfl
      have z0 := hR.frozen 0
      have z1 := hR.frozen 1
      have z2 := hR.frozen 2
      have HB9 := hide (HB.out.trans (hb.mono (by omega)))
      have HRR9 := hide hR
      clear hX hb hR hgr
      go_wp2_with fail
      have hR3 := ((HRR9.out.set_ 0 (.int .i64 (mx F k : Int))).set_ 1 (.int .i64 (k : Int))).set_ 2 (.int .i64 (sm (fun j => F j * F j) k : Int))
      have q0 := (hR3.cell 0).trans rfl
      have q1 := (hR3.cell 1).trans rfl
      have q2 := (hR3.cell 2).trans rfl
      refine bodyPost_ret (v := .agg #[.int .i64 (mx F k : Int), .int .i64 (k : Int), .int .i64 (sm (fun j => F j * F j) k : Int)]) (by simp [results, Try.results30, go_sem, q0, q1, q2]) rfl ⟨by rw [HM.out], by rw [HRR.out]; exact ((HB9.out.setCell (p := ⟨R, 0, none⟩) (Nat.le_refl R) _).setCell (p := ⟨R, 1, none⟩) (Nat.le_refl R) _).setCell (p := ⟨R, 2, none⟩) (Nat.le_refl R) _⟩
end Go.Proofs.Ytpgkhmjlbaoagaa
