/- seepageref13: Around, Degree. -/
import Derived.Test.YtpgkhmjlbaoagaaR13E
import Derived.Test.YtpgkhmjlbaoagaaGraAn
import Derived.Test.YtpgkhmjlbaoagaaStep
namespace Go.Proofs.Ytpgkhmjlbaoagaa
open Go.RowKit
set_option linter.unusedVariables false

/-- The pairs around a vertex, of the first k edges. -/
def arK (l : List (Int × Int × Int)) (v k : Nat) : List (Nat × Nat) := ((List.range (2 * k)).filter fun j => eP l j == v).map (hep l)
theorem hep_even (l : List (Int × Int × Int)) (k : Nat) : hep l (2 * k) = (k, eV l k) := by unfold hep eQ; rw [if_pos (by omega), show 2 * k / 2 = k by omega]
theorem hep_odd (l : List (Int × Int × Int)) (k : Nat) : hep l (2 * k + 1) = (k, eU l k) := by unfold hep eQ; rw [if_neg (by omega), show (2 * k + 1) / 2 = k by omega]
theorem arK_succ (l : List (Int × Int × Int)) (v k : Nat) : arK l v (k + 1) = arK l v k ++ ((if eU l k = v then [(k, eV l k)] else []) ++ (if eV l k = v then [(k, eU l k)] else [])) := by
  unfold arK
  rw [show 2 * (k + 1) = 2 * k + 1 + 1 by omega, List.range_succ, List.range_succ, List.filter_append, List.filter_append, List.map_append, List.map_append, List.append_assoc]
  congr 1
  congr 1
  · by_cases h : eU l k = v <;> simp [eP_even, h, hep_even]
  · by_cases h : eV l k = v <;> simp [eP_odd, h, hep_odd]
theorem arK_full {n : Nat} {l : List (Int × Int × Int)} {v : Nat} (h : v < n) : arK l v l.length = arnd n l (v : Int) := by
  rw [arnd_hep, hes_nat h]; rfl
theorem arK_len (l : List (Int × Int × Int)) (v k : Nat) : (arK l v k).length ≤ 2 * k := by
  unfold arK
  rw [List.length_map]
  exact Nat.le_trans (List.length_filter_le _ _) (by simp)

set_option maxRecDepth 100000 in
set_option maxHeartbeats 8000000 in
theorem r13Around_ok (w : World) (v : Nat) (g : Nat) (A : Option Addr) (c n B : Nat) (l : List (Int × Int × Int)) (h : RG w g A c n B l) (hv : v < n) :
    Calls Try.prog 17 #[.pointer (some ⟨g, 0, none⟩), .int .i64 (v : Int)] w
      fun e w' => ∃ V, e = .returned V ∧ w'.ownsRow w.heap.size 71 2 V (arnd n l (v : Int)).length (pcn (arnd n l (v : Int))) ∧ Below w.heap.size w w' := by
  have HH0 := r13Has w (v : Int) g A c n B l h
  rw [inB_nat hv] at HH0
  have HH := hide HH0
  have HG := hide h
  have nb := h.nb
  have lb := h.lb
  have HOK := hide h.ok
  have HFULL := hide (arK_full (l := l) hv)
  generalize hm : l.length = m at *
  have HM := hide hm
  obtain ⟨i0, hi, hz0, hz1, hz2⟩ := info_parts pair_info
  have HI := hide hi
  have HZ0 := hide hz0
  have HZ1 := hide hz1
  have HZ2 := hide hz2
  clear h HH0 hm hi hz0 hz1 hz2
  go_enter Try.func17, Try.ntmps17
  go_wp2_with (first | (go_at_call 48; refine HH.out.mono ?_; rintro e w' ⟨rfl, rfl⟩))
  go_loopg [5, 6] m (fun q V i wr => ∃ k : Nat, k + q = m ∧ i = .int .i64 (k : Int) ∧ wr.ownsRow w.heap.size 71 2 V (arK l v k).length (pcn (arK l v k)) ∧ Below w.heap.size w wr)
  case atStart => exact ⟨0, by omega, rfl, own_nil _ _ _ _, Below.refl _ _⟩
  case round =>
    obtain ⟨k, hk, rfl, ho, hb⟩ := hrel
    have HK := hide hk
    have hkm : k ≤ m := by omega
    have HO := hide ho
    have HB := hide hb
    have hs1 : w.heap.size ≤ wr.heap.size := hb.size
    obtain ⟨_, _, c2⟩ := (HG.out.fresh hb).cells
    rw [HM.out] at c2
    have hrd := (HG.out.fresh hb).rd
    clear hk ho hb
    by_cases hlt : k < m
    · have hkl : k < l.length := by rw [HM.out]; exact hlt
      obtain ⟨b, o, rfl, hblt, e0, e1, e2⟩ := HG.out.rd.edge k hkl rfl
      have hgl : g < w.heap.size := by obtain ⟨_, _, d2⟩ := HG.out.cells; exact World.block_lt_of_cell? _ _ d2
      replace e0 := (HB.out.cell (p := ⟨b, o + k * 3, none⟩) hblt).trans e0
      replace e1 := (HB.out.cell (p := ⟨b, o + k * 3 + 1, none⟩) hblt).trans e1
      obtain ⟨q0, q1, q2, q3, q4⟩ := HOK.out.at_ hkl
      rw [q0] at e0
      rw [q1] at e1
      have hsucc := arK_succ l v k
      have hle := arK_len l v k
      generalize eU l k = x at *
      generalize eV l k = y at *
      generalize arK l v k = L0 at *
      generalize hL1 : arK l v (k + 1) = L1 at *
      have HE := hide hL1
      clear hL1
      have HS := hide hsucc
      clear q0 q1 hsucc hrd
      generalize hll : L0.length = z at *
      have HLL := hide hll
      clear hll e2
      by_cases hxv : x = v
      · have hyv : y ≠ v := by omega
        have hyv1 : ((y : Int) == (v : Int)) = false := beq_nat_false hyv
        subst hxv
        have HS1 : Hid (L1 = L0 ++ [(k, y)]) := by show _ = _; rw [HS.out, if_pos rfl, if_neg hyv]; simp
        clear HS
        go_wp2_with (first | (at_builtin; go_loud (refine app_one 32 71 Try.underlying32 HI.out HZ0.out HZ1.out HZ2.out rfl (by decide) wr #[.int .i64 (k : Int), .int .i64 (y : Int)] rfl (by intro u hu; simp at hu; rcases hu with rfl | rfl <;> rfl) rfl (.tmp 31) (.tmp 42) rfl w.heap.size _ z _ rfl HO.out rfl (by unfold maxLen; omega) (by omega) hs1 ?_; intro vo' w5 ho5 hg5 hat5 hb5; have HO5 := hide ho5; have HB5 := hide hb5; have c25 := (hb5.cell (p := ⟨g, 2, none⟩) hgl).trans c2; have e15 := (hb5.cell (p := ⟨b, o + k * 3 + 1, none⟩) hblt).trans e1; clear ho5 hg5 hat5 hb5)))
        go_roundg (m - (k + 1))
        case measure => have := HK.out; omega
        case rel => exact ⟨k + 1, by omega, by go_num, by rw [HE.out, HS1.out, List.length_append, HLL.out, pcn_snoc]; exact HO5.out, HB.out.trans HB5.out⟩
      · have hxv1 : ((x : Int) == (v : Int)) = false := beq_nat_false hxv
        by_cases hyv : y = v
        · subst hyv
          have HS1 : Hid (L1 = L0 ++ [(k, x)]) := by show _ = _; rw [HS.out, if_neg hxv, if_pos rfl]; simp
          clear HS
          go_wp2_with (first | (at_builtin; go_loud (refine app_one 32 71 Try.underlying32 HI.out HZ0.out HZ1.out HZ2.out rfl (by decide) wr #[.int .i64 (k : Int), .int .i64 (x : Int)] rfl (by intro u hu; simp at hu; rcases hu with rfl | rfl <;> rfl) rfl (.tmp 54) (.tmp 65) rfl w.heap.size _ z _ rfl HO.out rfl (by unfold maxLen; omega) (by omega) hs1 ?_; intro vo' w5 ho5 hg5 hat5 hb5; have HO5 := hide ho5; have HB5 := hide hb5; have c25 := (hb5.cell (p := ⟨g, 2, none⟩) hgl).trans c2; have e15 := (hb5.cell (p := ⟨b, o + k * 3 + 1, none⟩) hblt).trans e1; clear ho5 hg5 hat5 hb5)))
          go_roundg (m - (k + 1))
          case measure => have := HK.out; omega
          case rel => exact ⟨k + 1, by omega, by go_num, by rw [HE.out, HS1.out, List.length_append, HLL.out, pcn_snoc]; exact HO5.out, HB.out.trans HB5.out⟩
        · have hyv1 : ((y : Int) == (v : Int)) = false := beq_nat_false hyv
          have HS1 : Hid (L1 = L0) := by show _ = _; rw [HS.out, if_neg hxv, if_neg hyv]; simp
          clear HS
          go_wp2_with fail
          go_roundg (m - (k + 1))
          case measure => have := HK.out; omega
          case rel => exact ⟨k + 1, by omega, by go_num, by rw [HE.out, HS1.out, HLL.out]; exact HO.out, HB.out⟩
    · obtain rfl : m = k := by omega
      have ho := HO.out
      rw [HFULL.out] at ho
      have HO2 := hide ho
      clear ho HO
      go_wp2_with fail
      go_ret
      exact ⟨_, rfl, HO2.out, HB.out⟩
end Go.Proofs.Ytpgkhmjlbaoagaa
