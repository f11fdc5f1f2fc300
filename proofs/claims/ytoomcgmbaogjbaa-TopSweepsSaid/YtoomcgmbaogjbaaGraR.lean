/- graph: Row. -/
import Derived.Test.YtoomcgmbaogjbaaGraCc
import Derived.Test.YtoomcgmbaogjbaaRowP
namespace Go.Proofs.Ytoomcgmbaogjbaa
open Go.RowKit
set_option linter.unusedVariables false

theorem rts_prefix {L : Nat → Nat} {a b : Nat} (h : a ≤ b) : ∃ t, rts L b = rts L a ++ t := by
  induction b with
  | zero => obtain rfl : a = 0 := by omega
            exact ⟨[], by simp⟩
  | succ b ih =>
    by_cases e : a = b + 1
    · subst e; exact ⟨[], by simp⟩
    · obtain ⟨t, ht⟩ := ih (by omega)
      by_cases hl : L b = b
      · exact ⟨t ++ [b], by rw [rts_succ_in hl, ht, List.append_assoc]⟩
      · exact ⟨t, by rw [rts_succ_out hl, ht]⟩
theorem rts_at {L : Nat → Nat} {k n : Nat} (hk : k < n) (h : L k = k) : (rts L n)[(rts L k).length]? = some k := by
  obtain ⟨t, e⟩ := rts_prefix (L := L) (show k + 1 ≤ n by omega)
  rw [e, rts_succ_in h]; simp
/-- How many elements group j has. -/
def glen (n : Nat) (L : Nat → Nat) (j : Nat) : Nat := ((grp n L)[j]?.getD []).length
theorem glen_at {L : Nat → Nat} {k n : Nat} (hk : k < n) (h : L k = k) : glen n L (rts L k).length = cls n L k := by
  unfold glen grp
  rw [List.getElem?_map, rts_at hk h]
  simp [mem_len]
theorem glen_get {L : Nat → Nat} {j n : Nat} {g : List Int} (h : (grp n L)[j]? = some g) : glen n L j = g.length := by simp [glen, h]
theorem glen_le (n : Nat) (L : Nat → Nat) (j : Nat) : glen n L j ≤ n := by
  unfold glen
  cases h : (grp n L)[j]? with
  | none => simp
  | some g =>
    have hm := List.mem_of_getElem? h
    unfold grp at hm
    obtain ⟨r, _, rfl⟩ := List.mem_map.1 hm
    simp only [Option.getD_some, List.length_map, mem_len]
    exact cnt_le _ _
theorem mx_groups {n : Nat} {L : Nat → Nat} (hl : Lab n L) : ∀ k, k ≤ n → mx (glen n L) (rts L k).length = mx (fun i => cls n L i) k := by
  intro k
  induction k with
  | zero => intro _; rfl
  | succ k ih =>
    intro hk
    have ih := ih (by omega)
    by_cases h : L k = k
    · rw [rts_succ_in h, List.length_append, List.length_singleton]
      simp only [mx]
      rw [ih, glen_at (by omega) h]
    · rw [rts_succ_out h, ih]
      simp only [mx, cls_none hl h]
      omega
theorem sm_groups {n : Nat} {L : Nat → Nat} (hl : Lab n L) : ∀ k, k ≤ n → sm (fun j => glen n L j * glen n L j) (rts L k).length = sm (fun i => cls n L i * cls n L i) k := by
  intro k
  induction k with
  | zero => intro _; rfl
  | succ k ih =>
    intro hk
    have ih := ih (by omega)
    by_cases h : L k = k
    · rw [rts_succ_in h, List.length_append, List.length_singleton]
      simp only [sm]
      rw [ih, glen_at (by omega) h]
    · rw [rts_succ_out h, ih]
      simp only [sm, cls_none hl h, Nat.mul_zero, Nat.add_zero]
theorem lrg_groups {n : Nat} {L : Nat → Nat} (hl : Lab n L) : mx (glen n L) (grp n L).length = lrg n L ∧ sm (fun j => glen n L j * glen n L j) (grp n L).length = sq n L := by
  have e : (grp n L).length = (rts L n).length := by simp [grp]
  rw [e]
  exact ⟨(mx_groups hl n (Nat.le_refl _)).trans (lrg_labels hl), (sm_groups hl n (Nat.le_refl _)).trans (sq_labels hl)⟩
/-- A row, as a value. -/
def gRow (n : Nat) (L : Nat → Nat) : Value := .agg #[.int .i64 (lrg n L : Int), .int .i64 (sets n L : Int), .int .i64 (sq n L : Int)]
theorem IsGrp.cell_ {w : World} {B : Nat} {A : Option Addr} {m c : Nat} {G : List (List Int)} (h : IsGrp w B (.slice A m c) G) (j : Nat) (g : List Int) (hj : G[j]? = some g) :
    ∃ b o A' c', A = some ⟨b, o, none⟩ ∧ b < w.heap.size ∧ w.cell? ⟨b, o + j, none⟩ = some (.slice A' g.length c') ∧ Rd w A' g.length 1 (is g) := by
  obtain ⟨hlt, rfl⟩ := List.getElem?_eq_some_iff.1 hj
  obtain ⟨A2, c2, vs, e, hB, hr, hg⟩ := h
  injection e with e1 e2 e3
  subst e1
  obtain ⟨b, o, hA, hb, hc⟩ := hr.2 (by omega)
  obtain ⟨A', c', h1, h2, h3⟩ := hg j hlt
  exact ⟨b, o, A', c', hA, hb, hc j _ h1, h3⟩
theorem IsGrp.len {w : World} {B : Nat} {v : Value} {G : List (List Int)} (h : IsGrp w B v G) : ∃ A c, v = .slice A G.length c := by
  obtain ⟨A2, c2, vs, e, _⟩ := h
  exact ⟨A2, c2, e⟩
set_option maxRecDepth 100000 in
set_option maxHeartbeats 8000000 in
theorem graRow (w : World) (p : GLoc) (n B : Nat) (l : List (Int × Int × Int)) (h : Gr w p n B l) :
    Calls Try.prog 9 #[.pointer (some ⟨p.g, 0, none⟩)] w
      fun e w' => e = .returned (gRow n (gLb n l)) ∧ Below w.heap.size w w' := by
  have hn := h.ok.2.1
  have hA0 : Below w.heap.size w ((w.alloc (.cells #[.int .i64 0, .int .i64 0, .int .i64 0] 37)).alloc (.cells #[.int .i64 0, .int .i64 0, .int .i64 0] 37)) := ((Below.refl _ _).alloc (Nat.le_refl _) _).alloc (by simp) _
  have HC := hide (graComponents _ p n B l (h.fresh hA0))
  have hR0 : Blk ((w.alloc (.cells #[.int .i64 0, .int .i64 0, .int .i64 0] 37)).alloc (.cells #[.int .i64 0, .int .i64 0, .int .i64 0] 37)) w.heap.size 37 #[.int .i64 0, .int .i64 0, .int .i64 0] := (Blk.new w _ _).alloc _
  have hX0 : Blk ((w.alloc (.cells #[.int .i64 0, .int .i64 0, .int .i64 0] 37)).alloc (.cells #[.int .i64 0, .int .i64 0, .int .i64 0] 37)) (w.heap.size + 1) 37 #[.int .i64 0, .int .i64 0, .int .i64 0] := by
    have := Blk.new (w.alloc (.cells #[.int .i64 0, .int .i64 0, .int .i64 0] 37)) 37 #[.int .i64 0, .int .i64 0, .int .i64 0]
    simpa using this
  have hs0 : ((w.alloc (.cells #[.int .i64 0, .int .i64 0, .int .i64 0] 37)).alloc (.cells #[.int .i64 0, .int .i64 0, .int .i64 0] 37)).heap.size = w.heap.size + 1 + 1 := by simp
  have hlab := gLb_lab n l
  have hlg := lrg_groups hlab
  have hsn : (grp n (gLb n l)).length = sets n (gLb n l) := grp_len _ _
  have hsle : sets n (gLb n l) ≤ n := cnt_le _ _
  have hF := glen_le n (gLb n l)
  have hgg : ∀ j g, (grp n (gLb n l))[j]? = some g → glen n (gLb n l) j = g.length := fun j g h => glen_get h
  unfold gRow
  rw [← hlg.1, ← hlg.2, ← hsn]
  rw [← hsn] at hsle
  generalize glen n (gLb n l) = F at *
  generalize hGG : grp n (gLb n l) = G at *
  clear hlab hlg hsn hGG h
  have HF := hide hF
  have HGG := hide hgg
  have HA0 := hide hA0
  have HR0 := hide hR0
  have HX0 := hide hX0
  clear hF hgg hA0 hR0 hX0
  go_enter Try.func9, Try.ntmps9
  go_wp2_with fail
  generalize (w.alloc (.cells #[.int .i64 0, .int .i64 0, .int .i64 0] 37)).alloc (.cells #[.int .i64 0, .int .i64 0, .int .i64 0] 37) = w1 at *
  generalize hRR : w.heap.size = R at *
  have HRR := hide hRR
  clear hRR
  refine HC.out.mono ?_
  rintro e w2 ⟨v, rfl, hg, hb⟩
  obtain ⟨A, c, rfl⟩ := hg.len
  have HG := hide hg
  have HB := hide (HA0.out.trans (hb.mono (by omega)))
  have HR := hide (HR0.out.below hb (by omega))
  have HX := hide (HX0.out.below hb (by omega))
  have hge2 : R + 1 < w2.heap.size := HX.out.lt
  clear hg hb HR0 HX0 HA0
  have hRB : R + 1 < w1.heap.size := by omega
  generalize hm : G.length = m at *
  have HM := hide hm
  clear hm
  go_wp2_with fail
  go_loopg [9] m (fun g s wr => ∃ k : Nat, k + g = m ∧ s = .int .i64 (k : Int) ∧ IsGrp wr w1.heap.size (.slice A m c) G ∧ Below R w wr ∧ Blk wr R 37 #[.int .i64 0, .int .i64 0, .int .i64 0] ∧
    Blk wr (R + 1) 37 #[.int .i64 (mx F k : Int), .int .i64 (k : Int), .int .i64 (sm (fun j => F j * F j) k : Int)])
  case atStart => exact ⟨0, by omega, rfl, HG.out, HB.out, HR.out, HX.out⟩
  case round =>
    obtain ⟨k, hk, rfl, hg, hb, hR, hX⟩ := hrel
    have HK := hide hk
    have hkm : k ≤ m := by omega
    clear hk HG HB HR HX
    by_cases hlt : k < m
    · have hgk : G[k]? = some (G[k]'(by rw [HM.out]; exact hlt)) := List.getElem?_eq_getElem _
      generalize G[k]'(by rw [HM.out]; exact hlt) = gk2 at hgk
      obtain ⟨b, o, A', c', rfl, hbl, ck, hrd⟩ := hg.cell_ k gk2 hgk
      have hfk := HGG.out k gk2 hgk
      rw [← hfk] at ck
      clear hrd hfk hgk
      have x0 : wr.cell? ⟨R + 1, 0, none⟩ = some (.int .i64 (mx F k : Int)) := (hX.cell 0).trans rfl
      have x1 : wr.cell? ⟨R + 1, 1, none⟩ = some (.int .i64 (k : Int)) := (hX.cell 1).trans rfl
      have x2 : wr.cell? ⟨R + 1, 2, none⟩ = some (.int .i64 (sm (fun j => F j * F j) k : Int)) := (hX.cell 2).trans rfl
      have z0 := hX.frozen 0
      have z1 := hX.frozen 1
      have z2 := hX.frozen 2
      have bm : mx F k ≤ n := mx_le fun i _ => HF.out i
      have bs : sm (fun j => F j * F j) k ≤ k * (4096 * 4096) := sm_le fun i _ => Nat.mul_le_mul (Nat.le_trans (HF.out i) hn) (Nat.le_trans (HF.out i) hn)
      have bs2 : k * (4096 * 4096) ≤ 4096 * (4096 * 4096) := Nat.mul_le_mul_right _ (by omega)
      have bf := HF.out k
      have HMX : Hid (mx F (k + 1) = max (mx F k) (F k)) := rfl
      have HSM : Hid (sm (fun j => F j * F j) (k + 1) = sm (fun j => F j * F j) k + F k * F k) := rfl
      generalize mx F k = a at *
      generalize sm (fun j => F j * F j) k = s at *
      generalize F k = z at *
      have zz : z * z ≤ 4096 * 4096 := Nat.mul_le_mul (by omega) (by omega)
      have zi : (z : Int) * (z : Int) ≤ 16777216 := by
        have : ((z * z : Nat) : Int) ≤ 16777216 := by omega
        push_cast at this; exact this
      have zi0 : 0 ≤ (z : Int) * (z : Int) := Int.mul_nonneg (by omega) (by omega)
      have bs3 : s ≤ 68719476736 := by omega
      have HX := hide hX
      have HG := hide hg
      have HB := hide hb
      have HR := hide hR
      clear hX hg hb hR bs bs2 zz
      by_cases hle : a < z
      · have HM2 : Hid (mx F (k + 1) = z) := by show _ = _; rw [HMX.out]; omega
        skip
        go_wp2_with fail
        skip
        go_roundg (m - (k + 1))
        case measure => have := HK.out; omega
        case rel =>
          have hr3 := ((HR.out.far (p := ⟨R + 1, 0, none⟩) (by simp) (.int .i64 (z : Int))).far (p := ⟨R + 1, 1, none⟩) (by simp) (.int .i64 ((k : Int) + 1))).far (p := ⟨R + 1, 2, none⟩) (by simp) (.int .i64 ((s : Int) + (z : Int) * (z : Int)))
          have hx3 := ((HX.out.set_ 0 (.int .i64 (z : Int))).set_ 1 (.int .i64 ((k : Int) + 1))).set_ 2 (.int .i64 ((s : Int) + (z : Int) * (z : Int)))
          have hb3 := ((HB.out.setCell (p := ⟨R + 1, 0, none⟩) (Nat.le_succ R) (.int .i64 (z : Int))).setCell (p := ⟨R + 1, 1, none⟩) (Nat.le_succ R) (.int .i64 ((k : Int) + 1))).setCell (p := ⟨R + 1, 2, none⟩) (Nat.le_succ R) (.int .i64 ((s : Int) + (z : Int) * (z : Int)))
          have hg3 := HG.out.fr ((((Fr.refl [R + 1] wr).setCell (p := ⟨R + 1, 0, none⟩) (.inl (by simp)) (.int .i64 (z : Int))).setCell (p := ⟨R + 1, 1, none⟩) (.inl (by simp)) (.int .i64 ((k : Int) + 1))).setCell (p := ⟨R + 1, 2, none⟩) (.inl (by simp)) (.int .i64 ((s : Int) + (z : Int) * (z : Int)))) (by simp; exact hRB)
          exact ⟨k + 1, by omega, by go_num, hg3, hb3, hr3, by rw [HM2.out, HSM.out]; push_cast; exact hx3⟩
      · have HM2 : Hid (mx F (k + 1) = a) := by show _ = _; rw [HMX.out]; omega
        have hza : z ≤ a := by omega
        clear hle
        go_wp2_with fail
        all_goals
          go_roundg (m - (k + 1))
          case measure => have := HK.out; omega
          case rel =>
            have hr3 := ((HR.out.far (p := ⟨R + 1, 0, none⟩) (by simp) (.int .i64 (a : Int))).far (p := ⟨R + 1, 1, none⟩) (by simp) (.int .i64 ((k : Int) + 1))).far (p := ⟨R + 1, 2, none⟩) (by simp) (.int .i64 ((s : Int) + (z : Int) * (z : Int)))
            have hx3 := ((HX.out.set_ 0 (.int .i64 (a : Int))).set_ 1 (.int .i64 ((k : Int) + 1))).set_ 2 (.int .i64 ((s : Int) + (z : Int) * (z : Int)))
            have hb3 := ((HB.out.setCell (p := ⟨R + 1, 0, none⟩) (Nat.le_succ R) (.int .i64 (a : Int))).setCell (p := ⟨R + 1, 1, none⟩) (Nat.le_succ R) (.int .i64 ((k : Int) + 1))).setCell (p := ⟨R + 1, 2, none⟩) (Nat.le_succ R) (.int .i64 ((s : Int) + (z : Int) * (z : Int)))
            have hg3 := HG.out.fr ((((Fr.refl [R + 1] wr).setCell (p := ⟨R + 1, 0, none⟩) (.inl (by simp)) (.int .i64 (a : Int))).setCell (p := ⟨R + 1, 1, none⟩) (.inl (by simp)) (.int .i64 ((k : Int) + 1))).setCell (p := ⟨R + 1, 2, none⟩) (.inl (by simp)) (.int .i64 ((s : Int) + (z : Int) * (z : Int)))) (by simp; exact hRB)
            exact ⟨k + 1, by omega, by go_num, hg3, hb3, hr3, by rw [HM2.out, HSM.out]; push_cast; exact hx3⟩
    · obtain rfl : k = m := by omega
      have r0 : wr.cell? ⟨R, 0, none⟩ = some (.int .i64 0) := (hR.cell 0).trans rfl
      have r1 : wr.cell? ⟨R, 1, none⟩ = some (.int .i64 0) := (hR.cell 1).trans rfl
      have r2 : wr.cell? ⟨R, 2, none⟩ = some (.int .i64 0) := (hR.cell 2).trans rfl
      have x0 : wr.cell? ⟨R + 1, 0, none⟩ = some (.int .i64 (mx F k : Int)) := (hX.cell 0).trans rfl
      have x1 : wr.cell? ⟨R + 1, 1, none⟩ = some (.int .i64 (k : Int)) := (hX.cell 1).trans rfl
      have x2 : wr.cell? ⟨R + 1, 2, none⟩ = some (.int .i64 (sm (fun j => F j * F j) k : Int)) := (hX.cell 2).trans rfl
      have z0 := hR.frozen 0
      have z1 := hR.frozen 1
      have z2 := hR.frozen 2
      have HB := hide hb
      have HR := hide hR
      clear hX hg hb hR
      go_wp2_with fail
      have hR3 := ((HR.out.set_ 0 (.int .i64 (mx F k : Int))).set_ 1 (.int .i64 (k : Int))).set_ 2 (.int .i64 (sm (fun j => F j * F j) k : Int))
      have q0 := (hR3.cell 0).trans rfl
      have q1 := (hR3.cell 1).trans rfl
      have q2 := (hR3.cell 2).trans rfl
      refine bodyPost_ret (v := .agg #[.int .i64 (mx F k : Int), .int .i64 (k : Int), .int .i64 (sm (fun j => F j * F j) k : Int)]) (by simp [results, Try.results9, go_sem, q0, q1, q2]) rfl ⟨by rw [HM.out], by rw [HRR.out]; exact ((HB.out.setCell (p := ⟨R, 0, none⟩) (Nat.le_refl R) _).setCell (p := ⟨R, 1, none⟩) (Nat.le_refl R) _).setCell (p := ⟨R, 2, none⟩) (Nat.le_refl R) _⟩
end Go.Proofs.Ytoomcgmbaogjbaa
