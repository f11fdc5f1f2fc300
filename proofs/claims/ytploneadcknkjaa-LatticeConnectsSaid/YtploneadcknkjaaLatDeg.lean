/- Plain: no two edges of a grid connect the same vertices; degrees; numbers of edges. -/
import Derived.Test.YtploneadcknkjaaLatO
namespace Go.Proofs.Ytploneadcknkjaa
open Go.RowKit
set_option linter.unusedVariables false

/-- t is a step away from v. -/
def IsT (w h : Int) (wx wy : Bool) (v t : Int) : Prop :=
  ∃ a b : Bool, (a || b) = true ∧ (a = true → 0 ≤ rnext (v % w) w wx) ∧ (b = true → 0 ≤ rnext (v / w) h wy) ∧
    t % w = (if a then rnext (v % w) w wx else v % w) ∧ t / w = (if b then rnext (v / w) h wy else v / w)

def oR (w h : Int) (wx wy : Bool) (v : Int) : List (Int × Int × Int) := if 0 ≤ rnext (v % w) w wx then [(v, v / w * w + rnext (v % w) w wx, 0)] else []
def oD (w h : Int) (wx wy : Bool) (v : Int) : List (Int × Int × Int) := if 0 ≤ rnext (v / w) h wy then [(v, rnext (v / w) h wy * w + v % w, 0)] else []
def oG (w h : Int) (wx wy three : Bool) (v : Int) : List (Int × Int × Int) := if three = true ∧ 0 ≤ rnext (v % w) w wx ∧ 0 ≤ rnext (v / w) h wy then [(v, rnext (v / w) h wy * w + rnext (v % w) w wx, 0)] else []
def outs (w h : Int) (wx wy three : Bool) (v : Int) : List (Int × Int × Int) := oR w h wx wy v ++ (oD w h wx wy v ++ oG w h wx wy three v)
theorem outs_eq {w h : Int} (wx wy three : Bool) {v : Int} (hw : 1 ≤ w) (hv : 0 ≤ v) (hv' : v < w * h) : (dirsOf three).flatMap (dirEdge w h wx wy v) = outs w h wx wy three v := by
  cases three
  · simp [dirsOf, sqD, outs, oR, oD, oG, dirEdge_right w h wx wy v hw hv hv', dirEdge_down w h wx wy v hw hv hv']
  · simp [dirsOf, triD, outs, oR, oD, oG, dirEdge_right w h wx wy v hw hv hv', dirEdge_down w h wx wy v hw hv hv', dirEdge_diag w h wx wy v hw hv]

section
variable {w h : Int} {wx wy three : Bool} {v : Int}
theorem outs_mem (hw : 1 ≤ w) (hh : 1 ≤ h) (hv : 0 ≤ v) (hv' : v < w * h) {e : Int × Int × Int} (he : e ∈ outs w h wx wy three v) : e.1 = v ∧ e.2.2 = 0 ∧ IsT w h wx wy v e.2.1 := by
  have x0 := Int.emod_nonneg v (show w ≠ 0 by omega)
  have x1 := Int.emod_lt_of_pos v (show 0 < w by omega)
  have bx := rnext_bd (i := v % w) (many := w) (wrap := wx) x0 hw
  simp only [outs, List.mem_append] at he
  rcases he with he | he | he
  · unfold oR at he
    split at he
    · rename_i hx
      simp at he; subst he
      exact ⟨rfl, rfl, true, false, rfl, fun _ => hx, fun h => (by cases h), tgt_mod _ hx bx.2, tgt_div _ hx bx.2⟩
    · simp at he
  · unfold oD at he
    split at he
    · rename_i hy
      simp at he; subst he
      exact ⟨rfl, rfl, false, true, rfl, fun h => (by cases h), fun _ => hy, tgt_mod _ x0 x1, tgt_div _ x0 x1⟩
    · simp at he
  · unfold oG at he
    split at he
    · rename_i hg
      simp at he; subst he
      exact ⟨rfl, rfl, true, true, rfl, fun _ => hg.2.1, fun _ => hg.2.2, tgt_mod _ hg.2.1 bx.2, tgt_div _ hg.2.1 bx.2⟩
    · simp at he
end
theorem rnext_ne {i m : Int} {wr : Bool} (h0 : 0 ≤ i) (h1 : i < m) (h : 0 ≤ rnext i m wr) : rnext i m wr ≠ i := by
  by_cases hc : i + 1 < m
  · rw [rnext_in wr hc]; omega
  · rcases rnext_wrap wr hc with ⟨e, h3⟩ | e
    · rw [e]; omega
    · omega
theorem rnext_two {i m : Int} {wr : Bool} (h0 : 0 ≤ i) (h1 : i < m) (h : 0 ≤ rnext i m wr) (h' : 0 ≤ rnext (rnext i m wr) m wr) : rnext (rnext i m wr) m wr ≠ i := by
  by_cases hc : i + 1 < m
  · rw [rnext_in wr hc] at h' ⊢
    by_cases hc2 : i + 1 + 1 < m
    · rw [rnext_in wr hc2]; omega
    · rcases rnext_wrap wr hc2 with ⟨e, h3⟩ | e
      · rw [e]; omega
      · omega
  · rcases rnext_wrap wr hc with ⟨e, h3⟩ | e
    · rw [e]
      rw [rnext_in wr (by omega)]; omega
    · omega
theorem IsT.ne {w h : Int} {wx wy : Bool} {v t : Int} (hw : 1 ≤ w) (hh : 1 ≤ h) (hv : 0 ≤ v) (hv' : v < w * h) (ht : IsT w h wx wy v t) : v ≠ t := by
  obtain ⟨a, b, hab, ha, hb, e1, e2⟩ := ht
  rintro rfl
  have x0 := Int.emod_nonneg v (show w ≠ 0 by omega)
  have x1 := Int.emod_lt_of_pos v (show 0 < w by omega)
  have y0 : 0 ≤ v / w := Int.ediv_nonneg hv (by omega)
  have y1 : v / w < h := Int.ediv_lt_of_lt_mul (by omega) (by rw [Int.mul_comm]; exact hv')
  cases a
  · cases b
    · simp at hab
    · exact rnext_ne y0 y1 (hb rfl) e2.symm
  · exact rnext_ne x0 x1 (ha rfl) e1.symm
theorem IsT.two {w h : Int} {wx wy : Bool} {v t : Int} (hw : 1 ≤ w) (hh : 1 ≤ h) (hv : 0 ≤ v) (hv' : v < w * h) (ht : IsT w h wx wy v t) (ht' : IsT w h wx wy t v) : False := by
  obtain ⟨a, b, hab, ha, hb, e1, e2⟩ := ht
  obtain ⟨a', b', hab', ha', hb', e1', e2'⟩ := ht'
  have x0 := Int.emod_nonneg v (show w ≠ 0 by omega)
  have x1 := Int.emod_lt_of_pos v (show 0 < w by omega)
  have y0 : 0 ≤ v / w := Int.ediv_nonneg hv (by omega)
  have y1 : v / w < h := Int.ediv_lt_of_lt_mul (by omega) (by rw [Int.mul_comm]; exact hv')
  rw [e1] at ha' e1'
  rw [e2] at hb' e2'
  cases a
  · cases b
    · simp at hab
    · have h1 := hb rfl
      cases b'
      · exact rnext_ne y0 y1 h1 e2'.symm
      · exact rnext_two y0 y1 h1 (hb' rfl) e2'.symm
  · have h1 := ha rfl
    cases a'
    · exact rnext_ne x0 x1 h1 e1'.symm
    · exact rnext_two x0 x1 h1 (ha' rfl) e1'.symm

/-- Two edges that do not connect the same vertices. -/
def Apart (e f : Int × Int × Int) : Prop := ¬ (e.1 = f.1 ∧ e.2.1 = f.2.1) ∧ ¬ (e.1 = f.2.1 ∧ e.2.1 = f.1)
theorem outs_apart {w h : Int} {wx wy three : Bool} {v : Int} (hw : 1 ≤ w) (hh : 1 ≤ h) (hv : 0 ≤ v) (hv' : v < w * h) : (outs w h wx wy three v).Pairwise Apart := by
  have x0 := Int.emod_nonneg v (show w ≠ 0 by omega)
  have x1 := Int.emod_lt_of_pos v (show 0 < w by omega)
  have y0 : 0 ≤ v / w := Int.ediv_nonneg hv (by omega)
  have y1 : v / w < h := Int.ediv_lt_of_lt_mul (by omega) (by rw [Int.mul_comm]; exact hv')
  have bx := rnext_bd (i := v % w) (many := w) (wrap := wx) x0 hw
  have key : ∀ e f, e ∈ outs w h wx wy three v → f ∈ outs w h wx wy three v → ¬ (e.2.1 % w = f.2.1 % w ∧ e.2.1 / w = f.2.1 / w) → Apart e f := by
    intro e f he hf hne
    obtain ⟨a1, _, _⟩ := outs_mem hw hh hv hv' he
    obtain ⟨b1, _, bt⟩ := outs_mem hw hh hv hv' hf
    refine ⟨fun ⟨_, e2⟩ => hne (by rw [e2]; exact ⟨rfl, rfl⟩), fun ⟨e1, _⟩ => ?_⟩
    exact bt.ne hw hh hv hv' (by omega)
  unfold outs oR oD oG at key ⊢
  by_cases hx : 0 ≤ rnext (v % w) w wx
  · have nx := rnext_ne x0 x1 hx
    have HX := hide hx
    by_cases hy : 0 ≤ rnext (v / w) h wy
    · have ny := rnext_ne y0 y1 hy
      have HY := hide hy
      cases three
      · simp only [hx, hy, if_true, Bool.false_eq_true, false_and, if_false, List.append_nil, List.singleton_append] at key ⊢
        refine List.pairwise_cons.2 ⟨fun f hf => key _ _ (by simp) (by simp [List.mem_singleton.1 hf]) ?_, List.pairwise_singleton _ _⟩
        rw [List.mem_singleton.1 hf]
        simp only [tgt_mod _ HX.out bx.2, tgt_mod _ x0 x1]
        intro h; exact nx h.1
      · simp only [hx, hy, if_true, and_self, List.singleton_append] at key ⊢
        refine List.pairwise_cons.2 ⟨fun f hf => key _ _ (by simp) (List.mem_cons_of_mem _ hf) ?_, List.pairwise_cons.2 ⟨fun f hf => key _ _ (by simp) (List.mem_cons_of_mem _ (List.mem_cons_of_mem _ hf)) ?_, List.pairwise_singleton _ _⟩⟩
        · rcases List.mem_cons.1 hf with rfl | hf
          · simp only [tgt_mod _ HX.out bx.2, tgt_mod _ x0 x1]; intro h; exact nx h.1
          · rw [List.mem_singleton.1 hf]
            simp only [tgt_div _ HX.out bx.2]; intro h; exact ny h.2.symm
        · rw [List.mem_singleton.1 hf]
          simp only [tgt_mod _ HX.out bx.2, tgt_mod _ x0 x1]; intro h; exact nx h.1.symm
    · simp [hx, hy]
  · by_cases hy : 0 ≤ rnext (v / w) h wy
    · simp [hx, hy]
    · simp [hx, hy]

theorem gL_outs {w h : Int} (hg : gridB w h = true) (wx wy three : Bool) : gL w h wx wy (dirsOf three) = (List.range (w * h).toNat).flatMap fun (v : Nat) => outs w h wx wy three (v : Int) := by
  obtain ⟨h1, h2, h3, h4, h5⟩ := gridB_bd hg
  simp only [gL, hg, if_true, gridL]
  refine flatMap_congr_range _ _ _ fun v hv => outs_eq wx wy three h1 (by omega) (by omega)

theorem gL_apart {w h : Int} (hg : gridB w h = true) (wx wy three : Bool) : (gL w h wx wy (dirsOf three)).Pairwise Apart := by
  obtain ⟨h1, h2, h3, h4, h5⟩ := gridB_bd hg
  rw [gL_outs hg, List.pairwise_flatMap]
  refine ⟨fun v hv => ?_, ?_⟩
  · have : v < (w * h).toNat := by simpa using hv
    exact outs_apart h1 h2 (by omega) (by omega)
  · have hr : (List.range (w * h).toNat).Pairwise (· < ·) := List.pairwise_lt_range
    refine List.Pairwise.imp_of_mem ?_ hr
    intro a b ha hb hab x hx y hy
    have ha' : a < (w * h).toNat := by simpa using ha
    have hb' : b < (w * h).toNat := by simpa using hb
    obtain ⟨x1, _, xt⟩ := outs_mem h1 h2 (by omega) (by omega) hx
    obtain ⟨y1, _, yt⟩ := outs_mem h1 h2 (by omega) (by omega) hy
    refine ⟨fun ⟨e1, _⟩ => by omega, fun ⟨e1, e2⟩ => ?_⟩
    rw [x1] at e1
    rw [y1] at e2
    rw [e2] at xt
    rw [← e1] at yt
    exact xt.two h1 h2 (by omega) (by omega) yt
theorem gL_ne {w h : Int} (hg : gridB w h = true) (wx wy three : Bool) {e : Int × Int × Int} (he : e ∈ gL w h wx wy (dirsOf three)) : e.1 ≠ e.2.1 := by
  obtain ⟨h1, h2, h3, h4, h5⟩ := gridB_bd hg
  rw [gL_outs hg] at he
  simp only [List.mem_flatMap, List.mem_range] at he
  obtain ⟨v, hv, he⟩ := he
  obtain ⟨x1, _, xt⟩ := outs_mem h1 h2 (by omega) (by omega) he
  rw [x1]; exact xt.ne h1 h2 (by omega) (by omega)
end Go.Proofs.Ytploneadcknkjaa
