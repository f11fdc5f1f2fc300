/- either; the law and the walk of LatticeOpens. -/
import Derived.Test.YtploneadcknkjaaLatL2
namespace Go.Proofs.Ytploneadcknkjaa
set_option linter.unusedSectionVars false
open Go.RowKit
set_option linter.unusedVariables false

def dirsOf (three : Bool) : List (Int × Int) := if three then triD else sqD
theorem either_any (w h : Int) (wx wy three : Bool) (W : World) :
    Calls Try.prog 23 #[.int .i64 w, .int .i64 h, .bool wx, .bool wy, .bool three] W
      fun e W' => ∃ V, e = .returned (.tuple #[.int .i64 (gN w h), V, .int .i64 (gE w h)]) ∧ OwnE W' W.heap.size V (gL w h wx wy (dirsOf three)) ∧ Below W.heap.size W W' := by
  cases three
  · go_enter Try.func23, Try.ntmps23
    go_wp2_with fail
    refine (square_any _ _ _ _ _).mono ?_
    rintro e w1 ⟨V, rfl, ho1, hb1⟩
    go_wp2_with fail
    go_ret3
    exact ⟨V, rfl, ho1, hb1⟩
  · go_enter Try.func23, Try.ntmps23
    go_wp2_with fail
    refine (triangular_any _ _ _ _ _).mono ?_
    rintro e w1 ⟨V, rfl, ho1, hb1⟩
    go_wp2_with fail
    go_ret3
    exact ⟨V, rfl, ho1, hb1⟩

/-! ### The law -/
def keepB (w h : Int) (e : Int × Int × Int) : Bool :=
  !(decide (3 ≤ w) && decide (e.1 % w = w - 1) && decide (e.2.1 % w = 0)) && !(decide (3 ≤ h) && decide (e.1 / w = h - 1) && decide (e.2.1 / w = 0))

theorem tgt_mod {w X : Int} (Y : Int) (h0 : 0 ≤ X) (h1 : X < w) : (Y * w + X) % w = X := by
  rw [Int.add_comm, Int.add_mul_emod_self_right, Int.emod_eq_of_lt h0 h1]
theorem tgt_div {w X : Int} (Y : Int) (h0 : 0 ≤ X) (h1 : X < w) : (Y * w + X) / w = Y := by
  rw [Int.add_comm, Int.add_mul_ediv_right _ _ (by omega), Int.ediv_eq_zero_of_lt h0 h1, Int.zero_add]
theorem keep_eq {v w h x y X Y : Int} (hx : v % w = x) (hy : v / w = y) (h0 : 0 ≤ X) (h1 : X < w) :
    keepB w h (v, Y * w + X, 0) = (!(decide (3 ≤ w) && decide (x = w - 1) && decide (X = 0)) && !(decide (3 ≤ h) && decide (y = h - 1) && decide (Y = 0))) := by
  simp only [keepB, tgt_mod Y h0 h1, tgt_div Y h0 h1, hx, hy]

theorem rnext_in {i m : Int} (wr : Bool) (h : i + 1 < m) : rnext i m wr = i + 1 := if_pos h
theorem rnext_no {i m : Int} (h : ¬ i + 1 < m) : rnext i m false = -1 := by simp [rnext, h]
theorem rnext_wrap {i m : Int} (wr : Bool) (h : ¬ i + 1 < m) : (rnext i m wr = 0 ∧ 3 ≤ m) ∨ rnext i m wr = -1 := by
  unfold rnext; rw [if_neg h]; split
  · left; omega
  · right; rfl

theorem filt_one {e : Int × Int × Int} {k : Int × Int × Int → Bool} (h : k e = true) : [e].filter k = [e] := by simp [h]
theorem filt_none {e : Int × Int × Int} {k : Int × Int × Int → Bool} (h : k e = false) : [e].filter k = [] := by simp [h]

section
variable {w h : Int} {v : Int} (wx wy : Bool) (hw : 1 ≤ w) (hh : 1 ≤ h) (hv : 0 ≤ v) (hv' : v < w * h)
include hw hh hv hv'
theorem filt_right : (dirEdge w h wx wy v (1, 0)).filter (keepB w h) = dirEdge w h false false v (1, 0) := by
  rw [dirEdge_right w h wx wy v hw hv hv', dirEdge_right w h false false v hw hv hv']
  have x0 : 0 ≤ v % w := Int.emod_nonneg _ (by omega)
  have x1 : v % w < w := Int.emod_lt_of_pos _ (by omega)
  have y0 : 0 ≤ v / w := Int.ediv_nonneg hv (by omega)
  have y1 : v / w < h := Int.ediv_lt_of_lt_mul (by omega) (by rw [Int.mul_comm]; exact hv')
  generalize hx : v % w = x at *
  generalize hy : v / w = y at *
  by_cases c : x + 1 < w
  · rw [rnext_in wx c, rnext_in false c, if_pos (by omega)]
    exact filt_one (by rw [keep_eq hx hy (by omega) c]; simp; omega)
  · rw [rnext_no c, if_neg (c := (0:Int) ≤ -1) (by decide)]
    rcases rnext_wrap wx c with ⟨e, hm⟩ | e
    · rw [e, if_pos (by omega)]
      exact filt_none (by rw [keep_eq hx hy (by omega) (by omega)]; simp; omega)
    · rw [e, if_neg (by omega)]; rfl
theorem filt_down : (dirEdge w h wx wy v (0, 1)).filter (keepB w h) = dirEdge w h false false v (0, 1) := by
  rw [dirEdge_down w h wx wy v hw hv hv', dirEdge_down w h false false v hw hv hv']
  have x0 : 0 ≤ v % w := Int.emod_nonneg _ (by omega)
  have x1 : v % w < w := Int.emod_lt_of_pos _ (by omega)
  have y0 : 0 ≤ v / w := Int.ediv_nonneg hv (by omega)
  have y1 : v / w < h := Int.ediv_lt_of_lt_mul (by omega) (by rw [Int.mul_comm]; exact hv')
  generalize hx : v % w = x at *
  generalize hy : v / w = y at *
  by_cases c : y + 1 < h
  · rw [rnext_in wy c, rnext_in false c, if_pos (by omega)]
    exact filt_one (by rw [keep_eq hx hy (by omega) (by omega)]; simp; omega)
  · rw [rnext_no c, if_neg (c := (0:Int) ≤ -1) (by decide)]
    rcases rnext_wrap wy c with ⟨e, hm⟩ | e
    · rw [e, if_pos (by omega)]
      exact filt_none (by rw [keep_eq hx hy (by omega) (by omega)]; simp; omega)
    · rw [e, if_neg (by omega)]; rfl

theorem filt_diag : (dirEdge w h wx wy v (1, 1)).filter (keepB w h) = dirEdge w h false false v (1, 1) := by
  have _ := hh
  rw [dirEdge_diag w h wx wy v hw hv, dirEdge_diag w h false false v hw hv]
  have x0 : 0 ≤ v % w := Int.emod_nonneg _ (by omega)
  have x1 : v % w < w := Int.emod_lt_of_pos _ (by omega)
  have y0 : 0 ≤ v / w := Int.ediv_nonneg hv (by omega)
  have y1 : v / w < h := Int.ediv_lt_of_lt_mul (by omega) (by rw [Int.mul_comm]; exact hv')
  generalize hx : v % w = x at *
  generalize hy : v / w = y at *
  by_cases c : x + 1 < w
  · by_cases d : y + 1 < h
    · rw [rnext_in wx c, rnext_in false c, rnext_in wy d, rnext_in false d, if_pos (by omega)]
      exact filt_one (by rw [keep_eq hx hy (by omega) c]; simp; omega)
    · rw [rnext_in wx c, rnext_in false c, rnext_no d, if_neg (c := 0 ≤ x + 1 ∧ (0:Int) ≤ -1) (by omega)]
      rcases rnext_wrap wy d with ⟨e, hm⟩ | e
      · rw [e, if_pos (by omega)]
        exact filt_none (by rw [keep_eq hx hy (by omega) (by omega)]; simp; omega)
      · rw [e, if_neg (by omega)]; rfl
  · rw [rnext_no c, if_neg (c := (0:Int) ≤ -1 ∧ 0 ≤ rnext y h false) (by omega)]
    rcases rnext_wrap wx c with ⟨e, hm⟩ | e
    · rw [e]
      by_cases d : 0 ≤ rnext y h wy
      · rw [if_pos (by omega)]
        exact filt_none (by rw [keep_eq hx hy (by omega) (by omega)]; simp; omega)
      · rw [if_neg (by omega)]; rfl
    · rw [e, if_neg (by omega)]; rfl
end

theorem filter_flatMap_ {α β : Type} (l : List α) (f : α → List β) (p : β → Bool) : (l.flatMap f).filter p = l.flatMap fun a => (f a).filter p := by
  induction l with
  | nil => rfl
  | cons a l ih => simp only [List.flatMap_cons, List.filter_append, ih]

theorem opens_law (w h : Int) (wx wy three : Bool) : (gL w h wx wy (dirsOf three)).filter (keepB w h) = gL w h false false (dirsOf three) := by
  cases hg : gridB w h
  · simp [gL, hg]
  · obtain ⟨h1, h2, h3, h4, h5⟩ := gridB_bd hg
    simp only [gL, hg, if_true, gridL]
    rw [filter_flatMap_]
    refine flatMap_congr_range _ _ _ fun v hv => ?_
    have hv' : (v : Int) < w * h := by omega
    rw [filter_flatMap_]
    cases three
    · simp only [dirsOf, sqD, List.flatMap_cons, List.flatMap_nil, filt_right wx wy h1 h2 (Int.natCast_nonneg v) hv', filt_down wx wy h1 h2 (Int.natCast_nonneg v) hv', Bool.false_eq_true, if_false]
    · simp only [dirsOf, triD, List.flatMap_cons, List.flatMap_nil, filt_right wx wy h1 h2 (Int.natCast_nonneg v) hv', filt_down wx wy h1 h2 (Int.natCast_nonneg v) hv', filt_diag wx wy h1 h2 (Int.natCast_nonneg v) hv', if_true]

/-- Where the edges of a grid lead. -/
theorem gL_mem {w h : Int} {wx wy three : Bool} {e : Int × Int × Int} (he : e ∈ gL w h wx wy (dirsOf three)) : 0 ≤ e.1 ∧ e.1 < w * h ∧ 0 ≤ e.2.1 ∧ e.2.1 < w * h ∧ e.2.2 = 0 := by
  cases hg : gridB w h
  · simp [gL, hg] at he
  · obtain ⟨h1, h2, h3, h4, h5⟩ := gridB_bd hg
    simp only [gL, hg, if_true, gridL, List.mem_flatMap, List.mem_range] at he
    obtain ⟨v, hv, d, hd, he⟩ := he
    have hv' : (v : Int) < w * h := by omega
    have hd' : 0 ≤ d.1 ∧ d.1 ≤ 1 ∧ 0 ≤ d.2 ∧ d.2 ≤ 1 := by
      cases three
      · simp [dirsOf, sqD] at hd; rcases hd with rfl | rfl <;> decide
      · simp [dirsOf, triD] at hd; rcases hd with rfl | rfl | rfl <;> decide
    have y1 : (v : Int) / w < h := Int.ediv_lt_of_lt_mul (by omega) (by rw [Int.mul_comm]; exact hv')
    have y0 : 0 ≤ (v : Int) / w := Int.ediv_nonneg (by omega) (by omega)
    have a1 := stp_bd (a := (v : Int) % w) (b := d.1) (size := w) (cl := wx) (Int.emod_nonneg _ (by omega)) hd'.1 h1
    have a2 := stp_bd (a := (v : Int) / w) (b := d.2) (size := h) (cl := wy) y0 hd'.2.2.1 h2
    simp only [dirEdge] at he
    split at he
    · rename_i ht
      simp at he
      subst he
      refine ⟨by omega, hv', ?_⟩
      simp only [nextT] at ht ⊢
      split
      · show 0 ≤ _ * w + _ ∧ _ * w + _ < w * h ∧ _
        have m1 : 0 ≤ (stp ((v : Int) / w) d.2 h wy).1 * w := Int.mul_nonneg a2.1 (by omega)
        have m2 : ((stp ((v : Int) / w) d.2 h wy).1 + 1) * w ≤ h * w := Int.mul_le_mul_of_nonneg_right (by omega) (by omega)
        rw [Int.add_mul, Int.one_mul, Int.mul_comm h w] at m2
        exact ⟨by omega, by omega, trivial⟩
      · exact ⟨by show (0:Int) ≤ 0; omega, by show (0:Int) < w * h; omega, trivial⟩
    · simp at he
theorem gL_len (w h : Int) (wx wy three : Bool) : (gL w h wx wy (dirsOf three)).length ≤ 12288 := by
  cases hg : gridB w h
  · simp [gL, hg]
  · obtain ⟨h1, h2, h3, h4, h5⟩ := gridB_bd hg
    simp only [gL, hg, if_true]
    have e1 := gridL_len w h wx wy (dirsOf three) (w * h).toNat
    have e2 : (dirsOf three).length ≤ 3 := by cases three <;> decide
    have e3 : (w * h).toNat * (dirsOf three).length ≤ 4096 * 3 := Nat.mul_le_mul (by omega) e2
    omega
end Go.Proofs.Ytploneadcknkjaa
