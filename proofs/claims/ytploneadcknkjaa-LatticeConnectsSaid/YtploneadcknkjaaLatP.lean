/- The plain law of grids: the program's edges are the document's. -/
import Derived.Test.YtploneadcknkjaaLatE
namespace Go.Proofs.Ytploneadcknkjaa
open Go.RowKit
set_option linter.unusedVariables false

theorem stp_one (i m : Int) (wr : Bool) (hi : 0 ≤ i) : (stp i 1 m wr).2 = decide (0 ≤ rnext i m wr) ∧ (0 ≤ rnext i m wr → (stp i 1 m wr).1 = rnext i m wr) := by
  unfold stp rnext
  split
  · simp; omega
  · cases wr
    · simp
    · by_cases h : 3 ≤ m <;> simp [h]
theorem stp_zero (i m : Int) (wr : Bool) (hi : i < m) : stp i 0 m wr = (i, true) := by simp [stp, hi]

theorem dirEdge_right (w h : Int) (wx wy : Bool) (v : Int) (hw : 1 ≤ w) (hv : 0 ≤ v) (hv' : v < w * h) :
    dirEdge w h wx wy v (1, 0) = if 0 ≤ rnext (v % w) w wx then [(v, v / w * w + rnext (v % w) w wx, 0)] else [] := by
  have q1 : v / w < h := Int.ediv_lt_of_lt_mul (by omega) (by rw [Int.mul_comm]; exact hv')
  obtain ⟨a, b⟩ := stp_one (v % w) w wx (Int.emod_nonneg _ (by omega))
  simp only [dirEdge, nextT, stp_zero _ _ _ q1, a]
  by_cases hx : 0 ≤ rnext (v % w) w wx
  · simp [hx, b hx]
  · simp [hx]
theorem dirEdge_down (w h : Int) (wx wy : Bool) (v : Int) (hw : 1 ≤ w) (hv : 0 ≤ v) (hv' : v < w * h) :
    dirEdge w h wx wy v (0, 1) = if 0 ≤ rnext (v / w) h wy then [(v, rnext (v / w) h wy * w + v % w, 0)] else [] := by
  have m1 : v % w < w := Int.emod_lt_of_pos _ (by omega)
  obtain ⟨a, b⟩ := stp_one (v / w) h wy (Int.ediv_nonneg hv (by omega))
  simp only [dirEdge, nextT, stp_zero _ _ _ m1, a]
  by_cases hx : 0 ≤ rnext (v / w) h wy
  · simp [hx, b hx]
  · simp [hx]
theorem dirEdge_diag (w h : Int) (wx wy : Bool) (v : Int) (hw : 1 ≤ w) (hv : 0 ≤ v) :
    dirEdge w h wx wy v (1, 1) = if 0 ≤ rnext (v % w) w wx ∧ 0 ≤ rnext (v / w) h wy then [(v, rnext (v / w) h wy * w + rnext (v % w) w wx, 0)] else [] := by
  obtain ⟨a, b⟩ := stp_one (v % w) w wx (Int.emod_nonneg _ (by omega))
  obtain ⟨c, d⟩ := stp_one (v / w) h wy (Int.ediv_nonneg hv (by omega))
  simp only [dirEdge, nextT, a, c]
  by_cases hx : 0 ≤ rnext (v % w) w wx
  · by_cases hy : 0 ≤ rnext (v / w) h wy
    · simp [hx, hy, b hx, d hy]
    · simp [hx, hy]
  · simp [hx]

theorem flatMap_congr_range {α : Type} (n : Nat) (f g : Nat → List α) (h : ∀ v, v < n → f v = g v) : (List.range n).flatMap f = (List.range n).flatMap g := by
  induction n with
  | zero => simp
  | succ n ih => simp only [List.range_succ, List.flatMap_append, List.flatMap_cons, List.flatMap_nil]; rw [ih (fun v hv => h v (by omega)), h n (by omega)]

theorem gL_sq (w h : Int) (wx wy : Bool) : gL w h wx wy sqD = rL w h wx wy false := by
  cases hg : gridB w h
  · simp [gL, rL, hg]
  · obtain ⟨h1, h2, h3, h4, h5⟩ := gridB_bd hg
    simp only [gL, rL, hg, if_true, gridL, refL]
    refine flatMap_congr_range _ _ _ fun v hv => ?_
    have hv' : (v : Int) < w * h := by omega
    simp [sqD, List.flatMap_cons, dirEdge_right w h wx wy v h1 (by omega) hv', dirEdge_down w h wx wy v h1 (by omega) hv', refEdges]
theorem gL_tri (w h : Int) (wx wy : Bool) : gL w h wx wy triD = rL w h wx wy true := by
  cases hg : gridB w h
  · simp [gL, rL, hg]
  · obtain ⟨h1, h2, h3, h4, h5⟩ := gridB_bd hg
    simp only [gL, rL, hg, if_true, gridL, refL]
    refine flatMap_congr_range _ _ _ fun v hv => ?_
    have hv' : (v : Int) < w * h := by omega
    simp [triD, List.flatMap_cons, dirEdge_right w h wx wy v h1 (by omega) hv', dirEdge_down w h wx wy v h1 (by omega) hv', dirEdge_diag w h wx wy v h1 (by omega), refEdges]
theorem rL_len (w h : Int) (wx wy dg : Bool) : (rL w h wx wy dg).length ≤ 12288 := by
  unfold rL
  split
  · rename_i hg
    obtain ⟨h1, h2, h3, h4, h5⟩ := gridB_bd hg
    have := refL_len w h wx wy dg (w * h).toNat
    omega
  · simp
end Go.Proofs.Ytploneadcknkjaa
