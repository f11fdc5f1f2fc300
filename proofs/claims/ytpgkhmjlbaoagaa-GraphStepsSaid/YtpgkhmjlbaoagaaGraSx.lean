/- Plain: distances, step by step. Nothing of the program. -/
import Derived.Test.YtpgkhmjlbaoagaaGraDc
import Derived.Test.YtpgkhmjlbaoagaaGraAr
namespace Go.Proofs.Ytpgkhmjlbaoagaa
open Go.RowKit
set_option linter.unusedVariables false

section
variable {n : Nat} {l : List (Int × Int × Int)} {v : Nat} {D : Nat → Int}
theorem IsDist.nb (h : IsDist n l v D) {j : Nat} (hj : j < 2 * l.length) : eQ l j < n ∧ ((D (eP l j) < 0) ↔ (D (eQ l j) < 0)) ∧ D (eQ l j) - D (eP l j) ≤ 1 ∧ D (eP l j) - D (eQ l j) ≤ 1 := by
  obtain ⟨h1, h2, _⟩ := h.ok.P_lt hj
  obtain ⟨j', hj', e1, e2⟩ := he_rev hj
  have a := h.st j hj
  have b := h.st j' hj'
  rw [e1, e2] at b
  have c := h.lo _ h1
  have d := h.lo _ h2
  refine ⟨h2, ?_, ?_, ?_⟩ <;> omega
/-- Has a vertex with a distance of at least 1 been found nearer, among some half-edges? -/
def near (l : List (Int × Int × Int)) (D : Nat → Int) (i : Nat) (js : List Nat) : Bool := decide (D i ≤ 0) || js.any fun j => D (eQ l j) == D i - 1
theorem near_snoc (i : Nat) (js : List Nat) (j : Nat) : near l D i (js ++ [j]) = (near l D i js || (D (eQ l j) == D i - 1)) := by
  unfold near; rw [List.any_append]; simp [Bool.or_assoc]
theorem near_nil (i : Nat) : near l D i [] = decide (D i ≤ 0) := by simp [near]
theorem IsDist.near_ (h : IsDist n l v D) {i : Nat} (hi : i < n) : near l D i (inc l i) = true := by
  by_cases h0 : D i ≤ 0
  · unfold near; simp [h0]
  · obtain ⟨j, hj, hq, hp⟩ := h.pr i hi (by omega)
    obtain ⟨j', hj', e1, e2⟩ := he_rev hj
    have hm : j' ∈ inc l i := inc_mem.2 ⟨hj', by rw [e1, hq]⟩
    unfold near
    rw [Bool.or_eq_true, List.any_eq_true]
    exact .inr ⟨j', hm, by rw [e2, beq_iff_eq]; omega⟩
end
end Go.Proofs.Ytpgkhmjlbaoagaa
