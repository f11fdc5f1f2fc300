/- Plain: labels are told by their classes; the order of unions does not matter. -/
import Derived.Test.YtoomcgmbaogjbaaDoorDsuG
namespace Go.Proofs.YtoomcgmbaogjbaaDoor
open Go.RowKit
set_option linter.unusedVariables false

theorem lab_unique {n : Nat} {L L' : Nat → Nat} (h : Lab n L) (h' : Lab n L') (hs : ∀ i j, i < n → j < n → (L i = L j ↔ L' i = L' j)) : ∀ i, i < n → L i = L' i := by
  intro i hi
  have a1 := h.le i hi
  have a2 := h'.le i hi
  have b1 : L' (L i) = L' i := (hs _ _ (by omega) hi).1 (h.idem i hi)
  have b2 : L (L' i) = L i := (hs _ _ (by omega) hi).2 (h'.idem i hi)
  have c1 := h'.le (L i) (by omega)
  have c2 := h.le (L' i) (by omega)
  omega
theorem grp_congr {n : Nat} {L L' : Nat → Nat} (h : ∀ i, i < n → L i = L' i) : grp n L = grp n L' := by
  have e1 : rts L n = rts L' n := List.filter_congr fun i hi => by rw [h i (by simpa using hi)]
  have e2 : ∀ r, mem n L r = mem n L' r := fun r => List.filter_congr fun i hi => by rw [h i (by simpa using hi)]
  unfold grp
  rw [e1]
  congr 1
  funext r
  rw [e2]
theorem foldU_lab (n : Nat) (l : List (Int × Int)) {L : Nat → Nat} (h : Lab n L) : Lab n (foldU n l L) := by
  induction l generalizing L with
  | nil => exact h
  | cons e l ih =>
    refine ih (L := unionL n L e.1 e.2) ?_
    unfold unionL; split
    · rename_i hv
      simp only [Bool.and_eq_true] at hv
      exact h.merge_ (inB_lt hv.1) (inB_lt hv.2)
    · exact h
theorem foldU_coarse {n : Nat} {l m : List (Int × Int)} (h : ∀ e ∈ l, ∃ x ∈ m, (x = e ∨ x = (e.2, e.1))) :
    ∀ i j, i < n → j < n → foldU n l (fun i => i) i = foldU n l (fun i => i) j → foldU n m (fun i => i) i = foldU n m (fun i => i) j := by
  intro i j hi hj he
  have hc : Closed n l (fun k => foldU n m (fun i => i) k == foldU n m (fun i => i) i) := fun e he h1 h2 => by
    obtain ⟨x, hx, hxe⟩ := h e he
    have : foldU n m (fun i => i) e.1.toNat = foldU n m (fun i => i) e.2.toNat := by
      rcases hxe with rfl | rfl
      · exact foldU_joins _ hx h1 h2
      · exact (foldU_joins (e := (e.2, e.1)) _ hx h2 h1).symm
    simp only [this]
  have := foldU_closed hc (fun i j _ _ h => by have h' : i = j := h; rw [h']) i j hi hj he
  exact Eq.symm (by simpa using this.symm)
def back (l : List (Int × Int)) : List (Int × Int) := (l.map fun e => (e.2, e.1)).reverse
theorem back_law (n : Nat) (l : List (Int × Int)) : ∀ i, i < n → foldU n l (fun i => i) i = foldU n (back l) (fun i => i) i := by
  refine lab_unique (foldU_lab n l (Lab.id_ n)) (foldU_lab n (back l) (Lab.id_ n)) fun i j hi hj => ⟨fun h => ?_, fun h => ?_⟩
  · exact foldU_coarse (fun e he => ⟨(e.2, e.1), by simp [back]; exact ⟨e.1, e.2, he, rfl, rfl⟩, .inr rfl⟩) i j hi hj h
  · exact foldU_coarse (fun e he => by
      simp [back] at he
      obtain ⟨a, b, hab, rfl⟩ := he
      exact ⟨(a, b), hab, .inr rfl⟩) i j hi hj h
end Go.Proofs.YtoomcgmbaogjbaaDoor
