/- Plain: forests on numbers. -/
import Derived.Test.YtoomcgmbaogjbaaDoorMem
namespace Go.Proofs.YtoomcgmbaogjbaaDoor
open Go.RowKit
set_option linter.unusedVariables false

/-- up is a forest on the numbers below n, and rep leads to the roots; ρ rises towards the roots, up to M. -/
structure Forest (n : Nat) (up rep ρ : Nat → Nat) (M : Nat) : Prop where
  up_lt : ∀ i, i < n → up i < n
  rep_lt : ∀ i, i < n → rep i < n
  rep_up : ∀ i, i < n → rep (up i) = rep i
  root : ∀ i, i < n → up i = i → rep i = i
  rep_root : ∀ i, i < n → up (rep i) = rep i
  rank : ∀ i, i < n → ρ i ≤ M ∧ (up i ≠ i → ρ i < ρ (up i))

theorem Forest.halve {n M : Nat} {up rep ρ : Nat → Nat} (h : Forest n up rep ρ M) {a : Nat} (ha : a < n) (hne : up a ≠ a) : Forest n (upd up a (up (up a))) rep ρ M := by
  have hp := h.up_lt a ha
  have hr := h.rank
  have hra : rep a ≠ a := fun e => hne (by have := h.rep_root a ha; rwa [e] at this)
  refine ⟨fun i hi => ?_, h.rep_lt, fun i hi => ?_, fun i hi hu => ?_, fun i hi => ?_, fun i hi => ⟨(hr i hi).1, fun hu => ?_⟩⟩
  · by_cases e : i = a
    · subst e; rw [upd_same]; exact h.up_lt _ hp
    · rw [upd_other _ _ e]; exact h.up_lt i hi
  · by_cases e : i = a
    · subst e; rw [upd_same, h.rep_up _ hp, h.rep_up i hi]
    · rw [upd_other _ _ e]; exact h.rep_up i hi
  · by_cases e : i = a
    · subst e
      rw [upd_same] at hu
      exfalso
      have h1 := (hr i hi).2 hne
      by_cases h2 : up (up i) = up i
      · omega
      · have := (hr _ hp).2 h2; rw [hu] at this; omega
    · rw [upd_other _ _ e] at hu; exact h.root i hi hu
  · by_cases e : rep i = a
    · rw [e, upd_same]
      exfalso
      have := h.rep_root i hi
      rw [e] at this; exact hne this
    · rw [upd_other _ _ e]; exact h.rep_root i hi
  · by_cases e : i = a
    · subst e
      rw [upd_same] at hu ⊢
      have h1 := (hr i hi).2 hne
      by_cases h2 : up (up i) = up i
      · rw [h2]; exact h1
      · have := (hr _ hp).2 h2; omega
    · rw [upd_other _ _ e] at hu ⊢; exact (hr i hi).2 hu

end Go.Proofs.YtoomcgmbaogjbaaDoor
