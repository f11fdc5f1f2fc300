/- Plain: labels that go on along edges until nothing changes. Nothing of the program. -/
import Derived.Test.YtpgkhmjlbaoagaaGraK
import Derived.Test.YtpgkhmjlbaoagaaRowP
namespace Go.Proofs.Ytpgkhmjlbaoagaa
open Go.RowKit
set_option linter.unusedVariables false

/-- Labels on their way: each is a lesser vertex of the same component. -/
def Fx (n : Nat) (l : List (Int × Int × Int)) (K : Nat → Nat) : Prop := ∀ i, i < n → K i ≤ i ∧ gLb n l (K i) = gLb n l i
section
variable {n : Nat} {l : List (Int × Int × Int)} {K : Nat → Nat}
theorem Fx.id_ : Fx n l (fun i => i) := fun i _ => ⟨Nat.le_refl _, rfl⟩
theorem Fx.lt (h : Fx n l K) {i : Nat} (hi : i < n) : K i < n := Nat.lt_of_le_of_lt (h i hi).1 hi
theorem Fx.set_ (h : Fx n l K) {u v : Nat} (hu : u < n) (hv : v < n) (hl : gLb n l u = gLb n l v) (hlt : K u < K v) : Fx n l (upd K v (K u)) := by
  intro i hi
  by_cases e : i = v
  · subst e
    rw [upd_same]
    exact ⟨by have := (h i hi).1; omega, by rw [(h u hu).2, hl]⟩
  · rw [upd_other _ _ e]; exact h i hi
theorem sm_upd {f : Nat → Nat} {v x n : Nat} (hv : v < n) : sm (upd f v x) n + f v = sm f n + x := by
  induction n with
  | zero => omega
  | succ n ih =>
    simp only [sm]
    by_cases e : v = n
    · subst e
      rw [upd_same, sm_congr (g := f) fun i hi => upd_other _ _ (by omega)]
      omega
    · have := ih (by omega)
      rw [upd_other _ _ (fun h => e h.symm)]
      omega
theorem Fx.fix (h : Fx n l K) (hok : GOk n l) (hc : ∀ i, i < l.length → K (eU l i) = K (eV l i)) : ∀ i, i < n → K i = gLb n l i := by
  intro i hi
  have hl := gLb_lab n l
  have key : ∀ a b, a < n → b < n → gLb n l a = gLb n l b → K a = K b := by
    intro a b ha hb hab
    have := foldU_closed (n := n) (l := l.map fun (e : Int × Int × Int) => (e.1, e.2.1)) (L := fun i => i) (f := fun k => decide (K k = K a)) (fun e he h1 h2 => by
      obtain ⟨x, hx, rfl⟩ := List.mem_map.1 he
      obtain ⟨j, hj, rfl⟩ := List.mem_iff_getElem.1 hx
      have := hc j hj
      rw [eU_get hj, eV_get hj] at this
      simp only; rw [this]) (fun i j _ _ h => by have h' : i = j := h; rw [h']) a b ha hb hab
    simp at this
    exact this.symm
  have h1 : gLb n l i ≤ K i := by
    rw [← (h i hi).2]
    exact hl.le _ (h.lt hi)
  have hg : gLb n l i < n := hl.lt hi
  have h2 : K i = K (gLb n l i) := key i _ hi hg (hl.idem i hi).symm
  have h3 := (h _ hg).1
  omega
theorem edge_lb (hok : GOk n l) {i : Nat} (hi : i < l.length) : gLb n l (eU l i) = gLb n l (eV l i) := by
  have := gLb_edge hok (List.getElem_mem hi)
  rw [eU_get hi, eV_get hi]; exact this
end
end Go.Proofs.Ytpgkhmjlbaoagaa
