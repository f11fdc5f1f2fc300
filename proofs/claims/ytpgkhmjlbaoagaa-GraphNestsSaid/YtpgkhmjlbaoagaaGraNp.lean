/- Plain: components at a threshold are parts of those at a greater one. Nothing of the program. -/
import Derived.Test.YtpgkhmjlbaoagaaGraUn
import Derived.Test.YtpgkhmjlbaoagaaSetsQ
import Derived.Test.YtpgkhmjlbaoagaaRowP
namespace Go.Proofs.Ytpgkhmjlbaoagaa
open Go.RowKit
set_option linter.unusedVariables false

theorem undL_und (l : List (Int × Int × Int)) {θ η : Int} (h : θ ≤ η) : undL (undL l η) θ = undL l θ := by
  unfold undL
  rw [List.filter_filter]
  refine List.filter_congr fun x _ => ?_
  rw [Bool.eq_iff_iff]
  simp only [Bool.and_eq_true, decide_eq_true_eq]
  omega
theorem undL_fine (n : Nat) (l : List (Int × Int × Int)) {θ η : Int} (h : θ ≤ η) {i j : Nat} (hi : i < n) (hj : j < n) (hij : gLb n (undL l θ) i = gLb n (undL l θ) j) : gLb n (undL l η) i = gLb n (undL l η) j := by
  refine foldU_coarse (n := n) (l := (undL l θ).map fun (e : Int × Int × Int) => (e.1, e.2.1)) (m := (undL l η).map fun (e : Int × Int × Int) => (e.1, e.2.1)) (fun e he => ?_) i j hi hj hij
  obtain ⟨x, hx, rfl⟩ := List.mem_map.1 he
  refine ⟨_, List.mem_map.2 ⟨x, ?_, rfl⟩, Or.inl rfl⟩
  rw [← undL_und l h] at hx
  exact (List.mem_filter.1 hx).1
theorem undL_lb (n : Nat) (l : List (Int × Int × Int)) {θ η : Int} (h : θ ≤ η) {i : Nat} (hi : i < n) : gLb n (undL l η) (gLb n (undL l θ) i) = gLb n (undL l η) i :=
  undL_fine n l h ((gLb_lab n _).lt hi) hi ((gLb_lab n _).idem i hi)
section
variable {n : Nat} {L M : Nat → Nat}
theorem fine_sets (hl : Lab n L) (hm : Lab n M) (h : ∀ i, i < n → M (L i) = M i) : sets n M ≤ sets n L := cnt_mono fun i hi e => by
  simp only [beq_iff_eq] at e ⊢
  have h1 := h i hi
  have h2 := hl.le i hi
  have h3 := hm.le _ (hl.lt hi)
  omega
theorem fine_cls (h : ∀ i, i < n → M (L i) = M i) {i : Nat} (hi : i < n) : cls n L (L i) ≤ cls n M (M i) := cnt_mono fun j hj e => by
  simp only [beq_iff_eq] at e ⊢
  rw [← h j hj, ← h i hi, e]
theorem fine_lrg (h : ∀ i, i < n → M (L i) = M i) : lrg n L ≤ lrg n M := mx_le fun i hi => Nat.le_trans (fine_cls h hi) (le_mx (f := fun i => cls n M (M i)) hi)
theorem sm_le_sm {f g : Nat → Nat} {n : Nat} (h : ∀ i, i < n → f i ≤ g i) : sm f n ≤ sm g n := by
  induction n with
  | zero => exact Nat.le_refl _
  | succ n ih =>
    have h1 := ih fun i hi => h i (by omega)
    have h2 := h n (by omega)
    simp only [sm]; omega
theorem fine_sq (h : ∀ i, i < n → M (L i) = M i) : sq n L ≤ sq n M := sm_le_sm fun i hi => fine_cls h hi
end
end Go.Proofs.Ytpgkhmjlbaoagaa
