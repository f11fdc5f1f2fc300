/- Plain: distances and components; distances both ways. Nothing of the program. -/
import Derived.Test.YtpgkhmjlbaoagaaGraD
import Derived.Test.YtpgkhmjlbaoagaaR13P
namespace Go.Proofs.Ytpgkhmjlbaoagaa
open Go.RowKit
set_option linter.unusedVariables false

section
variable {n : Nat} {l : List (Int × Int × Int)} {v : Nat} {D E : Nat → Int}
/-- The half-edge back. -/
theorem he_rev {j : Nat} (hj : j < 2 * l.length) : ∃ j', j' < 2 * l.length ∧ eP l j' = eQ l j ∧ eQ l j' = eP l j := by
  by_cases h : j % 2 = 0
  · refine ⟨j + 1, by omega, ?_, ?_⟩
    · unfold eP eQ; rw [if_neg (by omega), if_pos h, show (j + 1) / 2 = j / 2 by omega]
    · unfold eP eQ; rw [if_neg (by omega), if_pos h, show (j + 1) / 2 = j / 2 by omega]
  · refine ⟨j - 1, by omega, ?_, ?_⟩
    · unfold eP eQ; rw [if_pos (by omega), if_neg h, show (j - 1) / 2 = j / 2 by omega]
    · unfold eP eQ; rw [if_pos (by omega), if_neg h, show (j - 1) / 2 = j / 2 by omega]
theorem he_lb (hok : GOk n l) {j : Nat} (hj : j < 2 * l.length) : gLb n l (eP l j) = gLb n l (eQ l j) := by
  have := edge_lb hok (i := j / 2) (by omega)
  unfold eP eQ
  split
  · exact this
  · exact this.symm
theorem IsDist.conn (h : IsDist n l v D) {i : Nat} (hi : i < n) : 0 ≤ D i ↔ gLb n l i = gLb n l v := by
  constructor
  · intro h0
    obtain ⟨k, hk⟩ := Int.eq_ofNat_of_zero_le h0
    clear h0
    induction k generalizing i with
    | zero => rw [h.z i hi hk]
    | succ k ih =>
      obtain ⟨j, hj, hq, hp⟩ := h.pr i hi (by omega)
      have h1 := ih (h.ok.P_lt hj).1 (by omega)
      rw [← hq, ← he_lb h.ok hj, h1]
  · intro hl
    have := foldU_closed (n := n) (l := l.map fun (e : Int × Int × Int) => (e.1, e.2.1)) (L := fun i => i) (f := fun k => decide (0 ≤ D k)) (fun e he h1 h2 => by
      obtain ⟨x, hx, rfl⟩ := List.mem_map.1 he
      obtain ⟨j, hj, rfl⟩ := List.mem_iff_getElem.1 hx
      have a := h.st (2 * j) (by omega)
      have b := h.st (2 * j + 1) (by omega)
      rw [eP_even, show eQ l (2 * j) = eV l j by unfold eQ; rw [if_pos (by omega), show 2 * j / 2 = j by omega]] at a
      rw [eP_odd, show eQ l (2 * j + 1) = eU l j by unfold eQ; rw [if_neg (by omega), show (2 * j + 1) / 2 = j by omega]] at b
      rw [eU_get hj] at a b
      rw [eV_get hj] at a b
      simp only
      rw [decide_eq_decide]
      exact ⟨fun h => (a h).1, fun h => (b h).1⟩) (fun i j _ _ h => by have h' : i = j := h; rw [h']) i v hi h.vn hl
    simp at this
    rw [this, h.d0]; exact Int.le_refl _
theorem IsDist.back (h : IsDist n l v D) {u : Nat} (hE : IsDist n l u E) : ∀ (k : Nat) (x : Nat), x < n → D x = (k : Int) → 0 ≤ E x → 0 ≤ E v ∧ E v ≤ E x + k := by
  intro k
  induction k with
  | zero =>
    intro x hx hd h0
    obtain rfl := h.z x hx hd
    omega
  | succ k ih =>
    intro x hx hd h0
    obtain ⟨j, hj, hq, hp⟩ := h.pr x hx (by omega)
    obtain ⟨j', hj', r1, r2⟩ := he_rev hj
    have h1 := hE.st j' hj' (by rw [r1, hq]; exact h0)
    rw [r1, r2, hq] at h1
    have h2 := ih (eP l j) (h.ok.P_lt hj).1 (by omega) h1.1
    omega
theorem IsDist.sym (h : IsDist n l v D) {u : Nat} (hE : IsDist n l u E) : D u = E v := by
  have a := h.lo u hE.vn
  have b := hE.lo v h.vn
  by_cases h0 : 0 ≤ D u
  · obtain ⟨k, hk⟩ := Int.eq_ofNat_of_zero_le h0
    have h1 := h.back hE k u hE.vn hk (by rw [hE.d0]; exact Int.le_refl _)
    rw [hE.d0] at h1
    obtain ⟨m, hm⟩ := Int.eq_ofNat_of_zero_le h1.1
    have h2 := hE.back h m v h.vn hm (by rw [h.d0]; exact Int.le_refl _)
    rw [h.d0] at h2
    omega
  · by_cases h0' : 0 ≤ E v
    · obtain ⟨m, hm⟩ := Int.eq_ofNat_of_zero_le h0'
      have h2 := hE.back h m v h.vn hm (by rw [h.d0]; exact Int.le_refl _)
      omega
    · omega
end
end Go.Proofs.Ytpgkhmjlbaoagaa
