/- Plain: whether a lattice is spanned. Nothing of the program. -/
import Derived.Test.YtohhbepfpmbnkaaGraK
namespace Go.Proofs.Ytohhbepfpmbnkaa
open Go.RowKit
set_option linter.unusedVariables false

/-- Whether c is the label of a vertex of the first column, in the first k rows. -/
def fstC (X : Nat) (L : Nat → Nat) (k : Nat) (c : Nat) : Bool := (List.range k).any fun y => L (y * X) == c
theorem fstC_zero (X : Nat) (L : Nat → Nat) : fstC X L 0 = fun _ => false := by funext c; simp [fstC]
theorem fstC_succ (X : Nat) (L : Nat → Nat) (k : Nat) : updb (fstC X L k) (L (k * X)) true = fstC X L (k + 1) := by
  funext c
  unfold updb fstC
  rw [List.range_succ, List.any_append]
  by_cases h : c = L (k * X)
  · rw [if_pos h]; simp [h]
  · rw [if_neg h]
    have : (L (k * X) == c) = false := by simpa using fun e => h e.symm
    simp [this]
/-- Whether a component reaches from the first column to the last one. -/
def spanB (X Y : Nat) (L : Nat → Nat) : Bool := (List.range Y).any fun y => fstC X L Y (L (y * X + (X - 1)))
theorem spanB_iff {X Y : Nat} {L : Nat → Nat} : spanB X Y L = true ↔ ∃ a b, a < Y ∧ b < Y ∧ L (a * X) = L (b * X + (X - 1)) := by
  unfold spanB fstC
  rw [List.any_eq_true]
  constructor
  · rintro ⟨b, hb, h⟩
    rw [List.any_eq_true] at h
    obtain ⟨a, ha, h⟩ := h
    exact ⟨a, b, List.mem_range.1 ha, List.mem_range.1 hb, by simpa using h⟩
  · rintro ⟨a, b, ha, hb, h⟩
    exact ⟨b, List.mem_range.2 hb, List.any_eq_true.2 ⟨a, List.mem_range.2 ha, by simpa using h⟩⟩
theorem spanB_false {X Y : Nat} {L : Nat → Nat} (h : ∀ y, y < Y → fstC X L Y (L (y * X + (X - 1))) = false) : spanB X Y L = false := by
  unfold spanB
  rw [List.any_eq_false]
  intro y hy
  rw [h y (List.mem_range.1 hy)]; simp
theorem spanB_true {X Y y : Nat} {L : Nat → Nat} (hy : y < Y) (h : fstC X L Y (L (y * X + (X - 1))) = true) : spanB X Y L = true := by
  unfold spanB
  exact List.any_eq_true.2 ⟨y, List.mem_range.2 hy, h⟩
theorem first_in {X Y y : Nat} (hX : 1 ≤ X) (hy : y < Y) : y * X < X * Y ∧ y * X + (X - 1) < X * Y := by
  have : (y + 1) * X ≤ Y * X := Nat.mul_le_mul_right X hy
  rw [Nat.mul_comm Y X, Nat.add_mul, Nat.one_mul] at this
  omega
/-- The edges from two more vertices to the first column and the last one. -/
def capL (X n : Nat) (k : Nat) : List (Int × Int × Int) := (List.range k).flatMap fun r => [((n : Int), ((r * X : Nat) : Int), 0), (((n + 1 : Nat) : Int), ((r * X + (X - 1) : Nat) : Int), 0)]
theorem capL_succ (X n k : Nat) : capL X n (k + 1) = capL X n k ++ [((n : Int), ((k * X : Nat) : Int), 0), (((n + 1 : Nat) : Int), ((k * X + (X - 1) : Nat) : Int), 0)] := by
  unfold capL; rw [List.range_succ, List.flatMap_append]; simp
theorem capL_len (X n k : Nat) : (capL X n k).length = 2 * k := by
  induction k with
  | zero => rfl
  | succ k ih => rw [capL_succ, List.length_append, ih]; simp; omega
theorem capL_mem {X n k : Nat} {e : Int × Int × Int} : e ∈ capL X n k ↔ ∃ r, r < k ∧ (e = ((n : Int), ((r * X : Nat) : Int), 0) ∨ e = (((n + 1 : Nat) : Int), ((r * X + (X - 1) : Nat) : Int), 0)) := by
  unfold capL
  rw [List.mem_flatMap]
  constructor
  · rintro ⟨r, hr, h⟩
    exact ⟨r, List.mem_range.1 hr, by simpa using h⟩
  · rintro ⟨r, hr, h⟩
    exact ⟨r, List.mem_range.2 hr, by simpa using h⟩
theorem cap_ok {X Y n : Nat} {l : List (Int × Int × Int)} (hX : 1 ≤ X) (hn : n = X * Y) (hok : GOk n l) : GOk (n + 2) (l ++ capL X n Y) := by
  intro e he
  rcases List.mem_append.1 he with he | he
  · have := hok e he; omega
  · obtain ⟨r, hr, h⟩ := capL_mem.1 he
    have := first_in hX hr
    rw [← hn] at this
    rcases h with rfl | rfl <;> simp only <;> omega
/-- THE LAW: spanned exactly if the two more vertices are connected. -/
theorem span_law {X Y n : Nat} {l : List (Int × Int × Int)} (hX : 1 ≤ X) (hY : 1 ≤ Y) (hn : n = X * Y) (hok : GOk n l) :
    spanB X Y (gLb n l) = true ↔ gLb (n + 2) (l ++ capL X n Y) n = gLb (n + 2) (l ++ capL X n Y) (n + 1) := by
  have hok2 := cap_ok (Y := Y) hX hn hok
  have hedge : ∀ e ∈ l ++ capL X n Y, gLb (n + 2) (l ++ capL X n Y) e.1.toNat = gLb (n + 2) (l ++ capL X n Y) e.2.1.toNat := fun e he => gLb_edge hok2 he
  constructor
  · intro h
    obtain ⟨a, b, ha, hb, hab⟩ := spanB_iff.1 h
    have fa := first_in hX ha
    have fb := first_in hX hb
    rw [← hn] at fa fb
    have e1 := hedge ((n : Int), ((a * X : Nat) : Int), 0) (List.mem_append_right _ (capL_mem.2 ⟨a, ha, .inl rfl⟩))
    have e2 := hedge (((n + 1 : Nat) : Int), ((b * X + (X - 1) : Nat) : Int), 0) (List.mem_append_right _ (capL_mem.2 ⟨b, hb, .inr rfl⟩))
    simp only [Int.toNat_natCast] at e1 e2
    have e3 : gLb (n + 2) (l ++ capL X n Y) (a * X) = gLb (n + 2) (l ++ capL X n Y) (b * X + (X - 1)) := by
      have := foldU_closed (n := n) (l := l.map fun e => (e.1, e.2.1)) (L := fun i => i) (f := fun k => decide (gLb (n + 2) (l ++ capL X n Y) k = gLb (n + 2) (l ++ capL X n Y) (a * X))) (fun e he h1 h2 => by
        obtain ⟨x, hx, rfl⟩ := List.mem_map.1 he
        have := hedge x (List.mem_append_left _ hx)
        simp only; rw [this]) (fun i j _ _ h => by have h' : i = j := h; rw [h']) (a * X) (b * X + (X - 1)) fa.1 fb.2 hab
      simp at this
      exact this.symm
    rw [e1, e2, e3]
  · intro h
    apply Classical.byContradiction
    intro hns
    have hns' : ∀ a b, a < Y → b < Y → gLb n l (a * X) ≠ gLb n l (b * X + (X - 1)) := fun a b ha hb e => hns (spanB_iff.2 ⟨a, b, ha, hb, e⟩)
    have := foldU_closed (n := n + 2) (l := (l ++ capL X n Y).map fun e => (e.1, e.2.1)) (L := fun i => i)
      (f := fun k => if k < n then fstC X (gLb n l) Y (gLb n l k) else decide (k = n)) (fun e he h1 h2 => by
        obtain ⟨x, hx, rfl⟩ := List.mem_map.1 he
        simp only
        rcases List.mem_append.1 hx with hx | hx
        · have hb := hok x hx
          rw [if_pos (by omega), if_pos (by omega), gLb_edge hok hx]
        · obtain ⟨r, hr, hx⟩ := capL_mem.1 hx
          have hf := first_in hX hr
          rw [← hn] at hf
          rcases hx with rfl | rfl
          · simp only [Int.toNat_natCast]
            rw [if_neg (by omega), if_pos hf.1]
            simp only [decide_true]
            symm
            unfold fstC
            exact List.any_eq_true.2 ⟨r, List.mem_range.2 hr, by simp⟩
          · simp only [Int.toNat_natCast]
            rw [if_neg (by omega), if_pos hf.2]
            have h1 : decide (n + 1 = n) = false := by simp
            rw [h1]
            symm
            unfold fstC
            rw [List.any_eq_false]
            intro a ha
            have := hns' a r (List.mem_range.1 ha) hr
            simpa using this) (fun i j _ _ h => by have h' : i = j := h; rw [h']) n (n + 1) (by omega) (by omega) h
    simp at this
    omega
/-- The open edges of a torus: those that do not lead from the last column, or row, to the first one. -/
def opE (X Y : Nat) (e : Nat) : List (Int × Int × Int) :=
  if e % 2 = 0 then if e / 2 % X + 1 < X then [(((e / 2 : Nat) : Int), ((e / 2 + 1 : Nat) : Int), 0)] else [] else if e / 2 / X + 1 < Y then [(((e / 2 + X : Nat) : Int), ((e / 2 : Nat) : Int), 0)] else []
def opL (X Y : Nat) (l : List Nat) : List (Int × Int × Int) := l.flatMap (opE X Y)
theorem opL_snoc (X Y : Nat) (l : List Nat) (e : Nat) : opL X Y (l ++ [e]) = opL X Y l ++ opE X Y e := by simp [opL]
theorem opE_len (X Y e : Nat) : (opE X Y e).length ≤ 1 := by unfold opE; split <;> split <;> simp
theorem opL_len (X Y : Nat) (l : List Nat) : (opL X Y l).length ≤ l.length := by
  induction l with
  | nil => simp [opL]
  | cons e l ih =>
    have := opE_len X Y e
    unfold opL at *
    rw [List.flatMap_cons, List.length_append, List.length_cons]; omega
theorem opL_ok {X Y n : Nat} (hX : 1 ≤ X) (hn : n = X * Y) {l : List Nat} (hl : ∀ e ∈ l, e < 2 * n) : GOk n (opL X Y l) := by
  intro x hx
  obtain ⟨e, he, hx⟩ := List.mem_flatMap.1 hx
  have h2 := hl e he
  have hd := Nat.div_add_mod (e / 2) X
  have hm := Nat.mod_lt (e / 2) hX
  unfold opE at hx
  by_cases h0 : e % 2 = 0
  · rw [if_pos h0] at hx
    by_cases h1 : e / 2 % X + 1 < X
    · rw [if_pos h1] at hx
      rw [List.mem_singleton.1 hx]
      have hr : e / 2 / X < Y := Nat.div_lt_of_lt_mul (by rw [← hn]; omega)
      have h3 : (e / 2 / X + 1) * X ≤ Y * X := Nat.mul_le_mul_right X hr
      rw [Nat.mul_comm Y X, ← hn, Nat.add_mul, Nat.one_mul, Nat.mul_comm] at h3
      simp only; omega
    · rw [if_neg h1] at hx; simp at hx
  · rw [if_neg h0] at hx
    by_cases h1 : e / 2 / X + 1 < Y
    · rw [if_pos h1] at hx
      rw [List.mem_singleton.1 hx]
      have h3 : (e / 2 / X + 1 + 1) * X ≤ Y * X := Nat.mul_le_mul_right X h1
      rw [Nat.mul_comm Y X, ← hn, Nat.add_mul, Nat.add_mul, Nat.one_mul, Nat.mul_comm (e / 2 / X) X] at h3
      simp only; omega
    · rw [if_neg h1] at hx; simp at hx
end Go.Proofs.Ytohhbepfpmbnkaa
