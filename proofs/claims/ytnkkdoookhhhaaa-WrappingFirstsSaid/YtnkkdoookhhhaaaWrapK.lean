/- seepagelaw30: what the laws have in common. -/
import Derived.Test.YtnkkdoookhhhaaaWrapMw
namespace Go.Proofs.Ytnkkdoookhhhaaa
open Go.RowKit
set_option linter.unusedVariables false

theorem u8_bd {a : Int} (h : (Lit.int .u8 a).wf = true) : 0 ≤ a ∧ a < 256 := by
  have e1 : IntKind.u8.max = 255 := rfl
  have e2 : IntKind.u8.min = 0 := rfl
  simp [Lit.wf] at h; omega
theorem u16_bd {a : Int} (h : (Lit.int .u16 a).wf = true) : 0 ≤ a ∧ a < 65536 := by
  have e1 : IntKind.u16.max = 65535 := rfl
  have e2 : IntKind.u16.min = 0 := rfl
  simp [Lit.wf] at h; omega
/-- The sizes of a law's torus, and how many vertices it has. -/
theorem start30 (a0 a1 : Int) (w0 : (Lit.int .u8 a0).wf = true) (w1 : (Lit.int .u8 a1).wf = true) : ∃ X Y n : Nat, 1 ≤ X ∧ X ≤ 12 ∧ 1 ≤ Y ∧ Y ≤ 12 ∧ n = X * Y ∧ n = Y * X ∧ 1 ≤ n ∧ n ≤ 144 ∧ (X : Int) * (Y : Int) = (n : Int) ∧ (Y : Int) * (X : Int) = (n : Int) ∧
    torB (X : Int) (Y : Int) = true ∧ torB (Y : Int) (X : Int) = true ∧
    ∀ W, Calls Try.prog 18 #[.int .u8 a0, .int .u8 a1] W fun e W' => e = .returned (.tuple #[.int .i64 (X : Int), .int .i64 (Y : Int)]) ∧ W = W' := by
  have b0 := u8_bd w0
  have b1 := u8_bd w1
  obtain ⟨X, hX⟩ := Int.eq_ofNat_of_zero_le (show 0 ≤ 1 + a0 % 12 by omega)
  obtain ⟨Y, hY⟩ := Int.eq_ofNat_of_zero_le (show 0 ≤ 1 + a1 % 12 by omega)
  have h1 : 1 ≤ X := by omega
  have h2 : X ≤ 12 := by omega
  have h3 : 1 ≤ Y := by omega
  have h4 : Y ≤ 12 := by omega
  have h5 : X * Y ≤ 12 * 12 := Nat.mul_le_mul h2 h4
  have h6 : 1 * 1 ≤ X * Y := Nat.mul_le_mul h1 h3
  have e1 : (X : Int) * (Y : Int) = ((X * Y : Nat) : Int) := by push_cast; rfl
  have e2 : (Y : Int) * (X : Int) = ((X * Y : Nat) : Int) := by rw [Int.mul_comm]; push_cast; rfl
  refine ⟨X, Y, X * Y, h1, h2, h3, h4, rfl, Nat.mul_comm _ _, by omega, by omega, e1, e2, ?_, ?_, fun W => ?_⟩
  · unfold torB; rw [decide_eq_true_iff, e1]; omega
  · unfold torB; rw [decide_eq_true_iff, e2]; omega
  · have := sizes_any a0 a1 W b0 b1
    rw [hX, hY] at this
    exact this
theorem mem_edgK {N : Nat} {once : Bool} {l : List Nat} {e : Nat} : ∀ k, k ≤ l.length → (e ∈ edgK N once l k ↔ e ∈ (l.take k).map (· % N)) := by
  intro k
  induction k with
  | zero => intro _; simp [edgK]
  | succ k ih =>
    intro hk
    rw [edgK_succ (by omega), List.take_succ_eq_append_getElem (by omega), List.map_append, List.mem_append, ← ih (by omega)]
    unfold edgS
    split
    · rename_i hc
      simp only [Bool.and_eq_true, List.contains_iff_mem] at hc
      constructor
      · exact .inl
      · rintro (h | h)
        · exact h
        · have : e = l[k] % N := by simpa using h
          rw [this]; exact hc.2
    · rw [List.mem_append]; simp
theorem mem_edg {N : Nat} {o1 o2 : Bool} {l : List Nat} {e : Nat} : e ∈ edg N o1 l ↔ e ∈ edg N o2 l := by
  rw [edg_K, edg_K, mem_edgK _ (Nat.min_le_left _ _), mem_edgK _ (Nat.min_le_left _ _)]
theorem edg_inE {X Y : Nat} (h : 1 ≤ X * Y) (once : Bool) (l : List Nat) : InE (X * Y) tS (tT X Y) (edg (2 * (X * Y)) once l) := fun e he => tE_in ((edg_in (by omega) once l).1 e he)
theorem sets_le (n : Nat) (L : Nat → Nat) : sets n L ≤ n := cnt_le _ _
theorem tL_nil_sets (X Y n : Nat) : sets n (tL X Y []) = n := sets_id n
/-- A remainder, as the walk writes it. -/
theorem rem_nat {a : Int} {n : Nat} (h0 : 0 ≤ a) (hn : 1 ≤ n) : ∃ i : Nat, i < n ∧ a % (n : Int) = (i : Int) ∧ a.tmod (n : Int) = (i : Int) := by
  have h1 := Int.emod_nonneg a (show (n : Int) ≠ 0 by omega)
  have h2 := Int.emod_lt_of_pos a (show (0 : Int) < n by omega)
  obtain ⟨i, hi⟩ := Int.eq_ofNat_of_zero_le h1
  exact ⟨i, by omega, hi, by rw [Int.tmod_eq_emod_of_nonneg h0]; exact hi⟩
theorem own_block_ge {w : World} {B : Nat} {E : TypeId} {sz n c : Nat} {A : Option Addr} {xs : List Value} (h : w.ownsRow B E sz (.slice A n c) n xs) : ∀ ad, A = some ad → B ≤ ad.block := by
  obtain ⟨A', c', e, _, hb, _⟩ := own_form h
  injection e with e1 _ _
  subst e1
  intro ad ha
  exact (hb ad ha).2.1
theorem own_rd {w : World} {B : Nat} {E : TypeId} {A : Option Addr} {n c sz : Nat} {xs : List Value} (h : w.ownsRow B E sz (.slice A n c) n xs) : Rd w A n sz xs := by
  obtain ⟨A', c', e, hr, _, _⟩ := own_form h
  injection e with e1 _ _
  subst e1; exact hr
end Go.Proofs.Ytnkkdoookhhhaaa
