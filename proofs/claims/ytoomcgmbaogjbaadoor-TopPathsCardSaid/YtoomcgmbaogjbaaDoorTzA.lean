/- math/bits.TrailingZeros64, TrailingZeros, over the laid table; the plain law of lowest bits. -/
import Derived.Test.YtoomcgmbaogjbaaDoorInfo
import Derived.Laws.Bits64b
import Derived.Lib.TrailingZeros
namespace Go.Proofs.YtoomcgmbaogjbaaDoor
open Go.RowKit
set_option linter.unusedVariables false

/-- The table of the library lies in its variable. -/
def TabW (w : World) : Prop := 1 < w.heap.size ∧ ∀ j, j < 64 → w.cell? ⟨1, j, none⟩ = some (.int .u8 (Lib.deBruijn64tab.getD j 0))
theorem TabW.below {w w' : World} {B : Nat} (h : TabW w) (k : Below B w w') (hB : w.heap.size ≤ B) : TabW w' :=
  ⟨Nat.lt_of_lt_of_le h.1 k.size, fun j hj => (k.cell (p := ⟨1, j, none⟩) (Nat.lt_of_lt_of_le h.1 hB)).trans (h.2 j hj)⟩
theorem TabW.fr {w w' : World} {S : List Nat} (h : TabW w) (k : Fr S w w') (hS : 1 ∉ S) : TabW w' :=
  ⟨Nat.lt_of_lt_of_le h.1 k.size, fun j hj => (World.cell?_of_block (k.block _ h.1 hS)).trans (h.2 j hj)⟩
theorem tz_key (x a : Nat) (hx : x < 18446744073709551616) (hx0 : x ≠ 0) (hlow : x &&& (18446744073709551616 - x) = a) :
    IntKind.u64.wrap (bits BinOp.and IntKind.u64 (x : Int) (IntKind.u64.wrap (-(x : Int))) * 285870213051353865) / 288230376151711744 = ((a * 285870213051353865 % 18446744073709551616 / 288230376151711744 : Nat) : Int) := by
  have e1 : IntKind.u64.wrap (-(x : Int)) = ((18446744073709551616 - x : Nat) : Int) := by rw [IntKind.wrap_u64]; omega
  rw [e1, bits_and_u64_nat x _ hx (by omega), hlow, IntKind.wrap_u64]
  omega
set_option maxRecDepth 100000 in
theorem tz64_core (x k idx : Nat) (w : World) (hx0 : ((x : Int) == 0) = false)
    (key : IntKind.u64.wrap (bits BinOp.and IntKind.u64 (x : Int) (IntKind.u64.wrap (-(x : Int))) * 285870213051353865) / 288230376151711744 = (idx : Int))
    (hi : idx < 64) (hk : k < 64) (hcell : w.cell? ⟨1, idx, none⟩ = some (.int .u8 k)) :
    Calls Tryd.prog 77 #[.int .u64 x] w fun e w' => e = .returned (.int .i64 k) ∧ w = w' := by
  go_enter Tryd.func77, Tryd.ntmps77
  go_wp2_with (simp only [key])
  go_ret
  exact ⟨rfl, rfl⟩
theorem tz64 (w : World) (x : Nat) (hx : x < 18446744073709551616) (hx0 : x ≠ 0) (hT : TabW w) :
    Calls Tryd.prog 77 #[.int .u64 (x : Int)] w fun e w' => e = .returned (.int .i64 (Lib.ctz 64 x : Int)) ∧ w = w' := by
  obtain ⟨hlow, hk⟩ := Lib.lowest_bit 64 x hx0 hx
  obtain ⟨hi, htab⟩ := Lib.deBruijn64_at _ hk
  have hcell := hT.2 _ hi
  rw [htab] at hcell
  exact tz64_core x _ _ w (by simp; omega) (tz_key x _ hx hx0 hlow) hi hk hcell
set_option maxRecDepth 100000 in
theorem tz (w : World) (x : Nat) (hx : x < 18446744073709551616) (hx0 : x ≠ 0) (hT : TabW w) :
    Calls Tryd.prog 74 #[.int .u64 (x : Int)] w fun e w' => e = .returned (.int .i64 (Lib.ctz 64 x : Int)) ∧ w = w' := by
  have H := hide (tz64 w x hx hx0 hT)
  clear hx hx0 hT
  generalize Lib.ctz 64 x = k at *
  go_enter Tryd.func74, Tryd.ntmps74
  go_wp2_with fail
  refine H.out.mono ?_
  rintro e w' ⟨rfl, rfl⟩
  go_wp2_with fail
  go_ret
  exact ⟨rfl, rfl⟩
/-- The lowest bit taken away. -/
theorem and_pred (c m : Nat) : (2 ^ c * (2 * m + 1)) &&& (2 ^ c * (2 * m + 1) - 1) = 2 ^ c * (2 * m) := by
  have hp : 0 < 2 ^ c := Nat.two_pow_pos c
  have e : 2 ^ c * (2 * m + 1) - 1 = 2 ^ c * (2 * m) + (2 ^ c - 1) := by
    rw [Nat.mul_add]; omega
  rw [e]
  apply Nat.eq_of_testBit_eq
  intro j
  rw [Nat.testBit_and, Nat.mul_comm (2 ^ c) (2 * m + 1), Nat.testBit_mul_two_pow, Nat.testBit_two_pow_mul_add _ (by omega), Nat.mul_comm (2 ^ c) (2 * m), Nat.testBit_mul_two_pow]
  by_cases h : j < c
  · simp [h, Nat.not_le.2 h]
  · rw [if_neg h]
    obtain ⟨i, rfl⟩ : ∃ i, j = c + i := ⟨j - c, by omega⟩
    rw [Nat.add_sub_cancel_left]
    simp only [show c ≤ c + i by omega, decide_true, Bool.true_and]
    cases i with
    | zero => simp [Nat.testBit_zero]
    | succ i =>
      rw [Nat.testBit_succ, Nat.testBit_succ, show (2 * m + 1) / 2 = m by omega, show 2 * m / 2 = m by omega, Bool.and_self]
/-- The exponent of the lowest bit, and what is left. -/
theorem ctz_law {x : Nat} (hx0 : x ≠ 0) (hx : x < 8192) : Lib.ctz 64 x < 13 ∧ 2 ^ Lib.ctz 64 x ≤ x ∧ x &&& (x - 1) = x - 2 ^ Lib.ctz 64 x := by
  have e : Lib.ctz 64 x = Lib.ctzFrom 64 x := if_neg hx0
  obtain ⟨m, hm, hc⟩ := Lib.ctzFrom_spec 64 x (by omega) (by omega)
  rw [← e] at hm
  generalize Lib.ctz 64 x = c at *
  have h1 : 2 ^ c ≤ x := by rw [hm]; exact Nat.le_mul_of_pos_right _ (by omega)
  refine ⟨?_, h1, ?_⟩
  · apply Nat.lt_of_not_le
    intro h
    have : 2 ^ 13 ≤ 2 ^ c := Nat.pow_le_pow_right (by decide) h
    omega
  · have h2 := and_pred c m
    rw [← hm] at h2
    rw [h2]
    rw [Nat.mul_add] at hm
    omega
end Go.Proofs.YtoomcgmbaogjbaaDoor
