/- math/bits.TrailingZeros64, TrailingZeros, over the laid table; the plain law of lowest bits. -/
import Derived.Test.YtoomcgmbaogjbaaDoorInfo
import Derived.Shelf.Spec.TrailingZeros
import Derived.KernelRfl
namespace Go.Proofs.YtoomcgmbaogjbaaDoor
open Go.RowKit Go.Shelf
set_option linter.unusedVariables false

/-- The table of the library lies in its variable. -/
def TabW (w : World) : Prop := 1 < w.heap.size ∧ ∀ j, j < 64 → w.cell? ⟨1, j, none⟩ = some (.int .u8 (Lib.deBruijn64tab.getD j 0))
theorem TabW.below {w w' : World} {B : Nat} (h : TabW w) (k : Below B w w') (hB : w.heap.size ≤ B) : TabW w' :=
  ⟨Nat.lt_of_lt_of_le h.1 k.size, fun j hj => (k.cell (p := ⟨1, j, none⟩) (Nat.lt_of_lt_of_le h.1 hB)).trans (h.2 j hj)⟩
theorem TabW.fr {w w' : World} {S : List Nat} (h : TabW w) (k : Fr S w w') (hS : 1 ∉ S) : TabW w' :=
  ⟨Nat.lt_of_lt_of_le h.1 k.size, fun j hj => (World.cell?_of_block (k.block _ h.1 hS)).trans (h.2 j hj)⟩
def tzRen : Go.Shelf.Ren := ⟨fun | 29 => 77 | n => n, fun | 0 => 0 | 3 => 3 | 4 => 4 | 5 => 5 | 22 => 119 | 25 => 103 | 54 => 135 | n => n, fun | 1 => 1 | n => n⟩
/-- The shelf's layout of math/bits.TrailingZeros64, at this program. -/
theorem tzLays : Lays7.n29 Tryd.prog tzRen := {
  mixed := by kernel_rfl,
  f29 := Tryd.func77.trans (congrArg some (by kernel_rfl)),
  t0 := Tryd.underlying0,
  a0 := Tryd.isAgg0,
  z0 := Tryd.sizeOf0,
  v0 := Tryd.zeroValue0,
  i0 := by kernel_rfl,
  t3 := Tryd.underlying3,
  a3 := Tryd.isAgg3,
  z3 := Tryd.sizeOf3,
  v3 := Tryd.zeroValue3,
  i3 := by kernel_rfl,
  t4 := Tryd.underlying4,
  a4 := Tryd.isAgg4,
  z4 := Tryd.sizeOf4,
  v4 := Tryd.zeroValue4,
  i4 := by kernel_rfl,
  t5 := Tryd.underlying5,
  a5 := Tryd.isAgg5,
  z5 := Tryd.sizeOf5,
  v5 := Tryd.zeroValue5,
  i5 := by kernel_rfl,
  t22 := Tryd.underlying119,
  a22 := Tryd.isAgg119,
  z22 := Tryd.sizeOf119,
  v22 := Tryd.zeroValue119,
  i22 := by kernel_rfl,
  t25 := Tryd.underlying103,
  a25 := Tryd.isAgg103,
  z25 := Tryd.sizeOf103,
  v25 := Tryd.zeroValue103,
  i25 := by kernel_rfl,
  t54 := Tryd.underlying135,
  a54 := Tryd.isAgg135,
  z54 := Tryd.sizeOf135,
  g1 := by kernel_rfl }
theorem tz64 (w : World) (x : Nat) (hx : x < 18446744073709551616) (hx0 : x ≠ 0) (hT : TabW w) :
    Calls Tryd.prog 77 #[.int .u64 (x : Int)] w fun e w' => e = .returned (.int .i64 (Lib.ctz 64 x : Int)) ∧ w = w' :=
  (Any7.bits_TrailingZeros64 tzLays x hx w (fun _ j hj => hT.2 j hj)).mono fun e w' h => ⟨h.1, h.2.symm⟩
set_option maxRecDepth 100000 in
theorem tz (w : World) (x : Nat) (hx : x < 18446744073709551616) (hx0 : x ≠ 0) (hT : TabW w) :
    Calls Tryd.prog 74 #[.int .u64 (x : Int)] w fun e w' => e = .returned (.int .i64 (Lib.ctz 64 x : Int)) ∧ w = w' := by
  have H := hide (tz64 w x hx hx0 hT)
  clear hx hx0 hT
  generalize Lib.ctz 64 x = k at *
  go_enter Tryd.func74, Tryd.ntmps74
  go_wp2_with fail
  refine H.out.mono ?_
  rintro e w' ⟨rfl, rfl⟩
  go_wp2_with fail
  go_ret
  exact ⟨rfl, rfl⟩
/-- The lowest bit taken away. -/
theorem and_pred (c m : Nat) : (2 ^ c * (2 * m + 1)) &&& (2 ^ c * (2 * m + 1) - 1) = 2 ^ c * (2 * m) := by
  have hp : 0 < 2 ^ c := Nat.two_pow_pos c
  have e : 2 ^ c * (2 * m + 1) - 1 = 2 ^ c * (2 * m) + (2 ^ c - 1) := by
    rw [Nat.mul_add]; omega
  rw [e]
  apply Nat.eq_of_testBit_eq
  intro j
  rw [Nat.testBit_and, Nat.mul_comm (2 ^ c) (2 * m + 1), Nat.testBit_mul_two_pow, Nat.testBit_two_pow_mul_add _ (by omega), Nat.mul_comm (2 ^ c) (2 * m), Nat.testBit_mul_two_pow]
  by_cases h : j < c
  · simp [h, Nat.not_le.2 h]
  · rw [if_neg h]
    obtain ⟨i, rfl⟩ : ∃ i, j = c + i := ⟨j - c, by omega⟩
    rw [Nat.add_sub_cancel_left]
    simp only [show c ≤ c + i by omega, decide_true, Bool.true_and]
    cases i with
    | zero => simp [Nat.testBit_zero]
    | succ i =>
      rw [Nat.testBit_succ, Nat.testBit_succ, show (2 * m + 1) / 2 = m by omega, show 2 * m / 2 = m by omega, Bool.and_self]
/-- The exponent of the lowest bit, and what is left. -/
theorem ctz_law {x : Nat} (hx0 : x ≠ 0) (hx : x < 8192) : Lib.ctz 64 x < 13 ∧ 2 ^ Lib.ctz 64 x ≤ x ∧ x &&& (x - 1) = x - 2 ^ Lib.ctz 64 x := by
  have e : Lib.ctz 64 x = Lib.ctzFrom 64 x := if_neg hx0
  obtain ⟨m, hm, hc⟩ := Lib.ctzFrom_spec 64 x (by omega) (by omega)
  rw [← e] at hm
  generalize Lib.ctz 64 x = c at *
  have h1 : 2 ^ c ≤ x := by rw [hm]; exact Nat.le_mul_of_pos_right _ (by omega)
  refine ⟨?_, h1, ?_⟩
  · apply Nat.lt_of_not_le
    intro h
    have : 2 ^ 13 ≤ 2 ^ c := Nat.pow_le_pow_right (by decide) h
    omega
  · have h2 := and_pred c m
    rw [← hm] at h2
    rw [h2]
    rw [Nat.mul_add] at hm
    omega
end Go.Proofs.YtoomcgmbaogjbaaDoor
