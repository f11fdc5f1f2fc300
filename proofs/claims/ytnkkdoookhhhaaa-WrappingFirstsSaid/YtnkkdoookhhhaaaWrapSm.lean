/- seepagelaw30: small; tori of the document that are nil. -/
import Derived.Test.YtnkkdoookhhhaaaWrapRt
namespace Go.Proofs.Ytnkkdoookhhhaaa
open Go.RowKit
set_option linter.unusedVariables false

theorem small_no (w h : Int) (W : World) (ht : torB w h = false) :
    Calls Try.prog 13 #[.int .i64 w, .int .i64 h] W fun e W' => e = .returned (.bool true) ∧ W = W' := by
  have HI := r30Sizes w h W
  rw [ht] at HI
  have HI2 := hide HI
  clear HI ht
  go_enter Try.func13, Try.ntmps13
  go_wp2_with fail
  refine HI2.out.mono ?_
  rintro e w' ⟨rfl, rfl⟩
  go_wp2_with fail
  go_ret
  exact ⟨rfl, rfl⟩
theorem small_ok (w h : Int) (W : World) (ht : torB w h = true) (b : Bool) (hb : decide (w * h ≤ 60) = b) :
    Calls Try.prog 13 #[.int .i64 w, .int .i64 h] W fun e W' => e = .returned (.bool b) ∧ W = W' := by
  have HI := r30Sizes w h W
  rw [ht] at HI
  have HI2 := hide HI
  obtain ⟨h1, h2, h3, h4, h5⟩ : 1 ≤ w ∧ 1 ≤ h ∧ w ≤ 4096 ∧ h ≤ 4096 ∧ w * h ≤ 4096 := by unfold torB at ht; exact of_decide_eq_true ht
  have b1 : 0 ≤ w * h := Int.mul_nonneg (by omega) (by omega)
  have HB := hide hb
  clear HI ht hb
  go_enter Try.func13, Try.ntmps13
  go_wp2_with fail
  refine HI2.out.mono ?_
  rintro e w' ⟨rfl, rfl⟩
  go_wp2_with fail
  go_ret
  exact ⟨ret_bool HB.out, rfl⟩

theorem r30N_valid (w : World) : Calls Try.prog 39 #[.pointer none] w fun e w' => e = .returned (.bool false) ∧ w = w' := by
  go_enter Try.func39, Try.ntmps39
  go_wp2
  go_ret
  exact ⟨rfl, rfl⟩
theorem r30N_Wraps (w : World) : Calls Try.prog 31 #[.pointer none] w fun e w' => e = .returned (.tuple #[.bool false, .bool false]) ∧ w = w' := by
  go_enter Try.func31, Try.ntmps31
  go_wp2_with (go_at_call 39; refine (r30N_valid _).mono ?_; rintro e w' ⟨rfl, rfl⟩)
  go_ret2
  exact ⟨rfl, rfl⟩
theorem r30N_exists (w : World) (a : Int) : Calls Try.prog 45 #[.pointer none, .int .i64 a] w fun e w' => e = .returned (.bool false) ∧ ∃ k, w' = w.drewN k := by
  go_enter Try.func45, Try.ntmps45
  go_wp2_with fail
  go_quiet ((go_at_call 39; exact quiet_any1 (quiet_eq (r30N_valid _))))
  go_wp2_with fail
  go_ret
  exact ⟨rfl, _, rfl⟩
theorem r30N_Same (w : World) (a b : Int) : Calls Try.prog 37 #[.pointer none, .int .i64 a, .int .i64 b] w fun e w' => e = .returned (.bool false) ∧ ∃ k, w' = w.drewN k := by
  go_enter Try.func37, Try.ntmps37
  go_wp2_with (go_at_call 45; refine (r30N_exists _ _).mono ?_; rintro e w' ⟨rfl, k, rfl⟩)
  go_ret
  exact ⟨rfl, _, rfl⟩
theorem r30N_Count (w : World) : Calls Try.prog 38 #[.pointer none] w fun e w' => e = .returned (.int .i64 0) ∧ w = w' := by
  go_enter Try.func38, Try.ntmps38
  go_wp2_with (go_at_call 39; refine (r30N_valid _).mono ?_; rintro e w' ⟨rfl, rfl⟩)
  go_ret
  exact ⟨rfl, rfl⟩
theorem r30N_Offset (w : World) (a b : Int) : Calls Try.prog 36 #[.pointer none, .int .i64 a, .int .i64 b] w fun e w' => e = .returned (.tuple #[.int .i64 0, .int .i64 0, .bool false]) ∧ ∃ k, w' = w.drewN k := by
  go_enter Try.func36, Try.ntmps36
  go_wp2_with (go_at_call 37; refine (r30N_Same _ _ _).mono ?_; rintro e w' ⟨rfl, k, rfl⟩)
  go_ret3
  exact ⟨rfl, _, rfl⟩
theorem r30N_Add (w : World) (a b c : Int) : Calls Try.prog 28 #[.pointer none, .int .i64 a, .int .i64 b, .int .i64 c] w fun e w' => e = .returned (.tuple #[.bool false, .int .i64 1]) ∧ w = w' := by
  go_enter Try.func28, Try.ntmps28
  go_wp2_with (go_at_call 39; refine (r30N_valid _).mono ?_; rintro e w' ⟨rfl, rfl⟩)
  go_ret2
  exact ⟨rfl, rfl⟩
end Go.Proofs.Ytnkkdoookhhhaaa
