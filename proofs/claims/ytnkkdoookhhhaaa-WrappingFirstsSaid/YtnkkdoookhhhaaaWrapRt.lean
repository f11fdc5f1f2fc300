/- seepageref30: Sizes, New. -/
import Derived.Test.YtnkkdoookhhhaaaWrapRs
namespace Go.Proofs.Ytnkkdoookhhhaaa
open Go.RowKit
set_option linter.unusedVariables false

set_option maxRecDepth 100000 in
theorem r30Sizes (w h : Int) (W : World) :
    Calls Try.prog 14 #[.int .i64 w, .int .i64 h] W fun e W' => e = .returned (.bool (torB w h)) ∧ W = W' := by
  by_cases hc : (1 ≤ w ∧ 1 ≤ h) ∧ w ≤ 4096 ∧ h ≤ 4096
  · obtain ⟨⟨h1, h2⟩, h3, h4⟩ := hc
    have b1 : 0 ≤ w * h := Int.mul_nonneg (by omega) (by omega)
    have b2 : w * h ≤ 4096 * 4096 := Int.mul_le_mul h3 h4 (by omega) (by omega)
    go_enter Try.func14, Try.ntmps14
    go_wp2
    go_ret
    exact ⟨ret_bool (by unfold torB; exact decide_eq_decide.2 ⟨fun h => ⟨h1, h2, h3, h4, h⟩, fun h => h.2.2.2.2⟩), rfl⟩
  · have hf : torB w h = false := by simp only [torB, decide_eq_false_iff_not]; omega
    have hF : Hid (torB w h = false) := hf
    clear hf
    by_cases h1 : 1 ≤ w
    · by_cases h2 : 1 ≤ h
      · by_cases h3 : w ≤ 4096
        · have h4 : ¬ h ≤ 4096 := by omega
          clear hc
          go_enter Try.func14, Try.ntmps14
          go_wp2
          go_ret
          exact ⟨ret_bool (by rw [hF.out]), rfl⟩
        · clear hc
          go_enter Try.func14, Try.ntmps14
          go_wp2
          go_ret
          exact ⟨ret_bool (by rw [hF.out]), rfl⟩
      · clear hc
        go_enter Try.func14, Try.ntmps14
        go_wp2
        go_ret
        exact ⟨ret_bool (by rw [hF.out]), rfl⟩
    · clear hc
      go_enter Try.func14, Try.ntmps14
      go_wp2
      go_ret
      exact ⟨ret_bool (by rw [hF.out]), rfl⟩
theorem r30New_no (w : World) (a b : Int) (h : torB a b = false) :
    Calls Try.prog 25 #[.int .i64 a, .int .i64 b] w fun e w' => e = .returned (.tuple #[.pointer none, .int .i64 2]) ∧ w = w' := by
  have HI := r30Sizes a b w
  rw [h] at HI
  have HI2 := hide HI
  clear HI h
  go_enter Try.func25, Try.ntmps25
  go_wp2_with fail
  refine HI2.out.mono ?_
  rintro e w' ⟨rfl, rfl⟩
  go_wp2_with fail
  go_ret2
  exact ⟨rfl, rfl⟩
end Go.Proofs.Ytnkkdoookhhhaaa
