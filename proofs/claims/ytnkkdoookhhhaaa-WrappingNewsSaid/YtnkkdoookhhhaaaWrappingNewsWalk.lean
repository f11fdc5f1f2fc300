/- The walk of WrappingNews. -/
import Derived.Test.YtnkkdoookhhhaaaWrapAg
namespace Go.Proofs.Ytnkkdoookhhhaaa
open Go.RowKit
set_option linter.unusedVariables false

set_option maxRecDepth 100000 in
set_option maxHeartbeats 4000000 in
theorem wrappingNews_walk (a0 a1 a2 a3 : Int) (W : World) (w0 : (Lit.int .i64 a0).wf = true) (w1 : (Lit.int .i64 a1).wf = true) (w2 : (Lit.int .i64 a2).wf = true) (w3 : (Lit.int .i64 a3).wf = true) :
    Calls Try.prog 7 #[.int .i64 a0, .int .i64 a1, .int .i64 a2, .int .i64 a3] W fun e W' => e = .returned (.bool true) ∧ Below W.heap.size W W' := by
  clear w0 w1 w2 w3
  by_cases ht : torB a0 a1 = true
  · by_cases h60 : a0 * a1 ≤ 60
    · have HS := hide (small_ok a0 a1 W ht true (decide_eq_true h60))
      obtain ⟨X, Y, rfl, rfl, -⟩ := torB_nat ht
      have HB := hide (both30 W X Y ht)
      clear ht h60
      go_enter Try.func7, Try.ntmps7
      go_wp2_with fail
      refine HS.out.mono ?_
      rintro e w' ⟨rfl, rfl⟩
      go_wp2_with fail
      refine HB.out.mono ?_
      rintro e w1 ⟨p, rfl, hc⟩
      have HC := hide hc
      clear hc
      go_wp2_with fail
      refine HC.out.mono ?_
      rintro e w2 ⟨q, rfl, hT⟩
      have HA := hide (agree30_ok W w2 W.heap.size a2 a3 p q X Y (X * Y) [] hT)
      clear hT
      go_wp2_with fail
      refine HA.out.mono ?_
      rintro e w3 ⟨rfl, hT3⟩
      have HB3 := hide hT3.bel
      clear hT3
      go_wp2_with fail
      refine (works30 _).mono ?_
      rintro e w9 ⟨rfl, hb9⟩
      go_wp2_with fail
      go_ret
      exact ⟨rfl, HB3.out.trans (hb9.mono HB3.out.size)⟩
    · have HS := hide (small_ok a0 a1 W ht false (by simp; omega))
      clear ht h60
      go_enter Try.func7, Try.ntmps7
      go_wp2_with fail
      refine HS.out.mono ?_
      rintro e w' ⟨rfl, rfl⟩
      go_wp2_with fail
      refine (works30 _).mono ?_
      rintro e w9 ⟨rfl, hb9⟩
      go_wp2_with fail
      go_ret
      exact ⟨rfl, hb9⟩
  · have ht : torB a0 a1 = false := by simpa using ht
    have HS := hide (small_no a0 a1 W ht)
    have H1 := hide (fun w => torNew_no w a0 a1 ht)
    have H2 := hide (fun w => r30New_no w a0 a1 ht)
    clear ht
    go_enter Try.func7, Try.ntmps7
    go_wp2_with fail
    refine HS.out.mono ?_
    rintro e w' ⟨rfl, rfl⟩
    go_wp2_with fail
    refine (H1.out _).mono ?_
    rintro e w' ⟨rfl, rfl⟩
    go_wp2_with fail
    refine (H2.out _).mono ?_
    rintro e w' ⟨rfl, rfl⟩
    go_wp2_with fail
    refine (agree30_nil _ _ _ a2 a3 (Below.refl W.heap.size W)).mono ?_
    rintro e w3 ⟨rfl, hb3⟩
    have HB3 := hide hb3
    clear hb3
    go_wp2_with fail
    refine (works30 _).mono ?_
    rintro e w9 ⟨rfl, hb9⟩
    go_wp2_with fail
    go_ret
    exact ⟨rfl, HB3.out.trans (hb9.mono HB3.out.size)⟩
end Go.Proofs.Ytnkkdoookhhhaaa
