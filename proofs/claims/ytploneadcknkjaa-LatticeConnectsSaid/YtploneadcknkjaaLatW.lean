/- The examples of the chapter ('works'). -/
import Derived.Test.YtploneadcknkjaaLatH
namespace Go.Proofs.Ytploneadcknkjaa
open Go.RowKit
set_option linter.unusedVariables false

/-! ### The examples of the chapter -/
theorem ex_tri : gN 2 2 = 4 ∧ gE 2 2 = 0 ∧ gL 2 2 true true triD = [(0, 1, 0), (0, 2, 0), (0, 3, 0), (1, 3, 0), (2, 3, 0)] := by decide +kernel
theorem ex_tree : tN 2 2 = 7 ∧ tE 2 2 = 0 ∧ tL 2 2 = [(0, 1, 0), (0, 2, 0), (1, 3, 0), (1, 4, 0), (2, 5, 0), (2, 6, 0)] := by decide +kernel
theorem ex_at : atR 3 2 2 1 = (5, 0) := by decide +kernel

set_option maxRecDepth 100000 in
theorem works_any (W : World) : Calls Try.prog 17 #[] W fun e W' => e = .returned (.bool true) ∧ Below W.heap.size W W' := by
  have T : ∀ W, Calls Try.prog 14 #[.int .i64 2, .int .i64 2, .bool true, .bool true] W
      fun e W' => ∃ V, e = .returned (.tuple #[.int .i64 4, V, .int .i64 0]) ∧ OwnE W' W.heap.size V [(0, 1, 0), (0, 2, 0), (0, 3, 0), (1, 3, 0), (2, 3, 0)] ∧ Below W.heap.size W W' := fun W => by
    have h := triangular_any 2 2 true true W; rwa [ex_tri.1, ex_tri.2.1, ex_tri.2.2] at h
  have R : ∀ W, Calls Try.prog 18 #[.int .i64 2, .int .i64 2] W
      fun e W' => ∃ V, e = .returned (.tuple #[.int .i64 7, V, .int .i64 0]) ∧ OwnE W' W.heap.size V [(0, 1, 0), (0, 2, 0), (1, 3, 0), (1, 4, 0), (2, 5, 0), (2, 6, 0)] ∧ Below W.heap.size W W' := fun W => by
    have h := tree_any 2 2 W (by decide) (by decide); rwa [ex_tree.1, ex_tree.2.1, ex_tree.2.2] at h
  have A : ∀ W, Calls Try.prog 24 #[.int .i64 3, .int .i64 2, .int .i64 2, .int .i64 1] W fun e W' => e = .returned (.tuple #[.int .i64 5, .int .i64 0]) ∧ W = W' := fun W => by
    have h := at_any 3 2 2 1 W; rwa [ex_at] at h
  have HT := hide T
  have HR := hide R
  have HA := hide A
  clear T R A
  go_enter Try.func17, Try.ntmps17
  go_wp2_with fail
  refine (HT.out _).mono ?_
  rintro e w1 ⟨V, rfl, ho1, hb1⟩
  obtain ⟨A1, c1, rfl, hr1⟩ := ho1.form
  go_wp2_with fail
  refine (HR.out _).mono ?_
  rintro e w2 ⟨V, rfl, ho2, hb2⟩
  obtain ⟨A2, c2, rfl, hr2⟩ := ho2.form
  go_wp2_with fail
  refine (HA.out _).mono ?_
  rintro e w3 ⟨rfl, rfl⟩
  go_wp2_with fail
  refine (same_true _ _ 5 _ _ [(0, 1, 0), (0, 2, 0), (0, 3, 0), (1, 3, 0), (2, 3, 0)] _ ((hr1.below hb2).alloc _) (Rd.lit _ _ _ 5 3 rfl) rfl (by decide)).mono ?_
  rintro e w4 ⟨rfl, k1, rfl⟩
  go_wp2_with fail
  refine (same_true _ _ 6 _ _ [(0, 1, 0), (0, 2, 0), (1, 3, 0), (1, 4, 0), (2, 5, 0), (2, 6, 0)] _ (((hr2.alloc _).alloc _).drewN _) ((Rd.lit' _ _ _ 6 3 _ (by simp) rfl).drewN _) rfl (by decide)).mono ?_
  rintro e w5 ⟨rfl, k2, rfl⟩
  go_wp2_with fail
  go_ret
  exact ⟨rfl, ((hb1.trans (hb2.mono hb1.size)).trans (((Below.refl _ _).alloc (Nat.le_trans hb1.size hb2.size) _).alloc (by simp; have := hb1.size; have := hb2.size; omega) _)).drewN _⟩
end Go.Proofs.Ytploneadcknkjaa
