/- The walks of LatticeSquares, LatticeTriangles, LatticeTrees, LatticeCompletes, LatticePlaces. -/
import Derived.Test.YtbkgnachgpbcpaaLatP
import Derived.Test.YtbkgnachgpbcpaaLatW
import Derived.OpenShut
namespace Go.Proofs.Ytbkgnachgpbcpaa
open Go.RowKit
set_option linter.unusedVariables false

set_option maxRecDepth 100000 in
theorem latticeSquares_walk (a0 a1 : Int) (a2 a3 : Bool) (W : World) (w0 : (Lit.int .i64 a0).wf = true) (w1 : (Lit.int .i64 a1).wf = true) :
    Calls Try.prog 5 #[.int .i64 a0, .int .i64 a1, .bool a2, .bool a3] W fun e W' => e = .returned (.bool true) ∧ Below W.heap.size W W' := by
  clear w0 w1
  have HL : Hid ((rL a0 a1 a2 a3 false).length ≤ 1000000000) := by show _ ≤ _; have := rL_len a0 a1 a2 a3 false; omega
  go_enter Try.func5, Try.ntmps5
  go_wp2_with fail
  refine (square_any _ _ _ _ _).mono ?_
  rintro e w1 ⟨V, rfl, ho1, hb1⟩
  rw [gL_sq] at ho1
  obtain ⟨A1, c1, rfl, hr1⟩ := ho1.form
  go_wp2_with fail
  refine (rsquare_any _ _ _ _ _).mono ?_
  rintro e w2 ⟨V, rfl, ho2, hb2⟩
  obtain ⟨A2, c2, rfl, hr2⟩ := ho2.form
  go_wp2_with fail
  refine (same_true _ _ _ _ _ _ _ (hr1.below hb2) hr2 rfl HL.out).mono ?_
  rintro e w3 ⟨rfl, k1, rfl⟩
  go_wp2_with fail
  refine (works_any _).mono ?_
  rintro e w4 ⟨rfl, hb4⟩
  go_wp2_with fail
  go_ret
  exact ⟨rfl, ((hb1.trans (hb2.mono hb1.size)).drewN k1).trans (hb4.mono (Nat.le_trans hb1.size hb2.size))⟩

set_option maxRecDepth 100000 in
theorem latticeTriangles_walk (a0 a1 : Int) (a2 a3 : Bool) (W : World) (w0 : (Lit.int .i64 a0).wf = true) (w1 : (Lit.int .i64 a1).wf = true) :
    Calls Try.prog 3 #[.int .i64 a0, .int .i64 a1, .bool a2, .bool a3] W fun e W' => e = .returned (.bool true) ∧ Below W.heap.size W W' := by
  clear w0 w1
  have HL : Hid ((rL a0 a1 a2 a3 true).length ≤ 1000000000) := by show _ ≤ _; have := rL_len a0 a1 a2 a3 true; omega
  go_enter Try.func3, Try.ntmps3
  go_wp2_with fail
  refine (triangular_any _ _ _ _ _).mono ?_
  rintro e w1 ⟨V, rfl, ho1, hb1⟩
  rw [gL_tri] at ho1
  obtain ⟨A1, c1, rfl, hr1⟩ := ho1.form
  go_wp2_with fail
  refine (rtriangular_any _ _ _ _ _).mono ?_
  rintro e w2 ⟨V, rfl, ho2, hb2⟩
  obtain ⟨A2, c2, rfl, hr2⟩ := ho2.form
  go_wp2_with fail
  refine (same_true _ _ _ _ _ _ _ (hr1.below hb2) hr2 rfl HL.out).mono ?_
  rintro e w3 ⟨rfl, k1, rfl⟩
  go_wp2_with fail
  refine (works_any _).mono ?_
  rintro e w4 ⟨rfl, hb4⟩
  go_wp2_with fail
  go_ret
  exact ⟨rfl, ((hb1.trans (hb2.mono hb1.size)).drewN k1).trans (hb4.mono (Nat.le_trans hb1.size hb2.size))⟩

set_option maxRecDepth 100000 in
theorem latticeTrees_walk (a0 a1 : Int) (W : World) (w0 : (Lit.int .i64 a0).wf = true) (w1 : (Lit.int .i64 a1).wf = true) :
    Calls Try.prog 4 #[.int .i64 a0, .int .i64 a1] W fun e W' => e = .returned (.bool true) ∧ Below W.heap.size W W' := by
  have b0 := (bounds_i64 w0).2
  have b1 := (bounds_i64 w1).2
  clear w0 w1
  have HL : Hid ((tL a0 a1).length ≤ 1000000000) := by
    show _ ≤ _
    unfold tL; split
    · unfold trL; split
      · rename_i n hn; rw [treeL_len]; have := treeGo_le (by omega) (by omega) hn; omega
      · simp
    · simp
  go_enter Try.func4, Try.ntmps4
  go_wp2_with fail
  refine (tree_any _ _ _ (by omega) (by omega)).mono ?_
  rintro e w1 ⟨V, rfl, ho1, hb1⟩
  obtain ⟨A1, c1, rfl, hr1⟩ := ho1.form
  go_wp2_with fail
  refine (rtree_any _ _ _ (by omega) (by omega)).mono ?_
  rintro e w2 ⟨V, rfl, ho2, hb2⟩
  obtain ⟨A2, c2, rfl, hr2⟩ := ho2.form
  go_wp2_with fail
  refine (same_true _ _ _ _ _ _ _ (hr1.below hb2) hr2 rfl HL.out).mono ?_
  rintro e w3 ⟨rfl, k1, rfl⟩
  go_wp2_with fail
  refine (works_any _).mono ?_
  rintro e w4 ⟨rfl, hb4⟩
  go_wp2_with fail
  go_ret
  exact ⟨rfl, ((hb1.trans (hb2.mono hb1.size)).drewN k1).trans (hb4.mono (Nat.le_trans hb1.size hb2.size))⟩
end Go.Proofs.Ytbkgnachgpbcpaa
