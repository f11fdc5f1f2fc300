/- The walk of LatticeKnown: the examples and the limits. -/
import Derived.Test.YtbkgnachgpbcpaaLatWW
import Derived.Test.YtbkgnachgpbcpaaLatO
namespace Go.Proofs.Ytbkgnachgpbcpaa
open Go.RowKit
set_option linter.unusedVariables false

theorem treeGo_line (d n : Nat) (h : n + d ≤ 4096) : treeGo 1 d n 1 = some (n + d) := by
  induction d generalizing n with
  | zero => rfl
  | succ d ih =>
    rw [treeGo_succ _ _ _ _ (by omega), if_neg (by omega)]
    have := ih (n + 1) (by omega)
    simp only [Nat.mul_one, Nat.add_sub_cancel]
    rw [this]; congr 1; omega
theorem kn_tree1 : tN 1 4095 = 4096 ∧ tE 1 4095 = 0 ∧ (tL 1 4095).length = 4095 := by
  have h : treeGo (1 : Int).toNat (4095 : Int).toNat 1 1 = some 4096 := treeGo_line 4095 1 (by decide)
  refine ⟨?_, ?_, ?_⟩
  · rw [tN, if_pos (by decide), trN, h]; rfl
  · rw [tE, if_pos (by decide), trE, h]
  · rw [tL, if_pos (by decide), trL, h]; exact treeL_len 1 4096
theorem kn_tree2 : tE 1 4096 = 2 := by
  have h : treeGo (1 : Int).toNat (4096 : Int).toNat 1 1 = none := treeGo_big (Nat.le_refl _) 4096 1 1 (Nat.le_refl _) (by decide) (by decide)
  rw [tE, if_pos (by decide), trE, h]
theorem kn_tree3 : tN 9223372036854775807 0 = 1 ∧ tE 9223372036854775807 0 = 0 ∧ tL 9223372036854775807 0 = [] := by decide +kernel
theorem kn_tree4 : tE 4096 1 = 2 ∧ tE 0 0 = 2 := by decide +kernel
theorem kn_sq : gN 3 2 = 6 ∧ gE 3 2 = 0 ∧ gL 3 2 false false sqD = [(0, 1, 0), (0, 3, 0), (1, 2, 0), (1, 4, 0), (2, 5, 0), (3, 4, 0), (4, 5, 0)] ∧
    gL 3 2 true true sqD = [(0, 1, 0), (0, 3, 0), (1, 2, 0), (1, 4, 0), (2, 0, 0), (2, 5, 0), (3, 4, 0), (4, 5, 0), (5, 3, 0)] := by decide +kernel
theorem kn_big : gE 64 64 = 0 ∧ gE 1 4096 = 0 ∧ gE 64 65 = 2 ∧ gE 0 5 = 2 ∧ gE 4611686018427387904 4 = 2 := by decide +kernel
theorem kn_len1 : (gL 64 64 true true sqD).length = 8192 := by decide +kernel
theorem kn_len2 : (gL 1 4096 true true triD).length = 4096 := by decide +kernel
theorem kn_comp : compE 181 = 0 ∧ compE 182 = 16 ∧ compE 4097 = 2 ∧ compE 0 = 0 ∧ compLst 0 = [] := by decide +kernel
theorem kn_len3 : (compLst 181).length = 16290 := by decide +kernel

theorem sq_len (w h : Int) (wx wy : Bool) (n : Nat) (x y : Int) (h1 : gN w h = x) (h2 : gE w h = y) (hl : (gL w h wx wy sqD).length = n) (W : World) :
    Calls Try.prog 19 #[.int .i64 w, .int .i64 h, .bool wx, .bool wy] W fun e W' => ∃ A c, e = .returned (.tuple #[.int .i64 x, .slice A n c, .int .i64 y]) ∧ Below W.heap.size W W' := by
  refine (square_any w h wx wy W).mono fun e W' ⟨V, he, ho, hb⟩ => ?_
  obtain ⟨A, c, rfl, _⟩ := ho.form
  subst h1; subst h2; subst hl
  exact ⟨A, c, he, hb⟩
theorem tr_len (w h : Int) (wx wy : Bool) (n : Nat) (x y : Int) (h1 : gN w h = x) (h2 : gE w h = y) (hl : (gL w h wx wy triD).length = n) (W : World) :
    Calls Try.prog 13 #[.int .i64 w, .int .i64 h, .bool wx, .bool wy] W fun e W' => ∃ A c, e = .returned (.tuple #[.int .i64 x, .slice A n c, .int .i64 y]) ∧ Below W.heap.size W W' := by
  refine (triangular_any w h wx wy W).mono fun e W' ⟨V, he, ho, hb⟩ => ?_
  obtain ⟨A, c, rfl, _⟩ := ho.form
  subst h1; subst h2; subst hl
  exact ⟨A, c, he, hb⟩
theorem co_len (n : Int) (m : Nat) (y : Int) (h2 : compE n = y) (hl : (compLst n).length = m) (W : World) :
    Calls Try.prog 27 #[.int .i64 n] W fun e W' => ∃ A c, e = .returned (.tuple #[.slice A m c, .int .i64 y]) ∧ Below W.heap.size W W' := by
  refine (complete_any n W).mono fun e W' ⟨V, he, ho, hb⟩ => ?_
  obtain ⟨A, c, rfl, _⟩ := ho.form
  subst h2; subst hl
  exact ⟨A, c, he, hb⟩
theorem te_len (c d : Int) (m : Nat) (x y : Int) (hc : c ≤ 9223372036854775807) (hd : d ≤ 9223372036854775807) (h1 : tN c d = x) (h2 : tE c d = y) (hl : (tL c d).length = m) (W : World) :
    Calls Try.prog 17 #[.int .i64 c, .int .i64 d] W fun e W' => ∃ A q, e = .returned (.tuple #[.int .i64 x, .slice A m q, .int .i64 y]) ∧ Below W.heap.size W W' := by
  refine (tree_any c d W hc hd).mono fun e W' ⟨V, he, ho, hb⟩ => ?_
  obtain ⟨A, q, rfl, _⟩ := ho.form
  subst h1; subst h2; subst hl
  exact ⟨A, q, he, hb⟩
theorem kn_n : gN 64 64 = 4096 ∧ gN 1 4096 = 4096 ∧ gN 64 65 = 0 ∧ gN 0 5 = 0 ∧ gN 4611686018427387904 4 = 0 := by decide +kernel
theorem kn_none : (gL 64 65 true true sqD).length = 0 ∧ (gL 0 5 true true triD).length = 0 ∧ (gL 4611686018427387904 4 false false sqD).length = 0 := by decide +kernel
theorem kn_c2 : (compLst 182).length = 0 ∧ (compLst 4097).length = 0 ∧ (compLst 0).length = 0 := by decide +kernel
theorem kn_t2 : tN 1 4096 = 0 ∧ (tL 1 4096).length = 0 := by
  have h : treeGo (1 : Int).toNat (4096 : Int).toNat 1 1 = none := treeGo_big (Nat.le_refl _) 4096 1 1 (Nat.le_refl _) (by decide) (by decide)
  refine ⟨?_, ?_⟩
  · rw [tN, if_pos (by decide), trN, h]
  · rw [tL, if_pos (by decide), trL, h]; rfl
theorem kn_t4 : tN 4096 1 = 0 ∧ (tL 4096 1).length = 0 ∧ tN 0 0 = 0 ∧ (tL 0 0).length = 0 ∧ (tL 9223372036854775807 0).length = 0 := by decide +kernel

set_option maxRecDepth 200000 in
set_option maxHeartbeats 8000000 in
theorem latticeKnown_walk (W : World) : Calls Try.prog 12 #[] W fun e W' => e = .returned (.bool true) ∧ Below W.heap.size W W' := by
  have HS1 : Hid (∀ W, Calls Try.prog 19 #[.int .i64 3, .int .i64 2, .bool false, .bool false] W
      fun e W' => ∃ V, e = .returned (.tuple #[.int .i64 6, V, .int .i64 0]) ∧ OwnE W' W.heap.size V [(0, 1, 0), (0, 3, 0), (1, 2, 0), (1, 4, 0), (2, 5, 0), (3, 4, 0), (4, 5, 0)] ∧ Below W.heap.size W W') := fun W => by
    have h := square_any 3 2 false false W; rwa [kn_sq.1, kn_sq.2.1, kn_sq.2.2.1] at h
  have HS2 : Hid (∀ W, Calls Try.prog 19 #[.int .i64 3, .int .i64 2, .bool true, .bool true] W
      fun e W' => ∃ V, e = .returned (.tuple #[.int .i64 6, V, .int .i64 0]) ∧ OwnE W' W.heap.size V [(0, 1, 0), (0, 3, 0), (1, 2, 0), (1, 4, 0), (2, 0, 0), (2, 5, 0), (3, 4, 0), (4, 5, 0), (5, 3, 0)] ∧ Below W.heap.size W W') := fun W => by
    have h := square_any 3 2 true true W; rwa [kn_sq.1, kn_sq.2.1, kn_sq.2.2.2] at h
  have S3 := hide (sq_len 64 64 true true 8192 4096 0 kn_n.1 kn_big.1 kn_len1)
  have T4 := hide (tr_len 1 4096 true true 4096 4096 0 kn_n.2.1 kn_big.2.1 kn_len2)
  have S5 := hide (sq_len 64 65 true true 0 0 2 kn_n.2.2.1 kn_big.2.2.1 kn_none.1)
  have T6 := hide (tr_len 0 5 true true 0 0 2 kn_n.2.2.2.1 kn_big.2.2.2.1 kn_none.2.1)
  have S7 := hide (sq_len 4611686018427387904 4 false false 0 0 2 kn_n.2.2.2.2 kn_big.2.2.2.2 kn_none.2.2)
  have C1 := hide (co_len 181 16290 0 kn_comp.1 kn_len3)
  have C2 := hide (co_len 182 0 16 kn_comp.2.1 kn_c2.1)
  have C3 := hide (co_len 4097 0 2 kn_comp.2.2.1 kn_c2.2.1)
  have C4 := hide (co_len 0 0 0 kn_comp.2.2.2.1 kn_c2.2.2)
  have E1 := hide (te_len 1 4095 4095 4096 0 (by decide) (by decide) kn_tree1.1 kn_tree1.2.1 kn_tree1.2.2)
  have E2 := hide (te_len 1 4096 0 0 2 (by decide) (by decide) kn_t2.1 kn_tree2 kn_t2.2)
  have E3 := hide (te_len 9223372036854775807 0 0 1 0 (by decide) (by decide) kn_tree3.1 kn_tree3.2.1 kn_t4.2.2.2.2)
  have E4 := hide (te_len 4096 1 0 0 2 (by decide) (by decide) kn_t4.1 kn_tree4.1 kn_t4.2.1)
  have E5 := hide (te_len 0 0 0 0 2 (by decide) (by decide) kn_t4.2.2.1 kn_tree4.2 kn_t4.2.2.2.1)
  go_enter Try.func12, Try.ntmps12
  go_wp2_with fail
  refine (HS1.out _).mono ?_
  rintro e w1 ⟨V, rfl, ho1, hb1⟩
  obtain ⟨A1, c1, rfl, hr1⟩ := ho1.form
  go_wp2_with fail
  refine (HS2.out _).mono ?_
  rintro e w2 ⟨V, rfl, ho2, hb2⟩
  obtain ⟨A2, c2, rfl, hr2⟩ := ho2.form
  go_wp2_with fail
  refine (same_true _ _ 7 _ _ [(0, 1, 0), (0, 3, 0), (1, 2, 0), (1, 4, 0), (2, 5, 0), (3, 4, 0), (4, 5, 0)] _ ((hr1.below hb2).alloc _) (Rd.lit _ _ _ 7 3 rfl) rfl (by decide)).mono ?_
  rintro e w4 ⟨rfl, k1, rfl⟩
  go_wp2_with fail
  refine (same_true _ _ 9 _ _ [(0, 1, 0), (0, 3, 0), (1, 2, 0), (1, 4, 0), (2, 0, 0), (2, 5, 0), (3, 4, 0), (4, 5, 0), (5, 3, 0)] _ (((hr2.alloc _).alloc _).drewN _) ((Rd.lit' _ _ _ 9 3 _ (by simp) rfl).drewN _) rfl (by decide)).mono ?_
  rintro e w5 ⟨rfl, k2, rfl⟩
  have B0 := hide (((hb1.trans (hb2.mono hb1.size)).trans (((Below.refl _ _).alloc (Nat.le_trans hb1.size hb2.size) (.cells #[.int .i64 0, .int .i64 1, .int .i64 0, .int .i64 0, .int .i64 3, .int .i64 0, .int .i64 1, .int .i64 2, .int .i64 0, .int .i64 1, .int .i64 4, .int .i64 0, .int .i64 2, .int .i64 5, .int .i64 0, .int .i64 3, .int .i64 4, .int .i64 0, .int .i64 4, .int .i64 5, .int .i64 0] 37)).alloc (by simp; have := hb1.size; have := hb2.size; omega) (.cells #[.int .i64 0, .int .i64 1, .int .i64 0, .int .i64 0, .int .i64 3, .int .i64 0, .int .i64 1, .int .i64 2, .int .i64 0, .int .i64 1, .int .i64 4, .int .i64 0, .int .i64 2, .int .i64 0, .int .i64 0, .int .i64 2, .int .i64 5, .int .i64 0, .int .i64 3, .int .i64 4, .int .i64 0, .int .i64 4, .int .i64 5, .int .i64 0, .int .i64 5, .int .i64 3, .int .i64 0] 37))).drewN (k1 + k2))
  clear hb1 hb2 hr1 hr2 ho1 ho2
  go_wp2_with fail
  refine (S3.out _).mono ?_
  rintro e u0 ⟨P0, q0, rfl, hb⟩
  have B1 := hide (B0.out.trans (hb.mono B0.out.size))
  clear hb B0
  go_wp2_with fail
  refine (T4.out _).mono ?_
  rintro e u1 ⟨P1, q1, rfl, hb⟩
  have B2 := hide (B1.out.trans (hb.mono B1.out.size))
  clear hb B1
  go_wp2_with fail
  refine (S5.out _).mono ?_
  rintro e u2 ⟨P2, q2, rfl, hb⟩
  have B3 := hide (B2.out.trans (hb.mono B2.out.size))
  clear hb B2
  go_wp2_with fail
  refine (T6.out _).mono ?_
  rintro e u3 ⟨P3, q3, rfl, hb⟩
  have B4 := hide (B3.out.trans (hb.mono B3.out.size))
  clear hb B3
  go_wp2_with fail
  refine (S7.out _).mono ?_
  rintro e u4 ⟨P4, q4, rfl, hb⟩
  have B5 := hide (B4.out.trans (hb.mono B4.out.size))
  clear hb B4
  go_wp2_with fail
  refine (C1.out _).mono ?_
  rintro e u5 ⟨P5, q5, rfl, hb⟩
  have B6 := hide (B5.out.trans (hb.mono B5.out.size))
  clear hb B5
  go_wp2_with fail
  refine (C2.out _).mono ?_
  rintro e u6 ⟨P6, q6, rfl, hb⟩
  have B7 := hide (B6.out.trans (hb.mono B6.out.size))
  clear hb B6
  go_wp2_with fail
  refine (C3.out _).mono ?_
  rintro e u7 ⟨P7, q7, rfl, hb⟩
  have B8 := hide (B7.out.trans (hb.mono B7.out.size))
  clear hb B7
  go_wp2_with fail
  refine (C4.out _).mono ?_
  rintro e u8 ⟨P8, q8, rfl, hb⟩
  have B9 := hide (B8.out.trans (hb.mono B8.out.size))
  clear hb B8
  go_wp2_with fail
  refine (E1.out _).mono ?_
  rintro e u9 ⟨P9, q9, rfl, hb⟩
  have B10 := hide (B9.out.trans (hb.mono B9.out.size))
  clear hb B9
  go_wp2_with fail
  refine (E2.out _).mono ?_
  rintro e u10 ⟨P10, q10, rfl, hb⟩
  have B11 := hide (B10.out.trans (hb.mono B10.out.size))
  clear hb B10
  go_wp2_with fail
  refine (E3.out _).mono ?_
  rintro e u11 ⟨P11, q11, rfl, hb⟩
  have B12 := hide (B11.out.trans (hb.mono B11.out.size))
  clear hb B11
  go_wp2_with fail
  refine (E4.out _).mono ?_
  rintro e u12 ⟨P12, q12, rfl, hb⟩
  have B13 := hide (B12.out.trans (hb.mono B12.out.size))
  clear hb B12
  go_wp2_with fail
  refine (E5.out _).mono ?_
  rintro e u13 ⟨P13, q13, rfl, hb⟩
  have B14 := hide (B13.out.trans (hb.mono B13.out.size))
  clear hb B13
  go_wp2_with fail
  refine (weights_no _ _ none 7 0 _ 0 (by decide) (by decide) (by decide)).mono ?_
  rintro e u20 ⟨rfl, rfl⟩
  go_wp2_with fail
  refine (works_any _).mono ?_
  rintro e u21 ⟨rfl, hb⟩
  go_wp2_with fail
  go_ret
  exact ⟨rfl, B14.out.trans (hb.mono B14.out.size)⟩
end Go.Proofs.Ytbkgnachgpbcpaa
