/- seepageref13: Has, Count, Edges; graphs of the document that are nil. -/
import Derived.Test.YtpgkhmjlbaoagaaR13N
import Derived.Test.YtpgkhmjlbaoagaaGraCr
namespace Go.Proofs.Ytpgkhmjlbaoagaa
open Go.RowKit
set_option linter.unusedVariables false

theorem r13Has (w : World) (a : Int) (g : Nat) (A : Option Addr) (c n B : Nat) (l : List (Int × Int × Int)) (h : RG w g A c n B l) :
    Calls Try.prog 48 #[.pointer (some ⟨g, 0, none⟩), .int .i64 a] w fun e w' => e = .returned (.bool (inB n a)) ∧ w = w' := by
  have V := hide (r13Valid w g A c n B l h)
  obtain ⟨_, c1, _⟩ := h.cells
  have nb := h.nb
  clear h
  by_cases h0 : 0 ≤ a
  · go_enter Try.func48, Try.ntmps48
    go_wp2_with (go_at_call 47; refine V.out.mono ?_; rintro e w' ⟨rfl, rfl⟩)
    go_ret
    exact ⟨ret_bool (by simp [inB, h0]), rfl⟩
  · go_enter Try.func48, Try.ntmps48
    go_wp2_with (go_at_call 47; refine V.out.mono ?_; rintro e w' ⟨rfl, rfl⟩)
    go_ret
    exact ⟨ret_bool (by symm; simp [inB]; omega), rfl⟩
theorem r13Count (w : World) (g : Nat) (A : Option Addr) (c n B : Nat) (l : List (Int × Int × Int)) (h : RG w g A c n B l) :
    Calls Try.prog 37 #[.pointer (some ⟨g, 0, none⟩)] w fun e w' => e = .returned (.int .i64 (n : Int)) ∧ w = w' := by
  have V := hide (r13Valid w g A c n B l h)
  obtain ⟨_, c1, _⟩ := h.cells
  clear h
  go_enter Try.func37, Try.ntmps37
  go_wp2_with (go_at_call 47; refine V.out.mono ?_; rintro e w' ⟨rfl, rfl⟩)
  go_ret
  exact ⟨rfl, rfl⟩
set_option maxHeartbeats 4000000 in
theorem r13Edges (w : World) (g : Nat) (A : Option Addr) (c n B : Nat) (l : List (Int × Int × Int)) (h : RG w g A c n B l) :
    Calls Try.prog 39 #[.pointer (some ⟨g, 0, none⟩)] w
      fun e w' => ∃ A' c', e = .returned (.slice A' l.length c') ∧ OwnE w' w.heap.size (.slice A' l.length c') l ∧ Below w.heap.size w w' := by
  have V := hide (r13Valid w g A c n B l h)
  have hfr := h.fresh ((Below.refl w.heap.size w).alloc (Nat.le_refl _) (.cells #[] 48))
  obtain ⟨_, _, c2⟩ := hfr.cells
  have hr2 := hide hfr.rd
  have lb := h.lb
  have ho := hide ((World.ownsRow_made (e := 48) (size := 3) (base := w.heap.size) w #[] 0 (Nat.le_refl _) (by simp [maxLen]) rfl))
  obtain ⟨i0, hi, hz0, hz1, hz2⟩ := info_parts edge_info
  have hi' := hide hi
  have hz0' := hide hz0
  have hz1' := hide hz1
  have hz2' := hide hz2
  have HLL : Hid (∀ m, m = l.length → m = l.length) := fun _ h => h
  clear hi hz0 hz1 hz2 hfr h
  obtain ⟨m, hm⟩ : ∃ m, m = l.length := ⟨_, rfl⟩
  rw [← hm] at c2 lb ⊢
  have HM := hide hm
  clear hm
  go_enter Try.func39, Try.ntmps39
  go_wp2_with (first | (go_at_call 47; refine V.out.mono ?_; rintro e w' ⟨rfl, rfl⟩) | (at_builtin; (refine app_any2 22 48 Try.underlying22 hi'.out hz0'.out hz1'.out hz2'.out rfl (by decide) _ A m c (ecs l) (by rw [HM.out]; exact hr2.out) (ecs_oneCell l) rfl _ _ rfl w.heap.size _ 0 [] rfl ho.out rfl (by unfold maxLen; omega) (by omega) (by simp) ?_; intro v' w1 hown hgr hat hnn hbel; simp only [Nat.zero_add, List.nil_append] at hown; obtain ⟨A5, c5, hv5, -⟩ := own_form hown; subst hv5; have HO5 := hide hown; have HBE := hide hbel; clear hown hgr hat hnn hbel)))
  go_ret
  exact ⟨A5, c5, rfl, by unfold OwnE; rw [← HM.out]; exact HO5.out, ((Below.refl _ w).alloc (Nat.le_refl _) _).trans HBE.out⟩

theorem r13N_valid (w : World) : Calls Try.prog 47 #[.pointer none] w fun e w' => e = .returned (.bool false) ∧ w = w' := by
  go_enter Try.func47, Try.ntmps47
  go_wp2
  go_ret
  exact ⟨rfl, rfl⟩
theorem r13N_Has (w : World) (a : Int) : Calls Try.prog 48 #[.pointer none, .int .i64 a] w fun e w' => e = .returned (.bool false) ∧ w = w' := by
  go_enter Try.func48, Try.ntmps48
  go_wp2_with (go_at_call 47; refine (r13N_valid _).mono ?_; rintro e w' ⟨rfl, rfl⟩)
  go_ret
  exact ⟨rfl, rfl⟩
theorem r13N_Count (w : World) : Calls Try.prog 37 #[.pointer none] w fun e w' => e = .returned (.int .i64 0) ∧ w = w' := by
  go_enter Try.func37, Try.ntmps37
  go_wp2_with (go_at_call 47; refine (r13N_valid _).mono ?_; rintro e w' ⟨rfl, rfl⟩)
  go_ret
  exact ⟨rfl, rfl⟩
theorem r13N_Edges (w : World) : Calls Try.prog 39 #[.pointer none] w fun e w' => e = .returned (.slice none 0 0) ∧ w = w' := by
  go_enter Try.func39, Try.ntmps39
  go_wp2_with (go_at_call 47; refine (r13N_valid _).mono ?_; rintro e w' ⟨rfl, rfl⟩)
  go_ret
  exact ⟨rfl, rfl⟩
theorem r13N_Labels (w : World) : Calls Try.prog 28 #[.pointer none] w fun e w' => e = .returned (.slice none 0 0) ∧ w = w' := by
  go_enter Try.func28, Try.ntmps28
  go_wp2_with (go_at_call 47; refine (r13N_valid _).mono ?_; rintro e w' ⟨rfl, rfl⟩)
  go_ret
  exact ⟨rfl, rfl⟩
theorem r13N_Under (w : World) (a : Int) : Calls Try.prog 35 #[.pointer none, .int .i64 a] w fun e w' => e = .returned (.pointer none) ∧ w = w' := by
  go_enter Try.func35, Try.ntmps35
  go_wp2_with (go_at_call 47; refine (r13N_valid _).mono ?_; rintro e w' ⟨rfl, rfl⟩)
  go_ret
  exact ⟨rfl, rfl⟩
theorem r13N_Strength (w : World) (a : Int) : Calls Try.prog 16 #[.pointer none, .int .i64 a] w fun e w' => e = .returned (.tuple #[.int .i64 0, .int .i64 1]) ∧ w = w' := by
  go_enter Try.func16, Try.ntmps16
  go_wp2_with (go_at_call 47; refine (r13N_valid _).mono ?_; rintro e w' ⟨rfl, rfl⟩)
  go_ret2
  exact ⟨rfl, rfl⟩
theorem r13N_Around (w : World) (a : Int) : Calls Try.prog 17 #[.pointer none, .int .i64 a] w fun e w' => e = .returned (.slice none 0 0) ∧ w = w' := by
  go_enter Try.func17, Try.ntmps17
  go_wp2_with (go_at_call 48; refine (r13N_Has _ _).mono ?_; rintro e w' ⟨rfl, rfl⟩)
  go_ret
  exact ⟨rfl, rfl⟩
end Go.Proofs.Ytpgkhmjlbaoagaa
