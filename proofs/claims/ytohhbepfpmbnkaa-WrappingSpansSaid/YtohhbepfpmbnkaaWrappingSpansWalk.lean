/- The walk of WrappingSpans. -/
import Derived.Test.YtohhbepfpmbnkaaSpanR
namespace Go.Proofs.Ytohhbepfpmbnkaa
open Go.RowKit
set_option linter.unusedVariables false

theorem small_no (w h : Int) (W : World) (ht : torB w h = false) :
    Calls Try.prog 54 #[.int .i64 w, .int .i64 h] W fun e W' => e = .returned (.bool true) ∧ W = W' := by
  have HI := r30Sizes w h W
  rw [ht] at HI
  have HI2 := hide HI
  clear HI ht
  go_enter Try.func54, Try.ntmps54
  go_wp2_with fail
  refine HI2.out.mono ?_
  rintro e w' ⟨rfl, rfl⟩
  go_wp2_with fail
  go_ret
  exact ⟨rfl, rfl⟩
theorem small_ok (w h : Int) (W : World) (ht : torB w h = true) (b : Bool) (hb : decide (w * h ≤ 60) = b) :
    Calls Try.prog 54 #[.int .i64 w, .int .i64 h] W fun e W' => e = .returned (.bool b) ∧ W = W' := by
  have HI := r30Sizes w h W
  rw [ht] at HI
  have HI2 := hide HI
  obtain ⟨h1, h2, h3, h4, h5⟩ : 1 ≤ w ∧ 1 ≤ h ∧ w ≤ 4096 ∧ h ≤ 4096 ∧ w * h ≤ 4096 := by unfold torB at ht; exact of_decide_eq_true ht
  have b1 : 0 ≤ w * h := Int.mul_nonneg (by omega) (by omega)
  have HB := hide hb
  clear HI ht hb
  go_enter Try.func54, Try.ntmps54
  go_wp2_with fail
  refine HI2.out.mono ?_
  rintro e w' ⟨rfl, rfl⟩
  go_wp2_with fail
  go_ret
  exact ⟨ret_bool HB.out, rfl⟩

theorem beq_self_i (E : Int) : (E == E) = true := by simp
theorem beq_self_b (b : Bool) : (b == b) = true := by simp

/-- the end: both answered alike, and works holds. -/
theorem wrappingSpans_big (a0 a1 : Int) (W : World) (A : Option Addr) (n c : Nat) (ht : torB a0 a1 = true) (h60 : ¬ a0 * a1 ≤ 60) :
    Calls Try.prog 15 #[.int .i64 a0, .int .i64 a1, .slice A n c] W fun e W' => e = .returned (.bool true) ∧ Below W.heap.size W W' := by
  have HS := hide (small_ok a0 a1 W ht false (by simp; omega))
  clear ht h60
  go_enter Try.func15, Try.ntmps15
  go_wp2_with fail
  refine HS.out.mono ?_
  rintro e w' ⟨rfl, rfl⟩
  go_wp2_with fail
  refine (works30 _).mono ?_
  rintro e w9 ⟨rfl, hb9⟩
  go_wp2_with fail
  go_ret
  exact ⟨rfl, hb9⟩
theorem wrappingSpans_long (a0 a1 : Int) (W : World) (A : Option Addr) (n c : Nat) (hs : ∀ W : World, Calls Try.prog 54 #[.int .i64 a0, .int .i64 a1] W fun e W' => e = .returned (.bool true) ∧ W = W') (hn9 : n ≤ 9223372036854775807) (hl : ¬ n ≤ 150) :
    Calls Try.prog 15 #[.int .i64 a0, .int .i64 a1, .slice A n c] W fun e W' => e = .returned (.bool true) ∧ Below W.heap.size W W' := by
  have HS := hide (hs W)
  clear hs
  go_enter Try.func15, Try.ntmps15
  go_wp2_with fail
  refine HS.out.mono ?_
  rintro e w' ⟨rfl, rfl⟩
  go_wp2_with fail
  refine (works30 _).mono ?_
  rintro e w9 ⟨rfl, hb9⟩
  go_wp2_with fail
  go_ret
  exact ⟨rfl, hb9⟩
theorem wrappingSpans_run (a0 a1 : Int) (W : World) (A : Option Addr) (n c : Nat) (hs : ∀ W : World, Calls Try.prog 54 #[.int .i64 a0, .int .i64 a1] W fun e W' => e = .returned (.bool true) ∧ W = W') (hl : n ≤ 150) (b : Bool) (E : Int)
    (h1 : Calls Try.prog 56 #[.int .i64 a0, .int .i64 a1, .slice A n c] W fun e w' => e = .returned (.tuple #[.bool b, .int .i64 E]) ∧ Below W.heap.size W w')
    (h2 : ∀ w, Below W.heap.size W w → Calls Try.prog 57 #[.int .i64 a0, .int .i64 a1, .slice A n c] w fun e w' => e = .returned (.tuple #[.bool b, .int .i64 E]) ∧ Below w.heap.size w w') :
    Calls Try.prog 15 #[.int .i64 a0, .int .i64 a1, .slice A n c] W fun e W' => e = .returned (.bool true) ∧ Below W.heap.size W W' := by
  have HS := hide (hs W)
  have H1 := hide h1
  have H2 := hide h2
  clear hs h1 h2
  go_enter Try.func15, Try.ntmps15
  go_wp2_with fail
  refine HS.out.mono ?_
  rintro e w' ⟨rfl, rfl⟩
  go_wp2_with fail
  refine H1.out.mono ?_
  rintro e w1 ⟨rfl, hb1⟩
  have HB1 := hide hb1
  clear hb1
  go_wp2_with fail
  refine (H2.out _ HB1.out).mono ?_
  rintro e w2 ⟨rfl, hb2⟩
  have HB2 := hide (HB1.out.trans (hb2.mono HB1.out.size))
  clear hb2
  obtain ⟨b', hb'⟩ : ∃ b', b' = b := ⟨_, rfl⟩
  go_wp2_with fail
  refine (works30 _).mono ?_
  rintro e w9 ⟨rfl, hb9⟩
  go_wp2_with fail
  go_ret
  exact ⟨rfl, HB2.out.trans (hb9.mono HB2.out.size)⟩

theorem wrappingSpans_walk (a0 a1 : Int) (v2 : Value) (l : List (Int × Int × Int)) (W : World) (w0 : (Lit.int .i64 a0).wf = true) (w1 : (Lit.int .i64 a1).wf = true) (w2 : IsEdges W v2 l) :
    Calls Try.prog 15 #[.int .i64 a0, .int .i64 a1, v2] W fun e W' => e = .returned (.bool true) ∧ Below W.heap.size W W' := by
  obtain ⟨A, n, c, rfl, hn, hlen, _, hr⟩ := w2
  have hn9 : n ≤ 9223372036854775807 := by unfold maxLen at hn; omega
  by_cases ht : torB a0 a1 = true
  · by_cases h60 : a0 * a1 ≤ 60
    · have hs : ∀ W : World, Calls Try.prog 54 #[.int .i64 a0, .int .i64 a1] W fun e W' => e = .returned (.bool true) ∧ W = W' :=
        fun W => small_ok a0 a1 W ht true (decide_eq_true h60)
      by_cases hl : n ≤ 150
      · obtain ⟨X, Y, rfl, rfl, -⟩ := torB_nat ht
        by_cases hE : newE ((X * Y : Nat) : Int) l = 0
        · exact wrappingSpans_run _ _ W A n c hs hl (spanB X Y (gLb (X * Y) l)) 0 (wrSpans_ok W X Y (X * Y) n c A l ht rfl hr hlen hE)
            (fun w hb => r30Spans_ok w X Y (X * Y) n c A l ht rfl (hr.below hb) hlen hE)
        · exact wrappingSpans_run _ _ W A n c hs hl false _ (wrSpans_err W X Y (X * Y) n c A l ht rfl hr hlen hn9 hE)
            (fun w hb => r30Spans_err w X Y (X * Y) n c A l ht rfl (hr.below hb) hlen hn9 hE)
      · exact wrappingSpans_long _ _ W A n c hs hn9 hl
    · exact wrappingSpans_big _ _ W A n c ht h60
  · have ht : torB a0 a1 = false := by simpa using ht
    have hs : ∀ W : World, Calls Try.prog 54 #[.int .i64 a0, .int .i64 a1] W fun e W' => e = .returned (.bool true) ∧ W = W' := fun W => small_no a0 a1 W ht
    by_cases hl : n ≤ 150
    · exact wrappingSpans_run _ _ W A n c hs hl false 2 ((wrSpans_no W a0 a1 _ ht).mono fun e w' ⟨h, h2⟩ => ⟨h, h2 ▸ Below.refl _ _⟩)
        (fun w hb => (r30Spans_no w a0 a1 _ ht).mono fun e w' ⟨h, h2⟩ => ⟨h, h2 ▸ Below.refl _ _⟩)
    · exact wrappingSpans_long _ _ W A n c hs hn9 hl
end Go.Proofs.Ytohhbepfpmbnkaa
