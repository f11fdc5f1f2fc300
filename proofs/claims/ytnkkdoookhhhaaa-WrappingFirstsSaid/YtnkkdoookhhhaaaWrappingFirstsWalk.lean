/- The walk of WrappingFirsts. -/
import Derived.Test.YtnkkdoookhhhaaaWrapRv
import Derived.Test.YtnkkdoookhhhaaaWrapSm
import Derived.Test.YtnkkdoookhhhaaaWrapK
namespace Go.Proofs.Ytnkkdoookhhhaaa
open Go.RowKit
set_option linter.unusedVariables false

/-- Whether works alone is asked. -/
def firstsOut (b s : Bool) (p : Int) (n : Nat) : Prop := b = false ∨ (s = true ∧ 40 < p) ∨ 100 < n

theorem wrappingFirsts_works (a0 a1 : Int) (W : World) (A : Option Addr) (n c : Nat) (b : Bool) (hn9 : n ≤ 9223372036854775807) (hs : Calls Try.prog 13 #[.int .i64 a0, .int .i64 a1] W fun e W' => e = .returned (.bool b) ∧ W = W')
    (h : b = false ∨ (b = true ∧ torB a0 a1 = true ∧ 40 < a0 * a1 ∧ a0 * a1 ≤ 4096) ∨ (b = true ∧ torB a0 a1 = true ∧ 0 ≤ a0 * a1 ∧ a0 * a1 ≤ 40 ∧ 100 < n) ∨ (b = true ∧ torB a0 a1 = false ∧ 100 < n)) :
    Calls Try.prog 3 #[.int .i64 a0, .int .i64 a1, .slice A n c] W fun e W' => e = .returned (.bool true) ∧ Below W.heap.size W W' := by
  have HS := hide hs
  have SZ := fun w => r30Sizes a0 a1 w
  clear hs
  rcases h with rfl | ⟨rfl, ht, h1, h2⟩ | ⟨rfl, ht, h1, h2, h3⟩ | ⟨rfl, ht, h1⟩
  · clear SZ
    go_enter Try.func3, Try.ntmps3
    go_wp2_with fail
    refine HS.out.mono ?_
    rintro e w' ⟨rfl, rfl⟩
    go_wp2_with fail
    refine (works30 _).mono ?_
    rintro e w9 ⟨rfl, hb9⟩
    go_wp2_with fail
    go_ret
    exact ⟨rfl, hb9⟩
  all_goals
    rw [ht] at SZ
    have HSZ := hide SZ
    clear SZ ht
    go_enter Try.func3, Try.ntmps3
    go_wp2_with fail
    refine HS.out.mono ?_
    rintro e w' ⟨rfl, rfl⟩
    go_wp2_with fail
    refine (HSZ.out _).mono ?_
    rintro e w' ⟨rfl, rfl⟩
    go_wp2_with fail
    refine (works30 _).mono ?_
    rintro e w9 ⟨rfl, hb9⟩
    go_wp2_with fail
    go_ret
    exact ⟨rfl, hb9⟩

theorem wrappingFirsts_run (a0 a1 : Int) (W : World) (A : Option Addr) (n c : Nat) (hn : n ≤ 100) (hs : Calls Try.prog 13 #[.int .i64 a0, .int .i64 a1] W fun e W' => e = .returned (.bool true) ∧ W = W')
    (h : (torB a0 a1 = true ∧ 0 ≤ a0 * a1 ∧ a0 * a1 ≤ 40) ∨ torB a0 a1 = false) (k : Int) (b : Bool) (E : Int)
    (h1 : Calls Try.prog 16 #[.int .i64 a0, .int .i64 a1, .slice A n c] W fun e w' => e = .returned (.tuple #[.int .i64 k, .bool b, .int .i64 E]) ∧ Below W.heap.size W w')
    (h2 : ∀ w, Below W.heap.size W w → Calls Try.prog 17 #[.int .i64 a0, .int .i64 a1, .slice A n c] w fun e w' => e = .returned (.tuple #[.int .i64 k, .bool b, .int .i64 E]) ∧ Below w.heap.size w w') :
    Calls Try.prog 3 #[.int .i64 a0, .int .i64 a1, .slice A n c] W fun e W' => e = .returned (.bool true) ∧ Below W.heap.size W W' := by
  have HS := hide hs
  have SZ := fun w => r30Sizes a0 a1 w
  have H1 := hide h1
  have H2 := hide h2
  clear hs h1 h2
  rcases h with ⟨ht, h3, h4⟩ | ht
  all_goals
    rw [ht] at SZ
    have HSZ := hide SZ
    clear SZ ht
    go_enter Try.func3, Try.ntmps3
    go_wp2_with fail
    refine HS.out.mono ?_
    rintro e w' ⟨rfl, rfl⟩
    go_wp2_with fail
    refine (HSZ.out _).mono ?_
    rintro e w' ⟨rfl, rfl⟩
    go_wp2_with fail
    refine H1.out.mono ?_
    rintro e w1 ⟨rfl, hb1⟩
    have HB1 := hide hb1
    clear hb1
    go_wp2_with fail
    refine (H2.out _ HB1.out).mono ?_
    rintro e w2 ⟨rfl, hb2⟩
    have HB2 := hide (HB1.out.trans (hb2.mono HB1.out.size))
    clear hb2
    go_wp2_with fail
    refine (works30 _).mono ?_
    rintro e w9 ⟨rfl, hb9⟩
    go_wp2_with fail
    go_ret
    exact ⟨rfl, HB2.out.trans (hb9.mono HB2.out.size)⟩

theorem wrappingFirsts_walk (a0 a1 : Int) (v2 : Value) (l : List Int) (W : World) (w0 : (Lit.int .i64 a0).wf = true) (w1 : (Lit.int .i64 a1).wf = true) (w2 : IsInts .i64 W v2 l) :
    Calls Try.prog 3 #[.int .i64 a0, .int .i64 a1, v2] W fun e W' => e = .returned (.bool true) ∧ Below W.heap.size W W' := by
  obtain ⟨A, n, c, rfl, hn, hlen, _, hr⟩ := w2
  have hn9 : n ≤ 9223372036854775807 := by unfold maxLen at hn; omega
  have hr' : Rd W A n 1 (is l) := hr
  by_cases ht : torB a0 a1 = true
  · obtain ⟨b1, b2, b3, b4, b5⟩ : 1 ≤ a0 ∧ 1 ≤ a1 ∧ a0 ≤ 4096 ∧ a1 ≤ 4096 ∧ a0 * a1 ≤ 4096 := by unfold torB at ht; exact of_decide_eq_true ht
    have b0 : 0 ≤ a0 * a1 := Int.mul_nonneg (by omega) (by omega)
    by_cases h60 : a0 * a1 ≤ 60
    · have hs := small_ok a0 a1 W ht true (decide_eq_true h60)
      by_cases h40 : a0 * a1 ≤ 40
      · by_cases hl : n ≤ 100
        · obtain ⟨X, Y, rfl, rfl, -⟩ := torB_nat ht
          cases hok : ordOk (2 * (X * Y)) l
          · exact wrappingFirsts_run _ _ W A n c hl hs (.inl ⟨ht, b0, h40⟩) 0 false 2 (torFirst_bad W X Y A n c l ht hlen hn9 hr' hok)
              (fun w hb => r30First_bad w X Y A n c l ht hlen hl (hr'.below hb) hok)
          · exact wrappingFirsts_run _ _ W A n c hl hs (.inl ⟨ht, b0, h40⟩) _ _ 0 (torFirst_ok W X Y A n c l ht hlen hr' hok)
              (fun w hb => r30First_ok w X Y A n c l ht hlen (hr'.below hb) hok)
        · exact wrappingFirsts_works a0 a1 W A n c true hn9 hs (.inr (.inr (.inl ⟨rfl, ht, b0, h40, by omega⟩)))
      · exact wrappingFirsts_works a0 a1 W A n c true hn9 hs (.inr (.inl ⟨rfl, ht, by omega, b5⟩))
    · exact wrappingFirsts_works a0 a1 W A n c false hn9 (small_ok a0 a1 W ht false (by simp; omega)) (.inl rfl)
  · have ht : torB a0 a1 = false := by simpa using ht
    have hs := small_no a0 a1 W ht
    by_cases hl : n ≤ 100
    · exact wrappingFirsts_run _ _ W A n c hl hs (.inr ht) 0 false 2 ((torFirst_no W a0 a1 _ ht).mono fun e w' ⟨h, h2⟩ => ⟨h, h2 ▸ Below.refl _ _⟩)
        (fun w hb => (r30First_no w a0 a1 _ ht).mono fun e w' ⟨h, h2⟩ => ⟨h, h2 ▸ Below.refl _ _⟩)
    · exact wrappingFirsts_works a0 a1 W A n c true hn9 hs (.inr (.inr (.inr ⟨rfl, ht, by omega⟩)))
end Go.Proofs.Ytnkkdoookhhhaaa
