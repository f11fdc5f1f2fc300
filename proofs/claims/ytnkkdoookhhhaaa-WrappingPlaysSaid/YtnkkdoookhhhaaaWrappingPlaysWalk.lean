/- The walk of WrappingPlays. -/
import Derived.Test.YtnkkdoookhhhaaaWrapAg
import Derived.Test.YtnkkdoookhhhaaaOpenT
namespace Go.Proofs.Ytnkkdoookhhhaaa
open Go.RowKit
set_option linter.unusedVariables false

theorem r30N_Add2 (w : World) (a b c : Int) : Calls Try.prog 28 #[.pointer none, .int .i64 a, .int .i64 b, .int .i64 c] w fun e w' => e = .returned (.tuple #[.bool false, .int .i64 1]) ∧ w = w' := r30N_Add w a b c

set_option maxRecDepth 100000 in
set_option maxHeartbeats 8000000 in
theorem wrappingPlays_ok (X Y : Nat) (a2 a3 : Int) (W : World) (A : Option Addr) (n c : Nat) (l : List (Int × Int × Int)) (hr : Rd W A n 3 (ecs l)) (hl : l.length = n) (hn : n ≤ 60) (ht : torB (X : Int) (Y : Int) = true) (h60 : (X : Int) * (Y : Int) ≤ 60) :
    Calls Try.prog 8 #[.int .i64 (X : Int), .int .i64 (Y : Int), .slice A n c, .int .i64 a2, .int .i64 a3] W fun e W' => e = .returned (.bool true) ∧ Below W.heap.size W W' := by
  have HS := hide (small_ok _ _ W ht true (decide_eq_true h60))
  have HB := hide (both30 W X Y ht)
  have HR := hide hr
  have HL := hide hl
  clear ht h60 hr hl
  go_enter Try.func8, Try.ntmps8
  go_wp2_with fail
  refine HS.out.mono ?_
  rintro e w' ⟨rfl, rfl⟩
  go_wp2_with fail
  refine HB.out.mono ?_
  rintro e w1 ⟨p, rfl, hc⟩
  have HC := hide hc
  clear hc
  go_wp2_with fail
  refine HC.out.mono ?_
  rintro e w2 ⟨q, rfl, hT⟩
  have HT0 := hide hT
  clear hT HC HB HS
  go_wp2_with fail
  go_loopg [15] n (fun q_ v wr => ∃ (k : Nat) (E : List Nat), k + q_ = n ∧ v = .int .i64 (k : Int) ∧ Two30 W.heap.size W wr p q X Y (X * Y) E)
  case atStart => exact ⟨0, [], by omega, rfl, HT0.out⟩
  case round =>
    obtain ⟨k, E, hk, rfl, hT⟩ := hrel
    have HK := hide hk
    have hkm : k ≤ n := by omega
    have HT := hide hT
    clear hk hT HT0
    by_cases hlt : k < n
    · obtain ⟨b, o, rfl, hblt, c0, c1, c2⟩ := HR.out.edge k (by have := HL.out; omega) HL.out
      generalize l[k]'(by have := HL.out; omega) = e at *
      obtain ⟨x, y, d⟩ := e
      simp only at c0 c1 c2
      have d0 : wr.cell? ⟨b, o + k * 3, none⟩ = some (.int .i64 x) := (HT.out.bel.cell (p := ⟨b, o + k * 3, none⟩) hblt).trans c0
      have d1 : wr.cell? ⟨b, o + k * 3 + 1, none⟩ = some (.int .i64 y) := (HT.out.bel.cell (p := ⟨b, o + k * 3 + 1, none⟩) hblt).trans c1
      have d2 : wr.cell? ⟨b, o + k * 3 + 2, none⟩ = some (.int .i64 d) := (HT.out.bel.cell (p := ⟨b, o + k * 3 + 2, none⟩) hblt).trans c2
      obtain ⟨rb, rc, E', hstep⟩ := step30 W (wr.drewN 1) W.heap.size x y d p q X Y (X * Y) E (HT.out.drewN 1)
      have HST := hide hstep
      have HC0 := hide c0
      have HC1 := hide c1
      have HC2 := hide c2
      clear c0 c1 c2 hstep
      go_wp2_with fail
      go_region_held3 (fun w' => w'.cell? ⟨b, o + k * 3, none⟩ = some (.int .i64 x) ∧ w'.cell? ⟨b, o + k * 3 + 1, none⟩ = some (.int .i64 y) ∧ w'.cell? ⟨b, o + k * 3 + 2, none⟩ = some (.int .i64 d))
        (first | exact ⟨d0, d1, d2⟩ | exact ⟨(hb3.cell (p := ⟨b, o + k * 3, none⟩) hblt).trans HC0.out, (hb3.cell (p := ⟨b, o + k * 3 + 1, none⟩) hblt).trans HC1.out, (hb3.cell (p := ⟨b, o + k * 3 + 2, none⟩) hblt).trans HC2.out⟩)
        (first | (go_at_call 27; refine HST.out.mono ?_; rintro e w3 ⟨rfl, hb3, hr3⟩))
      have HR3 := hide hr3
      have e0 : w3.cell? ⟨b, o + k * 3, none⟩ = some (.int .i64 x) := (hb3.cell (p := ⟨b, o + k * 3, none⟩) hblt).trans HC0.out
      have e1 : w3.cell? ⟨b, o + k * 3 + 1, none⟩ = some (.int .i64 y) := (hb3.cell (p := ⟨b, o + k * 3 + 1, none⟩) hblt).trans HC1.out
      have e2 : w3.cell? ⟨b, o + k * 3 + 2, none⟩ = some (.int .i64 d) := (hb3.cell (p := ⟨b, o + k * 3 + 2, none⟩) hblt).trans HC2.out
      clear d0 d1 d2 hr3
      go_wp2_with fail
      go_region_held3 (fun w' => w'.cell? ⟨b, o + k * 3, none⟩ = some (.int .i64 x) ∧ w'.cell? ⟨b, o + k * 3 + 1, none⟩ = some (.int .i64 y) ∧ w'.cell? ⟨b, o + k * 3 + 2, none⟩ = some (.int .i64 d))
        (first | exact ⟨e0, e1, e2⟩ | exact ⟨(hT4.bel.cell (p := ⟨b, o + k * 3, none⟩) hblt).trans HC0.out, (hT4.bel.cell (p := ⟨b, o + k * 3 + 1, none⟩) hblt).trans HC1.out, (hT4.bel.cell (p := ⟨b, o + k * 3 + 2, none⟩) hblt).trans HC2.out⟩)
        (first | (go_at_call 28; refine (HR3.out 1).mono ?_; rintro e w4 ⟨rfl, hT4⟩))
      have HA := hide (fun k => agree30_ok W (w4.drewN k) W.heap.size a2 a3 p q X Y (X * Y) E' (hT4.drewN k))
      clear e0 e1 e2 hb3 hT4
      go_wp2_with (first | (go_at_call 26; first | (refine (HA.out 0).mono ?_; rintro e w5 ⟨rfl, hT5⟩; have HT5 := hide hT5; clear hT5) | (refine (HA.out 1).mono ?_; rintro e w5 ⟨rfl, hT5⟩; have HT5 := hide hT5; clear hT5)))
      go_roundg (n - (k + 1))
      case measure => have := HK.out; omega
      case rel => exact ⟨k + 1, E', by omega, by go_num, HT5.out⟩
    · have HB9 := hide HT.out.bel
      go_wp2_with fail
      refine (works30 _).mono ?_
      rintro e w9 ⟨rfl, hb9⟩
      go_wp2_with fail
      go_ret
      exact ⟨rfl, HB9.out.trans (hb9.mono HB9.out.size)⟩

set_option maxRecDepth 100000 in
set_option maxHeartbeats 8000000 in
theorem wrappingPlays_no (a0 a1 a2 a3 : Int) (W : World) (A : Option Addr) (n c : Nat) (l : List (Int × Int × Int)) (hr : Rd W A n 3 (ecs l)) (hl : l.length = n) (hn : n ≤ 60) (ht : torB a0 a1 = false) :
    Calls Try.prog 8 #[.int .i64 a0, .int .i64 a1, .slice A n c, .int .i64 a2, .int .i64 a3] W fun e W' => e = .returned (.bool true) ∧ Below W.heap.size W W' := by
  have HS := hide (small_no a0 a1 W ht)
  have H1 := hide (fun w => torNew_no w a0 a1 ht)
  have H2 := hide (fun w => r30New_no w a0 a1 ht)
  have HR := hide hr
  have HL := hide hl
  clear ht hr hl
  go_enter Try.func8, Try.ntmps8
  go_wp2_with fail
  refine HS.out.mono ?_
  rintro e w' ⟨rfl, rfl⟩
  go_wp2_with fail
  refine (H1.out _).mono ?_
  rintro e w' ⟨rfl, rfl⟩
  go_wp2_with fail
  refine (H2.out _).mono ?_
  rintro e w' ⟨rfl, rfl⟩
  clear HS H1 H2
  go_wp2_with fail
  go_loopg [15] n (fun q_ v wr => ∃ (k : Nat), k + q_ = n ∧ v = .int .i64 (k : Int) ∧ Below W.heap.size W wr)
  case atStart => exact ⟨0, by omega, rfl, Below.refl _ _⟩
  case round =>
    obtain ⟨k, hk, rfl, hT⟩ := hrel
    have HK := hide hk
    have hkm : k ≤ n := by omega
    have HT := hide hT
    clear hk hT
    by_cases hlt : k < n
    · obtain ⟨b, o, rfl, hblt, c0, c1, c2⟩ := HR.out.edge k (by have := HL.out; omega) HL.out
      generalize l[k]'(by have := HL.out; omega) = e at *
      obtain ⟨x, y, d⟩ := e
      simp only at c0 c1 c2
      have d0 : wr.cell? ⟨b, o + k * 3, none⟩ = some (.int .i64 x) := (HT.out.cell (p := ⟨b, o + k * 3, none⟩) hblt).trans c0
      have d1 : wr.cell? ⟨b, o + k * 3 + 1, none⟩ = some (.int .i64 y) := (HT.out.cell (p := ⟨b, o + k * 3 + 1, none⟩) hblt).trans c1
      have d2 : wr.cell? ⟨b, o + k * 3 + 2, none⟩ = some (.int .i64 d) := (HT.out.cell (p := ⟨b, o + k * 3 + 2, none⟩) hblt).trans c2
      clear c0 c1 c2
      go_wp2_with fail
      go_quiet ((go_at_call 27; first | exact quiet_any2 (quiet_eq (torBad_Add _ _ _ _ _ (.inl rfl))) | exact quiet_any1 (quiet_eq (torBad_Add _ _ _ _ _ (.inl rfl)))))
      go_wp2_with fail
      go_quiet ((go_at_call 28; first | exact quiet_any2 (quiet_eq (r30N_Add _ _ _ _)) | exact quiet_any1 (quiet_eq (r30N_Add _ _ _ _))))
      go_wp2_with (first | (go_at_call 26; refine (agree30_nil W _ _ a2 a3 (HT.out.drewN _)).mono ?_; rintro e w5 ⟨rfl, hT5⟩; have HT5 := hide hT5; clear hT5))
      go_roundg (n - (k + 1))
      case measure => have := HK.out; omega
      case rel => exact ⟨k + 1, by omega, by go_num, HT5.out⟩
    · go_wp2_with fail
      refine (works30 _).mono ?_
      rintro e w9 ⟨rfl, hb9⟩
      go_wp2_with fail
      go_ret
      exact ⟨rfl, HT.out.trans (hb9.mono HT.out.size)⟩

theorem wrappingPlays_works (a0 a1 a2 a3 : Int) (W : World) (A : Option Addr) (n c : Nat) (b : Bool) (hn9 : n ≤ 9223372036854775807) (hs : Calls Try.prog 13 #[.int .i64 a0, .int .i64 a1] W fun e W' => e = .returned (.bool b) ∧ W = W') (h : b = false ∨ ¬ n ≤ 60) :
    Calls Try.prog 8 #[.int .i64 a0, .int .i64 a1, .slice A n c, .int .i64 a2, .int .i64 a3] W fun e W' => e = .returned (.bool true) ∧ Below W.heap.size W W' := by
  have HS := hide hs
  clear hs
  cases b
  · clear h
    go_enter Try.func8, Try.ntmps8
    go_wp2_with fail
    refine HS.out.mono ?_
    rintro e w' ⟨rfl, rfl⟩
    go_wp2_with fail
    refine (works30 _).mono ?_
    rintro e w9 ⟨rfl, hb9⟩
    go_wp2_with fail
    go_ret
    exact ⟨rfl, hb9⟩
  · have h : ¬ n ≤ 60 := by simpa using h
    go_enter Try.func8, Try.ntmps8
    go_wp2_with fail
    refine HS.out.mono ?_
    rintro e w' ⟨rfl, rfl⟩
    go_wp2_with fail
    refine (works30 _).mono ?_
    rintro e w9 ⟨rfl, hb9⟩
    go_wp2_with fail
    go_ret
    exact ⟨rfl, hb9⟩
theorem wrappingPlays_walk (a0 a1 : Int) (v2 : Value) (l : List (Int × Int × Int)) (a3 a4 : Int) (W : World) (w0 : (Lit.int .i64 a0).wf = true) (w1 : (Lit.int .i64 a1).wf = true) (w2 : IsEdges W v2 l) (w3 : (Lit.int .i64 a3).wf = true) (w4 : (Lit.int .i64 a4).wf = true) :
    Calls Try.prog 8 #[.int .i64 a0, .int .i64 a1, v2, .int .i64 a3, .int .i64 a4] W fun e W' => e = .returned (.bool true) ∧ Below W.heap.size W W' := by
  obtain ⟨A, n, c, rfl, hn, hlen, _, hr⟩ := w2
  have hn9 : n ≤ 9223372036854775807 := by unfold maxLen at hn; omega
  by_cases ht : torB a0 a1 = true
  · by_cases h60 : a0 * a1 ≤ 60
    · by_cases hl : n ≤ 60
      · obtain ⟨X, Y, rfl, rfl, -⟩ := torB_nat ht
        exact wrappingPlays_ok X Y a3 a4 W A n c l hr hlen hl ht h60
      · exact wrappingPlays_works a0 a1 a3 a4 W A n c true hn9 (small_ok a0 a1 W ht true (decide_eq_true h60)) (.inr hl)
    · exact wrappingPlays_works a0 a1 a3 a4 W A n c false hn9 (small_ok a0 a1 W ht false (by simp; omega)) (.inl rfl)
  · have ht : torB a0 a1 = false := by simpa using ht
    by_cases hl : n ≤ 60
    · exact wrappingPlays_no a0 a1 a3 a4 W A n c l hr hlen hl ht
    · exact wrappingPlays_works a0 a1 a3 a4 W A n c true hn9 (small_no a0 a1 W ht) (.inr hl)
end Go.Proofs.Ytnkkdoookhhhaaa
