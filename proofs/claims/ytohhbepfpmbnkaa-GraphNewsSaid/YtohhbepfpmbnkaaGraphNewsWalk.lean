/- The walk of GraphNews. -/
import Derived.Test.YtohhbepfpmbnkaaGraBo
import Derived.Test.YtohhbepfpmbnkaaGraWk
import Derived.Test.YtohhbepfpmbnkaaOpenE0
namespace Go.Proofs.Ytohhbepfpmbnkaa
open Go.RowKit
set_option linter.unusedVariables false

/-- Graphs that are nil. -/
theorem graN_valid (w : World) : Calls Try.prog 61 #[.pointer none] w fun e w' => e = .returned (.bool false) ∧ w = w' := by
  go_enter Try.func61, Try.ntmps61
  go_wp2
  go_ret
  exact ⟨rfl, rfl⟩
theorem graN_N (w : World) : Calls Try.prog 32 #[.pointer none] w fun e w' => e = .returned (.int .i64 0) ∧ w = w' := by
  go_enter Try.func32, Try.ntmps32
  go_wp2_with (go_at_call 61; refine (graN_valid _).mono ?_; rintro e w' ⟨rfl, rfl⟩)
  go_ret
  exact ⟨rfl, rfl⟩
theorem graN_Edges (w : World) : Calls Try.prog 35 #[.pointer none] w fun e w' => e = .returned (.slice none 0 0) ∧ w = w' := by
  go_enter Try.func35, Try.ntmps35
  go_wp2_with (go_at_call 61; refine (graN_valid _).mono ?_; rintro e w' ⟨rfl, rfl⟩)
  go_ret
  exact ⟨rfl, rfl⟩

set_option maxRecDepth 100000 in
set_option maxHeartbeats 4000000 in
theorem graphNews_walk (a0 : Int) (v1 : Value) (l : List (Int × Int × Int)) (W : World) (w0 : (Lit.int .i64 a0).wf = true) (w1 : IsEdges W v1 l) :
    Calls Try.prog 6 #[.int .i64 a0, v1] W fun e W' => e = .returned (.bool true) ∧ Below W.heap.size W W' := by
  obtain ⟨A, m, c, rfl, hm, hl, hw, hr⟩ := w1
  have hm9 : m ≤ 9223372036854775807 := by unfold maxLen at hm; omega
  have HS := small13 a0 A m c hm9 W
  cases hs : smallG a0 m
  · rw [hs] at HS
    have HS2 := hide HS
    clear HS hs hw hr hl
    go_enter Try.func6, Try.ntmps6
    go_wp2_with fail
    refine HS2.out.mono ?_
    rintro e w' ⟨rfl, rfl⟩
    go_wp2_with fail
    refine (works13 _).mono ?_
    rintro e w9 ⟨rfl, hb9⟩
    go_wp2_with fail
    go_ret
    exact ⟨rfl, hb9⟩
  · rw [hs] at HS
    have HS2 := hide HS
    have hm150 : m ≤ 150 := by simp [smallG] at hs; exact hs.2
    by_cases hE : newE a0 l = 0
    · obtain ⟨n, rfl⟩ : ∃ n : Nat, a0 = n := by
        refine Int.eq_ofNat_of_zero_le ?_
        by_cases h : a0 < 0 ∨ 4096 < a0 ∨ 16384 < l.length
        · unfold newE at hE; rw [if_pos h] at hE; cases hE
        · omega
      have HB := hide (both_ok W n m c A l hr hl hm150 hE)
      clear HS hs hw hr hl hE
      go_enter Try.func6, Try.ntmps6
      go_wp2_with fail
      refine HS2.out.mono ?_
      rintro e w' ⟨rfl, rfl⟩
      go_wp2_with fail
      refine HB.out.mono ?_
      rintro e w1 ⟨p, B, g', A', c', B', rfl, hG, hRG, hb1⟩
      have HG := hide hG
      have HRG := hide hRG
      have HB1 := hide hb1
      have H1 := hide (graN w1 p n B l hG)
      have H2 := hide (r13Count w1 g' A' c' n B' l hRG)
      have H3 := hide (graEdges w1 p n B l hG)
      clear hG hRG hb1
      go_wp2_with fail
      refine H1.out.mono ?_
      rintro e w' ⟨rfl, rfl⟩
      go_wp2_with fail
      refine H2.out.mono ?_
      rintro e w' ⟨rfl, rfl⟩
      go_wp2_with fail
      refine H3.out.mono ?_
      rintro e w2 ⟨A2, c2, rfl, ho2, hb2⟩
      have HO2 := hide ho2
      have HB2 := hide (HB1.out.trans (hb2.mono HB1.out.size))
      have H4 := hide (r13Edges w2 g' A' c' n B' l (HRG.out.fresh hb2))
      clear ho2 hb2
      go_wp2_with fail
      refine H4.out.mono ?_
      rintro e w3 ⟨A3, c3, rfl, ho3, hb3⟩
      have HB3 := hide (HB2.out.trans (hb3.mono HB2.out.size))
      have H5 := hide (edges_true A2 A3 l.length c2 c3 l w3 (own_rd13 (HO2.out.kept hb3)) (own_rd13 ho3) rfl (by have := HG.out.ok.2.2; omega))
      clear ho3 hb3
      go_wp2_with fail
      refine H5.out.mono ?_
      rintro e w4 ⟨rfl, k4, rfl⟩
      go_wp2_with fail
      refine (works13 _).mono ?_
      rintro e w9 ⟨rfl, hb9⟩
      go_wp2_with fail
      go_ret
      exact ⟨rfl, (HB3.out.drewN k4).trans (hb9.mono (HB3.out.drewN k4).size)⟩
    · have HB := hide (both_no W a0 m c A l hr hl hm150 hE)
      clear HS hs hw hr hl hE
      go_enter Try.func6, Try.ntmps6
      go_wp2_with fail
      refine HS2.out.mono ?_
      rintro e w' ⟨rfl, rfl⟩
      go_wp2_with fail
      refine HB.out.mono ?_
      rintro e w1 ⟨rfl, hb1⟩
      have HB1 := hide hb1
      clear hb1
      go_wp2_with fail
      refine (graN_N _).mono ?_
      rintro e w' ⟨rfl, rfl⟩
      go_wp2_with fail
      refine (r13N_Count _).mono ?_
      rintro e w' ⟨rfl, rfl⟩
      go_wp2_with fail
      refine (graN_Edges _).mono ?_
      rintro e w' ⟨rfl, rfl⟩
      go_wp2_with fail
      refine (r13N_Edges _).mono ?_
      rintro e w' ⟨rfl, rfl⟩
      go_wp2_with fail
      refine (edges_true none none 0 0 0 [] _ Rd.nil Rd.nil rfl (by decide)).mono ?_
      rintro e w4 ⟨rfl, k4, rfl⟩
      go_wp2_with fail
      refine (works13 _).mono ?_
      rintro e w9 ⟨rfl, hb9⟩
      go_wp2_with fail
      go_ret
      exact ⟨rfl, (HB1.out.drewN k4).trans (hb9.mono (HB1.out.drewN k4).size)⟩
end Go.Proofs.Ytohhbepfpmbnkaa
