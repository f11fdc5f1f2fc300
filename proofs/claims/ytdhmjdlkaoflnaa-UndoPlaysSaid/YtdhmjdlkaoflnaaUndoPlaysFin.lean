/- The walk of UndoPlays. -/
import Derived.Test.YtdhmjdlkaoflnaaUndoPlaysMade
namespace Go.Proofs.Ytdhmjdlkaoflnaa
open Go.RowKit
set_option linter.unusedVariables false

set_option maxRecDepth 100000 in
set_option maxHeartbeats 4000000 in
theorem undoPlays_walk (a0 : Int) (v1 : Value) (l : List Stp) (a2 a3 : Int) (W : World) (w0 : (Lit.int .i64 a0).wf = true) (w1 : IsSteps W v1 l) (w2 : (Lit.int .i64 a2).wf = true) (w3 : (Lit.int .i64 a3).wf = true) :
    Calls Try.prog 8 #[.int .i64 a0, v1, .int .i64 a2, .int .i64 a3] W fun e W' => e = .returned (.bool true) ∧ Below W.heap.size W W' := by
  obtain ⟨A, m, c, rfl, hm, hlen, hok, hr⟩ := w1
  clear w0 w2 w3
  cases hs : newOk a0
  · exact undoPlays_nil a0 A m c l a2 a3 W hm hlen hok hr hs
  · have hs' : 0 ≤ a0 ∧ a0 ≤ 65536 := by simpa [newOk] using hs
    obtain ⟨n, rfl⟩ := Int.eq_ofNat_of_zero_le hs'.1
    have hn : n ≤ 65536 := by omega
    have hm' : m ≤ 9223372036854775807 := by unfold maxLen at hm; omega
    by_cases h60 : 60 < n
    · clear hs hs' hm hlen hok hr
      go_enter Try.func8, Try.ntmps8
      go_wp2_with fail
      refine (undoNew_ok W n hn).mono ?_
      rintro e w1 ⟨p, rfl, hd1, hb1, hp1⟩
      have HB1 := hide hb1
      clear hd1 hb1 hp1
      go_wp2_with fail
      refine (works9 _).mono ?_
      rintro e w7 ⟨rfl, hb7⟩
      go_wp2_with fail
      go_ret
      exact ⟨rfl, HB1.out.trans (hb7.mono HB1.out.size)⟩
    · by_cases h120 : 120 < m
      · clear hs hs' hm hlen hok hr
        go_enter Try.func8, Try.ntmps8
        go_wp2_with fail
        refine (undoNew_ok W n hn).mono ?_
        rintro e w1 ⟨p, rfl, hd1, hb1, hp1⟩
        have HB1 := hide hb1
        clear hd1 hb1 hp1
        go_wp2_with fail
        refine (works9 _).mono ?_
        rintro e w7 ⟨rfl, hb7⟩
        go_wp2_with fail
        go_ret
        exact ⟨rfl, HB1.out.trans (hb7.mono HB1.out.size)⟩
      · exact undoPlays_made n (by omega) A m c l a2 a3 W (by omega) hlen hok hr
end Go.Proofs.Ytdhmjdlkaoflnaa
