/- same: two lists of edges are equal. -/
import Derived.Test.YtploneadcknkjaaEdge0
namespace Go.Proofs.Ytploneadcknkjaa
open Go.RowKit
set_option linter.unusedVariables false

theorem same_any (A A' : Option Addr) (n m c c' : Nat) (xs ys : List (Int × Int × Int)) (W : World) (hA : Rd W A n 3 (ecs xs)) (hB : Rd W A' m 3 (ecs ys)) (hn : xs.length = n) (hm : ys.length = m)
    (bn : n ≤ 1000000000) (bm : m ≤ 1000000000) :
    Calls Try.prog 16 #[.slice A n c, .slice A' m c'] W fun e W' => e = .returned (.bool (decide (xs = ys))) ∧ ∃ k, W' = W.drewN k := by
  by_cases hnm : n = m
  · subst hnm
    have HA := hide hA
    have HB := hide hB
    have HN := hide hn
    have HM := hide hm
    clear hA hB hn hm
    go_enter Try.func16, Try.ntmps16
    go_wp2
    go_loopg [5] n (fun k i wr => ∃ j : Nat, j + k = n ∧ i = .int .i64 j ∧ xs.take j = ys.take j ∧ ∃ d, wr = W.drewN d)
    case atStart => exact ⟨0, by omega, rfl, rfl, 0, rfl⟩
    case round =>
      obtain ⟨j, hj, rfl, ht, d, rfl⟩ := hrel
      have HT := hide ht
      have HJ := hide hj
      clear ht hj
      by_cases hlt : j < n
      · obtain ⟨b, o, rfl, hb, c0, c1, c2⟩ := HA.out.edge j (by have := HN.out; omega) HN.out
        obtain ⟨b', o', rfl, hb', c0', c1', c2'⟩ := HB.out.edge j (by have := HM.out; omega) HM.out
        generalize hx : xs[j]'(by have := HN.out; omega) = x at *
        generalize hy : ys[j]'(by have := HM.out; omega) = y at *
        have HX := hide hx
        have HY := hide hy
        clear hx hy
        obtain ⟨x0, x1, x2⟩ := x
        obtain ⟨y0, y1, y2⟩ := y
        simp only at c0 c1 c2 c0' c1' c2'
        by_cases e0 : x0 = y0
        · by_cases e1 : x1 = y1
          · by_cases e2 : x2 = y2
            · subst e0; subst e1; subst e2
              go_wp2_with fail
              go_quiet (fail)
              go_wp2_with fail
              go_roundg (n - (j + 1))
              case measure => have := HJ.out; omega
              case rel => exact ⟨j + 1, by omega, by go_num, take_eq_succ HT.out _ _ (HX.out.trans HY.out.symm), _, rfl⟩
            · have f2 : (x2 == y2) = false := by simpa using e2
              subst e0; subst e1; clear e2
              go_wp2_with fail
              go_quiet (fail)
              go_wp2_with fail
              go_ret
              exact ⟨ret_bool (by symm; rw [decide_eq_false_iff_not]; intro h; subst h; have := HX.out.symm.trans HY.out; simp at this; simp [this] at f2), _, World.drewN_drewN _ _ _⟩
          · have f1 : (x1 == y1) = false := by simpa using e1
            subst e0; clear e1
            go_wp2_with fail
            go_quiet (fail)
            go_wp2_with fail
            go_ret
            exact ⟨ret_bool (by symm; rw [decide_eq_false_iff_not]; intro h; subst h; have := HX.out.symm.trans HY.out; simp at this; simp [this] at f1), _, World.drewN_drewN _ _ _⟩
        · have f0 : (x0 == y0) = false := by simpa using e0
          clear e0
          go_wp2_with fail
          go_quiet (fail)
          go_wp2_with fail
          go_ret
          exact ⟨ret_bool (by symm; rw [decide_eq_false_iff_not]; intro h; subst h; have := HX.out.symm.trans HY.out; simp at this; simp [this] at f0), _, World.drewN_drewN _ _ _⟩
      · go_wp2_with fail
        go_ret
        exact ⟨ret_bool (by symm; rw [decide_eq_true_eq]; have := HT.out; rwa [List.take_of_length_le (by have := HN.out; omega), List.take_of_length_le (by have := HM.out; omega)] at this), _, rfl⟩
  · have f : ((n : Int) == (m : Int)) = false := by simp; omega
    have HNM : Hid (¬ n = m) := hnm
    clear hnm
    go_enter Try.func16, Try.ntmps16
    go_wp2
    go_ret
    exact ⟨ret_bool (by symm; rw [decide_eq_false_iff_not]; intro h; subst h; exact HNM.out (hn.symm.trans hm)), 0, rfl⟩

theorem same_true (A A' : Option Addr) (n c c' : Nat) (xs : List (Int × Int × Int)) (W : World) (hA : Rd W A n 3 (ecs xs)) (hB : Rd W A' n 3 (ecs xs)) (hn : xs.length = n) (bn : n ≤ 1000000000) :
    Calls Try.prog 16 #[.slice A n c, .slice A' n c'] W fun e W' => e = .returned (.bool true) ∧ ∃ k, W' = W.drewN k :=
  (same_any A A' n n c c' xs xs W hA hB hn hn bn bn).mono fun _ _ h => ⟨by simpa using h.1, h.2⟩
end Go.Proofs.Ytploneadcknkjaa
