/- seepagelaw13: numbers, edges, pairs: of lists that are equal. -/
import Derived.Test.YtpgkhmjlbaoagaaInfo
import Derived.Test.YtpgkhmjlbaoagaaGraAn
namespace Go.Proofs.Ytpgkhmjlbaoagaa
open Go.RowKit
set_option linter.unusedVariables false

theorem numbers_true (A A' : Option Addr) (n c c' : Nat) (xs : List Int) (W : World) (hA : Rd W A n 1 (is xs)) (hB : Rd W A' n 1 (is xs)) (hn : xs.length = n) (bn : n ≤ 1000000000) :
    Calls Try.prog 26 #[.slice A n c, .slice A' n c'] W fun e W' => e = .returned (.bool true) ∧ ∃ k, W' = W.drewN k := by
  have HA := hide hA
  have HB := hide hB
  have HN := hide hn
  clear hA hB hn
  go_enter Try.func26, Try.ntmps26
  go_wp2
  go_loopg [5] n (fun k i wr => ∃ j : Nat, j + k = n ∧ i = .int .i64 j ∧ ∃ d, wr = W.drewN d)
  case atStart => exact ⟨0, by omega, rfl, 0, rfl⟩
  case round =>
    obtain ⟨j, hj, rfl, d, rfl⟩ := hrel
    have HJ := hide hj
    clear hj
    by_cases hlt : j < n
    · obtain ⟨b, o, rfl, hb, c0⟩ := HA.out.int j (by have := HN.out; omega) HN.out
      obtain ⟨b', o', rfl, hb', c0'⟩ := HB.out.int j (by have := HN.out; omega) HN.out
      generalize xs[j]'(by have := HN.out; omega) = x at *
      go_wp2_with fail
      go_quiet (fail)
      go_wp2_with fail
      go_roundg (n - (j + 1))
      case measure => have := HJ.out; omega
      case rel => exact ⟨j + 1, by omega, by go_num, _, rfl⟩
    · go_wp2_with fail
      go_ret
      exact ⟨rfl, _, rfl⟩
theorem edges_true (A A' : Option Addr) (n c c' : Nat) (xs : List (Int × Int × Int)) (W : World) (hA : Rd W A n 3 (ecs xs)) (hB : Rd W A' n 3 (ecs xs)) (hn : xs.length = n) (bn : n ≤ 1000000000) :
    Calls Try.prog 38 #[.slice A n c, .slice A' n c'] W fun e W' => e = .returned (.bool true) ∧ ∃ k, W' = W.drewN k := by
  have HA := hide hA
  have HB := hide hB
  have HN := hide hn
  clear hA hB hn
  go_enter Try.func38, Try.ntmps38
  go_wp2
  go_loopg [5] n (fun k i wr => ∃ j : Nat, j + k = n ∧ i = .int .i64 j ∧ ∃ d, wr = W.drewN d)
  case atStart => exact ⟨0, by omega, rfl, 0, rfl⟩
  case round =>
    obtain ⟨j, hj, rfl, d, rfl⟩ := hrel
    have HJ := hide hj
    clear hj
    by_cases hlt : j < n
    · obtain ⟨b, o, rfl, hb, c0, c1, c2⟩ := HA.out.edge j (by have := HN.out; omega) HN.out
      obtain ⟨b', o', rfl, hb', c0', c1', c2'⟩ := HB.out.edge j (by have := HN.out; omega) HN.out
      generalize xs[j]'(by have := HN.out; omega) = x at *
      obtain ⟨x0, x1, x2⟩ := x
      simp only at c0 c1 c2 c0' c1' c2'
      go_wp2_with fail
      go_quiet (fail)
      go_wp2_with fail
      go_roundg (n - (j + 1))
      case measure => have := HJ.out; omega
      case rel => exact ⟨j + 1, by omega, by go_num, _, rfl⟩
    · go_wp2_with fail
      go_ret
      exact ⟨rfl, _, rfl⟩
theorem run_neq_pair13 (a b : Int) (W : World) : (binOp .neq 71 (.agg #[.int .i64 a, .int .i64 b]) (.agg #[.int .i64 a, .int .i64 b])).run Try.prog W = .ok (.bool false) W := by
  obtain ⟨i0, hi, hz0, hz1, hz2⟩ := info_parts int_info0
  have hc : Try.prog.cellsOf 3 = 1 := by kernel_rfl
  have e1 : ∀ W, (Op.equalIn 9999 3 (.int .i64 a) (.int .i64 a)).run Try.prog W = .ok (a == a) W := fun W => run_equalIn_int W 9998 3 .i64 .i64 a a Try.underlying3
  have e2 : ∀ W, (Op.equalIn 9999 3 (.int .i64 b) (.int .i64 b)).run Try.prog W = .ok (b == b) W := fun W => run_equalIn_int W 9998 3 .i64 .i64 b b Try.underlying3
  rw [run_neq_struct, run_equalIn_array W 9999 _ _ Try.underlying71 hi, hc]
  simp [Op.eqItems, List.range_succ, part, go_sem, Try.underlying3]
theorem pcn_len (l : List (Nat × Nat)) : (pcn l).length = l.length * 2 := by
  induction l with
  | nil => rfl
  | cons a l ih => have : pcn (a :: l) = [.int .i64 (a.1 : Int), .int .i64 (a.2 : Int)] ++ pcn l := rfl
                   rw [this, List.length_append, ih]; simp; omega
theorem pcn_get (l : List (Nat × Nat)) (j : Nat) (hj : j < l.length) : (pcn l)[j * 2]? = some (.int .i64 (l[j].1 : Int)) ∧ (pcn l)[j * 2 + 1]? = some (.int .i64 (l[j].2 : Int)) := by
  induction l generalizing j with
  | nil => simp at hj
  | cons e l ih =>
    have e1 : pcn (e :: l) = [.int .i64 (e.1 : Int), .int .i64 (e.2 : Int)] ++ pcn l := rfl
    cases j with
    | zero => simp [e1]
    | succ j =>
      obtain ⟨a, b⟩ := ih j (by simpa using hj)
      rw [e1]
      refine ⟨?_, ?_⟩
      · rw [List.getElem?_append_right (by simp; omega)]; simpa [show (j + 1) * 2 - 2 = j * 2 by omega] using a
      · rw [List.getElem?_append_right (by simp; omega)]; simpa [show (j + 1) * 2 + 1 - 2 = j * 2 + 1 by omega] using b
theorem Rd.pairn {w : World} {A : Option Addr} {n : Nat} {l : List (Nat × Nat)} (h : Rd w A n 2 (pcn l)) (j : Nat) (hj : j < l.length) (hn : l.length = n) :
    ∃ b o, A = some ⟨b, o, none⟩ ∧ b < w.heap.size ∧ w.cell? ⟨b, o + j * 2, none⟩ = some (.int .i64 (l[j].1 : Int)) ∧ w.cell? ⟨b, o + j * 2 + 1, none⟩ = some (.int .i64 (l[j].2 : Int)) := by
  obtain ⟨b, o, e, hb, hc⟩ := h.2 (by omega)
  obtain ⟨x, y⟩ := pcn_get l j hj
  exact ⟨b, o, e, hb, hc _ _ x, by have := hc _ _ y; rwa [← Nat.add_assoc] at this⟩
theorem pairs_true (A A' : Option Addr) (n c c' : Nat) (xs : List (Nat × Nat)) (W : World) (hA : Rd W A n 2 (pcn xs)) (hB : Rd W A' n 2 (pcn xs)) (hn : xs.length = n) (bn : n ≤ 1000000000) :
    Calls Try.prog 20 #[.slice A n c, .slice A' n c'] W fun e W' => e = .returned (.bool true) ∧ ∃ k, W' = W.drewN k := by
  have HA := hide hA
  have HB := hide hB
  have HN := hide hn
  clear hA hB hn
  have hne := fun a b W => run_neq_pair13 a b W
  go_enter Try.func20, Try.ntmps20
  go_wp2
  go_loopg [5] n (fun k i wr => ∃ j : Nat, j + k = n ∧ i = .int .i64 j ∧ ∃ d, wr = W.drewN d)
  case atStart => exact ⟨0, by omega, rfl, 0, rfl⟩
  case round =>
    obtain ⟨j, hj, rfl, d, rfl⟩ := hrel
    have HJ := hide hj
    clear hj
    by_cases hlt : j < n
    · obtain ⟨b, o, rfl, hb, c0, c1⟩ := HA.out.pairn j (by have := HN.out; omega) HN.out
      obtain ⟨b', o', rfl, hb', c0', c1'⟩ := HB.out.pairn j (by have := HN.out; omega) HN.out
      generalize xs[j]'(by have := HN.out; omega) = x at *
      obtain ⟨x0, x1⟩ := x
      simp only at c0 c1 c0' c1'
      go_wp2_with fail
      go_quiet (fail)
      go_wp2_with fail
      go_roundg (n - (j + 1))
      case measure => have := HJ.out; omega
      case rel => exact ⟨j + 1, by omega, by go_num, _, rfl⟩
    · go_wp2_with fail
      go_ret
      exact ⟨rfl, _, rfl⟩
end Go.Proofs.Ytpgkhmjlbaoagaa
