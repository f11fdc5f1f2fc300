/- seepagelaw08: same of equal lists, small; blocks of bools. -/
import Derived.Test.YtiijhppffboogaaDsuW
namespace Go.Proofs.Ytiijhppffboogaa
open Go.RowKit
set_option linter.unusedVariables false

theorem samei_true (A A' : Option Addr) (n c c' : Nat) (xs : List Int) (W : World) (hA : Rd W A n 1 (is xs)) (hB : Rd W A' n 1 (is xs)) (hn : xs.length = n) (bn : n ≤ 1000000000) :
    Calls Try.prog 19 #[.slice A n c, .slice A' n c'] W fun e W' => e = .returned (.bool true) ∧ ∃ k, W' = W.drewN k := by
  have HA := hide hA
  have HB := hide hB
  have HN := hide hn
  clear hA hB hn
  go_enter Try.func19, Try.ntmps19
  go_wp2
  go_loopg [5] n (fun k i wr => ∃ j : Nat, j + k = n ∧ i = .int .i64 j ∧ ∃ d, wr = W.drewN d)
  case atStart => exact ⟨0, by omega, rfl, 0, rfl⟩
  case round =>
    obtain ⟨j, hj, rfl, d, rfl⟩ := hrel
    have HJ := hide hj
    clear hj
    by_cases hlt : j < n
    · obtain ⟨b, o, rfl, hb, c0⟩ := HA.out.int j (by have := HN.out; omega) HN.out
      obtain ⟨b', o', rfl, hb', c0'⟩ := HB.out.int j (by have := HN.out; omega) HN.out
      generalize xs[j]'(by have := HN.out; omega) = x at *
      go_wp2_with fail
      go_quiet (fail)
      go_wp2_with fail
      go_roundg (n - (j + 1))
      case measure => have := HJ.out; omega
      case rel => exact ⟨j + 1, by omega, by go_num, _, rfl⟩
    · go_wp2_with fail
      go_ret
      exact ⟨rfl, _, rfl⟩

theorem arr_is (n : Nat) (f : Nat → Nat) : (arr n f).toList = is ((List.range n).map fun i => ((f i : Nat) : Int)) := by simp [arr, is]
theorem Blk.isr {w : World} {g t n : Nat} {f : Nat → Nat} (h : Blk w g t (arr n f)) : Rd w (some ⟨g, 0, none⟩) n 1 (is ((List.range n).map fun i => ((f i : Nat) : Int))) := by
  rw [← arr_is]; exact h.rd n 1 (by simp [arr_size])

def smallB (n : Int) (m : Nat) : Bool := decide (0 ≤ n ∧ n ≤ 300 ∧ m ≤ 300)
theorem small_any (n : Int) (A : Option Addr) (m c : Nat) (hm : m ≤ 9223372036854775807) (W : World) :
    Calls Try.prog 15 #[.int .i64 n, .slice A m c] W fun e W' => e = .returned (.bool (smallB n m)) ∧ W = W' := by
  by_cases h0 : 0 ≤ n
  · by_cases h1 : n ≤ 300
    · go_enter Try.func15, Try.ntmps15
      go_wp2_with fail
      go_ret
      exact ⟨ret_bool (by simp [smallB, h0, h1]; omega), rfl⟩
    · have E : Hid (smallB n m = false) := by show _ = _; simp [smallB]; omega
      go_enter Try.func15, Try.ntmps15
      go_wp2_with fail
      go_ret
      exact ⟨ret_bool (by rw [E.out]), rfl⟩
  · have E : Hid (smallB n m = false) := by show _ = _; simp [smallB]; omega
    go_enter Try.func15, Try.ntmps15
    go_wp2_with fail
    go_ret
    exact ⟨ret_bool (by rw [E.out]), rfl⟩

/-! ### Blocks of bools -/
def arb (n : Nat) (f : Nat → Bool) : Array Value := ((List.range n).map fun i => Value.bool (f i)).toArray
theorem arb_size (n : Nat) (f : Nat → Bool) : (arb n f).size = n := by simp [arb]
theorem arb_get {n i : Nat} (f : Nat → Bool) (h : i < n) : (arb n f)[i]? = some (.bool (f i)) := by simp [arb, h]
def updb (f : Nat → Bool) (i : Nat) (v : Bool) : Nat → Bool := fun j => if j = i then v else f j
theorem arb_set (n : Nat) (f : Nat → Bool) (i : Nat) (v : Bool) : (arb n f).setIfInBounds i (.bool v) = arb n (updb f i v) := by
  apply Array.ext_getElem?
  intro j
  rw [Array.getElem?_setIfInBounds]
  by_cases hj : j < n
  · rw [arb_get _ hj, arb_get _ hj, arb_size]
    by_cases he : i = j
    · subst he; simp [hj, updb]
    · rw [if_neg he]; unfold updb; rw [if_neg (fun e => he e.symm)]
  · have e1 : (arb n f)[j]? = none := by simp [arb]; omega
    have e2 : (arb n (updb f i v))[j]? = none := by simp [arb]; omega
    rw [e1, e2, arb_size]
    split
    · rw [if_neg (by omega)]
    · rfl
theorem Blk.bool {w : World} {g t n : Nat} {f : Nat → Bool} (h : Blk w g t (arb n f)) {i : Nat} (hi : i < n) : w.cell? ⟨g, i, none⟩ = some (.bool (f i)) := by
  rw [h.cell, arb_get f hi]
theorem Blk.setBool {w : World} {g t n : Nat} {f : Nat → Bool} (h : Blk w g t (arb n f)) (i : Nat) (v : Bool) : Blk (w.setCell ⟨g, i, none⟩ (.bool v)) g t (arb n (updb f i v)) := by
  have := h.set_ i (.bool v)
  rwa [arb_set] at this
theorem run_make_bools (T E : TypeId) (i : TypeInfo) {P : Program} (ht : P.underlying T = some (.slice E)) (hi : P.info? E = some i) (hz : i.zero = some (.bool false)) (h1 : i.size = 1) (h8 : i.bytes = 1)
    (n : Nat) (hn : n ≤ 1000000) (w : World) :
    (Instr.makeSlice T (.int .i64 (n : Int)) (.int .i64 (n : Int))).run P w = .ok (.slice (some ⟨w.heap.size, 0, none⟩) n n) (w.alloc (.cells (arb n fun _ => false) E)) := by
  have hr := run_make (P := P) w T E i (.bool false) ht hi hz .i64 .i64 n n (by omega) (by omega) (by rw [h8]; omega) (by omega)
  simp only [Int.toNat_natCast] at hr
  rw [hr, h1]
  have e : madeCells (Value.bool false).cells (n * 1) = arb n fun _ => false := by
    rw [Nat.mul_one]
    apply Array.toList_inj.1
    have := toList_madeCells_one (.bool false) n
    show (madeCells #[.bool false] n).toList = _
    rw [this]
    simp [arb, List.map_const']
  rw [e]
theorem bool_info0 : (Try.prog.info? 4).map (fun i => (i.zero, i.size, i.bytes)) = some (some (.bool false), 1, 1) := by kernel_rfl
end Go.Proofs.Ytiijhppffboogaa
