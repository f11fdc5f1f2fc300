/- The Trees at all arguments; the examples of the chapter ('works'); the plain laws of grids. -/
import Derived.Test.YtploneadcknkjaaLatC
import Derived.Test.YtploneadcknkjaaLatE
import Derived.Test.YtploneadcknkjaaLatG
namespace Go.Proofs.Ytploneadcknkjaa
open Go.RowKit
set_option linter.unusedVariables false

def tN (c d : Int) : Int := if 1 ≤ c ∧ 0 ≤ d then trN c.toNat d.toNat else 0
def tE (c d : Int) : Int := if 1 ≤ c ∧ 0 ≤ d then trE c.toNat d.toNat else 2
def tL (c d : Int) : List (Int × Int × Int) := if 1 ≤ c ∧ 0 ≤ d then trL c.toNat d.toNat else []

theorem tree_any (c d : Int) (W : World) (hc : c ≤ 9223372036854775807) (hd : d ≤ 9223372036854775807) :
    Calls Try.prog 18 #[.int .i64 c, .int .i64 d] W
      fun e W' => ∃ V, e = .returned (.tuple #[.int .i64 (tN c d), V, .int .i64 (tE c d)]) ∧ OwnE W' W.heap.size V (tL c d) ∧ Below W.heap.size W W' := by
  by_cases h : 1 ≤ c ∧ 0 ≤ d
  · have e1 : tN c d = trN c.toNat d.toNat := if_pos h
    have e2 : tE c d = trE c.toNat d.toNat := if_pos h
    have e3 : tL c d = trL c.toNat d.toNat := if_pos h
    rw [e1, e2, e3]
    obtain ⟨c, rfl⟩ := Int.eq_ofNat_of_zero_le (show 0 ≤ c by omega)
    obtain ⟨d, rfl⟩ := Int.eq_ofNat_of_zero_le h.2
    simp only [Int.toNat_natCast]
    exact tree_ok c d W (by omega) (by omega) (by omega)
  · have e1 : tN c d = 0 := if_neg h
    have e2 : tE c d = 2 := if_neg h
    have e3 : tL c d = [] := if_neg h
    rw [e1, e2, e3]
    clear e1 e2 e3
    by_cases h1 : c < 1
    · clear h
      go_enter Try.func18, Try.ntmps18
      go_wp2_with fail
      go_ret3
      exact ⟨.slice none 0 0, rfl, OwnE.nil _ _, Below.refl _ _⟩
    · have h2 : d < 0 := by omega
      clear h
      go_enter Try.func18, Try.ntmps18
      go_wp2_with fail
      go_ret3
      exact ⟨.slice none 0 0, rfl, OwnE.nil _ _, Below.refl _ _⟩

set_option maxRecDepth 100000 in
theorem rtree_any (c d : Int) (W : World) (hc : c ≤ 9223372036854775807) (hd : d ≤ 9223372036854775807) :
    Calls Try.prog 19 #[.int .i64 c, .int .i64 d] W
      fun e W' => ∃ V, e = .returned (.tuple #[.int .i64 (tN c d), V, .int .i64 (tE c d)]) ∧ OwnE W' W.heap.size V (tL c d) ∧ Below W.heap.size W W' := by
  by_cases h : 1 ≤ c ∧ 0 ≤ d
  · have e1 : tN c d = trN c.toNat d.toNat := if_pos h
    have e2 : tE c d = trE c.toNat d.toNat := if_pos h
    have e3 : tL c d = trL c.toNat d.toNat := if_pos h
    rw [e1, e2, e3]
    clear e1 e2 e3
    obtain ⟨c, rfl⟩ := Int.eq_ofNat_of_zero_le (show 0 ≤ c by omega)
    obtain ⟨d, rfl⟩ := Int.eq_ofNat_of_zero_le h.2
    simp only [Int.toNat_natCast]
    have h0 := h.1
    by_cases h4 : 4096 ≤ d
    · have E : Hid (treeGo c d 1 1 = none) := treeGo_big (by omega) d 1 1 (by omega) (by omega) (by omega)
      clear h
      go_enter Try.func19, Try.ntmps19
      go_wp2_with fail
      go_ret3
      exact ⟨.slice none 0 0, by simp only [trN, trE, E.out]; rfl, by simp only [trL, E.out]; exact OwnE.nil _ _, Below.refl _ _⟩
    · by_cases h5 : 0 < d ∧ 4096 < c
      · have E : Hid (treeGo c d 1 1 = none) := treeGo_wide h5.2 h5.1
        obtain ⟨h6, h7⟩ := h5
        clear h
        go_enter Try.func19, Try.ntmps19
        go_wp2_with fail
        go_ret3
        exact ⟨.slice none 0 0, by simp only [trN, trE, E.out]; rfl, by simp only [trL, E.out]; exact OwnE.nil _ _, Below.refl _ _⟩
      · exact rtree_ok c d W (by omega) (by omega) (by omega) (by omega)
  · have e1 : tN c d = 0 := if_neg h
    have e2 : tE c d = 2 := if_neg h
    have e3 : tL c d = [] := if_neg h
    rw [e1, e2, e3]
    clear e1 e2 e3
    by_cases h1 : c < 1
    · clear h
      go_enter Try.func19, Try.ntmps19
      go_wp2_with fail
      go_ret3
      exact ⟨.slice none 0 0, rfl, OwnE.nil _ _, Below.refl _ _⟩
    · have h2 : d < 0 := by omega
      clear h
      go_enter Try.func19, Try.ntmps19
      go_wp2_with fail
      go_ret3
      exact ⟨.slice none 0 0, rfl, OwnE.nil _ _, Below.refl _ _⟩

end Go.Proofs.Ytploneadcknkjaa
