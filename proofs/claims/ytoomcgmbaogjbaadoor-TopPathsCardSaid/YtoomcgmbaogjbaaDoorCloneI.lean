/- slices.Clone of ints and of edges. -/
import Derived.Test.YtoomcgmbaogjbaaDoorOpenE0
import Derived.Test.YtoomcgmbaogjbaaDoorInfo
import Derived.Lib.SliceRun
namespace Go.Proofs.YtoomcgmbaogjbaaDoor
open Go.RowKit
set_option linter.unusedVariables false

theorem clone_ints (w : World) (b n c t : Nat) (f : Nat → Nat) (r : Array Value) (h : Blk w b t (arx n f r)) (hn : n ≤ 1000000) :
    Calls Tryd.prog 43 #[.slice (some ⟨b, 0, none⟩) n c] w
      fun e w' => ∃ (b' c' : Nat) (r' : Array Value), e = .returned (.slice (some ⟨b', 0, none⟩) n c') ∧ Blk w' b' 3 (arx n f r') ∧ w.heap.size ≤ b' ∧ Below w.heap.size w w' := by
  obtain ⟨i0, hi, hz0, hz1, hz2⟩ := info_parts int_info0
  have hne := fun W => Lib.run_eql_slice_nil (P := Tryd.prog) W 30 3 (some ⟨b, 0, none⟩) n c 0 0 Tryd.underlying30
  have hr := hide ((arx_rd h).alloc (.cells #[] 3))
  have ho := hide (World.ownsRow_made (e := 3) (size := 1) (base := w.heap.size) w #[] 0 (Nat.le_refl _) (by simp [maxLen]) rfl)
  have hi' := hide hi
  have hz0' := hide hz0
  have hz1' := hide hz1
  have hz2' := hide hz2
  clear h hi hz0 hz1 hz2
  go_enter Tryd.func43, Tryd.ntmps43
  go_wp2_with (at_builtin; refine app_any 30 3 Tryd.underlying30 hi'.out hz0'.out hz1'.out hz2'.out rfl (by decide) _ _ _ _ _ hr.out (arr_toList_one n f) rfl _ _ rfl w.heap.size _ 0 [] rfl ho.out rfl (by unfold maxLen; omega) (by omega) (by simp) ?_; intro v' w1 hown hgr hat hnn hbel)
  go_ret
  simp only [Nat.zero_add, List.nil_append] at hown
  obtain ⟨g, cap, hv⟩ := own_some hown (fun e => by have := hnn e; cases this)
  rw [hv] at hown
  obtain ⟨r', hb, hB⟩ := own_arx hown
  exact ⟨g, cap, r', by show Ending.returned v' = _; rw [hv], hb, hB, ((Below.refl _ _).alloc (Nat.le_refl _) _).trans (hbel.mono (Nat.le_refl _))⟩

theorem clone_edges (w : World) (a : Addr) (n c : Nat) (l : List (Int × Int × Int)) (hr : Rd w (some a) n 3 (ecs l)) (hl : l.length = n) (hn : n ≤ 1000000) :
    Calls Tryd.prog 29 #[.slice (some a) n c] w
      fun e w' => ∃ (g cap : Nat), e = .returned (.slice (some ⟨g, 0, none⟩) n cap) ∧ OwnE w' w.heap.size (.slice (some ⟨g, 0, none⟩) n cap) l ∧ Below w.heap.size w w' := by
  obtain ⟨i0, hi, hz0, hz1, hz2⟩ := info_parts edge_info
  have hne := fun W => Lib.run_eql_slice_nil (P := Tryd.prog) W 22 29 (some a) n c 0 0 Tryd.underlying22
  have hr' := hide (hr.alloc (.cells #[] 29))
  have ho := hide (World.ownsRow_made (e := 29) (size := 3) (base := w.heap.size) w #[] 0 (Nat.le_refl _) (by simp [maxLen]) rfl)
  have hi' := hide hi
  have hz0' := hide hz0
  have hz1' := hide hz1
  have hz2' := hide hz2
  clear hr hi hz0 hz1 hz2
  go_enter Tryd.func29, Tryd.ntmps29
  go_wp2_with (at_builtin; (refine app_any2 22 29 Tryd.underlying22 hi'.out hz0'.out hz1'.out hz2'.out rfl (by decide) _ _ _ _ _ hr'.out (ecs_oneCell l) rfl _ _ rfl w.heap.size _ 0 [] rfl ho.out rfl (by unfold maxLen; omega) (by omega) (by simp) ?_; intro v' w1 hown hgr hat hnn hbel))
  go_ret
  simp only [Nat.zero_add, List.nil_append] at hown
  have hsome : ∃ g cap, v' = .slice (some ⟨g, 0, none⟩) n cap := by
    rcases hown.2 with ⟨e, _⟩ | ⟨g, cap, cur, e, _⟩
    · have := hnn e; cases this
    · exact ⟨g, cap, e⟩
  obtain ⟨g, cap, rfl⟩ := hsome
  refine ⟨g, cap, rfl, ?_, ((Below.refl _ _).alloc (Nat.le_refl _) _).trans (hbel.mono (Nat.le_refl _))⟩
  unfold OwnE
  rw [hl]; exact hown

/-- A clone of edges that are nil, or not. -/
theorem clone_edges_any (w : World) (A : Option Addr) (n c : Nat) (l : List (Int × Int × Int)) (hr : Rd w A n 3 (ecs l)) (hl : l.length = n) (hn : n ≤ 1000000) :
    Calls Tryd.prog 29 #[.slice A n c] w
      fun e w' => ∃ (A' : Option Addr) (c' : Nat), e = .returned (.slice A' n c') ∧ OwnE w' w.heap.size (.slice A' n c') l ∧ Below w.heap.size w w' := by
  rcases A with _ | a
  · have hm : n = 0 := by
      rcases Nat.eq_zero_or_pos n with h0 | h0
      · exact h0
      · obtain ⟨_, _, h, _⟩ := hr.2 h0
        cases h
    subst hm
    obtain rfl : l = [] := List.eq_nil_of_length_eq_zero hl
    have hne := fun W => Lib.run_eql_slice_nil (P := Tryd.prog) W 22 29 none 0 c 0 0 Tryd.underlying22
    clear hr hl hn
    go_enter Tryd.func29, Tryd.ntmps29
    go_wp2_with fail
    go_ret
    exact ⟨none, 0, rfl, OwnE.nil _ _, Below.refl _ _⟩
  · refine (clone_edges w a n c l hr hl hn).mono ?_
    rintro e w' ⟨g, cap, rfl, h1, h2⟩
    exact ⟨_, _, rfl, h1, h2⟩
end Go.Proofs.YtoomcgmbaogjbaaDoor
