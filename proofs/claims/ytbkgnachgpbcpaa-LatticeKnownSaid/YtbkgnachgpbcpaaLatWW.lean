/- The walk of LatticeWeighs. -/
import Derived.Test.YtbkgnachgpbcpaaLatV
namespace Go.Proofs.Ytbkgnachgpbcpaa
open Go.RowKit
set_option linter.unusedVariables false

def wE (n m : Nat) : Int := if n = m then 0 else 2
def wL (n m : Nat) (l : List (Int × Int × Int)) (ws : List Int) : List (Int × Int × Int) := if n = m then wz l ws else []
theorem wL_len {n m : Nat} {l : List (Int × Int × Int)} {ws : List Int} (hl : l.length = n) (hn : n ≤ 1000) : (wL n m l ws).length ≤ 1000 := by
  unfold wL wz; split <;> simp <;> omega

theorem weights_any (w : World) (a : Addr) (n m c c2 : Nat) (A2 : Option Addr) (l : List (Int × Int × Int)) (ws : List Int) (hr : Rd w (some a) n 3 (ecs l)) (hl : l.length = n) (hr2 : Rd w A2 m 1 (is ws)) (hl2 : ws.length = m) (hn : n ≤ 1000) (hm : m ≤ 1000) :
    Calls Try.prog 29 #[.slice (some a) n c, .slice A2 m c2] w
      fun e w' => ∃ V, e = .returned (.tuple #[V, .int .i64 (wE n m)]) ∧ OwnE w' w.heap.size V (wL n m l ws) ∧ Below w.heap.size w w' := by
  by_cases h : n = m
  · subst h
    have := weights_ok w a n c c2 A2 l ws hr hl hr2 hl2 hn
    simpa [wE, wL] using this
  · refine (weights_no w (some a) A2 n m c c2 h hn hm).mono ?_
    rintro e w' ⟨rfl, rfl⟩
    exact ⟨.slice none 0 0, by simp [wE, h], by simp only [wL, if_neg h]; exact OwnE.nil _ _, Below.refl _ _⟩
theorem rweights_any (w : World) (n m c c2 : Nat) (A A2 : Option Addr) (l : List (Int × Int × Int)) (ws : List Int) (hr : Rd w A n 3 (ecs l)) (hl : l.length = n) (hr2 : Rd w A2 m 1 (is ws)) (hl2 : ws.length = m) (hn : n ≤ 1000) (hm : m ≤ 1000) :
    Calls Try.prog 30 #[.slice A n c, .slice A2 m c2] w
      fun e w' => ∃ V, e = .returned (.tuple #[V, .int .i64 (wE n m)]) ∧ OwnE w' w.heap.size V (wL n m l ws) ∧ Below w.heap.size w w' := by
  by_cases h : n = m
  · subst h
    have := rweights_ok w n c c2 A A2 l ws hr hl hr2 hl2 hn
    simpa [wE, wL] using this
  · refine (rweights_no w A A2 n m c c2 h hn hm).mono ?_
    rintro e w' ⟨rfl, rfl⟩
    exact ⟨.slice none 0 0, by simp [wE, h], by simp only [wL, if_neg h]; exact OwnE.nil _ _, Below.refl _ _⟩

theorem own_app_some {w : World} {B : Nat} {E : TypeId} {sz n : Nat} {v : Value} {xs : List Value} {a : Addr} {k c : Nat} (h : w.ownsRow B E sz v n xs) (hv : v = .slice none 0 0 → Value.slice (some a) k c = .slice none 0 0) :
    ∃ g cap, v = .slice (some ⟨g, 0, none⟩) n cap := by
  rcases h.2 with ⟨e, _⟩ | ⟨g, cap, cur, e, _⟩
  · have := hv e; cases this
  · exact ⟨g, cap, e⟩
theorem is_oneCell (l : List Int) : ∀ u ∈ is l, u.oneCell' = true := by
  intro u hu
  simp only [is, List.mem_map] at hu
  obtain ⟨_, _, rfl⟩ := hu
  rfl

theorem own_rd {w : World} {B : Nat} {E : TypeId} {sz n g cap : Nat} {xs : List Value} (h : w.ownsRow B E sz (.slice (some ⟨g, 0, none⟩) n cap) n xs) : Rd w (some ⟨g, 0, none⟩) n sz xs := by
  obtain ⟨A, c, e, hr, _⟩ := own_form h
  injection e with e1 e2 e3
  subst e1; exact hr

set_option maxRecDepth 100000 in
set_option maxHeartbeats 4000000 in
theorem latticeWeighs_walk (v0 : Value) (l : List (Int × Int × Int)) (v1 : Value) (ws : List Int) (W : World) (w0 : IsEdges W v0 l) (w1 : IsInts .i64 W v1 ws) :
    Calls Try.prog 11 #[v0, v1] W fun e W' => e = .returned (.bool true) ∧ Below W.heap.size W W' := by
  obtain ⟨A, n, c, rfl, hn, hlen, _, hr⟩ := w0
  obtain ⟨A2, m, c2, rfl, hm, hlen2, _, hr2⟩ := w1
  have hr2 : Rd W A2 m 1 (is ws) := hr2
  have hn' : n ≤ 9223372036854775807 := by unfold maxLen at hn; omega
  have hm' : m ≤ 9223372036854775807 := by unfold maxLen at hm; omega
  have HR := hide hr
  have HR2 := hide hr2
  have HL := hide hlen
  have HL2 := hide hlen2
  clear hn hm hr hr2 hlen hlen2
  by_cases hs : n ≤ 500 ∧ m ≤ 500
  · obtain ⟨hn5, hm5⟩ := hs
    obtain ⟨i0, hi, hz0, hz1, hz2⟩ := info_parts edge_info
    obtain ⟨i1, hi1, hz10, hz11, hz12⟩ := info_parts i64_info
    have hrE := hide (HR.out.alloc (.cells #[] 37))
    have hoE := hide (World.ownsRow_made (e := 37) (size := 3) (base := W.heap.size) W #[] 0 (Nat.le_refl _) (by simp [maxLen]) rfl)
    have hI : Hid (∀ w1, Below W.heap.size W w1 → Rd (w1.alloc (.cells #[] 2)) A2 m 1 (is ws)) := fun w1 hb => (HR2.out.below hb).alloc _
    have hoI : Hid (∀ w1, Below W.heap.size W w1 → (w1.alloc (.cells #[] 2)).ownsRow w1.heap.size 2 1 (.slice (some ⟨w1.heap.size, 0, none⟩) 0 0) 0 []) :=
      fun w1 hb => World.ownsRow_made (e := 2) (size := 1) (base := w1.heap.size) w1 #[] 0 (Nat.le_refl _) (by simp [maxLen]) rfl
    have hi' := hide hi
    have hz0' := hide hz0
    have hz1' := hide hz1
    have hz2' := hide hz2
    have hi1' := hide hi1
    have hz10' := hide hz10
    have hz11' := hide hz11
    have hz12' := hide hz12
    clear hi hz0 hz1 hz2 hi1 hz10 hz11 hz12
    go_enter Try.func11, Try.ntmps11
    go_wp2_with (first | (at_builtin; refine app_any2 22 37 Try.underlying22 hi'.out hz0'.out hz1'.out hz2'.out rfl (by decide) _ _ _ _ _ hrE.out (ecs_oneCell l) rfl _ _ rfl W.heap.size _ 0 [] rfl hoE.out rfl (by unfold maxLen; omega) (by omega) (by simp) ?_; intro V1 w1 hown1 hgr1 hat1 hnn1 hbel1; obtain ⟨g1, cap1, rfl⟩ := own_app_some hown1 hnn1; have hB1 : Below W.heap.size W w1 := ((Below.refl _ _).alloc (Nat.le_refl _) _).trans hbel1; clear hgr1 hat1 hnn1 hbel1) | (at_builtin; refine app_any2 49 2 Try.underlying49 hi1'.out hz10'.out hz11'.out hz12'.out rfl (by decide) _ _ _ _ _ (hI.out _ hB1) (is_oneCell ws) rfl _ _ rfl w1.heap.size _ 0 [] rfl (hoI.out _ hB1) rfl (by unfold maxLen; omega) (by omega) (by simp) ?_; intro V2 w2 hown2 hgr2 hat2 hnn2 hbel2; obtain ⟨g2, cap2, rfl⟩ := own_app_some hown2 hnn2; have hB12 : Below w1.heap.size w1 w2 := ((Below.refl _ _).alloc (Nat.le_refl _) _).trans hbel2; clear hgr2 hat2 hnn2 hbel2))
    simp only [Nat.zero_add, List.nil_append] at hown1 hown2
    have rE1 := (own_rd hown1).below hB12
    have rI2 := own_rd hown2
    have hB2 := hB1.trans (hB12.mono hB1.size)
    have HE1 := hide rE1
    have HI2 := hide rI2
    have HB2 := hide hB2
    clear hown1 hown2 rE1 rI2 hB1 hB12 hB2 hrE hoE hI hoI hi' hz0' hz1' hz2' hi1' hz10' hz11' hz12'
    refine (weights_any _ _ _ _ _ _ _ _ _ HE1.out HL.out HI2.out HL2.out (by omega) (by omega)).mono ?_
    rintro e w3 ⟨V3, rfl, ho3, hb3⟩
    have hB3 := HB2.out.trans (hb3.mono HB2.out.size)
    obtain ⟨A3, c3, rfl, hr3⟩ := ho3.form
    go_wp2_with fail
    refine (rweights_any _ _ _ _ _ _ _ _ _ (HR.out.below hB3) HL.out (HR2.out.below hB3) HL2.out (by omega) (by omega)).mono ?_
    rintro e w4 ⟨V4, rfl, ho4, hb4⟩
    have hB4 := hB3.trans (hb4.mono hB3.size)
    obtain ⟨A4, c4, rfl, hr4⟩ := ho4.form
    have HR3 := hide (hr3.below hb4)
    have HR4 := hide hr4
    have HE4 := hide ((HE1.out.below hb3).below hb4)
    have HI4 := hide ((HI2.out.below hb3).below hb4)
    have HW4 := hide (HR2.out.below hB4)
    have HL4 := hide (HR.out.below hB4)
    have HB4 := hide hB4
    have hwl := wL_len (n := n) (m := m) (ws := ws) HL.out (by omega)
    clear ho3 hb3 hr3 ho4 hb4 hr4 hB3 hB4 HE1 HI2 HB2
    generalize wE n m = E at *
    generalize wL n m l ws = LL at *
    go_wp2_with fail
    go_loopg [11] m (fun q v wr => ∃ k : Nat, k + q = m ∧ v = .int .i64 (k : Int) ∧ ∃ d, wr = w4.drewN d)
    case atStart => exact ⟨0, by omega, rfl, 0, rfl⟩
    case round =>
      obtain ⟨k, hk, rfl, d, rfl⟩ := hrel
      have HK := hide hk
      have hkm : k ≤ m := by omega
      clear hk
      by_cases hlt : k < m
      · have hkw : k < ws.length := by have := HL2.out; omega
        obtain ⟨b, o, e, hblt, c0⟩ := HI4.out.int k hkw HL2.out
        obtain ⟨b', o', rfl, hblt', c1⟩ := HW4.out.int k hkw HL2.out
        injection e with e
        injection e with e0 e1 _
        subst e0; subst e1
        rw [Nat.zero_add] at c0
        generalize ws[k]'hkw = x at *
        go_wp2_with fail
        go_quiet (fail)
        go_wp2_with fail
        go_roundg (m - (k + 1))
        case measure => have := HK.out; omega
        case rel => exact ⟨k + 1, by omega, by go_num, _, rfl⟩
      · go_wp2_with fail
        refine (same_true _ _ _ _ _ _ _ (HR3.out.drewN d) (HR4.out.drewN d) rfl (by omega)).mono ?_
        rintro e w5 ⟨rfl, k5, rfl⟩
        go_wp2_with fail
        refine (same_true _ _ _ _ _ _ _ (HE4.out.drewN (d + k5)) (HL4.out.drewN (d + k5)) HL.out (by omega)).mono ?_
        rintro e w6 ⟨rfl, k6, rfl⟩
        go_wp2_with fail
        refine (works_any _).mono ?_
        rintro e w7 ⟨rfl, hb7⟩
        go_wp2_with fail
        go_ret
        exact ⟨rfl, (HB4.out.drewN _).trans (hb7.mono HB4.out.size)⟩
  · have hs' : 500 < (n : Int) ∨ ((n : Int) ≤ 500 ∧ 500 < (m : Int)) := by omega
    clear hs
    rcases hs' with h | ⟨h, h1⟩
    all_goals
      go_enter Try.func11, Try.ntmps11
      go_wp2_with fail
      refine (works_any _).mono ?_
      rintro e w1 ⟨rfl, hb⟩
      go_wp2_with fail
      go_ret
      exact ⟨rfl, hb⟩
end Go.Proofs.Ytbkgnachgpbcpaa
