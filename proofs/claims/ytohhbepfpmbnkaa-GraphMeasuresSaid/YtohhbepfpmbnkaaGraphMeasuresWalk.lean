/- The walk of GraphMeasures. -/
import Derived.Test.YtohhbepfpmbnkaaGraNl
import Derived.Test.YtohhbepfpmbnkaaGraWk
import Derived.Test.YtohhbepfpmbnkaaR13D
import Derived.Test.YtohhbepfpmbnkaaOpenE0
namespace Go.Proofs.Ytohhbepfpmbnkaa
open Go.RowKit
set_option linter.unusedVariables false

theorem ari_is (n : Nat) (f : Nat → Int) : (ari n f).toList = is ((List.range n).map f) := by simp [ari, is]
theorem r13Dist_no (w : World) (v : Int) (g : Nat) (A : Option Addr) (c n B : Nat) (l : List (Int × Int × Int)) (h : RG w g A c n B l) (hv : inB n v = false) :
    Calls Try.prog 29 #[.pointer (some ⟨g, 0, none⟩), .int .i64 v] w fun e w' => e = .returned (.slice none 0 0) ∧ w = w' := by
  have H := r13Has w v g A c n B l h
  rw [hv] at H
  have HH := hide H
  clear H h hv
  go_enter Try.func29, Try.ntmps29
  go_wp2_with (go_at_call 66; refine HH.out.mono ?_; rintro e w' ⟨rfl, rfl⟩)
  go_ret
  exact ⟨rfl, rfl⟩
/-- The law's walk, out of what both Dist answer. -/
theorem measures_run (n a : Int) (W : World) (A : Option Addr) (m c : Nat) (hs : Calls Try.prog 17 #[.int .i64 n, .slice A m c] W fun e W' => e = .returned (.bool true) ∧ W = W') (J : World → Value → Value → Prop)
    (hb : Calls Try.prog 19 #[.int .i64 n, .slice A m c] W fun e w' => ∃ g r b, e = .returned (.tuple #[g, r, .bool b, .bool true]) ∧ J w' g r ∧ Below W.heap.size W w')
    (hd : ∀ w g r, J w g r → Calls Try.prog 28 #[g, .int .i64 a] w fun e w' => ∃ A1 k c1, e = .returned (.slice A1 k c1) ∧ Below w.heap.size w w' ∧
      Calls Try.prog 29 #[r, .int .i64 a] w' fun e w2 => ∃ A2 c2, e = .returned (.slice A2 k c2) ∧ Below w'.heap.size w' w2 ∧ ∃ xs, xs.length = k ∧ k ≤ 1000000000 ∧ Rd w2 A1 k 1 (is xs) ∧ Rd w2 A2 k 1 (is xs)) :
    Calls Try.prog 4 #[.int .i64 n, .slice A m c, .int .i64 a] W fun e W' => e = .returned (.bool true) ∧ Below W.heap.size W W' := by
  have HS2 := hide hs
  have HB := hide hb
  have HD := hide hd
  clear hs hb hd
  go_enter Try.func4, Try.ntmps4
  go_wp2_with fail
  refine HS2.out.mono ?_
  rintro e w' ⟨rfl, rfl⟩
  go_wp2_with fail
  refine HB.out.mono ?_
  rintro e w1 ⟨g, r, b, rfl, hj, hb1⟩
  have HB1 := hide hb1
  have H1 := hide (HD.out _ _ _ hj)
  clear hj hb1
  go_wp2_with fail
  refine H1.out.mono ?_
  rintro e w2 ⟨A1, k, c1, rfl, hb2, hc⟩
  have HB2 := hide (HB1.out.trans (hb2.mono HB1.out.size))
  have H2 := hide hc
  clear hb2 hc H1
  go_wp2_with fail
  refine H2.out.mono ?_
  rintro e w3 ⟨A2, c2, rfl, hb3, xs, hx, hk, hr1, hr2⟩
  have HB3 := hide (HB2.out.trans (hb3.mono HB2.out.size))
  have H3 := hide (numbers_true A1 A2 k c1 c2 xs w3 hr1 hr2 hx hk)
  clear hb3 hr1 hr2 hx H2
  go_wp2_with fail
  refine H3.out.mono ?_
  rintro e w4 ⟨rfl, k4, rfl⟩
  go_wp2_with fail
  refine (works13 _).mono ?_
  rintro e w9 ⟨rfl, hb9⟩
  go_wp2_with fail
  go_ret
  exact ⟨rfl, (HB3.out.drewN k4).trans (hb9.mono (HB3.out.drewN k4).size)⟩

theorem graphMeasures_walk (a0 : Int) (v1 : Value) (l : List (Int × Int × Int)) (a2 : Int) (W : World) (w0 : (Lit.int .i64 a0).wf = true) (w1 : IsEdges W v1 l) (w2 : (Lit.int .i64 a2).wf = true) :
    Calls Try.prog 4 #[.int .i64 a0, v1, .int .i64 a2] W fun e W' => e = .returned (.bool true) ∧ Below W.heap.size W W' := by
  obtain ⟨A, m, c, rfl, hm, hl, hw, hr⟩ := w1
  have hm9 : m ≤ 9223372036854775807 := by unfold maxLen at hm; omega
  have HS := small13 a0 A m c hm9 W
  cases hs : smallG a0 m
  · rw [hs] at HS
    have HS2 := hide HS
    clear HS hs hw hr hl
    go_enter Try.func4, Try.ntmps4
    go_wp2_with fail
    refine HS2.out.mono ?_
    rintro e w' ⟨rfl, rfl⟩
    go_wp2_with fail
    refine (works13 _).mono ?_
    rintro e w9 ⟨rfl, hb9⟩
    go_wp2_with fail
    go_ret
    exact ⟨rfl, hb9⟩
  · rw [hs] at HS
    have hm150 : m ≤ 150 := by simp [smallG] at hs; exact hs.2
    by_cases hE : newE a0 l = 0
    · obtain ⟨n, rfl⟩ : ∃ n : Nat, a0 = n := by
        refine Int.eq_ofNat_of_zero_le ?_
        by_cases h : a0 < 0 ∨ 4096 < a0 ∨ 16384 < l.length
        · unfold newE at hE; rw [if_pos h] at hE; cases hE
        · omega
      refine measures_run _ a2 W A m c HS (fun w g r => ∃ (p : GLoc) (B g' : Nat) (A' : Option Addr) (c' B' : Nat), g = .pointer (some ⟨p.g, 0, none⟩) ∧ r = .pointer (some ⟨g', 0, none⟩) ∧ Gr w p n B l ∧ RG w g' A' c' n B' l)
        ((both_ok W n m c A l hr hl hm150 hE).mono fun e w' ⟨p, B, g', A', c', B', he, hG, hRG, hb⟩ => ⟨_, _, _, he, ⟨p, B, g', A', c', B', rfl, rfl, hG, hRG⟩, hb⟩) ?_
      rintro w g r ⟨p, B, g', A', c', B', rfl, rfl, hG, hRG⟩
      cases hv : inB n a2
      · refine (graDist_no w a2 p n B l hG hv).mono fun e w' ⟨he, hk⟩ => ⟨none, 0, 0, he, hk ▸ Below.refl _ _, ?_⟩
        subst hk
        exact (r13Dist_no w a2 g' A' c' n B' l hRG hv).mono fun e w2 ⟨he, hk⟩ => ⟨none, 0, he, hk ▸ Below.refl _ _, [], rfl, by decide, Rd.nil, Rd.nil⟩
      · obtain ⟨u, rfl⟩ := Int.eq_ofNat_of_zero_le (show 0 ≤ a2 by simp [inB] at hv; omega)
        have hu : u < n := inB_lt hv
        have hn4 := hG.ok.2.1
        refine (graDist w u p n B l hG hu).mono fun e w' ⟨b, D, he, hD, hA, hb0, hb⟩ => ⟨_, n, n, he, hb, ?_⟩
        refine (r13Dist w' u g' A' c' n B' l (hRG.fresh hb) hu).mono fun e w2 ⟨V, D', he, hD', hV, hb2⟩ => ?_
        obtain ⟨A2, c2, rfl, hr2, -⟩ := own_form hV
        have e1 : ari n D' = ari n D := ari_congr fun i hi => hD'.uniq hD i hi
        rw [e1, ari_is] at hr2
        have hr1 := (hA.rd n 1 (by simp [ari_size])).below hb2
        rw [ari_is] at hr1
        exact ⟨A2, c2, he, hb2, _, by simp, by omega, hr1, hr2⟩
    · refine measures_run _ a2 W A m c HS (fun w g r => g = .pointer none ∧ r = .pointer none)
        ((both_no W a0 m c A l hr hl hm150 hE).mono fun e w' ⟨he, hb⟩ => ⟨_, _, _, he, ⟨rfl, rfl⟩, hb⟩) ?_
      rintro w g r ⟨rfl, rfl⟩
      refine (graB_Dist w none a2 (.inl rfl)).mono fun e w' ⟨he, hk⟩ => ⟨none, 0, 0, he, hk ▸ Below.refl _ _, ?_⟩
      subst hk
      exact (r13N_Dist w a2).mono fun e w2 ⟨he, hk⟩ => ⟨none, 0, he, hk ▸ Below.refl _ _, [], rfl, by decide, Rd.nil, Rd.nil⟩
end Go.Proofs.Ytohhbepfpmbnkaa
