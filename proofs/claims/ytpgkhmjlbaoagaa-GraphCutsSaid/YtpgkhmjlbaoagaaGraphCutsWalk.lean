/- The walk of GraphCuts. -/
import Derived.Test.YtpgkhmjlbaoagaaGraWk
import Derived.Test.YtpgkhmjlbaoagaaGraCl
import Derived.Test.YtpgkhmjlbaoagaaGraBo
import Derived.Test.YtpgkhmjlbaoagaaGraNl
import Derived.Test.YtpgkhmjlbaoagaaR13A
import Derived.Test.YtpgkhmjlbaoagaaR13U
import Derived.Test.YtpgkhmjlbaoagaaOpenE0
namespace Go.Proofs.Ytpgkhmjlbaoagaa
open Go.RowKit
set_option linter.unusedVariables false

set_option maxRecDepth 100000 in
set_option maxHeartbeats 8000000 in
/-- The law's walk, out of what the graphs answer. -/
theorem cuts_run (n θ : Int) (W : World) (A : Option Addr) (m c : Nat) (hs : Calls Try.prog 12 #[.int .i64 n, .slice A m c] W fun e W' => e = .returned (.bool true) ∧ W = W') (bb : Bool)
    (J : World → Value → Value → Prop) (U V : World → Value → Prop)
    (nn : Int) (xs : List Int) (E1 E2 : List (Int × Int × Int)) (k q1 q2 : Nat) (hx : xs.length = k) (hk : k ≤ 1000000000) (hE1 : E1.length = q1) (hE2 : E2.length = q2) (hq1 : q1 ≤ 1000000) (hq2 : q2 ≤ 1000000)
    (hb : Calls Try.prog 14 #[.int .i64 n, .slice A m c] W fun e w' => ∃ g r, e = .returned (.tuple #[g, r, .bool bb, .bool true]) ∧ J w' g r ∧ Below W.heap.size W w')
    (keep : ∀ w w' g r, J w g r → Below w.heap.size w w' → J w' g r)
    (keepU : ∀ w w' g, U w g → Below w.heap.size w w' → U w' g)
    (keepV : ∀ w w' g, V w g → Below w.heap.size w w' → V w' g)
    (formU : ∀ w a, U w a → ∃ x : Option Addr, a = .pointer x ∧ x.isSome = bb)
    (formV : ∀ w a, V w a → ∃ x : Option Addr, a = .pointer x ∧ x.isSome = bb)
    (hU1 : ∀ w g r, J w g r → Calls Try.prog 34 #[g, .int .i64 θ] w fun e w' => ∃ a, e = .returned a ∧ U w' a ∧ Below w.heap.size w w')
    (hU2 : ∀ w g r, J w g r → Calls Try.prog 35 #[r, .int .i64 θ] w fun e w' => ∃ a, e = .returned a ∧ V w' a ∧ Below w.heap.size w w')
    (hN1 : ∀ w a, U w a → Calls Try.prog 36 #[a] w fun e w' => e = .returned (.int .i64 nn) ∧ w = w')
    (hN2 : ∀ w a, V w a → Calls Try.prog 37 #[a] w fun e w' => e = .returned (.int .i64 nn) ∧ w = w')
    (hE1a : ∀ w a, U w a → Calls Try.prog 25 #[a] w fun e w' => ∃ A1 c1, e = .returned (.slice A1 q2 c1) ∧ Rd w' A1 q2 3 (ecs E2) ∧ Below w.heap.size w w')
    (hE2a : ∀ w a, V w a → Calls Try.prog 39 #[a] w fun e w' => ∃ A1 c1, e = .returned (.slice A1 q2 c1) ∧ Rd w' A1 q2 3 (ecs E2) ∧ Below w.heap.size w w')
    (hL1 : ∀ w a, U w a → Calls Try.prog 27 #[a] w fun e w' => ∃ A1 c1, e = .returned (.slice A1 k c1) ∧ Rd w' A1 k 1 (is xs) ∧ Below w.heap.size w w')
    (hL2 : ∀ w a, V w a → Calls Try.prog 28 #[a] w fun e w' => ∃ A1 c1, e = .returned (.slice A1 k c1) ∧ Rd w' A1 k 1 (is xs) ∧ Below w.heap.size w w')
    (hE1b : ∀ w g r, J w g r → Calls Try.prog 25 #[g] w fun e w' => ∃ A1 c1, e = .returned (.slice A1 q1 c1) ∧ Rd w' A1 q1 3 (ecs E1) ∧ Below w.heap.size w w')
    (hE2b : ∀ w g r, J w g r → Calls Try.prog 39 #[r] w fun e w' => ∃ A1 c1, e = .returned (.slice A1 q1 c1) ∧ Rd w' A1 q1 3 (ecs E1) ∧ Below w.heap.size w w') :
    Calls Try.prog 8 #[.int .i64 n, .slice A m c, .int .i64 θ] W fun e W' => e = .returned (.bool true) ∧ Below W.heap.size W W' := by
  have HS2 := hide hs
  have HB := hide hb
  have HK := hide keep
  have HKU := hide keepU
  have HKV := hide keepV
  have HFU := hide formU
  have HFV := hide formV
  have HU1 := hide hU1
  have HU2 := hide hU2
  have HN1 := hide hN1
  have HN2 := hide hN2
  have HE1a := hide hE1a
  have HE2a := hide hE2a
  have HE1b := hide hE1b
  have HE2b := hide hE2b
  have HL1 := hide hL1
  have HL2 := hide hL2
  have HX := hide hx
  have HQ1 := hide hE1
  have HQ2 := hide hE2
  clear hs hb keep keepU keepV formU formV hU1 hU2 hN1 hN2 hE1a hE2a hE1b hE2b hL1 hL2 hx hE1 hE2
  go_enter Try.func8, Try.ntmps8
  go_wp2_with fail
  refine HS2.out.mono ?_
  rintro e w' ⟨rfl, rfl⟩
  go_wp2_with fail
  refine HB.out.mono ?_
  rintro e w1 ⟨g, r, rfl, hj, hb1⟩
  have HJ1 := hide hj
  have HB1 := hide hb1
  clear hj hb1
  go_wp2_with fail
  refine (HU1.out _ _ _ HJ1.out).mono ?_
  rintro e w2 ⟨a, rfl, hu, hb2⟩
  have HJ2 := hide (HK.out _ _ _ _ HJ1.out hb2)
  have HB2 := hide (HB1.out.trans (hb2.mono HB1.out.size))
  have HUA := hide hu
  clear hu hb2
  go_wp2_with fail
  refine (HU2.out _ _ _ HJ2.out).mono ?_
  rintro e w3 ⟨b, rfl, hv, hb3⟩
  have HJ3 := hide (HK.out _ _ _ _ HJ2.out hb3)
  have HB3 := hide (HB2.out.trans (hb3.mono HB2.out.size))
  have HUA3 := hide (HKU.out _ _ _ HUA.out hb3)
  have HVB3 := hide hv
  clear hv hb3 HUA HJ1 HJ2 HB1 HB2
  obtain ⟨xa, rfl, hxa⟩ := HFU.out _ _ HUA3.out
  obtain ⟨xb, rfl, hxb⟩ := HFV.out _ _ HVB3.out
  have key : (∃ p q, xa = some p ∧ xb = some q ∧ bb = true) ∨ (xa = none ∧ xb = none ∧ bb = false) := by
    cases xa <;> cases xb <;> cases bb <;> simp at hxa hxb ⊢
  clear hxa hxb
  rcases key with ⟨p, q, rfl, rfl, rfl⟩ | ⟨rfl, rfl, rfl⟩
  all_goals
    go_wp2_with fail
    refine (HN1.out _ _ HUA3.out).mono ?_
    rintro e w' ⟨rfl, rfl⟩
    go_wp2_with fail
    refine (HN2.out _ _ HVB3.out).mono ?_
    rintro e w' ⟨rfl, rfl⟩
    go_wp2_with fail
    refine (HE1a.out _ _ HUA3.out).mono ?_
    rintro e w4 ⟨A4, c4, rfl, hr4, hb4⟩
    have HJ4 := hide (HK.out _ _ _ _ HJ3.out hb4)
    have HB4 := hide (HB3.out.trans (hb4.mono HB3.out.size))
    have HU4 := hide (HKU.out _ _ _ HUA3.out hb4)
    have HV4 := hide (HKV.out _ _ _ HVB3.out hb4)
    have HR4 := hide hr4
    clear hr4 hb4 HUA3 HVB3 HJ3 HB3
    go_wp2_with fail
    refine (HE2a.out _ _ HV4.out).mono ?_
    rintro e w5 ⟨A5, c5, rfl, hr5, hb5⟩
    have HJ5 := hide (HK.out _ _ _ _ HJ4.out hb5)
    have HB5 := hide (HB4.out.trans (hb5.mono HB4.out.size))
    have HU5 := hide (HKU.out _ _ _ HU4.out hb5)
    have HV5 := hide (HKV.out _ _ _ HV4.out hb5)
    have HED := hide (edges_true A4 A5 q2 c4 c5 E2 w5 (HR4.out.below hb5) hr5 HQ2.out (by omega))
    clear hr5 hb5 HU4 HV4 HJ4 HB4 HR4
    go_wp2_with fail
    refine HED.out.mono ?_
    rintro e w6 ⟨rfl, k6, rfl⟩
    have hb6 := (Below.refl w5.heap.size w5).drewN k6
    have HJ6 := hide (HK.out _ _ _ _ HJ5.out hb6)
    have HB6 := hide (HB5.out.trans (hb6.mono HB5.out.size))
    have HU6 := hide (HKU.out _ _ _ HU5.out hb6)
    have HV6 := hide (HKV.out _ _ _ HV5.out hb6)
    clear hb6 HU5 HV5 HJ5 HB5 HED
    generalize w5.drewN k6 = w6 at *
    go_wp2_with fail
    refine (HL1.out _ _ HU6.out).mono ?_
    rintro e w7 ⟨A7, c7, rfl, hr7, hb7⟩
    have HJ7 := hide (HK.out _ _ _ _ HJ6.out hb7)
    have HB7 := hide (HB6.out.trans (hb7.mono HB6.out.size))
    have HV7 := hide (HKV.out _ _ _ HV6.out hb7)
    have HR7 := hide hr7
    clear hr7 hb7 HU6 HV6 HJ6 HB6
    go_wp2_with fail
    refine (HL2.out _ _ HV7.out).mono ?_
    rintro e w8 ⟨A8, c8, rfl, hr8, hb8⟩
    have HJ8 := hide (HK.out _ _ _ _ HJ7.out hb8)
    have HB8 := hide (HB7.out.trans (hb8.mono HB7.out.size))
    have HN8 := hide (numbers_true A7 A8 k c7 c8 xs w8 (HR7.out.below hb8) hr8 HX.out hk)
    clear hr8 hb8 HV7 HJ7 HB7 HR7
    go_wp2_with fail
    refine HN8.out.mono ?_
    rintro e w9 ⟨rfl, k9, rfl⟩
    have hb9 := (Below.refl w8.heap.size w8).drewN k9
    have HJ9 := hide (HK.out _ _ _ _ HJ8.out hb9)
    have HB9 := hide (HB8.out.trans (hb9.mono HB8.out.size))
    clear hb9 HJ8 HB8 HN8
    generalize w8.drewN k9 = w9 at *
    go_wp2_with fail
    refine (HE1b.out _ _ _ HJ9.out).mono ?_
    rintro e w10 ⟨A10, c10, rfl, hr10, hb10⟩
    have HJ10 := hide (HK.out _ _ _ _ HJ9.out hb10)
    have HB10 := hide (HB9.out.trans (hb10.mono HB9.out.size))
    have HR10 := hide hr10
    clear hr10 hb10 HJ9 HB9
    go_wp2_with fail
    refine (HE2b.out _ _ _ HJ10.out).mono ?_
    rintro e w11 ⟨A11, c11, rfl, hr11, hb11⟩
    have HB11 := hide (HB10.out.trans (hb11.mono HB10.out.size))
    have HED := hide (edges_true A10 A11 q1 c10 c11 E1 w11 (HR10.out.below hb11) hr11 HQ1.out (by omega))
    clear hr11 hb11 HJ10 HB10 HR10
    go_wp2_with fail
    refine HED.out.mono ?_
    rintro e w12 ⟨rfl, k12, rfl⟩
    have HB12 := hide (HB11.out.drewN k12)
    clear HED HB11
    generalize w11.drewN k12 = w12 at *
    go_wp2_with fail
    refine (works13 _).mono ?_
    rintro e w13 ⟨rfl, hb13⟩
    have HB13 := hide (HB12.out.trans (hb13.mono HB12.out.size))
    clear hb13
    go_wp2_with fail
    go_ret
    exact ⟨rfl, HB13.out⟩
theorem graphCuts_walk (a0 : Int) (v1 : Value) (l : List (Int × Int × Int)) (a2 : Int) (W : World) (w0 : (Lit.int .i64 a0).wf = true) (w1 : IsEdges W v1 l) (w2 : (Lit.int .i64 a2).wf = true) :
    Calls Try.prog 8 #[.int .i64 a0, v1, .int .i64 a2] W fun e W' => e = .returned (.bool true) ∧ Below W.heap.size W W' := by
  obtain ⟨A, m, c, rfl, hm, hl, hw, hr⟩ := w1
  have hm9 : m ≤ 9223372036854775807 := by unfold maxLen at hm; omega
  have HS := small13 a0 A m c hm9 W
  cases hs : smallG a0 m
  · rw [hs] at HS
    have HS2 := hide HS
    clear HS hs hw hr hl
    go_enter Try.func8, Try.ntmps8
    go_wp2_with fail
    refine HS2.out.mono ?_
    rintro e w' ⟨rfl, rfl⟩
    go_wp2_with fail
    refine (works13 _).mono ?_
    rintro e w9 ⟨rfl, hb9⟩
    go_wp2_with fail
    go_ret
    exact ⟨rfl, hb9⟩
  · rw [hs] at HS
    have hm150 : m ≤ 150 := by simp [smallG] at hs; exact hs.2
    by_cases hE : newE a0 l = 0
    · obtain ⟨n, rfl⟩ : ∃ n : Nat, a0 = n := by
        refine Int.eq_ofNat_of_zero_le ?_
        by_cases h : a0 < 0 ∨ 4096 < a0 ∨ 16384 < l.length
        · unfold newE at hE; rw [if_pos h] at hE; cases hE
        · omega
      have hn4 : n ≤ 4096 := by
        by_cases h : (n : Int) < 0 ∨ 4096 < (n : Int) ∨ 16384 < l.length
        · unfold newE at hE; rw [if_pos h] at hE; cases hE
        · omega
      have hul := undL_len l a2
      refine cuts_run _ a2 W A m c HS true (fun w g r => ∃ (p : GLoc) (B g' : Nat) (A' : Option Addr) (c' B' : Nat), g = .pointer (some ⟨p.g, 0, none⟩) ∧ r = .pointer (some ⟨g', 0, none⟩) ∧ Gr w p n B l ∧ RG w g' A' c' n B' l)
        (fun w a => ∃ (p : GLoc) (B : Nat), a = .pointer (some ⟨p.g, 0, none⟩) ∧ Gr w p n B (undL l a2)) (fun w a => ∃ (g' : Nat) (A' : Option Addr) (c' B' : Nat), a = .pointer (some ⟨g', 0, none⟩) ∧ RG w g' A' c' n B' (undL l a2))
        n ((List.range n).map fun i => ((gLb n (undL l a2) i : Nat) : Int)) l (undL l a2) n l.length (undL l a2).length (by simp) (by omega) rfl rfl (by omega) (by omega)
        ((both_ok W n m c A l hr hl hm150 hE).mono fun e w' ⟨p, B, g', A', c', B', he, hG, hRG, hb⟩ => ⟨_, _, he, ⟨p, B, g', A', c', B', rfl, rfl, hG, hRG⟩, hb⟩)
        (fun w w' g r ⟨p, B, g', A', c', B', e1, e2, hG, hRG⟩ hb => ⟨p, B, g', A', c', B', e1, e2, hG.fresh hb, hRG.fresh hb⟩)
        (fun w w' g ⟨p, B, e1, hG⟩ hb => ⟨p, B, e1, hG.fresh hb⟩) (fun w w' g ⟨g', A', c', B', e1, hG⟩ hb => ⟨g', A', c', B', e1, hG.fresh hb⟩)
        (fun w a ⟨p, B, e1, hG⟩ => ⟨_, e1, rfl⟩) (fun w a ⟨g', A', c', B', e1, hG⟩ => ⟨_, e1, rfl⟩) ?_ ?_ ?_ ?_ ?_ ?_ ?_ ?_ ?_ ?_
      · rintro w g r ⟨p, B, g', A', c', B', rfl, rfl, hG, hRG⟩
        exact (graUnder w a2 p n B l hG).mono fun e w' ⟨q, he, hq, hb⟩ => ⟨_, he, ⟨q, _, rfl, hq⟩, hb⟩
      · rintro w g r ⟨p, B, g', A', c', B', rfl, rfl, hG, hRG⟩
        exact (r13Under w a2 g' A' c' n B' l hRG).mono fun e w' ⟨q, A2, c2, he, hq, hb⟩ => ⟨_, he, ⟨q, A2, c2, _, rfl, hq⟩, hb⟩
      · rintro w a ⟨p, B, rfl, hG⟩
        exact graN w p n B _ hG
      · rintro w a ⟨g', A', c', B', rfl, hG⟩
        exact r13Count w g' A' c' n B' _ hG
      · rintro w a ⟨p, B, rfl, hG⟩
        exact (graEdges w p n B _ hG).mono fun e w' ⟨A1, c1, he, ho, hb⟩ => ⟨A1, c1, he, own_rd13 ho, hb⟩
      · rintro w a ⟨g', A', c', B', rfl, hG⟩
        exact (r13Edges w g' A' c' n B' _ hG).mono fun e w' ⟨A1, c1, he, ho, hb⟩ => ⟨A1, c1, he, own_rd13 ho, hb⟩
      · rintro w a ⟨p, B, rfl, hG⟩
        exact (graLabels w p n B _ hG).mono fun e w' ⟨b, he, hb, _, hbl⟩ => ⟨_, _, he, by rw [← arr_is]; exact hb.rd n 1 (by simp [arr_size]), hbl⟩
      · rintro w a ⟨g', A', c', B', rfl, hG⟩
        refine (r13Labels w g' A' c' n B' _ hG).mono fun e w' ⟨V, he, hV, hbl⟩ => ?_
        obtain ⟨A2, c2, rfl, hr2, -⟩ := own_form hV
        rw [arr_is] at hr2
        exact ⟨A2, c2, he, hr2, hbl⟩
      · rintro w g r ⟨p, B, g', A', c', B', rfl, rfl, hG, hRG⟩
        exact (graEdges w p n B _ hG).mono fun e w' ⟨A1, c1, he, ho, hb⟩ => ⟨A1, c1, he, own_rd13 ho, hb⟩
      · rintro w g r ⟨p, B, g', A', c', B', rfl, rfl, hG, hRG⟩
        exact (r13Edges w g' A' c' n B' _ hRG).mono fun e w' ⟨A1, c1, he, ho, hb⟩ => ⟨A1, c1, he, own_rd13 ho, hb⟩
    · refine cuts_run _ a2 W A m c HS false (fun w g r => g = .pointer none ∧ r = .pointer none) (fun w a => a = .pointer none) (fun w a => a = .pointer none) 0 [] [] [] 0 0 0 rfl (by decide) rfl rfl (by decide) (by decide)
        ((both_no W a0 m c A l hr hl hm150 hE).mono fun e w' ⟨he, hb⟩ => ⟨_, _, he, ⟨rfl, rfl⟩, hb⟩)
        (fun w w' g r h hb => h) (fun w w' g h hb => h) (fun w w' g h hb => h) (fun w a h => ⟨none, h, rfl⟩) (fun w a h => ⟨none, h, rfl⟩) ?_ ?_ ?_ ?_ ?_ ?_ ?_ ?_ ?_ ?_
      · rintro w g r ⟨rfl, rfl⟩
        exact (graB_Under w none a2 (.inl rfl)).mono fun e w' ⟨he, hk⟩ => ⟨_, he, rfl, hk ▸ Below.refl _ _⟩
      · rintro w g r ⟨rfl, rfl⟩
        exact (r13N_Under w a2).mono fun e w' ⟨he, hk⟩ => ⟨_, he, rfl, hk ▸ Below.refl _ _⟩
      · rintro w a rfl
        exact graB_N w none (.inl rfl)
      · rintro w a rfl
        exact r13N_Count w
      · rintro w a rfl
        exact (graB_Edges w none (.inl rfl)).mono fun e w' ⟨he, hk⟩ => ⟨none, 0, he, Rd.nil, hk ▸ Below.refl _ _⟩
      · rintro w a rfl
        exact (r13N_Edges w).mono fun e w' ⟨he, hk⟩ => ⟨none, 0, he, Rd.nil, hk ▸ Below.refl _ _⟩
      · rintro w a rfl
        exact (graB_Labels w none (.inl rfl)).mono fun e w' ⟨he, hk⟩ => ⟨none, 0, he, Rd.nil, hk ▸ Below.refl _ _⟩
      · rintro w a rfl
        exact (r13N_Labels w).mono fun e w' ⟨he, hk⟩ => ⟨none, 0, he, Rd.nil, hk ▸ Below.refl _ _⟩
      · rintro w g r ⟨rfl, rfl⟩
        exact (graB_Edges w none (.inl rfl)).mono fun e w' ⟨he, hk⟩ => ⟨none, 0, he, Rd.nil, hk ▸ Below.refl _ _⟩
      · rintro w g r ⟨rfl, rfl⟩
        exact (r13N_Edges w).mono fun e w' ⟨he, hk⟩ => ⟨none, 0, he, Rd.nil, hk ▸ Below.refl _ _⟩
end Go.Proofs.Ytpgkhmjlbaoagaa
