/- The walk of GraphParts. -/
import Derived.Test.YtpgkhmjlbaoagaaGraNm
import Derived.Test.YtpgkhmjlbaoagaaGraWk
import Derived.Test.YtpgkhmjlbaoagaaGraCl
import Derived.Test.YtpgkhmjlbaoagaaGraCc
import Derived.Test.YtpgkhmjlbaoagaaR13Z
import Derived.Test.YtpgkhmjlbaoagaaOpenE0
namespace Go.Proofs.Ytpgkhmjlbaoagaa
open Go.RowKit
set_option linter.unusedVariables false

/-- The law's walk, out of what the graphs answer. -/
theorem parts_run (n : Int) (W : World) (A : Option Addr) (m c : Nat) (hs : Calls Try.prog 12 #[.int .i64 n, .slice A m c] W fun e W' => e = .returned (.bool true) ∧ W = W') (J : World → Value → Value → Prop)
    (xs : List Int) (G : List (List Int)) (k B1 B2 : Nat) (a1 a2 a3 : Int) (hx : xs.length = k) (hk : k ≤ 1000000000) (hG : G.length ≤ 1000000) (hgl : ∀ g ∈ G, g.length ≤ 1000000)
    (hb : Calls Try.prog 14 #[.int .i64 n, .slice A m c] W fun e w' => ∃ g r b, e = .returned (.tuple #[g, r, .bool b, .bool true]) ∧ J w' g r ∧ Below W.heap.size W w')
    (keep : ∀ w w' g r, J w g r → Below w.heap.size w w' → J w' g r)
    (hL1 : ∀ w g r, J w g r → Calls Try.prog 27 #[g] w fun e w' => ∃ A1 c1, e = .returned (.slice A1 k c1) ∧ Rd w' A1 k 1 (is xs) ∧ Below w.heap.size w w')
    (hL2 : ∀ w g r, J w g r → Calls Try.prog 28 #[r] w fun e w' => ∃ A1 c1, e = .returned (.slice A1 k c1) ∧ Rd w' A1 k 1 (is xs) ∧ Below w.heap.size w w')
    (hR1 : ∀ w g r, J w g r → Calls Try.prog 29 #[g] w fun e w' => e = .returned (.agg #[.int .i64 a1, .int .i64 a2, .int .i64 a3]) ∧ Below w.heap.size w w')
    (hR2 : ∀ w g r, J w g r → Calls Try.prog 30 #[r] w fun e w' => e = .returned (.agg #[.int .i64 a1, .int .i64 a2, .int .i64 a3]) ∧ Below w.heap.size w w')
    (hC1 : ∀ w g r, J w g r → Calls Try.prog 31 #[g] w fun e w' => ∃ v, e = .returned v ∧ IsGrp w' w.heap.size v G ∧ Below w.heap.size w w')
    (hC2 : ∀ w g r, J w g r → Calls Try.prog 32 #[r] w fun e w' => ∃ v, e = .returned v ∧ IsGrp w' w.heap.size v G ∧ Below w.heap.size w w') :
    Calls Try.prog 6 #[.int .i64 n, .slice A m c] W fun e W' => e = .returned (.bool true) ∧ Below W.heap.size W W' := by
  have HS2 := hide hs
  have HB := hide hb
  have HK := hide keep
  have HL1 := hide hL1
  have HL2 := hide hL2
  have HR1 := hide hR1
  have HR2 := hide hR2
  have HC1 := hide hC1
  have HC2 := hide hC2
  have HX := hide hx
  have HGL := hide hgl
  have hrow := row_neq13 a1 a2 a3
  clear hs hb keep hL1 hL2 hR1 hR2 hC1 hC2 hx hgl
  go_enter Try.func6, Try.ntmps6
  go_wp2_with fail
  refine HS2.out.mono ?_
  rintro e w' ⟨rfl, rfl⟩
  go_wp2_with fail
  refine HB.out.mono ?_
  rintro e w1 ⟨g, r, b, rfl, hj, hb1⟩
  have HJ1 := hide hj
  have HB1 := hide hb1
  clear hj hb1
  go_wp2_with fail
  refine (HL1.out _ _ _ HJ1.out).mono ?_
  rintro e w2 ⟨A2, c2, rfl, hr2, hb2⟩
  have HR22 := hide hr2
  have HJ2 := hide (HK.out _ _ _ _ HJ1.out hb2)
  have HB2 := hide (HB1.out.trans (hb2.mono HB1.out.size))
  clear hr2 hb2
  go_wp2_with fail
  refine (HL2.out _ _ _ HJ2.out).mono ?_
  rintro e w3 ⟨A3, c3, rfl, hr3, hb3⟩
  have hr23 := HR22.out.below hb3
  have HJ3 := hide (HK.out _ _ _ _ HJ2.out hb3)
  have HB3 := hide (HB2.out.trans (hb3.mono HB2.out.size))
  have HN := hide (numbers_true A2 A3 k c2 c3 xs w3 hr23 hr3 HX.out hk)
  clear hr3 hr23 hb3
  go_wp2_with fail
  refine HN.out.mono ?_
  rintro e w4 ⟨rfl, k4, rfl⟩
  have HJ4 := hide (HK.out _ _ _ _ HJ3.out ((Below.refl _ w3).drewN k4))
  have HB4 := hide (HB3.out.drewN k4)
  clear HN
  generalize w3.drewN k4 = w4 at *
  go_wp2_with fail
  refine (HR1.out _ _ _ HJ4.out).mono ?_
  rintro e w5 ⟨rfl, hb5⟩
  have HJ5 := hide (HK.out _ _ _ _ HJ4.out hb5)
  have HB5 := hide (HB4.out.trans (hb5.mono HB4.out.size))
  clear hb5
  go_wp2_with fail
  refine (HR2.out _ _ _ HJ5.out).mono ?_
  rintro e w6 ⟨rfl, hb6⟩
  have HJ6 := hide (HK.out _ _ _ _ HJ5.out hb6)
  have HB6 := hide (HB5.out.trans (hb6.mono HB5.out.size))
  clear hb6
  go_wp2_with fail
  refine (HC1.out _ _ _ HJ6.out).mono ?_
  rintro e w7 ⟨v7, rfl, hg7, hb7⟩
  have HJ7 := hide (HK.out _ _ _ _ HJ6.out hb7)
  have HB7 := hide (HB6.out.trans (hb7.mono HB6.out.size))
  have HG7 := hide hg7
  obtain ⟨A7, c7, rfl⟩ := hg7.len
  clear hb7 hg7
  go_wp2_with fail
  refine (HC2.out _ _ _ HJ7.out).mono ?_
  rintro e w8 ⟨v8, rfl, hg8, hb8⟩
  have HB8 := hide (HB7.out.trans (hb8.mono HB7.out.size))
  have HG78 := hide (HG7.out.keep hb8)
  have HG8 := hide hg8
  obtain ⟨A8, c8, rfl⟩ := hg8.len
  clear hb8 hg8 HG7
  generalize hm : G.length = q at *
  have HM := hide hm
  clear hm
  go_wp2_with fail
  go_loopg [11] q (fun z i wr => ∃ j : Nat, j + z = q ∧ i = .int .i64 j ∧ ∃ d, wr = w8.drewN d)
  case atStart => exact ⟨0, by omega, rfl, 0, rfl⟩
  case round =>
    obtain ⟨j, hj, rfl, d, rfl⟩ := hrel
    have HJ := hide hj
    clear hj
    by_cases hlt : j < q
    · have hjG : j < G.length := by have := HM.out; omega
      have hgk : G[j]? = some (G[j]'hjG) := List.getElem?_eq_getElem _
      have hgl := HGL.out _ (List.getElem_mem hjG)
      generalize G[j]'hjG = gj at *
      obtain ⟨b5, o5, B5, q5, rfl, hbl, c0, r0⟩ := HG78.out.cell_ j gj hgk
      obtain ⟨b6, o6, B6, q6, rfl, hbl', c0', r0'⟩ := HG8.out.cell_ j gj hgk
      have HR := hide r0
      have HR' := hide r0'
      clear r0 r0' hgk
      generalize hgn : gj.length = z at *
      have HGN := hide hgn
      clear hgn
      go_wp2_with fail
      go_quiet (first | (go_at_call 26; first | exact quiet_any2 (numbers_true _ _ _ _ _ _ _ (HR.out.drewN _) (HR'.out.drewN _) HGN.out (by omega)) | exact quiet_any1 (numbers_true _ _ _ _ _ _ _ (HR.out.drewN _) (HR'.out.drewN _) HGN.out (by omega))))
      go_wp2_with fail
      go_roundg (q - (j + 1))
      case measure => have := HJ.out; omega
      case rel => exact ⟨j + 1, by omega, by go_num, _, rfl⟩
    · go_wp2_with fail
      refine (works13 _).mono ?_
      rintro e w9 ⟨rfl, hb9⟩
      go_wp2_with fail
      go_ret
      exact ⟨rfl, (HB8.out.drewN d).trans (hb9.mono (HB8.out.drewN d).size)⟩
theorem grp_bound13 {n : Nat} {L : Nat → Nat} : ∀ g ∈ grp n L, g.length ≤ n := by
  intro g hg
  simp only [grp, List.mem_map] at hg
  obtain ⟨r, _, rfl⟩ := hg
  rw [List.length_map, mem_len]
  exact cnt_le _ _
theorem graphParts_walk (a0 : Int) (v1 : Value) (l : List (Int × Int × Int)) (W : World) (w0 : (Lit.int .i64 a0).wf = true) (w1 : IsEdges W v1 l) :
    Calls Try.prog 6 #[.int .i64 a0, v1] W fun e W' => e = .returned (.bool true) ∧ Below W.heap.size W W' := by
  obtain ⟨A, m, c, rfl, hm, hl, hw, hr⟩ := w1
  have hm9 : m ≤ 9223372036854775807 := by unfold maxLen at hm; omega
  have HS := small13 a0 A m c hm9 W
  cases hs : smallG a0 m
  · rw [hs] at HS
    have HS2 := hide HS
    clear HS hs hw hr hl
    go_enter Try.func6, Try.ntmps6
    go_wp2_with fail
    refine HS2.out.mono ?_
    rintro e w' ⟨rfl, rfl⟩
    go_wp2_with fail
    refine (works13 _).mono ?_
    rintro e w9 ⟨rfl, hb9⟩
    go_wp2_with fail
    go_ret
    exact ⟨rfl, hb9⟩
  · rw [hs] at HS
    have hm150 : m ≤ 150 := by simp [smallG] at hs; exact hs.2
    by_cases hE : newE a0 l = 0
    · obtain ⟨n, rfl⟩ : ∃ n : Nat, a0 = n := by
        refine Int.eq_ofNat_of_zero_le ?_
        by_cases h : a0 < 0 ∨ 4096 < a0 ∨ 16384 < l.length
        · unfold newE at hE; rw [if_pos h] at hE; cases hE
        · omega
      have hn4 : n ≤ 4096 := by
        by_cases h : (n : Int) < 0 ∨ 4096 < (n : Int) ∨ 16384 < l.length
        · unfold newE at hE; rw [if_pos h] at hE; cases hE
        · omega
      have hsn : (grp n (gLb n l)).length ≤ n := by rw [grp_len]; exact cnt_le _ _
      refine parts_run _ W A m c HS (fun w g r => ∃ (p : GLoc) (B g' : Nat) (A' : Option Addr) (c' B' : Nat), g = .pointer (some ⟨p.g, 0, none⟩) ∧ r = .pointer (some ⟨g', 0, none⟩) ∧ Gr w p n B l ∧ RG w g' A' c' n B' l)
        ((List.range n).map fun i => ((gLb n l i : Nat) : Int)) (grp n (gLb n l)) n 0 0 (lrg n (gLb n l)) (sets n (gLb n l)) (sq n (gLb n l)) (by simp) (by omega) (by omega) (fun g hg => by have := grp_bound13 g hg; omega)
        ((both_ok W n m c A l hr hl hm150 hE).mono fun e w' ⟨p, B, g', A', c', B', he, hG, hRG, hb⟩ => ⟨_, _, _, he, ⟨p, B, g', A', c', B', rfl, rfl, hG, hRG⟩, hb⟩)
        (fun w w' g r ⟨p, B, g', A', c', B', e1, e2, hG, hRG⟩ hb => ⟨p, B, g', A', c', B', e1, e2, hG.fresh hb, hRG.fresh hb⟩) ?_ ?_ ?_ ?_ ?_ ?_
      · rintro w g r ⟨p, B, g', A', c', B', rfl, rfl, hG, hRG⟩
        exact (graLabels w p n B l hG).mono fun e w' ⟨b, he, hb, _, hbl⟩ => ⟨_, _, he, by rw [← arr_is]; exact hb.rd n 1 (by simp [arr_size]), hbl⟩
      · rintro w g r ⟨p, B, g', A', c', B', rfl, rfl, hG, hRG⟩
        refine (r13Labels w g' A' c' n B' l hRG).mono fun e w' ⟨V, he, hV, hbl⟩ => ?_
        obtain ⟨A2, c2, rfl, hr2, -⟩ := own_form hV
        rw [arr_is] at hr2
        exact ⟨A2, c2, he, hr2, hbl⟩
      · rintro w g r ⟨p, B, g', A', c', B', rfl, rfl, hG, hRG⟩
        exact graRow w p n B l hG
      · rintro w g r ⟨p, B, g', A', c', B', rfl, rfl, hG, hRG⟩
        exact r13Row w g' A' c' n B' l hRG
      · rintro w g r ⟨p, B, g', A', c', B', rfl, rfl, hG, hRG⟩
        exact graComponents w p n B l hG
      · rintro w g r ⟨p, B, g', A', c', B', rfl, rfl, hG, hRG⟩
        exact r13Components w g' A' c' n B' l hRG
    · refine parts_run _ W A m c HS (fun w g r => g = .pointer none ∧ r = .pointer none) [] [] 0 0 0 0 0 0 rfl (by decide) (by decide) (fun g hg => by cases hg)
        ((both_no W a0 m c A l hr hl hm150 hE).mono fun e w' ⟨he, hb⟩ => ⟨_, _, _, he, ⟨rfl, rfl⟩, hb⟩)
        (fun w w' g r h hb => h) ?_ ?_ ?_ ?_ ?_ ?_
      · rintro w g r ⟨rfl, rfl⟩
        exact (graB_Labels w none (.inl rfl)).mono fun e w' ⟨he, hk⟩ => ⟨none, 0, he, Rd.nil, hk ▸ Below.refl _ _⟩
      · rintro w g r ⟨rfl, rfl⟩
        exact (r13N_Labels w).mono fun e w' ⟨he, hk⟩ => ⟨none, 0, he, Rd.nil, hk ▸ Below.refl _ _⟩
      · rintro w g r ⟨rfl, rfl⟩
        exact graB_Row w none (.inl rfl)
      · rintro w g r ⟨rfl, rfl⟩
        exact r13N_Row w
      · rintro w g r ⟨rfl, rfl⟩
        exact (graB_Components w none (.inl rfl)).mono fun e w' ⟨he, hk⟩ => ⟨_, he, (OwnGrp.nil _ _).is_, hk ▸ Below.refl _ _⟩
      · rintro w g r ⟨rfl, rfl⟩
        exact (r13N_Components w).mono fun e w' ⟨he, hk⟩ => ⟨_, he, (OwnGrp.nil _ _).is_, hk ▸ Below.refl _ _⟩
end Go.Proofs.Ytpgkhmjlbaoagaa
