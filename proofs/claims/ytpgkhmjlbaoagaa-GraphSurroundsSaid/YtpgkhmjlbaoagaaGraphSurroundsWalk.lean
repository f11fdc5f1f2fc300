/- The walk of GraphSurrounds. -/
import Derived.Test.YtpgkhmjlbaoagaaGraWk
import Derived.Test.YtpgkhmjlbaoagaaGraBo
import Derived.Test.YtpgkhmjlbaoagaaGraNm
import Derived.Test.YtpgkhmjlbaoagaaGraMa
import Derived.Test.YtpgkhmjlbaoagaaR13S
import Derived.Test.YtpgkhmjlbaoagaaOpenE0
namespace Go.Proofs.Ytpgkhmjlbaoagaa
open Go.RowKit
set_option linter.unusedVariables false

theorem pcn_append (a b : List (Nat × Nat)) : pcn (a ++ b) = pcn a ++ pcn b := by simp [pcn]
/-- The first k pairs of a slice. -/
theorem rd_take {w : World} {A : Option Addr} {n k : Nat} {l : List (Nat × Nat)} (h : Rd w A n 2 (pcn l)) (hn : l.length = n) (hk : k ≤ n) : Rd w A k 2 (pcn (l.take k)) := by
  have hl : (l.take k).length = k := by rw [List.length_take]; omega
  refine ⟨by rw [pcn_len, hl], fun hp => ?_⟩
  obtain ⟨b, o, e, hb, hc⟩ := h.2 (by omega)
  refine ⟨b, o, e, hb, fun j u hu => hc j u ?_⟩
  have e1 : pcn l = pcn (l.take k) ++ pcn (l.drop k) := by rw [← pcn_append, List.take_append_drop]
  have hj := (List.getElem?_eq_some_iff.1 hu).1
  rw [e1, List.getElem?_append_left hj]; exact hu
/-- A vertex has no more edges than the graph. -/
theorem arK_le {n : Nat} {l : List (Int × Int × Int)} (h : GOk n l) (v : Nat) : ∀ k, k ≤ l.length → (arK l v k).length ≤ k
  | 0, _ => by simp [arK]
  | k + 1, hk => by
    have := arK_le h v k (by omega)
    obtain ⟨_, _, _, _, hne⟩ := h.at_ (show k < l.length by omega)
    rw [arK_succ, List.length_append, List.length_append]
    by_cases h1 : eU l k = v
    · rw [if_pos h1, if_neg (by omega)]; simp; omega
    · rw [if_neg h1]
      by_cases h2 : eV l k = v
      · rw [if_pos h2]; simp; omega
      · rw [if_neg h2]; simp; omega
theorem arnd_le1 {n : Nat} {l : List (Int × Int × Int)} (h : GOk n l) (v : Int) : (arnd n l v).length ≤ l.length := by
  cases hv : inB n v
  · have e1 : arnd n l v = [] := by unfold arnd; rw [hv]; rfl
    rw [e1]; exact Nat.zero_le _
  · obtain ⟨u, rfl⟩ := Int.eq_ofNat_of_zero_le (show 0 ≤ v by simp [inB] at hv; omega)
    have hu : u < n := inB_lt hv
    have e2 := arK_full (l := l) hu
    rw [← e2]
    exact arK_le h u _ (Nat.le_refl _)

set_option maxRecDepth 100000 in
set_option maxHeartbeats 8000000 in
/-- The law's walk, out of what the graphs answer. -/
theorem surrounds_run (n v : Int) (mo : Nat) (hmo : mo < 256) (W : World) (A : Option Addr) (m c : Nat) (hs : Calls Try.prog 12 #[.int .i64 n, .slice A m c] W fun e W' => e = .returned (.bool true) ∧ W = W')
    (J : World → Value → Value → Prop) (sv se dg : Int) (ar : List (Nat × Nat)) (q : Nat) (hq : ar.length = q) (hq2 : q ≤ 150)
    (hb : Calls Try.prog 14 #[.int .i64 n, .slice A m c] W fun e w' => ∃ g r b, e = .returned (.tuple #[g, r, .bool b, .bool true]) ∧ J w' g r ∧ Below W.heap.size W w')
    (keep : ∀ w w' g r, J w g r → Below w.heap.size w w' → J w' g r)
    (hS1 : ∀ w g r, J w g r → Calls Try.prog 15 #[g, .int .i64 v] w fun e w' => e = .returned (.tuple #[.int .i64 sv, .int .i64 se]) ∧ Below w.heap.size w w')
    (hS2 : ∀ w g r, J w g r → Calls Try.prog 16 #[r, .int .i64 v] w fun e w' => e = .returned (.tuple #[.int .i64 sv, .int .i64 se]) ∧ Below w.heap.size w w')
    (hA2 : ∀ w g r, J w g r → Calls Try.prog 17 #[r, .int .i64 v] w fun e w' => ∃ A1 c1, e = .returned (.slice A1 q c1) ∧ q ≤ c1 ∧ Rd w' A1 q 2 (pcn ar) ∧ Below w.heap.size w w')
    (hD1 : ∀ w g r, J w g r → Calls Try.prog 18 #[g, .int .i64 v] w fun e w' => e = .returned (.int .i64 dg) ∧ Below w.heap.size w w')
    (hD2 : ∀ w g r, J w g r → Calls Try.prog 19 #[r, .int .i64 v] w fun e w' => e = .returned (.int .i64 dg) ∧ Below w.heap.size w w')
    (hA1 : ∀ w g r (k : Nat), J w g r → Calls Try.prog 21 #[g, .int .i64 v, .int .i64 (k : Int)] w fun e w' => ∃ A1 c1, e = .returned (.slice A1 (ar.take k).length c1) ∧ Rd w' A1 (ar.take k).length 2 (pcn (ar.take k)) ∧ Below w.heap.size w w') :
    Calls Try.prog 3 #[.int .i64 n, .slice A m c, .int .i64 v, .int .u8 (mo : Int)] W fun e W' => e = .returned (.bool true) ∧ Below W.heap.size W W' := by
  have HS2 := hide hs
  have HB := hide hb
  have HK := hide keep
  have HS1 := hide hS1
  have HSS2 := hide hS2
  have HA2 := hide hA2
  have HD1 := hide hD1
  have HD2 := hide hD2
  have h200 : ar.take 200 = ar := List.take_of_length_le (by omega)
  have hA200 := fun w g r h => hA1 w g r 200 h
  rw [h200, hq] at hA200
  have HA200 := hide hA200
  have hAm := fun w g r h => hA1 w g r mo h
  have HQ := hide hq
  clear hs hb keep hS1 hS2 hA2 hD1 hD2 hA1 h200 hA200 hq
  have hcs : (mo < q ∧ (ar.take mo).length = mo) ∨ (q ≤ mo ∧ ar.take mo = ar) := by
    by_cases h : mo < q
    · exact .inl ⟨h, by rw [List.length_take]; have := HQ.out; omega⟩
    · exact .inr ⟨by omega, List.take_of_length_le (by have := HQ.out; omega)⟩
  have hcv : IntKind.i64.wrap (mo : Int) = (mo : Int) := IntWalk.i64_in _ (by omega)
  go_enter Try.func3, Try.ntmps3
  go_wp2_with fail
  refine HS2.out.mono ?_
  rintro e w' ⟨rfl, rfl⟩
  go_wp2_with fail
  refine HB.out.mono ?_
  rintro e w1 ⟨g, r, b, rfl, hj, hb1⟩
  have HJ1 := hide hj
  have HB1 := hide hb1
  clear hj hb1
  go_wp2_with fail
  refine (HS1.out _ _ _ HJ1.out).mono ?_
  rintro e w2 ⟨rfl, hb2⟩
  have HJ2 := hide (HK.out _ _ _ _ HJ1.out hb2)
  have HB2 := hide (HB1.out.trans (hb2.mono HB1.out.size))
  clear hb2
  go_wp2_with fail
  refine (HSS2.out _ _ _ HJ2.out).mono ?_
  rintro e w3 ⟨rfl, hb3⟩
  have HJ3 := hide (HK.out _ _ _ _ HJ2.out hb3)
  have HB3 := hide (HB2.out.trans (hb3.mono HB2.out.size))
  clear hb3
  go_wp2_with fail
  refine (HA2.out _ _ _ HJ3.out).mono ?_
  rintro e w4 ⟨A4, c4, rfl, hqc, hr4, hb4⟩
  have HJ4 := hide (HK.out _ _ _ _ HJ3.out hb4)
  have HB4 := hide (HB3.out.trans (hb4.mono HB3.out.size))
  have HR4 := hide hr4
  clear hb4 hr4
  go_wp2_with fail
  refine (HD1.out _ _ _ HJ4.out).mono ?_
  rintro e w5 ⟨rfl, hb5⟩
  have HJ5 := hide (HK.out _ _ _ _ HJ4.out hb5)
  have HB5 := hide (HB4.out.trans (hb5.mono HB4.out.size))
  have HR5 := hide (HR4.out.below hb5)
  clear hb5
  go_wp2_with fail
  refine (HD2.out _ _ _ HJ5.out).mono ?_
  rintro e w6 ⟨rfl, hb6⟩
  have HJ6 := hide (HK.out _ _ _ _ HJ5.out hb6)
  have HB6 := hide (HB5.out.trans (hb6.mono HB5.out.size))
  have HR6 := hide (HR5.out.below hb6)
  clear hb6
  go_wp2_with fail
  refine (HA200.out _ _ _ HJ6.out).mono ?_
  rintro e w7 ⟨A7, c7, rfl, hr7, hb7⟩
  have HJ7 := hide (HK.out _ _ _ _ HJ6.out hb7)
  have HB7 := hide (HB6.out.trans (hb7.mono HB6.out.size))
  have HR7 := hide (HR6.out.below hb7)
  have HP := hide (pairs_true A7 A4 q c7 c4 ar w7 hr7 HR7.out HQ.out (by omega))
  clear hb7 hr7
  go_wp2_with fail
  refine HP.out.mono ?_
  rintro e w8 ⟨rfl, k8, rfl⟩
  have hb8 := (Below.refl w7.heap.size w7).drewN k8
  have HJ8 := hide (HK.out _ _ _ _ HJ7.out hb8)
  have HB8 := hide (HB7.out.trans (hb8.mono HB7.out.size))
  have HR8 := hide (HR7.out.below hb8)
  clear hb8 HP
  generalize w7.drewN k8 = w8 at *
  rcases hcs with ⟨hlt, hml⟩ | ⟨hge, hta⟩
  · rw [hml] at hAm
    have HAM := hide hAm
    have HR9 := hide (rd_take HR8.out HQ.out (Nat.le_of_lt hlt))
    have HML := hide hml
    have hmap : A4.map (·.add 0) = A4 := by cases A4 <;> simp [Addr.add]
    clear hAm hml
    go_wp2_with fail
    refine (HAM.out _ _ _ HJ8.out).mono ?_
    rintro e w9 ⟨A9, c9, rfl, hr9, hb9⟩
    have HB9 := hide (HB8.out.trans (hb9.mono HB8.out.size))
    have HP := hide (pairs_true A9 A4 mo c9 c4 (ar.take mo) w9 hr9 (HR9.out.below hb9) HML.out (by omega))
    clear hr9 hb9
    go_wp2_with fail
    refine HP.out.mono ?_
    rintro e w10 ⟨rfl, k10, rfl⟩
    have HB10 := hide (HB9.out.drewN k10)
    clear HP
    generalize w9.drewN k10 = w10 at *
    go_wp2_with fail
    refine (works13 _).mono ?_
    rintro e w11 ⟨rfl, hb11⟩
    have HB11 := hide (HB10.out.trans (hb11.mono HB10.out.size))
    clear hb11
    go_wp2_with fail
    go_ret
    exact ⟨rfl, HB11.out⟩
  · rw [hta, HQ.out] at hAm
    have HAM := hide hAm
    clear hAm hta
    go_wp2_with fail
    refine (HAM.out _ _ _ HJ8.out).mono ?_
    rintro e w9 ⟨A9, c9, rfl, hr9, hb9⟩
    have HB9 := hide (HB8.out.trans (hb9.mono HB8.out.size))
    have HP := hide (pairs_true A9 A4 q c9 c4 ar w9 hr9 (HR8.out.below hb9) HQ.out (by omega))
    clear hr9 hb9
    go_wp2_with fail
    refine HP.out.mono ?_
    rintro e w10 ⟨rfl, k10, rfl⟩
    have HB10 := hide (HB9.out.drewN k10)
    clear HP
    generalize w9.drewN k10 = w10 at *
    go_wp2_with fail
    refine (works13 _).mono ?_
    rintro e w11 ⟨rfl, hb11⟩
    have HB11 := hide (HB10.out.trans (hb11.mono HB10.out.size))
    clear hb11
    go_wp2_with fail
    go_ret
    exact ⟨rfl, HB11.out⟩
theorem graphSurrounds_walk (a0 : Int) (v1 : Value) (l : List (Int × Int × Int)) (a2 a3 : Int) (W : World) (w0 : (Lit.int .i64 a0).wf = true) (w1 : IsEdges W v1 l) (w2 : (Lit.int .i64 a2).wf = true) (w3 : (Lit.int .u8 a3).wf = true) :
    Calls Try.prog 3 #[.int .i64 a0, v1, .int .i64 a2, .int .u8 a3] W fun e W' => e = .returned (.bool true) ∧ Below W.heap.size W W' := by
  obtain ⟨A, m, c, rfl, hm, hl, hw, hr⟩ := w1
  have hm9 : m ≤ 9223372036854775807 := by unfold maxLen at hm; omega
  obtain ⟨h30, h31⟩ := u8_bd13 w3
  obtain ⟨mo, rfl⟩ := Int.eq_ofNat_of_zero_le h30
  have hmo : mo < 256 := by omega
  have HS := small13 a0 A m c hm9 W
  cases hs : smallG a0 m
  · rw [hs] at HS
    have HS2 := hide HS
    clear HS hs hw hr hl
    go_enter Try.func3, Try.ntmps3
    go_wp2_with fail
    refine HS2.out.mono ?_
    rintro e w' ⟨rfl, rfl⟩
    go_wp2_with fail
    refine (works13 _).mono ?_
    rintro e w9 ⟨rfl, hb9⟩
    go_wp2_with fail
    go_ret
    exact ⟨rfl, hb9⟩
  · rw [hs] at HS
    have hm150 : m ≤ 150 := by simp [smallG] at hs; exact hs.2
    by_cases hE : newE a0 l = 0
    · obtain ⟨n, rfl⟩ : ∃ n : Nat, a0 = n := by
        refine Int.eq_ofNat_of_zero_le ?_
        by_cases h : a0 < 0 ∨ 4096 < a0 ∨ 16384 < l.length
        · unfold newE at hE; rw [if_pos h] at hE; cases hE
        · omega
      have hok : GOk n l := by
        by_cases h : (n : Int) < 0 ∨ 4096 < (n : Int) ∨ 16384 < l.length
        · unfold newE at hE; rw [if_pos h] at hE; cases hE
        · unfold newE at hE; rw [if_neg h] at hE; exact gErr_ok.1 hE
      have hwok : WOk l := fun e he => (hw e he).2.2
      have hle := arnd_le1 hok a2
      refine surrounds_run _ a2 mo hmo W A m c HS (fun w g r => ∃ (p : GLoc) (B g' : Nat) (A' : Option Addr) (c' B' : Nat), g = .pointer (some ⟨p.g, 0, none⟩) ∧ r = .pointer (some ⟨g', 0, none⟩) ∧ Gr w p n B l ∧ RG w g' A' c' n B' l)
        (strV n l a2) (strE n l a2) (gdeg n l a2 : Int) (arnd n l a2) (arnd n l a2).length rfl (by omega)
        ((both_ok W n m c A l hr hl hm150 hE).mono fun e w' ⟨p, B, g', A', c', B', he, hG, hRG, hb⟩ => ⟨_, _, _, he, ⟨p, B, g', A', c', B', rfl, rfl, hG, hRG⟩, hb⟩)
        (fun w w' g r ⟨p, B, g', A', c', B', e1, e2, hG, hRG⟩ hb => ⟨p, B, g', A', c', B', e1, e2, hG.fresh hb, hRG.fresh hb⟩) ?_ ?_ ?_ ?_ ?_ ?_
      · rintro w g r ⟨p, B, g', A', c', B', rfl, rfl, hG, hRG⟩
        exact graStrength w a2 p n B l hG hwok
      · rintro w g r ⟨p, B, g', A', c', B', rfl, rfl, hG, hRG⟩
        exact r13Strength w a2 g' A' c' n B' l hRG hwok
      · rintro w g r ⟨p, B, g', A', c', B', rfl, rfl, hG, hRG⟩
        refine (r13Around w a2 g' A' c' n B' l hRG).mono fun e w' ⟨V, he, ho, hb⟩ => ?_
        obtain ⟨A1, c1, rfl, hrd, -, hcc, -⟩ := own_form ho
        exact ⟨A1, c1, he, hcc, hrd, hb⟩
      · rintro w g r ⟨p, B, g', A', c', B', rfl, rfl, hG, hRG⟩
        exact (graDegree w a2 p n B l hG).mono fun e w' ⟨he, k, hk⟩ => ⟨he, hk ▸ (Below.refl _ _).drewN k⟩
      · rintro w g r ⟨p, B, g', A', c', B', rfl, rfl, hG, hRG⟩
        exact r13Degree w a2 g' A' c' n B' l hRG
      · rintro w g r k ⟨p, B, g', A', c', B', rfl, rfl, hG, hRG⟩
        refine (around_ok w p n B l a2 k hG).mono fun e w' ⟨V, he, ho, hb⟩ => ?_
        obtain ⟨A1, c1, rfl, hrd, -⟩ := own_form ho
        exact ⟨A1, c1, he, hrd, hb⟩
    · refine surrounds_run _ a2 mo hmo W A m c HS (fun w g r => g = .pointer none ∧ r = .pointer none) 0 1 0 [] 0 rfl (by decide)
        ((both_no W a0 m c A l hr hl hm150 hE).mono fun e w' ⟨he, hb⟩ => ⟨_, _, _, he, ⟨rfl, rfl⟩, hb⟩)
        (fun w w' g r h hb => h) ?_ ?_ ?_ ?_ ?_ ?_
      · rintro w g r ⟨rfl, rfl⟩
        exact (graB_Strength w none a2 (.inl rfl)).mono fun e w' ⟨he, hk⟩ => ⟨he, hk ▸ Below.refl _ _⟩
      · rintro w g r ⟨rfl, rfl⟩
        exact (r13N_Strength w a2).mono fun e w' ⟨he, hk⟩ => ⟨he, hk ▸ Below.refl _ _⟩
      · rintro w g r ⟨rfl, rfl⟩
        exact (r13N_Around w a2).mono fun e w' ⟨he, hk⟩ => ⟨none, 0, he, by decide, Rd.nil, hk ▸ Below.refl _ _⟩
      · rintro w g r ⟨rfl, rfl⟩
        exact (graB_Degree w none a2 (.inl rfl)).mono fun e w' ⟨he, hk⟩ => ⟨he, hk ▸ Below.refl _ _⟩
      · rintro w g r ⟨rfl, rfl⟩
        exact (r13N_Degree w a2).mono fun e w' ⟨he, hk⟩ => ⟨he, hk ▸ Below.refl _ _⟩
      · rintro w g r k ⟨rfl, rfl⟩
        refine (around_bad w none a2 k (.inl rfl)).mono fun e w' ⟨he, hb⟩ => ⟨none, 0, ?_, ?_, hb⟩
        · simpa using he
        · rw [List.take_nil]; exact Rd.nil
end Go.Proofs.Ytpgkhmjlbaoagaa
