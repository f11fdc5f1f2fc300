/- The walk of WrappingOrder. -/
import Derived.Test.YtnkkdoookhhhaaaWrapK
namespace Go.Proofs.Ytnkkdoookhhhaaa
open Go.RowKit
set_option linter.unusedVariables false

set_option maxRecDepth 200000 in
set_option maxHeartbeats 16000000 in
theorem wrappingOrder_walk (a0 a1 : Int) (v2 : Value) (l2 : List Int) (a3 a4 : Int) (W : World) (w0 : (Lit.int .u8 a0).wf = true) (w1 : (Lit.int .u8 a1).wf = true) (w2 : IsInts .u16 W v2 l2) (w3 : (Lit.int .u8 a3).wf = true) (w4 : (Lit.int .u8 a4).wf = true) :
    Calls Try.prog 10 #[.int .u8 a0, .int .u8 a1, v2, .int .u8 a3, .int .u8 a4] W fun e W' => e = .returned (.bool true) ∧ Below W.heap.size W W' := by
  obtain ⟨X, Y, n, hX1, hX2, hY1, hY2, hn, -, hn1, hn2, hXY, -, htor, -, SZ⟩ := start30 a0 a1 w0 w1
  obtain ⟨l, hl⟩ := ints_u16 w2
  obtain ⟨b3, b3'⟩ := u8_bd w3
  obtain ⟨b4, b4'⟩ := u8_bd w4
  obtain ⟨i, hi, ri, ti⟩ := rem_nat b3 hn1
  obtain ⟨k, hk, rk, tk⟩ := rem_nat b4 hn1
  have hE := edg_inE (X := X) (Y := Y) (by omega) false l
  have hF0 := edg_inE (X := X) (Y := Y) (by omega) true l
  have hElt := (edg_in (N := 2 * n) (by omega) false l)
  have hFlt := (edg_in (N := 2 * n) (by omega) true l)
  rw [← hn] at hE hF0
  have hmem : ∀ e, e ∈ edg (2 * n) false l ↔ e ∈ (edg (2 * n) true l).reverse := fun e => by rw [List.mem_reverse]; exact mem_edg
  have E1 := fun w h => edges_any w n v2 l false h hn1 (by omega)
  have E2 := fun w h => edges_any w n v2 l true h hn1 (by omega)
  generalize edg (2 * n) false l = E at *
  generalize edg (2 * n) true l = F at *
  have hF : InE n tS (tT X Y) F.reverse := fun e he => hF0 e (List.mem_reverse.1 he)
  subst hn
  have q1 := mem_any hE hF hmem (f := tX)
  have q2 := mem_any hE hF hmem (f := tY)
  have q3 := mem_offX hE hF hmem (i : Int) (k : Int)
  have q4 := mem_offOk hE hF hmem (i : Int) (k : Int)
  have q5 := sameB_congr (mem_tL hE hF hmem) (i : Int) (k : Int)
  have q6 := sets_congr (mem_tL hE hF hmem)
  have hs := sets_le (X * Y) (tL X Y E)
  have P1 := fun w p A m c h hr hl hm hA => put_fwd w p X Y (X * Y) A m c E [] h hr hl hm hElt.1 hA
  have P2 := fun w p A m c h hr hl hm hA => put_bwd w p X Y (X * Y) A m c F [] h hr hl hm hFlt.1 hA
  have WT := fun w p h => torWraps w p X Y (X * Y) E h
  have WU := fun w p h => torWraps w p X Y (X * Y) F.reverse h
  have OT := fun w p h => torOffset w (i : Int) (k : Int) p X Y (X * Y) E h
  have OU := fun w p h => torOffset w (i : Int) (k : Int) p X Y (X * Y) F.reverse h
  have ST := fun w p h => torSame w (i : Int) (k : Int) p X Y (X * Y) E h
  have SU := fun w p h => torSame w (i : Int) (k : Int) p X Y (X * Y) F.reverse h
  have CT := fun w p h => torCount w p X Y (X * Y) E h
  have CU := fun w p h => torCount w p X Y (X * Y) F.reverse h
  rw [← q1, ← q2] at WU
  rw [← q3.1, ← q3.2, ← q4] at OU
  rw [← q5] at SU
  rw [← q6] at CU
  simp only [List.nil_append, tL_nil_sets] at P1 P2
  rw [← q6] at P2
  generalize anyB X Y tX E = x1 at *
  generalize anyB X Y tY E = x2 at *
  generalize offX X Y E (i : Int) (k : Int) = x3 at *
  generalize offY X Y E (i : Int) (k : Int) = x4 at *
  generalize offOk X Y E (i : Int) (k : Int) = x5 at *
  generalize sameB (X * Y) (tL X Y E) (i : Int) (k : Int) = x6 at *
  generalize sets (X * Y) (tL X Y E) = s at *
  have N1 := fun w => torNew_ok w X Y htor
  generalize hn : X * Y = n at *
  have hp0 : 1 ≤ (X : Int) * (Y : Int) := by omega
  have hp1 : (X : Int) * (Y : Int) ≤ 144 := by omega
  have hge : (s : Int) ≤ (X : Int) * (Y : Int) := by omega
  rw [← hXY] at E1 E2 P1 P2 ri ti rk tk
  have HXY := hide hXY
  clear hXY
  have HRI := hide (And.intro ri (And.intro ti (And.intro rk tk)))
  clear ri ti rk tk
  have HSZ := hide SZ
  have HN1 := hide N1
  have HE1 := hide E1
  have HE2 := hide E2
  have HP1 := hide P1
  have HP2 := hide P2
  have HWT := hide WT
  have HWU := hide WU
  have HOT := hide OT
  have HOU := hide OU
  have HST := hide ST
  have HSU := hide SU
  have HCT := hide CT
  have HCU := hide CU
  have CT3 : ∀ w p, Tor w p X Y n E → Calls Try.prog 24 #[.pointer (some ⟨p.g, 0, none⟩)] w fun e w' => e = .returned (.int .i64 ((X : Int) * (Y : Int) - ((X : Int) * (Y : Int) - (s : Int)))) ∧ w = w' := fun w p h => by
    rw [show (X : Int) * (Y : Int) - ((X : Int) * (Y : Int) - (s : Int)) = s by omega]
    exact CT w p h
  have HCT3 := hide CT3
  have HLU := hide hl
  have HEL := hide hElt
  have HFL := hide hFlt
  clear CT3 SZ N1 E1 E2 P1 P2 WT WU OT OU ST SU CT CU hl hElt hFlt q1 q2 q3 q4 q5 q6 hE hF hF0 hmem w0 w1 w2 w3 w4 htor hn
  go_enter Try.func10, Try.ntmps10
  go_wp2_with fail
  refine (HSZ.out _).mono ?_
  rintro e w' ⟨rfl, rfl⟩
  go_wp2_with fail
  refine (HN1.out _).mono ?_
  rintro e w1 ⟨p, rfl, hT1, hB1, hp1⟩
  have HB1 := hide hB1
  have HP := hide hp1
  go_wp2_with fail
  refine (HN1.out _).mono ?_
  rintro e w2 ⟨q, rfl, hU2, hB2, hq2⟩
  have HT2 := hide (hT1.fresh hB2)
  have HU2 := hide hU2
  have HB2 := hide (HB1.out.trans (hB2.mono HB1.out.size))
  have HQ := hide hq2
  have HPL := hide hT1.lt
  clear hT1 hB1 hp1 hU2 hB2 hq2
  go_wp2_with fail
  refine (HE1.out _ (HLU.out.fresh HB2.out)).mono ?_
  rintro e w3 ⟨A3, c3, rfl, ho3, hb3⟩
  have hT3 := HT2.out.fresh hb3
  have HT3 := hide hT3
  have HU3 := hide (HU2.out.fresh hb3)
  have HB3 := hide (HB2.out.trans (hb3.mono HB2.out.size))
  have HR3 := hide (own_rd ho3)
  have hA3 : ∀ ad, A3 = some ad → ad.block ∉ p.bl := fun ad h hm => by have := own_block_ge ho3 ad h; have := HT2.out.lt _ hm; omega
  have HA3 := hide hA3
  clear hT3 ho3 hb3 hA3
  go_wp2_with fail
  refine (HP1.out _ p _ _ _ HT3.out HR3.out rfl (by have := HEL.out.2.1; omega) HA3.out).mono ?_
  rintro e w4 ⟨rfl, hT4, hf4⟩
  have hU4 := HU3.out.fr hf4 (fun b hb hm => by have := HPL.out b hm; have := HQ.out b hb; omega)
  have HT4 := hide hT4
  have HU4 := hide hU4
  have HB4 := hide (HB3.out.trans (hf4.below HP.out HB3.out.size))
  clear hT4 hU4 hf4
  go_wp2_with fail
  refine (HE2.out _ (HLU.out.fresh HB4.out)).mono ?_
  rintro e w5 ⟨A5, c5, rfl, ho5, hb5⟩
  have HT5 := hide (HT4.out.fresh hb5)
  have HU5 := hide (HU4.out.fresh hb5)
  have HB5 := hide (HB4.out.trans (hb5.mono HB4.out.size))
  have HR5 := hide (own_rd ho5)
  have hA5 : ∀ ad, A5 = some ad → ad.block ∉ q.bl := fun ad h hm => by have := own_block_ge ho5 ad h; have := HU4.out.lt _ hm; omega
  have HA5 := hide hA5
  clear ho5 hb5 hA5
  go_wp2_with fail
  refine (HP2.out _ q _ _ _ HU5.out HR5.out rfl (by have := HFL.out.2.1; omega) HA5.out).mono ?_
  rintro e w6 ⟨rfl, hU6, hf6⟩
  have hT6 := HT5.out.fr hf6 (fun b hb hm => by have := HPL.out b hb; have := HQ.out b hm; omega)
  have HT6 := hide hT6
  have HU6 := hide hU6
  have hqW : ∀ k ∈ q.bl, W.heap.size ≤ k := fun k hk => by have := HQ.out k hk; have := HB1.out.size; omega
  have HQW := hide hqW
  have HB6 := hide (HB5.out.trans (hf6.below HQW.out HB5.out.size))
  clear hT6 hU6 hf6 hqW HT5 HU5 HB5 HR5 HA5 HT4 HU4 HB4 HT3 HU3 HB3 HR3 HA3
  go_wp2_with fail
  obtain ⟨ri, ti, rk, tk⟩ := HRI.out
  go_quiet (fail)
  have HT7 := hide (HT6.out.drewN nq)
  have HU7 := hide (HU6.out.drewN nq)
  have HB7 := hide (HB6.out.drewN nq)
  clear HT6 HU6 HB6
  generalize w6.drewN nq = w7 at *
  clear ri ti rk tk
  go_wp2_with fail
  refine (HWT.out _ p HT7.out).mono ?_
  rintro e w8 ⟨rfl, k8, rfl⟩
  have HT8 := hide (HT7.out.drewN k8)
  have HU8 := hide (HU7.out.drewN k8)
  have HB8 := hide (HB7.out.drewN k8)
  clear HT7 HU7 HB7
  generalize w7.drewN k8 = w8 at *
  go_wp2_with fail
  refine (HWU.out _ q HU8.out).mono ?_
  rintro e w9 ⟨rfl, k9, rfl⟩
  have HT9 := hide (HT8.out.drewN k9)
  have HU9 := hide (HU8.out.drewN k9)
  have HB9 := hide (HB8.out.drewN k9)
  clear HT8 HU8 HB8
  generalize w8.drewN k9 = w9 at *
  go_wp2_with fail
  refine (HOT.out _ p HT9.out).mono ?_
  rintro e w10 ⟨rfl, hT10, hf10⟩
  have HU10 := hide (HU9.out.fr hf10 (fun b hb hm => by have := HPL.out b hm; have := HQ.out b hb; omega))
  have HT10 := hide hT10
  have HB10 := hide (HB9.out.trans (hf10.below HP.out HB9.out.size))
  clear HT9 HU9 HB9 hT10 hf10
  go_wp2_with fail
  refine (HOU.out _ q HU10.out).mono ?_
  rintro e w11 ⟨rfl, hU11, hf11⟩
  have HT11 := hide (HT10.out.fr hf11 (fun b hb hm => by have := HPL.out b hb; have := HQ.out b hm; omega))
  have HU11 := hide hU11
  have HB11 := hide (HB10.out.trans (hf11.below HQW.out HB10.out.size))
  clear HT10 HU10 HB10 hU11 hf11
  go_wp2_with fail
  refine (HST.out _ p HT11.out).mono ?_
  rintro e w12 ⟨rfl, hT12, hf12⟩
  have HU12 := hide (HU11.out.fr hf12 (fun b hb hm => by have := HPL.out b hm; have := HQ.out b hb; omega))
  have HT12 := hide hT12
  have HB12 := hide (HB11.out.trans (hf12.below HP.out HB11.out.size))
  clear HT11 HU11 HB11 hT12 hf12
  go_wp2_with fail
  refine (HSU.out _ q HU12.out).mono ?_
  rintro e w13 ⟨rfl, hU13, hf13⟩
  have HT13 := hide (HT12.out.fr hf13 (fun b hb hm => by have := HPL.out b hb; have := HQ.out b hm; omega))
  have HU13 := hide hU13
  have HB13 := hide (HB12.out.trans (hf13.below HQW.out HB12.out.size))
  clear HT12 HU12 HB12 hU13 hf13
  go_wp2_with fail
  refine (HCT.out _ p HT13.out).mono ?_
  rintro e w' ⟨rfl, rfl⟩
  go_wp2_with fail
  refine (HCU.out _ q HU13.out).mono ?_
  rintro e w' ⟨rfl, rfl⟩
  go_wp2_with fail
  refine (HCT3.out _ p HT13.out).mono ?_
  rintro e w' ⟨rfl, rfl⟩
  go_wp2_with fail
  refine (works30 _).mono ?_
  rintro e w14 ⟨rfl, hb14⟩
  go_wp2_with fail
  go_ret
  exact ⟨rfl, HB13.out.trans (hb14.mono HB13.out.size)⟩
end Go.Proofs.Ytnkkdoookhhhaaa
