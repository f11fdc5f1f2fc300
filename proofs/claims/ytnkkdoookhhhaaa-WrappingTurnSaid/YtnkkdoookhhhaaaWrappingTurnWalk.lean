/- The walk of WrappingTurn. -/
import Derived.Test.YtnkkdoookhhhaaaWrapK
import Derived.Test.YtnkkdoookhhhaaaWrapY
import Derived.Deep.AppendLies
import Derived.Deep.RegionLaw
namespace Go.Proofs.Ytnkkdoookhhhaaa
open Go.RowKit
set_option linter.unusedVariables false

theorem step_nat {ops : Array Oper} {o : Oper} {a : Act} {w : World} {K : Act → World → Prop} {Q : Exit → Act → World → Prop} {F : Prop} (u : Nat) (hgd : o.guard = none) (s x : Operand)
    (ho : o.op = .call { callee := .builtin .append, args := #[s, x], argTypes := #[22, 22] })
    (B : Nat) (V : Value) (l : List Nat) (hs : a.eval s = V) (hown : w.ownsRow B 3 1 V l.length (natv l)) (hx : a.eval x = .slice (some ⟨w.heap.size, 0, none⟩) 1 1)
    (hb : l.length ≤ 1000000) (hB : B ≤ w.heap.size)
    (h : ∀ v' w', w'.ownsRow B 3 1 v' (l ++ [u]).length (natv (l ++ [u])) → Below B w w' → K (a.put o.dst v') w') :
    if Region.wanted o (yielded ops a.tmps) = true then Oper.wp Try.prog o a (w.alloc (.cells #[.int .i64 (u : Int)] 3)) K Q else F := by
  obtain ⟨i0, hi, hz0, hz1, hz2⟩ := info_parts int_info0
  refine step_append_lies (w := w.alloc (.cells #[.int .i64 (u : Int)] 3)) hgd s x 22 ho B 3 i0 _ 1 8 Try.underlying22 hi hz0 hz1 hz2 rfl (by decide) V l.length (natv l) hs (World.ownsRow.alloc hown _)
    ⟨w.heap.size, 0, none⟩ 1 1 [.int .i64 (u : Int)] hx rfl (fun j c hj => by rw [Addr.add_lit, Nat.zero_add, World.cell?_alloc_new]; simpa using hj) (by intro c hc; simp at hc; subst hc; rfl) (by decide) (by unfold maxLen; omega) (by omega) (by simp; omega) _ rfl ?_
  intro g cap w' h2 h3 h4 h5
  have g2 := grown_trans2 (World.grownBy_alloc w _ none) h3
  refine h _ w' ?_ ((Below.refl _ _).grown g2 hB (fun k hk => (hown.lt k hk).1))
  rw [List.length_append, List.length_singleton, natv_snoc]; exact h2
set_option maxRecDepth 200000 in
set_option maxHeartbeats 16000000 in
theorem wrappingTurn_walk (a0 a1 : Int) (v2 : Value) (l2 : List Int) (a3 a4 : Int) (W : World) (w0 : (Lit.int .u8 a0).wf = true) (w1 : (Lit.int .u8 a1).wf = true) (w2 : IsInts .u16 W v2 l2) (w3 : (Lit.int .u8 a3).wf = true) (w4 : (Lit.int .u8 a4).wf = true) :
    Calls Try.prog 4 #[.int .u8 a0, .int .u8 a1, v2, .int .u8 a3, .int .u8 a4] W fun e W' => e = .returned (.bool true) ∧ Below W.heap.size W W' := by
  obtain ⟨X, Y, n, hX1, hX2, hY1, hY2, hn, hn', hn1, hn2, hXY, hYX, htor, htor', SZ⟩ := start30 a0 a1 w0 w1
  obtain ⟨l, hl⟩ := ints_u16 w2
  obtain ⟨b3, b3'⟩ := u8_bd w3
  obtain ⟨b4, b4'⟩ := u8_bd w4
  obtain ⟨i, hi, ri, ti⟩ := rem_nat b3 hn1
  obtain ⟨k, hk, rk, tk⟩ := rem_nat b4 hn1
  have hE := edg_inE (X := X) (Y := Y) (by omega) false l
  have hEl := edg_in (N := 2 * n) (by omega) false l
  rw [← hn] at hE
  have E1 := fun w h => edges_any w n v2 l false h hn1 (by omega)
  generalize edg (2 * n) false l = E at *
  have N1 := fun w => torNew_ok w X Y htor
  have N2 := fun w => torNew_ok w Y X htor'
  rw [← hn'] at N2
  rw [← hn] at N1
  have hi' : i < X * Y := by rw [← hn]; exact hi
  have hk' : k < X * Y := by rw [← hn]; exact hk
  have hF : InE (Y * X) tS (tT Y X) (E.map (trn X Y)) := trn_in (by rw [← hn]; exact hE)
  have hE' : InE (X * Y) tS (tT X Y) E := by rw [← hn]; exact hE
  obtain ⟨o1, o2, o3⟩ := trn_offs hE' hi' hk'
  have ax := trn_any hE' trn_x
  have ay := trn_any hE' trn_y
  have hst := trn_sets hE'
  have hFl : ∀ e ∈ E.map (trn X Y), e < 2 * n := fun e he => by
    obtain ⟨x, hx, rfl⟩ := List.mem_map.1 he
    have h1 := hEl.1 x hx
    have h2 := tau_lt (W := X) (H := Y) (v := x / 2) (by rw [← hn]; omega)
    unfold trn
    rw [← hn] at h2
    omega
  have P1 := fun w p A c h hr hA => put_fwd w p X Y n A E.length c E [] h hr rfl (by have := hEl.2.1; omega) hEl.1 hA
  have P2 := fun w p A c h hr hA => put_fwd w p Y X n A E.length c (E.map (trn X Y)) [] h hr (by simp) (by have := hEl.2.1; omega) hFl hA
  have W1 := fun w p h => torWraps w p X Y n E h
  have W2 := fun w p h => torWraps w p Y X n (E.map (trn X Y)) h
  have O1 := fun w p h => torOffset w (i : Int) (k : Int) p X Y n E h
  have O2 := fun w p h => torOffset w (tau X Y i : Nat) (tau X Y k : Nat) p Y X n (E.map (trn X Y)) h
  have C1 := fun w p h => torCount w p X Y n E h
  have C2 := fun w p h => torCount w p Y X n (E.map (trn X Y)) h
  rw [← hn, ← hn'] at hst
  rw [hst] at C2
  rw [ax, ay] at W2
  rw [o1, o2, o3] at O2
  simp only [List.nil_append, tL_nil_sets] at P1 P2
  rw [hst] at P2
  have hs := sets_le n (tL X Y E)
  have ht1 : (i % X : Nat) * Y + i / X = tau X Y i := rfl
  have ht2 : (k % X : Nat) * Y + k / X = tau X Y k := rfl
  have hti : tau X Y i < n := by rw [hn]; exact tau_lt hi'
  have htk : tau X Y k < n := by rw [hn]; exact tau_lt hk'
  have hci : i % X < X := Nat.mod_lt _ hX1
  have hck : k % X < X := Nat.mod_lt _ hX1
  have hdi : i / X < Y := row_lt hi'
  have hdk : k / X < Y := row_lt hk'
  have m1 : (i : Int).tmod (X : Int) = ((i % X : Nat) : Int) := by rw [Int.tmod_eq_emod_of_nonneg (by omega)]; push_cast; rfl
  have m2 : (k : Int).tmod (X : Int) = ((k % X : Nat) : Int) := by rw [Int.tmod_eq_emod_of_nonneg (by omega)]; push_cast; rfl
  have m3 : (i : Int).tdiv (X : Int) = ((i / X : Nat) : Int) := by rw [Int.tdiv_eq_ediv_of_nonneg (by omega)]; push_cast; rfl
  have m4 : (k : Int).tdiv (X : Int) = ((k / X : Nat) : Int) := by rw [Int.tdiv_eq_ediv_of_nonneg (by omega)]; push_cast; rfl
  have hcard := ht1
  generalize tau X Y i = ti' at *
  generalize tau X Y k = tk' at *
  generalize i % X = ci at *
  generalize k % X = ck at *
  generalize i / X = di at *
  generalize k / X = dk at *
  have s1 : (ci : Int) * (Y : Int) + (di : Int) = (ti' : Int) := by rw [← ht1]; push_cast; rfl
  have s2 : (ck : Int) * (Y : Int) + (dk : Int) = (tk' : Int) := by rw [← ht2]; push_cast; rfl
  have p1 : 0 ≤ (ci : Int) * (Y : Int) := Int.mul_nonneg (by omega) (by omega)
  have p2 : 0 ≤ (ck : Int) * (Y : Int) := Int.mul_nonneg (by omega) (by omega)
  have j1 : IntKind.i64.wrap ((ci : Int) * (Y : Int)) = ci * Y := IntWalk.i64_in _ (by omega)
  have j2 : IntKind.i64.wrap ((ck : Int) * (Y : Int)) = ck * Y := IntWalk.i64_in _ (by omega)
  have j3 : IntKind.i64.wrap (ti' : Int) = ti' := IntWalk.i64_in _ (by omega)
  have j4 : IntKind.i64.wrap (tk' : Int) = tk' := IntWalk.i64_in _ (by omega)
  have j5 : IntKind.i64.wrap (ci : Int) = ci := IntWalk.i64_in _ (by omega)
  have j6 : IntKind.i64.wrap (ck : Int) = ck := IntWalk.i64_in _ (by omega)
  have j7 : IntKind.i64.wrap (di : Int) = di := IntWalk.i64_in _ (by omega)
  have j8 : IntKind.i64.wrap (dk : Int) = dk := IntWalk.i64_in _ (by omega)
  have HTAU := hide (And.intro m1 (And.intro m2 (And.intro m3 (And.intro m4 (And.intro s1 (And.intro s2 (And.intro j1 (And.intro j2 (And.intro j3 (And.intro j4 (And.intro j5 (And.intro j6 (And.intro j7 j8)))))))))))))
  clear m1 m2 m3 m4 s1 s2 j1 j2 j3 j4 j5 j6 j7 j8 ht1 ht2 hcard p1 p2
  generalize anyB X Y tX E = x1 at *
  generalize anyB X Y tY E = x2 at *
  generalize offX X Y E (i : Int) (k : Int) = x3 at *
  generalize offY X Y E (i : Int) (k : Int) = x4 at *
  generalize offOk X Y E (i : Int) (k : Int) = x5 at *
  have hp0 : 1 ≤ (X : Int) * (Y : Int) := by omega
  have hp1 : (X : Int) * (Y : Int) ≤ 144 := by omega
  have hge : 0 ≤ (X : Int) * (Y : Int) - (sets n (tL X Y E) : Int) := by omega
  have hmE : ∀ e ∈ E, e < 2 * (X * Y) := by rw [← hn]; exact hEl.1
  rw [← hXY] at E1 P1 P2 ri ti rk tk
  generalize sets n (tL X Y E) = s at *
  have HRI := hide (And.intro ri (And.intro ti (And.intro rk tk)))
  have HSZ := hide SZ
  have HN1 := hide N1
  have HN2 := hide N2
  have HE1 := hide E1
  have HP1 := hide P1
  have HP2 := hide P2
  have HW1 := hide W1
  have HW2 := hide W2
  have HO1 := hide O1
  have HO2 := hide O2
  have HC1 := hide C1
  have HC2 := hide C2
  have HLU := hide hl
  have HXY := hide hXY
  have HNN := hide hn
  have HME := hide hmE
  have hlen : E.length ≤ 300 := hEl.2.1
  have HEL := hide hEl.1
  clear SZ N1 N2 E1 P1 P2 W1 W2 O1 O2 C1 C2 hl hXY hYX hn hn' hE hE' hF hEl ri ti rk tk htor htor' w0 w1 w2 w3 w4 o1 o2 o3 ax ay hst hFl hi' hk' hmE
  have z1 : ¬ X = 0 := by omega
  have z2 : ¬ Y = 0 := by omega
  go_enter Try.func4, Try.ntmps4
  go_wp2_with fail
  refine (HSZ.out _).mono ?_
  rintro e w' ⟨rfl, rfl⟩
  go_wp2_with fail
  refine (HN1.out _).mono ?_
  rintro e w1 ⟨p, rfl, hT1, hB1, hp1'⟩
  have HB1 := hide hB1
  have HP := hide hp1'
  go_wp2_with fail
  refine (HN2.out _).mono ?_
  rintro e w2 ⟨r, rfl, hU2, hB2, hq2⟩
  have HT2 := hide (hT1.fresh hB2)
  have HU2 := hide hU2
  have HB2 := hide (HB1.out.trans (hB2.mono HB1.out.size))
  have HR := hide hq2
  have HPL := hide hT1.lt
  clear hT1 hB1 hp1' hU2 hB2 hq2
  go_wp2_with fail
  refine (HE1.out _ (HLU.out.fresh HB2.out)).mono ?_
  rintro e w3 ⟨A3, c3, rfl, ho3, hb3⟩
  have HT3 := hide (HT2.out.fresh hb3)
  have HU3 := hide (HU2.out.fresh hb3)
  have HB3 := hide (HB2.out.trans (hb3.mono HB2.out.size))
  have HR3 := hide (own_rd ho3)
  have hA3 : ∀ ad, A3 = some ad → ad.block ∉ p.bl ∧ ad.block ∉ r.bl := fun ad h => by
    have := own_block_ge ho3 ad h
    exact ⟨fun hm => by have := HT2.out.lt _ hm; omega, fun hm => by have := HU2.out.lt _ hm; omega⟩
  have HA3 := hide hA3
  clear ho3 hb3 hA3
  go_wp2_with fail
  go_loopg [18, 19] E.length (fun gq V v wr => ∃ j : Nat, j + gq = E.length ∧ v = .int .i64 (j : Int) ∧ wr.ownsRow w3.heap.size 3 1 V ((E.take j).map (trn X Y)).length (natv ((E.take j).map (trn X Y))) ∧ Below w3.heap.size w3 wr)
  case atStart => exact ⟨0, by omega, rfl, own_nil _ _ _ _, Below.refl _ _⟩
  case round =>
    obtain ⟨j, hj, rfl, ho, hb⟩ := hrel
    have HJ := hide hj
    have HO := hide ho
    have HB := hide hb
    have hjm : j ≤ E.length := by omega
    have hsz := hb.size
    clear hj ho hb
    by_cases hlt : j < E.length
    · obtain ⟨b, o, rfl, hblt, cl⟩ := HR3.out.nat j hlt rfl
      have cl' : wr.cell? ⟨b, o + j, none⟩ = some (.int .i64 (E[j] : Int)) := (HB.out.cell (p := ⟨b, o + j, none⟩) hblt).trans cl
      have hx := HME.out E[j] (List.getElem_mem hlt)
      have htk' : (E.take (j + 1)).map (trn X Y) = (E.take j).map (trn X Y) ++ [trn X Y E[j]] := by rw [List.take_succ_eq_append_getElem hlt, List.map_append]; rfl
      have hlj : ((E.take j).map (trn X Y)).length ≤ 300 := by rw [List.length_map, List.length_take]; omega
      have hta : tau X Y (E[j] / 2) < X * Y := tau_lt (by omega)
      have htau : (E[j] / 2 % X) * Y + E[j] / 2 / X = tau X Y (E[j] / 2) := rfl
      have htrn : trn X Y E[j] = 2 * tau X Y (E[j] / 2) + 1 - E[j] % 2 := rfl
      have hcx : E[j] / 2 % X < X := Nat.mod_lt _ hX1
      have hdx : E[j] / 2 / X < Y := row_lt (by omega)
      generalize E[j] = e at *
      have hv2 : e / 2 < X * Y := by omega
      have q1 : (e : Int) / 2 = ((e / 2 : Nat) : Int) := by push_cast; rfl
      have q2 : ((e / 2 : Nat) : Int).tmod (X : Int) = ((e / 2 % X : Nat) : Int) := by rw [Int.tmod_eq_emod_of_nonneg (by omega)]; push_cast; rfl
      have q3 : ((e / 2 : Nat) : Int).tdiv (X : Int) = ((e / 2 / X : Nat) : Int) := by rw [Int.tdiv_eq_ediv_of_nonneg (by omega)]; push_cast; rfl
      have q4 : (e : Int).tmod 2 = ((e % 2 : Nat) : Int) := by rw [Int.tmod_eq_emod_of_nonneg (by omega)]; push_cast; rfl
      have q5 : (e : Int).tdiv 2 = ((e / 2 : Nat) : Int) := by rw [Int.tdiv_eq_ediv_of_nonneg (by omega)]; push_cast; rfl
      have hd2 : e % 2 < 2 := by omega
      generalize trn X Y e = e' at *
      generalize tau X Y (e / 2) = t at *
      generalize e / 2 % X = cv at *
      generalize e / 2 / X = dv at *
      generalize e / 2 = v at *
      generalize e % 2 = d at *
      have hnn : X * Y ≤ 144 := by have := HNN.out; omega
      have q6 : (cv : Int) * (Y : Int) + (dv : Int) = (t : Int) := by rw [← htau]; push_cast; rfl
      have q7 : 2 * (t : Int) + 1 - (d : Int) = (e' : Int) := by omega
      have y0 : 0 ≤ (cv : Int) * (Y : Int) := Int.mul_nonneg (by omega) (by omega)
      have i1 : IntKind.i64.wrap ((cv : Int) * (Y : Int)) = cv * Y := IntWalk.i64_in _ (by omega)
      have i2 : IntKind.i64.wrap (t : Int) = t := IntWalk.i64_in _ (by omega)
      have i3 : IntKind.i64.wrap (2 * (t : Int)) = 2 * t := IntWalk.i64_in _ (by omega)
      have i4 : IntKind.i64.wrap (2 * (t : Int) + 1) = 2 * t + 1 := IntWalk.i64_in _ (by omega)
      have i5 : IntKind.i64.wrap (e' : Int) = e' := IntWalk.i64_in _ (by omega)
      have i6 : IntKind.i64.wrap (v : Int) = v := IntWalk.i64_in _ (by omega)
      have i7 : IntKind.i64.wrap (cv : Int) = cv := IntWalk.i64_in _ (by omega)
      have i8 : IntKind.i64.wrap (dv : Int) = dv := IntWalk.i64_in _ (by omega)
      have i9 : IntKind.i64.wrap (d : Int) = d := IntWalk.i64_in _ (by omega)
      have HTK := hide htk'
      have hsz1 : w3.heap.size ≤ wr.drew.heap.size := hsz
      clear htk' htau htrn cl hx
      go_wp2_with fail
      go_region_law (refine step_nat (w := wr.drew) e' rfl (.tmp 75) (.tmp 93) rfl w3.heap.size _ _ rfl (own_below HO.out ((Below.refl _ _).drewN 1)) rfl (by omega) hsz1 ?_; intro V' w5 ho5 hb5')
      all_goals
        have hb5 : Below w3.heap.size w3 w5 := (HB.out.drewN 1).trans hb5'
        have HO5 := hide ho5
        have HB5 := hide hb5
        clear ho5 hb5 hb5' i1 i2 i3 i4 i5 i6 i7 i8 i9 q1 q2 q3 q4 q5 q6 q7
        go_wp2_with fail
        go_roundg (E.length - (j + 1))
        case measure => have := HJ.out; omega
        case rel => exact ⟨j + 1, by omega, by go_num, by rw [HTK.out]; exact HO5.out, HB5.out⟩
    · have hje : j = E.length := by omega
      subst hje
      obtain ⟨A4, c4, rfl, _⟩ := own_form HO.out
      have ho4 := HO.out
      rw [List.take_length, List.length_map] at ho4
      have hl4 : ((E.take E.length).map (trn X Y)).length = E.length := by simp
      rw [hl4]
      have HR4 := hide (own_rd ho4)
      have hA4 : ∀ ad, A4 = some ad → w3.heap.size ≤ ad.block := own_block_ge ho4
      have HT4 := hide (HT3.out.fresh HB.out)
      have HU4 := hide (HU3.out.fresh HB.out)
      have HR34 := hide (HR3.out.below HB.out)
      have HB4 := hide (HB3.out.trans (HB.out.mono HB3.out.size))
      have HA4 := hide hA4
      have HTL := hide HT3.out.lt
      have HUL := hide HU3.out.lt
      obtain ⟨wo, rfl⟩ : ∃ wo : World, wo = wr := ⟨_, rfl⟩
      clear ho4 hA4 HO HB HJ hlt hjm hl4 hsz
      go_wp2_with fail
      refine (HP1.out _ p _ _ HT4.out HR34.out (fun ad h => (HA3.out ad h).1)).mono ?_
      rintro e w5 ⟨rfl, hT5, hf5⟩
      have HU5 := hide (HU4.out.fr hf5 (fun b hb hm => by have := HPL.out b hm; have := HR.out b hb; omega))
      have HR5 := hide (HR4.out.fr hf5 (fun ad h hm => by have := HA4.out ad h; have := HTL.out _ hm; omega))
      have HT5 := hide hT5
      have HB5 := hide (HB4.out.trans (hf5.below HP.out HB4.out.size))
      clear hT5 hf5 HT4 HU4 HR4 HR3 HR34 HB4
      go_wp2_with fail
      refine (HP2.out _ r _ _ HU5.out HR5.out (fun ad h hm => by have := HA4.out ad h; have := HUL.out _ hm; omega)).mono ?_
      rintro e w6 ⟨rfl, hU6, hf6⟩
      have HT6 := hide (HT5.out.fr hf6 (fun b hb hm => by have := HPL.out b hb; have := HR.out b hm; omega))
      have HU6 := hide hU6
      have HRW : Hid (∀ k ∈ r.bl, W.heap.size ≤ k) := fun k hk => by have := HR.out k hk; have := HB1.out.size; omega
      have HB6 := hide (HB5.out.trans (hf6.below HRW.out HB5.out.size))
      clear hU6 hf6 HT5 HU5 HR5 HB5
      go_wp2_with fail
      obtain ⟨ri, ti, rk, tk⟩ := HRI.out
      go_quiet (fail)
      have HT7 := hide (HT6.out.drewN nq)
      have HU7 := hide (HU6.out.drewN nq)
      have HB7 := hide (HB6.out.drewN nq)
      clear HT6 HU6 HB6 ri ti rk tk
      generalize w6.drewN nq = w7 at *
      go_wp2_with fail
      refine (HW1.out _ p HT7.out).mono ?_
      rintro e w8 ⟨rfl, k8, rfl⟩
      have HT8 := hide (HT7.out.drewN k8)
      have HU8 := hide (HU7.out.drewN k8)
      have HB8 := hide (HB7.out.drewN k8)
      clear HT7 HU7 HB7
      generalize w7.drewN k8 = w8 at *
      go_wp2_with fail
      refine (HW2.out _ r HU8.out).mono ?_
      rintro e w9 ⟨rfl, k9, rfl⟩
      have HT9 := hide (HT8.out.drewN k9)
      have HU9 := hide (HU8.out.drewN k9)
      have HB9 := hide (HB8.out.drewN k9)
      clear HT8 HU8 HB8
      generalize w8.drewN k9 = w9 at *
      go_wp2_with fail
      refine (HO1.out _ p HT9.out).mono ?_
      rintro e w10 ⟨rfl, hT10, hf10⟩
      have HU10 := hide (HU9.out.fr hf10 (fun b hb hm => by have := HPL.out b hm; have := HR.out b hb; omega))
      have HT10 := hide hT10
      have HB10 := hide (HB9.out.trans (hf10.below HP.out HB9.out.size))
      clear HT9 HU9 HB9 hT10 hf10
      go_wp2_with fail
      obtain ⟨m1, m2, m3, m4, s1, s2, j1, j2, j3, j4, j5, j6, j7, j8⟩ := HTAU.out
      have HO2' := hide (HO2.out _ r (HU10.out.drewN 1))
      go_region_held3 (fun w' => True) (first | trivial) (first | (go_at_call 23; (refine HO2'.out.mono ?_); rintro e w11 ⟨rfl, hU11, hf11'⟩))
      have hf11 : Fr r.bl w10 w11 := ((Fr.refl r.bl w10).drewN 1).trans hf11'
      have HT11 := hide (HT10.out.fr hf11 (fun b hb hm => by have := HPL.out b hb; have := HR.out b hm; omega))
      have HU11 := hide hU11
      have HB11 := hide (HB10.out.trans (hf11.below HRW.out HB10.out.size))
      clear HT10 HU10 HB10 hU11 hf11 hf11' m1 m2 m3 m4 s1 s2 j1 j2 j3 j4 j5 j6 j7 j8
      go_wp2_with fail
      refine (HC1.out _ p HT11.out).mono ?_
      rintro e w' ⟨rfl, rfl⟩
      go_wp2_with fail
      refine (HC2.out _ r HU11.out).mono ?_
      rintro e w' ⟨rfl, rfl⟩
      go_wp2_with fail
      refine (works30 _).mono ?_
      rintro e w14 ⟨rfl, hb14⟩
      go_wp2_with fail
      go_ret
      exact ⟨rfl, HB11.out.trans (hb14.mono HB11.out.size)⟩
end Go.Proofs.Ytnkkdoookhhhaaa
