/- The walk of WrappingFew. -/
import Derived.Test.YtnkkdoookhhhaaaWrapK
import Derived.Test.YtnkkdoookhhhaaaWrapY
namespace Go.Proofs.Ytnkkdoookhhhaaa
open Go.RowKit
set_option linter.unusedVariables false

theorem fst_none {W H : Nat} {l : List Nat} (h : ∀ k, k < l.length → wrp W H l k = false) : fstK W H l = 0 ∧ fstB W H l = false := by
  have := lead_none h
  unfold fstK fstB
  rw [this]
  exact ⟨if_neg (by omega), by simp⟩
theorem rd_take {w : World} {A : Option Addr} {n k : Nat} {xs : List Value} (h : Rd w A n 1 xs) (hk : k ≤ n) : Rd w A k 1 (xs.take k) :=
  ⟨by have := h.1; simp at this ⊢; omega, fun hp => by
    obtain ⟨b, o, e, hl, hc⟩ := h.2 (by omega)
    exact ⟨b, o, e, hl, fun j u hj => by
      rw [List.getElem?_take] at hj
      split at hj
      · exact hc j u hj
      · cases hj⟩⟩
theorem natv_take (l : List Nat) (k : Nat) : natv (l.take k) = (natv l).take k := by simp [natv, is, List.map_take]
set_option maxRecDepth 200000 in
set_option maxHeartbeats 16000000 in
theorem wrappingFew_walk (a0 a1 : Int) (v2 : Value) (l2 : List Int) (W : World) (w0 : (Lit.int .u8 a0).wf = true) (w1 : (Lit.int .u8 a1).wf = true) (w2 : IsInts .u16 W v2 l2) :
    Calls Try.prog 5 #[.int .u8 a0, .int .u8 a1, v2] W fun e W' => e = .returned (.bool true) ∧ Below W.heap.size W W' := by
  obtain ⟨X, Y, n, hX1, hX2, hY1, hY2, hn, -, hn1, hn2, hXY, -, htor, -, SZ⟩ := start30 a0 a1 w0 w1
  obtain ⟨l, hl⟩ := ints_u16 w2
  have hE := edg_inE (X := X) (Y := Y) (by omega) true l
  have hEl := edg_in (N := 2 * n) (by omega) true l
  rw [← hn] at hE
  have E1 := fun w h => edges_any w n v2 l true h hn1 (by omega)
  generalize edg (2 * n) true l = F at *
  have N1 := fun w => torNew_ok w X Y htor
  subst hn
  obtain ⟨q, hq⟩ : ∃ q, q = min F.length (min X Y - 1) := ⟨_, rfl⟩
  have hqF : q ≤ F.length := by omega
  have hqX : q < X := by omega
  have hqY : q < Y := by omega
  have hT : InE (X * Y) tS (tT X Y) (F.take q) := hE.take q
  have hlen : (F.take q).length = q := by rw [List.length_take]; omega
  have f1 := few_x hT (by omega)
  have f2 := few_y hT (by omega)
  obtain ⟨g1, g2, g3⟩ := all_wraps (W := X) (H := Y) hX1 hY1
  have hnd : ordOk (2 * (X * Y)) ((F.take q).map fun (i : Nat) => (i : Int)) = true := by
    rw [ordOk_iff]
    refine ⟨?_, fun i hi => ?_⟩
    · exact ((hEl.2.2 rfl).sublist (List.take_sublist _ _)).map (f := fun (i : Nat) => (i : Int)) (by intro a b h e; exact h (Int.ofNat.inj e))
    · obtain ⟨x, hx, rfl⟩ := List.mem_map.1 hi
      have := hEl.1 x (List.mem_of_mem_take hx)
      omega
  have hord : ordE ((F.take q).map fun (i : Nat) => (i : Int)) = F.take q := by
    unfold ordE; rw [List.map_map]
    exact (List.map_congr_left fun a _ => by simp).trans (List.map_id _)
  have FI := fun w A c hr => torFirst_ok w X Y A q c ((F.take q).map fun (i : Nat) => (i : Int)) htor (by rw [List.length_map]; exact hlen) hr hnd
  rw [hord] at FI
  have hfn := fst_none (W := X) (H := Y) (l := F.take q) (fun k hk => by
    unfold wrp
    rw [Bool.or_eq_false_iff]
    exact ⟨few_x (hT.take _) (by rw [List.length_take]; omega), few_y (hT.take _) (by rw [List.length_take]; omega)⟩)
  rw [hfn.1, hfn.2] at FI
  have P1 := fun w p A c h hr hA => put_fwd w p X Y (X * Y) A q c (F.take q) [] h hr hlen (by omega) (fun e he => hEl.1 e (List.mem_of_mem_take he)) hA
  have P2 := fun w p A c h hr hA => put_fwd w p X Y (X * Y) A (2 * (X * Y)) c (allE X Y) [] h hr (by simp [allE]) (by omega) (fun e he => by simpa [allE] using he) hA
  simp only [List.nil_append, tL_nil_sets] at P1 P2
  rw [g3] at P2
  have W1 := fun w p h => torWraps w p X Y (X * Y) (F.take q) h
  have W2 := fun w p h => torWraps w p X Y (X * Y) (allE X Y) h
  have C2 := fun w p h => torCount w p X Y (X * Y) (allE X Y) h
  rw [f1, f2] at W1
  rw [g1, g2] at W2
  rw [g3] at C2
  have hs1 := sets_le (X * Y) (tL X Y (F.take q))
  have hall : natv (allE X Y) = natv (List.range (2 * (X * Y))) := rfl
  rw [hall] at P2
  generalize allE X Y = AL at *
  generalize hn : X * Y = n at *
  have hp0 : 1 ≤ (X : Int) * (Y : Int) := by omega
  have hp1 : (X : Int) * (Y : Int) ≤ 144 := by omega
  have hm : 2 * (X : Int) * (Y : Int) = 2 * ((X : Int) * (Y : Int)) := Int.mul_assoc _ _ _
  rw [← hXY] at E1 P1 P2
  have hge : 0 ≤ (X : Int) * (Y : Int) - (sets n (tL X Y (F.take q)) : Int) := by omega
  generalize (sets n (tL X Y (F.take q)) : Int) = s1 at *
  have HSZ := hide SZ
  have HN1 := hide N1
  have HE1 := hide E1
  have HP1 := hide P1
  have HP2 := hide P2
  have HW1 := hide W1
  have HW2 := hide W2
  have HC2 := hide C2
  have HFI := hide FI
  have HLU := hide hl
  have hNN : 2 * (X : Int) * (Y : Int) = 2 * (n : Int) := by rw [Int.mul_assoc, hXY]
  have HNN := hide hNN
  clear hNN
  have HXY := hide hXY
  have hq0 : 1 ≤ 2 * (X : Int) * (Y : Int) := by omega
  have hq1 : 2 * (X : Int) * (Y : Int) ≤ 288 := by omega
  obtain ⟨i1, hi, hz0, hz1, hz2⟩ := info_parts int_info0
  have hi' := hide hi
  have hz0' := hide hz0
  have hz1' := hide hz1
  have hz2' := hide hz2
  clear hi hz0 hz1 hz2
  have HM := hide hm
  have HQ := hide hq
  clear SZ N1 E1 P1 P2 W1 W2 C2 FI hl hXY hm hq hE hEl hT f1 f2 g1 g2 g3 hnd hord hfn hall htor w0 w1 w2 hs1 hlen
  go_enter Try.func5, Try.ntmps5
  go_wp2_with fail
  refine (HSZ.out _).mono ?_
  rintro e w' ⟨rfl, rfl⟩
  go_wp2_with fail
  refine (HN1.out _).mono ?_
  rintro e w1 ⟨p, rfl, hT1, hB1, hp1⟩
  have HB1 := hide hB1
  have HP := hide hp1
  go_wp2_with fail
  refine (HN1.out _).mono ?_
  rintro e w2 ⟨r, rfl, hU2, hB2, hq2⟩
  have HT2 := hide (hT1.fresh hB2)
  have HU2 := hide hU2
  have HB2 := hide (HB1.out.trans (hB2.mono HB1.out.size))
  have HR := hide hq2
  have HPL := hide hT1.lt
  clear hT1 hB1 hp1 hU2 hB2 hq2
  go_wp2_with fail
  refine (HE1.out _ (HLU.out.fresh HB2.out)).mono ?_
  rintro e w3 ⟨A3, c3, rfl, ho3, hb3⟩
  have HT3 := hide (HT2.out.fresh hb3)
  have HU3 := hide (HU2.out.fresh hb3)
  have HB3 := hide (HB2.out.trans (hb3.mono HB2.out.size))
  have HO3 := hide ho3
  have hA3 : ∀ ad, A3 = some ad → ad.block ∉ p.bl ∧ ad.block ∉ r.bl := fun ad h => by
    have := own_block_ge ho3 ad h
    exact ⟨fun hm => by have := HT2.out.lt _ hm; omega, fun hm => by have := HU2.out.lt _ hm; omega⟩
  have HA3 := hide hA3
  clear ho3 hb3 hA3
  have hcap : F.length ≤ c3 ∧ c3 ≤ 9223372036854775807 := by
    obtain ⟨A', c', e, _, _, h1, h2⟩ := own_form HO3.out
    injection e with _ _ e3
    subst e3
    unfold maxLen at h2
    exact ⟨h1, h2⟩
  obtain ⟨hcap, hcap2⟩ := hcap
  have hA0 : (if c3 = 0 then A3 else A3.map fun x => x.add 0) = A3 ∧ (A3.map fun x => x.add 0) = A3 := by
    have : (A3.map fun x => x.add 0) = A3 := by
      rcases A3 with _ | ad
      · rfl
      · obtain ⟨A', c', e, _, h1, _⟩ := own_form HO3.out
        injection e with e1 _ _
        subst e1
        rw [(h1 ad rfl).2.2]; rfl
    exact ⟨by rw [this]; split <;> rfl, this⟩
  obtain ⟨hA0, hA1⟩ := hA0
  have hcs : ((Y < X ∧ ((Y : Int) - 1 < F.length) ∧ q + 1 = Y) ∨ (Y < X ∧ ¬ ((Y : Int) - 1 < F.length) ∧ q = F.length)) ∨ ((¬ Y < X ∧ ((X : Int) - 1 < F.length) ∧ q + 1 = X) ∨ (¬ Y < X ∧ ¬ ((X : Int) - 1 < F.length) ∧ q = F.length)) := by have := HQ.out; omega
  rcases hcs with (⟨h1, h2, h3⟩ | ⟨h1, h2, h3⟩) | (⟨h1, h2, h3⟩ | ⟨h1, h2, h3⟩)
  · have h3' : Y - 1 = q := by omega
    have H3' := hide h3'
    clear h3'
    have H3 := hide h3
    clear h3
    go_wp2_with fail
    rw [H3'.out]
    clear h1 h2 hA0 H3' hA1 H3
    go_loopg [14, 15] (2 * n) (fun gq V v wr => ∃ k : Nat, k + gq = 2 * n ∧ v = .int .i64 (k : Int) ∧ wr.ownsRow w3.heap.size 3 1 V (List.range k).length (natv (List.range k)) ∧ Below w3.heap.size w3 wr)
    case atStart => exact ⟨0, by omega, rfl, own_nil _ _ _ _, Below.refl _ _⟩
    case round =>
      obtain ⟨k, hk, rfl, ho, hb⟩ := hrel
      have HK := hide hk
      have HO := hide ho
      have HB := hide hb
      have hkm : k ≤ 2 * n := by omega
      have hsz := hb.size
      clear hk ho hb
      by_cases hlt : (k : Int) < 2 * (X : Int) * (Y : Int)
      · have hlen : (List.range k).length = k := List.length_range
        go_wp2_with (first | (at_builtin; go_loud (refine app_one 22 3 Try.underlying22 hi'.out hz0'.out hz1'.out hz2'.out rfl (by decide) wr #[.int .i64 (k : Int)] rfl (by intro u hu; simp at hu; subst hu; rfl) rfl (.tmp 69) (.tmp 71) rfl w3.heap.size _ (List.range k).length _ rfl HO.out rfl (by unfold maxLen; simp; omega) (by simp; omega) hsz ?_; intro vo' w5 ho5 hg5 hat5 hb5; have HO5 := hide ho5; have HB5 := hide hb5; clear ho5 hg5 hat5 hb5)))
        go_roundg (2 * n - (k + 1))
        case measure => have := HK.out; have := HNN.out; omega
        case rel =>
          refine ⟨k + 1, by have := HNN.out; omega, by go_num, ?_, HB.out.trans HB5.out⟩
          rw [List.range_succ, natv_snoc, List.length_append, List.length_singleton]; exact HO5.out
      · have hke : k = 2 * n := by have := HNN.out; omega
        have hlt2 : ¬ (k : Int) < 2 * (X : Int) * (Y : Int) := hlt
        subst hke
        obtain ⟨A4, c4, rfl, _⟩ := own_form HO.out
        have hl4 : (List.range (2 * n)).length = 2 * n := List.length_range
        rw [hl4]
        have ho4 := HO.out
        rw [hl4] at ho4
        have HR4 := hide (own_rd ho4)
        have hA4 : ∀ ad, A4 = some ad → w3.heap.size ≤ ad.block := own_block_ge ho4
        have HT4 := hide (HT3.out.fresh HB.out)
        have HU4 := hide (HU3.out.fresh HB.out)
        have HR3 := hide ((own_rd HO3.out).below HB.out)
        have HB4 := hide (HB3.out.trans (HB.out.mono HB3.out.size))
        have HA4 := hide hA4
        have HTL := hide HT3.out.lt
        have HUL := hide HU3.out.lt
        obtain ⟨wo, rfl⟩ : ∃ wo : World, wo = wr := ⟨_, rfl⟩
        clear ho4 hA4 HO HB HK hlt hkm hl4 hsz
        go_wp2_with fail
        clear hlt2
        have hr1 := rd_take HR3.out hqF
        rw [← natv_take] at hr1
        refine (HP1.out _ p _ _ HT4.out hr1 (fun ad h => (HA3.out ad h).1)).mono ?_
        rintro e w5 ⟨rfl, hT5, hf5⟩
        have HU5 := hide (HU4.out.fr hf5 (fun b hb hm => by have := HPL.out b hm; have := HR.out b hb; omega))
        have HR5 := hide (HR4.out.fr hf5 (fun ad h hm => by have := HA4.out ad h; have := HTL.out _ hm; omega))
        have HR35 := hide (HR3.out.fr hf5 (fun ad h => (HA3.out ad h).1))
        have HT5 := hide hT5
        have HB5 := hide (HB4.out.trans (hf5.below HP.out HB4.out.size))
        clear hr1 hT5 hf5 HT4 HU4 HR4 HR3 HB4
        go_wp2_with fail
        refine (HP2.out _ r _ _ HU5.out HR5.out (fun ad h hm => by have := HA4.out ad h; have := HUL.out _ hm; omega)).mono ?_
        rintro e w6 ⟨rfl, hU6, hf6⟩
        have HT6 := hide (HT5.out.fr hf6 (fun b hb hm => by have := HPL.out b hb; have := HR.out b hm; omega))
        have HR6 := hide (HR35.out.fr hf6 (fun ad h => (HA3.out ad h).2))
        have HU6 := hide hU6
        have HRW : Hid (∀ k ∈ r.bl, W.heap.size ≤ k) := fun k hk => by have := HR.out k hk; have := HB1.out.size; omega
        have HB6 := hide (HB5.out.trans (hf6.below HRW.out HB5.out.size))
        clear hU6 hf6 HT5 HU5 HR5 HR35 HB5
        go_wp2_with fail
        refine (HW1.out _ p HT6.out).mono ?_
        rintro e w7 ⟨rfl, k7, rfl⟩
        have HU7 := hide (HU6.out.drewN k7)
        have HR7 := hide (HR6.out.drewN k7)
        have HB7 := hide (HB6.out.drewN k7)
        clear HT6 HU6 HR6 HB6
        generalize w6.drewN k7 = w7 at *
        go_wp2_with fail
        refine (HW2.out _ r HU7.out).mono ?_
        rintro e w8 ⟨rfl, k8, rfl⟩
        have HU8 := hide (HU7.out.drewN k8)
        have HR8 := hide (HR7.out.drewN k8)
        have HB8 := hide (HB7.out.drewN k8)
        clear HU7 HR7 HB7
        generalize w7.drewN k8 = w8 at *
        go_wp2_with fail
        have hr8 := rd_take HR8.out hqF
        rw [← natv_take] at hr8
        refine (HFI.out _ _ _ hr8).mono ?_
        rintro e w9 ⟨rfl, hb9⟩
        have HU9 := hide (HU8.out.fresh hb9)
        have HB9 := hide (HB8.out.trans (hb9.mono HB8.out.size))
        clear hr8 hb9 HU8 HR8 HB8
        go_wp2_with fail
        refine (HC2.out _ r HU9.out).mono ?_
        rintro e w' ⟨rfl, rfl⟩
        go_wp2_with fail
        refine (works30 _).mono ?_
        rintro e w14 ⟨rfl, hb14⟩
        go_wp2_with fail
        go_ret
        exact ⟨rfl, HB9.out.trans (hb14.mono HB9.out.size)⟩
  · have H3 := hide h3
    clear h3
    go_wp2_with fail
    rw [← H3.out]
    clear h1 h2 hA0 hA1 H3
    go_loopg [14, 15] (2 * n) (fun gq V v wr => ∃ k : Nat, k + gq = 2 * n ∧ v = .int .i64 (k : Int) ∧ wr.ownsRow w3.heap.size 3 1 V (List.range k).length (natv (List.range k)) ∧ Below w3.heap.size w3 wr)
    case atStart => exact ⟨0, by omega, rfl, own_nil _ _ _ _, Below.refl _ _⟩
    case round =>
      obtain ⟨k, hk, rfl, ho, hb⟩ := hrel
      have HK := hide hk
      have HO := hide ho
      have HB := hide hb
      have hkm : k ≤ 2 * n := by omega
      have hsz := hb.size
      clear hk ho hb
      by_cases hlt : (k : Int) < 2 * (X : Int) * (Y : Int)
      · have hlen : (List.range k).length = k := List.length_range
        go_wp2_with (first | (at_builtin; go_loud (refine app_one 22 3 Try.underlying22 hi'.out hz0'.out hz1'.out hz2'.out rfl (by decide) wr #[.int .i64 (k : Int)] rfl (by intro u hu; simp at hu; subst hu; rfl) rfl (.tmp 69) (.tmp 71) rfl w3.heap.size _ (List.range k).length _ rfl HO.out rfl (by unfold maxLen; simp; omega) (by simp; omega) hsz ?_; intro vo' w5 ho5 hg5 hat5 hb5; have HO5 := hide ho5; have HB5 := hide hb5; clear ho5 hg5 hat5 hb5)))
        go_roundg (2 * n - (k + 1))
        case measure => have := HK.out; have := HNN.out; omega
        case rel =>
          refine ⟨k + 1, by have := HNN.out; omega, by go_num, ?_, HB.out.trans HB5.out⟩
          rw [List.range_succ, natv_snoc, List.length_append, List.length_singleton]; exact HO5.out
      · have hke : k = 2 * n := by have := HNN.out; omega
        have hlt2 : ¬ (k : Int) < 2 * (X : Int) * (Y : Int) := hlt
        subst hke
        obtain ⟨A4, c4, rfl, _⟩ := own_form HO.out
        have hl4 : (List.range (2 * n)).length = 2 * n := List.length_range
        rw [hl4]
        have ho4 := HO.out
        rw [hl4] at ho4
        have HR4 := hide (own_rd ho4)
        have hA4 : ∀ ad, A4 = some ad → w3.heap.size ≤ ad.block := own_block_ge ho4
        have HT4 := hide (HT3.out.fresh HB.out)
        have HU4 := hide (HU3.out.fresh HB.out)
        have HR3 := hide ((own_rd HO3.out).below HB.out)
        have HB4 := hide (HB3.out.trans (HB.out.mono HB3.out.size))
        have HA4 := hide hA4
        have HTL := hide HT3.out.lt
        have HUL := hide HU3.out.lt
        obtain ⟨wo, rfl⟩ : ∃ wo : World, wo = wr := ⟨_, rfl⟩
        clear ho4 hA4 HO HB HK hlt hkm hl4 hsz
        go_wp2_with fail
        clear hlt2
        have hr1 := rd_take HR3.out hqF
        rw [← natv_take] at hr1
        refine (HP1.out _ p _ _ HT4.out hr1 (fun ad h => (HA3.out ad h).1)).mono ?_
        rintro e w5 ⟨rfl, hT5, hf5⟩
        have HU5 := hide (HU4.out.fr hf5 (fun b hb hm => by have := HPL.out b hm; have := HR.out b hb; omega))
        have HR5 := hide (HR4.out.fr hf5 (fun ad h hm => by have := HA4.out ad h; have := HTL.out _ hm; omega))
        have HR35 := hide (HR3.out.fr hf5 (fun ad h => (HA3.out ad h).1))
        have HT5 := hide hT5
        have HB5 := hide (HB4.out.trans (hf5.below HP.out HB4.out.size))
        clear hr1 hT5 hf5 HT4 HU4 HR4 HR3 HB4
        go_wp2_with fail
        refine (HP2.out _ r _ _ HU5.out HR5.out (fun ad h hm => by have := HA4.out ad h; have := HUL.out _ hm; omega)).mono ?_
        rintro e w6 ⟨rfl, hU6, hf6⟩
        have HT6 := hide (HT5.out.fr hf6 (fun b hb hm => by have := HPL.out b hb; have := HR.out b hm; omega))
        have HR6 := hide (HR35.out.fr hf6 (fun ad h => (HA3.out ad h).2))
        have HU6 := hide hU6
        have HRW : Hid (∀ k ∈ r.bl, W.heap.size ≤ k) := fun k hk => by have := HR.out k hk; have := HB1.out.size; omega
        have HB6 := hide (HB5.out.trans (hf6.below HRW.out HB5.out.size))
        clear hU6 hf6 HT5 HU5 HR5 HR35 HB5
        go_wp2_with fail
        refine (HW1.out _ p HT6.out).mono ?_
        rintro e w7 ⟨rfl, k7, rfl⟩
        have HU7 := hide (HU6.out.drewN k7)
        have HR7 := hide (HR6.out.drewN k7)
        have HB7 := hide (HB6.out.drewN k7)
        clear HT6 HU6 HR6 HB6
        generalize w6.drewN k7 = w7 at *
        go_wp2_with fail
        refine (HW2.out _ r HU7.out).mono ?_
        rintro e w8 ⟨rfl, k8, rfl⟩
        have HU8 := hide (HU7.out.drewN k8)
        have HR8 := hide (HR7.out.drewN k8)
        have HB8 := hide (HB7.out.drewN k8)
        clear HU7 HR7 HB7
        generalize w7.drewN k8 = w8 at *
        go_wp2_with fail
        have hr8 := rd_take HR8.out hqF
        rw [← natv_take] at hr8
        refine (HFI.out _ _ _ hr8).mono ?_
        rintro e w9 ⟨rfl, hb9⟩
        have HU9 := hide (HU8.out.fresh hb9)
        have HB9 := hide (HB8.out.trans (hb9.mono HB8.out.size))
        clear hr8 hb9 HU8 HR8 HB8
        go_wp2_with fail
        refine (HC2.out _ r HU9.out).mono ?_
        rintro e w' ⟨rfl, rfl⟩
        go_wp2_with fail
        refine (works30 _).mono ?_
        rintro e w14 ⟨rfl, hb14⟩
        go_wp2_with fail
        go_ret
        exact ⟨rfl, HB9.out.trans (hb14.mono HB9.out.size)⟩
  · have h3' : X - 1 = q := by omega
    have H3' := hide h3'
    clear h3'
    have H3 := hide h3
    clear h3
    go_wp2_with fail
    rw [H3'.out]
    clear h1 h2 hA0 H3' hA1 H3
    go_loopg [14, 15] (2 * n) (fun gq V v wr => ∃ k : Nat, k + gq = 2 * n ∧ v = .int .i64 (k : Int) ∧ wr.ownsRow w3.heap.size 3 1 V (List.range k).length (natv (List.range k)) ∧ Below w3.heap.size w3 wr)
    case atStart => exact ⟨0, by omega, rfl, own_nil _ _ _ _, Below.refl _ _⟩
    case round =>
      obtain ⟨k, hk, rfl, ho, hb⟩ := hrel
      have HK := hide hk
      have HO := hide ho
      have HB := hide hb
      have hkm : k ≤ 2 * n := by omega
      have hsz := hb.size
      clear hk ho hb
      by_cases hlt : (k : Int) < 2 * (X : Int) * (Y : Int)
      · have hlen : (List.range k).length = k := List.length_range
        go_wp2_with (first | (at_builtin; go_loud (refine app_one 22 3 Try.underlying22 hi'.out hz0'.out hz1'.out hz2'.out rfl (by decide) wr #[.int .i64 (k : Int)] rfl (by intro u hu; simp at hu; subst hu; rfl) rfl (.tmp 69) (.tmp 71) rfl w3.heap.size _ (List.range k).length _ rfl HO.out rfl (by unfold maxLen; simp; omega) (by simp; omega) hsz ?_; intro vo' w5 ho5 hg5 hat5 hb5; have HO5 := hide ho5; have HB5 := hide hb5; clear ho5 hg5 hat5 hb5)))
        go_roundg (2 * n - (k + 1))
        case measure => have := HK.out; have := HNN.out; omega
        case rel =>
          refine ⟨k + 1, by have := HNN.out; omega, by go_num, ?_, HB.out.trans HB5.out⟩
          rw [List.range_succ, natv_snoc, List.length_append, List.length_singleton]; exact HO5.out
      · have hke : k = 2 * n := by have := HNN.out; omega
        have hlt2 : ¬ (k : Int) < 2 * (X : Int) * (Y : Int) := hlt
        subst hke
        obtain ⟨A4, c4, rfl, _⟩ := own_form HO.out
        have hl4 : (List.range (2 * n)).length = 2 * n := List.length_range
        rw [hl4]
        have ho4 := HO.out
        rw [hl4] at ho4
        have HR4 := hide (own_rd ho4)
        have hA4 : ∀ ad, A4 = some ad → w3.heap.size ≤ ad.block := own_block_ge ho4
        have HT4 := hide (HT3.out.fresh HB.out)
        have HU4 := hide (HU3.out.fresh HB.out)
        have HR3 := hide ((own_rd HO3.out).below HB.out)
        have HB4 := hide (HB3.out.trans (HB.out.mono HB3.out.size))
        have HA4 := hide hA4
        have HTL := hide HT3.out.lt
        have HUL := hide HU3.out.lt
        obtain ⟨wo, rfl⟩ : ∃ wo : World, wo = wr := ⟨_, rfl⟩
        clear ho4 hA4 HO HB HK hlt hkm hl4 hsz
        go_wp2_with fail
        clear hlt2
        have hr1 := rd_take HR3.out hqF
        rw [← natv_take] at hr1
        refine (HP1.out _ p _ _ HT4.out hr1 (fun ad h => (HA3.out ad h).1)).mono ?_
        rintro e w5 ⟨rfl, hT5, hf5⟩
        have HU5 := hide (HU4.out.fr hf5 (fun b hb hm => by have := HPL.out b hm; have := HR.out b hb; omega))
        have HR5 := hide (HR4.out.fr hf5 (fun ad h hm => by have := HA4.out ad h; have := HTL.out _ hm; omega))
        have HR35 := hide (HR3.out.fr hf5 (fun ad h => (HA3.out ad h).1))
        have HT5 := hide hT5
        have HB5 := hide (HB4.out.trans (hf5.below HP.out HB4.out.size))
        clear hr1 hT5 hf5 HT4 HU4 HR4 HR3 HB4
        go_wp2_with fail
        refine (HP2.out _ r _ _ HU5.out HR5.out (fun ad h hm => by have := HA4.out ad h; have := HUL.out _ hm; omega)).mono ?_
        rintro e w6 ⟨rfl, hU6, hf6⟩
        have HT6 := hide (HT5.out.fr hf6 (fun b hb hm => by have := HPL.out b hb; have := HR.out b hm; omega))
        have HR6 := hide (HR35.out.fr hf6 (fun ad h => (HA3.out ad h).2))
        have HU6 := hide hU6
        have HRW : Hid (∀ k ∈ r.bl, W.heap.size ≤ k) := fun k hk => by have := HR.out k hk; have := HB1.out.size; omega
        have HB6 := hide (HB5.out.trans (hf6.below HRW.out HB5.out.size))
        clear hU6 hf6 HT5 HU5 HR5 HR35 HB5
        go_wp2_with fail
        refine (HW1.out _ p HT6.out).mono ?_
        rintro e w7 ⟨rfl, k7, rfl⟩
        have HU7 := hide (HU6.out.drewN k7)
        have HR7 := hide (HR6.out.drewN k7)
        have HB7 := hide (HB6.out.drewN k7)
        clear HT6 HU6 HR6 HB6
        generalize w6.drewN k7 = w7 at *
        go_wp2_with fail
        refine (HW2.out _ r HU7.out).mono ?_
        rintro e w8 ⟨rfl, k8, rfl⟩
        have HU8 := hide (HU7.out.drewN k8)
        have HR8 := hide (HR7.out.drewN k8)
        have HB8 := hide (HB7.out.drewN k8)
        clear HU7 HR7 HB7
        generalize w7.drewN k8 = w8 at *
        go_wp2_with fail
        have hr8 := rd_take HR8.out hqF
        rw [← natv_take] at hr8
        refine (HFI.out _ _ _ hr8).mono ?_
        rintro e w9 ⟨rfl, hb9⟩
        have HU9 := hide (HU8.out.fresh hb9)
        have HB9 := hide (HB8.out.trans (hb9.mono HB8.out.size))
        clear hr8 hb9 HU8 HR8 HB8
        go_wp2_with fail
        refine (HC2.out _ r HU9.out).mono ?_
        rintro e w' ⟨rfl, rfl⟩
        go_wp2_with fail
        refine (works30 _).mono ?_
        rintro e w14 ⟨rfl, hb14⟩
        go_wp2_with fail
        go_ret
        exact ⟨rfl, HB9.out.trans (hb14.mono HB9.out.size)⟩
  · have H3 := hide h3
    clear h3
    go_wp2_with fail
    rw [← H3.out]
    clear h1 h2 hA0 hA1 H3
    go_loopg [14, 15] (2 * n) (fun gq V v wr => ∃ k : Nat, k + gq = 2 * n ∧ v = .int .i64 (k : Int) ∧ wr.ownsRow w3.heap.size 3 1 V (List.range k).length (natv (List.range k)) ∧ Below w3.heap.size w3 wr)
    case atStart => exact ⟨0, by omega, rfl, own_nil _ _ _ _, Below.refl _ _⟩
    case round =>
      obtain ⟨k, hk, rfl, ho, hb⟩ := hrel
      have HK := hide hk
      have HO := hide ho
      have HB := hide hb
      have hkm : k ≤ 2 * n := by omega
      have hsz := hb.size
      clear hk ho hb
      by_cases hlt : (k : Int) < 2 * (X : Int) * (Y : Int)
      · have hlen : (List.range k).length = k := List.length_range
        go_wp2_with (first | (at_builtin; go_loud (refine app_one 22 3 Try.underlying22 hi'.out hz0'.out hz1'.out hz2'.out rfl (by decide) wr #[.int .i64 (k : Int)] rfl (by intro u hu; simp at hu; subst hu; rfl) rfl (.tmp 69) (.tmp 71) rfl w3.heap.size _ (List.range k).length _ rfl HO.out rfl (by unfold maxLen; simp; omega) (by simp; omega) hsz ?_; intro vo' w5 ho5 hg5 hat5 hb5; have HO5 := hide ho5; have HB5 := hide hb5; clear ho5 hg5 hat5 hb5)))
        go_roundg (2 * n - (k + 1))
        case measure => have := HK.out; have := HNN.out; omega
        case rel =>
          refine ⟨k + 1, by have := HNN.out; omega, by go_num, ?_, HB.out.trans HB5.out⟩
          rw [List.range_succ, natv_snoc, List.length_append, List.length_singleton]; exact HO5.out
      · have hke : k = 2 * n := by have := HNN.out; omega
        have hlt2 : ¬ (k : Int) < 2 * (X : Int) * (Y : Int) := hlt
        subst hke
        obtain ⟨A4, c4, rfl, _⟩ := own_form HO.out
        have hl4 : (List.range (2 * n)).length = 2 * n := List.length_range
        rw [hl4]
        have ho4 := HO.out
        rw [hl4] at ho4
        have HR4 := hide (own_rd ho4)
        have hA4 : ∀ ad, A4 = some ad → w3.heap.size ≤ ad.block := own_block_ge ho4
        have HT4 := hide (HT3.out.fresh HB.out)
        have HU4 := hide (HU3.out.fresh HB.out)
        have HR3 := hide ((own_rd HO3.out).below HB.out)
        have HB4 := hide (HB3.out.trans (HB.out.mono HB3.out.size))
        have HA4 := hide hA4
        have HTL := hide HT3.out.lt
        have HUL := hide HU3.out.lt
        obtain ⟨wo, rfl⟩ : ∃ wo : World, wo = wr := ⟨_, rfl⟩
        clear ho4 hA4 HO HB HK hlt hkm hl4 hsz
        go_wp2_with fail
        clear hlt2
        have hr1 := rd_take HR3.out hqF
        rw [← natv_take] at hr1
        refine (HP1.out _ p _ _ HT4.out hr1 (fun ad h => (HA3.out ad h).1)).mono ?_
        rintro e w5 ⟨rfl, hT5, hf5⟩
        have HU5 := hide (HU4.out.fr hf5 (fun b hb hm => by have := HPL.out b hm; have := HR.out b hb; omega))
        have HR5 := hide (HR4.out.fr hf5 (fun ad h hm => by have := HA4.out ad h; have := HTL.out _ hm; omega))
        have HR35 := hide (HR3.out.fr hf5 (fun ad h => (HA3.out ad h).1))
        have HT5 := hide hT5
        have HB5 := hide (HB4.out.trans (hf5.below HP.out HB4.out.size))
        clear hr1 hT5 hf5 HT4 HU4 HR4 HR3 HB4
        go_wp2_with fail
        refine (HP2.out _ r _ _ HU5.out HR5.out (fun ad h hm => by have := HA4.out ad h; have := HUL.out _ hm; omega)).mono ?_
        rintro e w6 ⟨rfl, hU6, hf6⟩
        have HT6 := hide (HT5.out.fr hf6 (fun b hb hm => by have := HPL.out b hb; have := HR.out b hm; omega))
        have HR6 := hide (HR35.out.fr hf6 (fun ad h => (HA3.out ad h).2))
        have HU6 := hide hU6
        have HRW : Hid (∀ k ∈ r.bl, W.heap.size ≤ k) := fun k hk => by have := HR.out k hk; have := HB1.out.size; omega
        have HB6 := hide (HB5.out.trans (hf6.below HRW.out HB5.out.size))
        clear hU6 hf6 HT5 HU5 HR5 HR35 HB5
        go_wp2_with fail
        refine (HW1.out _ p HT6.out).mono ?_
        rintro e w7 ⟨rfl, k7, rfl⟩
        have HU7 := hide (HU6.out.drewN k7)
        have HR7 := hide (HR6.out.drewN k7)
        have HB7 := hide (HB6.out.drewN k7)
        clear HT6 HU6 HR6 HB6
        generalize w6.drewN k7 = w7 at *
        go_wp2_with fail
        refine (HW2.out _ r HU7.out).mono ?_
        rintro e w8 ⟨rfl, k8, rfl⟩
        have HU8 := hide (HU7.out.drewN k8)
        have HR8 := hide (HR7.out.drewN k8)
        have HB8 := hide (HB7.out.drewN k8)
        clear HU7 HR7 HB7
        generalize w7.drewN k8 = w8 at *
        go_wp2_with fail
        have hr8 := rd_take HR8.out hqF
        rw [← natv_take] at hr8
        refine (HFI.out _ _ _ hr8).mono ?_
        rintro e w9 ⟨rfl, hb9⟩
        have HU9 := hide (HU8.out.fresh hb9)
        have HB9 := hide (HB8.out.trans (hb9.mono HB8.out.size))
        clear hr8 hb9 HU8 HR8 HB8
        go_wp2_with fail
        refine (HC2.out _ r HU9.out).mono ?_
        rintro e w' ⟨rfl, rfl⟩
        go_wp2_with fail
        refine (works30 _).mono ?_
        rintro e w14 ⟨rfl, hb14⟩
        go_wp2_with fail
        go_ret
        exact ⟨rfl, HB9.out.trans (hb14.mono HB9.out.size)⟩
end Go.Proofs.Ytnkkdoookhhhaaa
