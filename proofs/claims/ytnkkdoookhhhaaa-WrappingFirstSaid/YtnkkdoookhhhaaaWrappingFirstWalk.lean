/- The walk of WrappingFirst (printed by gen_wrapFirst.py). -/
import Derived.Test.YtnkkdoookhhhaaaWrapK
import Derived.Test.YtnkkdoookhhhaaaWrapY
import Derived.Deep.AppendLies
import Derived.Deep.RegionHeld3
namespace Go.Proofs.Ytnkkdoookhhhaaa
open Go.RowKit
set_option linter.unusedVariables false

theorem rd_take {w : World} {A : Option Addr} {n k : Nat} {xs : List Value} (h : Rd w A n 1 xs) (hk : k ≤ n) : Rd w A k 1 (xs.take k) :=
  ⟨by have := h.1; simp at this ⊢; omega, fun hp => by
    obtain ⟨b, o, e, hl, hc⟩ := h.2 (by omega)
    exact ⟨b, o, e, hl, fun j u hj => by
      rw [List.getElem?_take] at hj
      split at hj
      · exact hc j u hj
      · cases hj⟩⟩
theorem natv_take (l : List Nat) (k : Nat) : natv (l.take k) = (natv l).take k := by simp [natv, is, List.map_take]
/-- append of what lies in memory, at a step of a region that draws. -/
theorem step_app {ops : Array Oper} {o : Oper} {a : Act} {w : World} {K : Act → World → Prop} {Q : Exit → Act → World → Prop} {F : Prop} (hgd : o.guard = none) (s x : Operand)
    (ho : o.op = .call { callee := .builtin .append, args := #[s, x], argTypes := #[22, 22] })
    (B : Nat) (V : Value) (n : Nat) (xs : List Value) (hs : a.eval s = V) (hown : w.ownsRow B 3 1 V n xs) (b m c : Nat) (news : List Value) (hx : a.eval x = .slice (some ⟨b, 0, none⟩) m c)
    (hr : Rd w (some ⟨b, 0, none⟩) m 1 news) (h1 : ∀ u ∈ news, u.oneCell' = true) (hm : 0 < m) (hb : n + m ≤ 1000000) (hB : B ≤ w.heap.size) (N : Nat) (zs : List Value) (hN : n + m = N) (hz : xs ++ news = zs)
    (h : ∀ g cap w', w'.ownsRow B 3 1 (.slice (some ⟨g, 0, none⟩) N cap) N zs → w.grownBy w' V.ownBlock → Below B w w' → K (a.put o.dst (.slice (some ⟨g, 0, none⟩) N cap)) w') :
    if Region.wanted o (yielded ops a.tmps) = true then Oper.wp Try.prog o a w K Q else F := by
  obtain ⟨i0, hi, hz0, hz1, hz2⟩ := info_parts int_info0
  refine step_append_lies (w := w) hgd s x 22 ho B 3 i0 _ 1 8 Try.underlying22 hi hz0 hz1 hz2 rfl (by decide) V n xs hs hown
    ⟨b, 0, none⟩ m c news hx (by have := hr.1; omega) (fun j u hj => ?_) h1 hm (by unfold maxLen; omega) (by omega) hB _ rfl ?_
  · obtain ⟨b', o', e, _, hc⟩ := hr.2 hm
    injection e with e
    injection e with e1 e2
    subst e1; subst e2
    rw [Addr.add_lit]; exact hc j u hj
  intro g cap w' h2 h3 h4 h5
  rw [hN, hz] at h2
  rw [hN]
  exact h g cap w' h2 h3 ((Below.refl _ _).grown h3 hB (fun k hk => (hown.lt k hk).1))

theorem re_second {w wa : World} {g n : Nat} {o : Obj} {x : Int} (hg : (w.alloc o).heap.size = g) (h : ((w.alloc o).alloc (.cells #[.int .i64 x] 3)).grownBy wa (Value.slice (some ⟨w.heap.size, 0, none⟩) 0 n).ownBlock) : Rd wa (some ⟨g, 0, none⟩) 1 1 [.int .i64 x] := by
  have h0 : w.heap.size ≠ (w.alloc o).heap.size := by simp
  have := ((Blk.new (w.alloc o) 3 #[.int .i64 x]).grown h (by simp [Value.ownBlock])).rd 1 1 rfl
  rw [hg] at this; exact this
theorem re_first {w wa : World} {o : Obj} {n : Nat} {x : Int} (h : ((w.alloc (.cells #[.int .i64 x] 3)).alloc o).grownBy wa (Value.slice (some ⟨w.heap.size + 1, 0, none⟩) 0 n).ownBlock) : Rd wa (some ⟨w.heap.size, 0, none⟩) 1 1 [.int .i64 x] :=
  (((Blk.new w 3 #[.int .i64 x]).alloc o).grown h (by simp [Value.ownBlock])).rd 1 1 rfl
theorem own_second {w : World} {g B : Nat} {o : Obj} (hg : (w.alloc o).heap.size = g) (hB : B ≤ w.heap.size := by exact Nat.le_refl _) : ((w.alloc o).alloc (.cells #[] 3)).ownsRow B 3 1 (.slice (some ⟨g, 0, none⟩) 0 0) 0 [] := by
  have := World.ownsRow_made (base := B) (e := 3) (size := 1) (w.alloc o) #[] 0 (Nat.le_trans hB (by simp)) (by simp [maxLen]) rfl
  rw [hg] at this; exact this
theorem wrp_false' {W H : Nat} {l : List Nat} {k : Nat} (h : wrp W H l k = false) : anyB W H tX (l.take (k + 1)) = false ∧ anyB W H tY (l.take (k + 1)) = false := by
  unfold wrp at h; simpa using h
/-- Where First stops. -/
theorem fst_spec (W H : Nat) (hW : 0 < W) (hH : 0 < H) (l : List Nat) : ∃ K, K ≤ l.length ∧ anyB W H tX (l.take K) = false ∧ anyB W H tY (l.take K) = false ∧
    ((∃ e K1, l[K]? = some e ∧ e ∈ l ∧ K1 = K + 1 ∧ K1 ≤ l.length ∧ fstK W H l = (K1 : Int) ∧ fstB W H l = true ∧ (anyB W H tX (l.take K ++ [e]) || anyB W H tY (l.take K ++ [e])) = true) ∨ (K = l.length ∧ fstK W H l = 0 ∧ fstB W H l = false)) := by
  obtain ⟨h1, h2⟩ := lead_spec (wrp W H l) l.length
  have h0 := lead_le (wrp W H l) l.length
  have hk : fstK W H l = if lead (wrp W H l) l.length < l.length then (lead (wrp W H l) l.length : Int) + 1 else 0 := rfl
  have hb : fstB W H l = decide (lead (wrp W H l) l.length < l.length) := rfl
  generalize lead (wrp W H l) l.length = K at *
  have hf : anyB W H tX (l.take K) = false ∧ anyB W H tY (l.take K) = false := by
    cases K with
    | zero => rw [List.take_zero]; exact ⟨few_x (fun e he => by cases he) hW, few_y (fun e he => by cases he) hH⟩
    | succ j => exact wrp_false' (h1 j (by omega))
  refine ⟨K, h0, hf.1, hf.2, ?_⟩
  by_cases hlt : K < l.length
  · refine .inl ⟨l[K], K + 1, List.getElem?_eq_getElem hlt, List.getElem_mem hlt, rfl, hlt, by rw [hk, if_pos hlt]; push_cast; rfl, by rw [hb]; exact decide_eq_true hlt, ?_⟩
    have := h2 hlt
    unfold wrp at this
    rw [List.take_succ_eq_append_getElem hlt] at this
    exact this
  · exact .inr ⟨by omega, by rw [hk, if_neg hlt], by rw [hb]; exact decide_eq_false hlt⟩
theorem ord_twice {m : Nat} {l : List Nat} {e : Nat} (h : e ∈ l) : ordOk m ((l ++ [e]).map fun (i : Nat) => (i : Int)) = false := by
  rw [Bool.eq_false_iff]
  intro h2
  have := (ordOk_iff.1 h2).1
  rw [List.map_append, List.nodup_append] at this
  exact this.2.2 _ (List.mem_map_of_mem h) _ (List.mem_singleton.2 rfl) rfl
theorem ord_out {m : Nat} {l : List Int} {x : Int} (h : ¬ (0 ≤ x ∧ x < m)) : ordOk m (l ++ [x]) = false := by
  rw [Bool.eq_false_iff]
  intro h2
  exact h ((ordOk_iff.1 h2).2 x (by simp))

set_option maxRecDepth 200000 in
set_option maxHeartbeats 16000000 in
theorem wrappingFirst_walk (a0 a1 : Int) (v2 : Value) (l2 : List Int) (a3 : Int) (W : World) (w0 : (Lit.int .u8 a0).wf = true) (w1 : (Lit.int .u8 a1).wf = true) (w2 : IsInts .u16 W v2 l2) (w3 : (Lit.int .u8 a3).wf = true) :
    Calls Try.prog 6 #[.int .u8 a0, .int .u8 a1, v2, .int .u8 a3] W fun e W' => e = .returned (.bool true) ∧ Below W.heap.size W W' := by
  obtain ⟨X, Y, n, hX1, hX2, hY1, hY2, hn, -, hn1, hn2, hXY, -, htor, -, SZ⟩ := start30 a0 a1 w0 w1
  obtain ⟨l, hl⟩ := ints_u16 w2
  obtain ⟨b3, b3'⟩ := u8_bd w3
  have hEl := edg_in (N := 2 * n) (by omega) true l
  have E1 := fun w h => edges_any w n v2 l true h hn1 (by omega)
  generalize edg (2 * n) true l = F at *
  have N1 := fun w => torNew_ok w X Y htor
  have hnd : ordOk (2 * (X * Y)) (F.map fun (i : Nat) => (i : Int)) = true := by
    rw [ordOk_iff]
    refine ⟨?_, fun i hi => ?_⟩
    · exact (hEl.2.2 rfl).map (f := fun (i : Nat) => (i : Int)) (by intro a b h e; exact h (Int.ofNat.inj e))
    · obtain ⟨x, hx, rfl⟩ := List.mem_map.1 hi
      have := hEl.1 x hx
      omega
  have hord : ordE (F.map fun (i : Nat) => (i : Int)) = F := by
    unfold ordE; rw [List.map_map]
    exact (List.map_congr_left fun a _ => by simp).trans (List.map_id _)
  have FI := fun w A c hr => torFirst_ok w X Y A F.length c (F.map fun (i : Nat) => (i : Int)) htor (by rw [List.length_map]) hr hnd
  rw [hord] at FI
  have FB := fun w A m c l h1 h2 h3 h4 => torFirst_bad w X Y A m c l htor h1 h2 h3 h4
  subst hn
  obtain ⟨K, hK, f1, f2, hcase⟩ := fst_spec X Y hX1 hY1 F
  have P1 := fun w p A c h hr hA => put_fwd w p X Y (X * Y) A K c (F.take K) [] h hr (by rw [List.length_take]; omega) (by have := hEl.2.1; omega) (fun e he => hEl.1 e (List.mem_of_mem_take he)) hA
  have W1 := fun w p h => torWraps w p X Y (X * Y) (F.take K) h
  rw [f1, f2] at W1
  simp only [List.nil_append, tL_nil_sets] at P1
  have hs1 := sets_le (X * Y) (tL X Y (F.take K))
  obtain ⟨N, hN⟩ : ∃ N, N = 2 * (X * Y) := ⟨_, rfl⟩
  have hNN : 2 * (X : Int) * (Y : Int) = (N : Int) := by rw [Int.mul_assoc, hXY, hN]; push_cast; rfl
  have hN1 : N ≤ 288 := by omega
  rw [← hN] at FB hEl
  have hEl1 := hEl.1
  have hlen : F.length ≤ 300 := hEl.2.1
  have F22 := fun e (he : e ∈ F) => ord_twice (m := N) he
  have F23 := fun l => ord_out (m := N) (l := l) (x := (N : Int)) (by omega)
  have F24 := fun l => ord_out (m := N) (l := l) (x := (-1 : Int)) (by omega)
  generalize hn : X * Y = n at *
  have hp0 : 1 ≤ (X : Int) * (Y : Int) := by omega
  have hp1 : (X : Int) * (Y : Int) ≤ 144 := by omega
  have hq0 : 1 ≤ 2 * (X : Int) * (Y : Int) := by omega
  have hq1 : 2 * (X : Int) * (Y : Int) ≤ 288 := by omega
  have hqw : IntKind.i64.wrap (2 * (X : Int)) = 2 * X := IntWalk.i64_in _ (by omega)
  rw [← hXY] at E1 P1
  have hfk : 0 ≤ fstK X Y F ∧ fstK X Y F ≤ F.length := by
    rcases hcase with ⟨e, K1, _, _, _, h, h1, _⟩ | ⟨h, h1, _⟩ <;> rw [h1] <;> omega
  obtain ⟨hfk0, hfk1⟩ := hfk
  generalize hm : F.length = m at *
  have HM := hide hm
  have HC := hide hcase
  have hge : 0 ≤ (X : Int) * (Y : Int) - (sets n (tL X Y (F.take K)) : Int) := by omega
  have HSZ := hide SZ
  have HN1 := hide N1
  have HE1 := hide E1
  have HP1 := hide P1
  have HW1 := hide W1
  have HFI := hide FI
  have HFB := hide FB
  have HLU := hide hl
  have HNN := hide hNN
  have HEL := hide hEl1
  have HF22 := hide F22
  have HF23X := hide (show ∀ l, ordOk N (l ++ [2 * (X : Int) * (Y : Int)]) = false from by rw [hNN]; exact F23)
  have HF24 := hide F24
  have HNE := hide hn
  have HN2 := hide hN
  have HBL := hide (fun w p A c e (he : e < 2 * n) h hr hA => put_fwd w p X Y n A 1 c [e] (F.take K) h hr rfl (by omega) (by intro x hx; rw [List.mem_singleton.1 hx]; exact he) hA)
  obtain ⟨i1, hi, hz0, hz1, hz2⟩ := info_parts int_info0
  have hi' := hide hi
  have hz0' := hide hz0
  have hz1' := hide hz1
  have hz2' := hide hz2
  clear hi hz0 hz1 hz2 SZ N1 E1 P1 W1 FI FB hl hXY hN hn hEl hnd hord htor w0 w1 w2 w3 hs1 hNN F22 F23 F24 hEl1 f1 f2 hm hcase
  go_enter Try.func6, Try.ntmps6
  go_wp2_with fail
  refine (HSZ.out _).mono ?_
  rintro e w' ⟨rfl, rfl⟩
  go_wp2_with fail
  refine (HE1.out _ HLU.out).mono ?_
  rintro e w1 ⟨A, c, rfl, ho1, hb1⟩
  have HO1 := hide ho1
  have HB1 := hide hb1
  clear ho1 hb1
  go_wp2_with fail
  refine (HFI.out _ A c (own_rd HO1.out)).mono ?_
  rintro e w2 ⟨rfl, hb2⟩
  have HO2 := hide (own_below HO1.out hb2)
  have HB2 := hide (HB1.out.trans (hb2.mono HB1.out.size))
  clear hb2 HO1 hfk0 hfk1
  rcases HC.out with ⟨e, K1, he, hem, hKK, hK1, hk1, hb1, hxx⟩ | ⟨hKm, hk1, hb1⟩
  · rw [hk1, hb1]
    have hK1' : 1 ≤ K1 := by omega
    have hK10 : ((K1 : Int) == 0) = false := by simp; omega
    have hK11 : ¬ (K1 : Int) < 0 := by omega
    have hK12 : ¬ m < K1 := by omega
    have HKK := hide (show K1 - 1 = K by omega)
    have HE := hide he
    have HXX := hide hxx
    have hen : e < 2 * n := by have := HEL.out e hem; rw [HN2.out] at this; exact this
    clear he hem hKK hk1 hb1 hxx
    go_wp2_with fail
    refine (HN1.out _).mono ?_
    rintro e' w3 ⟨p, rfl, hT3, hB3, hp3⟩
    have HR3 := hide (own_rd (own_below HO2.out hB3))
    have hA3 : ∀ ad, A = some ad → ad.block ∉ p.bl := fun ad h hm => by
      obtain ⟨A', c', e1, _, h1, _⟩ := own_form HO2.out
      injection e1 with e1 _ _
      subst e1
      have := (h1 ad h).1
      have := hp3 _ hm
      omega
    have HA3 := hide hA3
    have HT3 := hide hT3
    have HB3 := hide (HB2.out.trans (hB3.mono HB2.out.size))
    have HP : Hid (∀ k ∈ p.bl, W.heap.size ≤ k) := fun k hk => by have := hp3 k hk; have := HB2.out.size; omega
    have hcap : m ≤ c ∧ c ≤ 9223372036854775807 := by
      obtain ⟨A', c', e1, _, _, h1, h2⟩ := own_form HO2.out
      injection e1 with _ _ e3
      subst e3
      unfold maxLen at h2
      exact ⟨h1, h2⟩
    obtain ⟨hcap, hcap2⟩ := hcap
    have hA0 : ∀ ad, A = some ad → ad = ⟨ad.block, 0, none⟩ := fun ad h => by
      obtain ⟨A', c', e1, _, h1, _⟩ := own_form HO2.out
      injection e1 with e1 _ _
      subst e1
      exact (h1 ad h).2.2
    clear hT3 hB3 hp3 hA3 HO2 HB2
    obtain ⟨b, hb⟩ : ∃ b, A = some ⟨b, 0, none⟩ := by
      obtain ⟨b, o, e, _⟩ := HR3.out.2 (by omega)
      have := hA0 _ e
      injection this with _ h2
      subst h2
      exact ⟨b, e⟩
    subst hb
    clear hA0
    have hc0 : ¬ c = 0 := by omega
    go_wp2_with fail
    rw [HKK.out]
    have hr3 := rd_take HR3.out hK
    rw [← natv_take] at hr3
    refine (HP1.out _ p _ _ HT3.out hr3 HA3.out).mono ?_
    rintro e' w4 ⟨rfl, hT4, hf4⟩
    have HT4 := hide hT4
    have HR4 := hide (HR3.out.fr hf4 HA3.out)
    have HB4 := hide (HB3.out.trans (hf4.below HP.out HB3.out.size))
    clear hr3 hT4 hf4 HT3 HR3 HB3
    go_wp2_with fail
    refine (HW1.out _ p HT4.out).mono ?_
    rintro e' w5 ⟨rfl, k5, rfl⟩
    have HT5 := hide (HT4.out.drewN k5)
    have HR5 := hide (HR4.out.drewN k5)
    have HB5 := hide (HB4.out.drewN k5)
    clear HT4 HR4 HB4
    generalize w4.drewN k5 = w5 at *
    go_wp2_with fail
    have hKm : K < m := by have := HKK.out; omega
    have hcu : w5.cell? ⟨b, K, none⟩ = some (.int .i64 (e : Int)) := by
      obtain ⟨b', o', e1, _, h2⟩ := HR5.out.2 (by omega)
      injection e1 with e1
      injection e1 with e1 e2
      subst e1; subst e2
      have := h2 K (.int .i64 (e : Int)) (by simp [natv, is, HE.out])
      rw [Nat.zero_add] at this; exact this
    have hr5 : Rd w5 (some ⟨b, K, none⟩) 1 1 (natv [e]) := ⟨rfl, fun _ => ⟨b, K, rfl, by
        obtain ⟨b', o', e1, h1, _⟩ := HR5.out.2 (by omega)
        injection e1 with e1
        injection e1 with e1 e2
        subst e1; exact h1, fun j u hj => by
        cases j with
        | zero => injection hj with hj; subst hj; exact hcu
        | succ j => cases hj⟩⟩
    have hA5 : ∀ ad, some (⟨b, K, none⟩ : Addr) = some ad → ad.block ∉ p.bl := fun ad h => by injection h with h; subst h; exact HA3.out ⟨b, 0, none⟩ rfl
    rw [HKK.out, show K1 - K = 1 by have := HKK.out; omega]
    refine (HBL.out _ p _ _ e hen HT5.out hr5 hA5).mono ?_
    rintro e' w6 ⟨rfl, hT6, hf6⟩
    have HT6 := hide hT6
    have HR6 := hide (HR5.out.fr hf6 HA3.out)
    have HB6 := hide (HB5.out.trans (hf6.below HP.out HB5.out.size))
    clear hcu hr5 hA5 hT6 hf6 HT5 HR5 HB5
    have W2 := fun w p h => torWraps w p X Y n (F.take K ++ [e]) h
    have hxx := HXX.out
    generalize anyB X Y tX (F.take K ++ [e]) = x1 at *
    generalize anyB X Y tY (F.take K ++ [e]) = x2 at *
    go_wp2_with fail
    refine (W2 _ p HT6.out).mono ?_
    clear W2
    rintro e' w7 ⟨rfl, k7, rfl⟩
    have HR7 := hide (HR6.out.drewN k7)
    have HB7 := hide (HB6.out.drewN k7)
    clear HT6 HR6 HB6
    generalize w6.drewN k7 = w7 at *
    have hm0 : ¬ m = 0 := by omega
    cases x1
    · simp only [Bool.false_or] at hxx
      subst hxx
      try clear HXX HE
      clear HC HW1 HBL HP1 HFI
      obtain ⟨i, him, ri, ti⟩ := rem_nat b3 (show 1 ≤ m by omega)
      obtain ⟨e, he⟩ : ∃ e, F[i]? = some e := ⟨_, List.getElem?_eq_getElem (by rw [HM.out]; exact him)⟩
      have hmem : e ∈ F := List.mem_of_getElem? he
      have F22 := HF22.out e hmem
      have HF22' := hide F22
      have hblt : b < w7.heap.size := by
        obtain ⟨b', o', e1, h1, _⟩ := HR7.out.2 (by omega)
        injection e1 with e1
        injection e1 with e1 e2
        subst e1; exact h1
      have hcu : w7.cell? ⟨b, i, none⟩ = some (.int .i64 (e : Int)) := by
        obtain ⟨b', o', e1, _, h2⟩ := HR7.out.2 (by omega)
        injection e1 with e1
        injection e1 with e1 e2
        subst e1; subst e2
        have := h2 i (.int .i64 (e : Int)) (by simp [natv, is, he])
        rw [Nat.zero_add] at this; exact this
      have KS : Hid (∀ w', Below w7.heap.size w7 w' → w'.cell? ⟨b, i, none⟩ = some (.int .i64 (e : Int))) := fun w' h => (h.cell (p := ⟨b, i, none⟩) hblt).trans hcu
      clear F22 he hmem
      go_wp2_with fail
      have hw0 : w7.heap.size ≤ (w7.drewN 1).heap.size := Nat.le_refl _
      have bd : Below w7.heap.size w7 (w7.drewN 1) := (Below.refl _ _).drewN 1
      have bd1 : ∀ o, Below w7.heap.size w7 ((w7.drewN 1).alloc o) := fun o => bd.alloc hw0 o
      have bd2 : ∀ o o', Below w7.heap.size w7 (((w7.drewN 1).alloc o).alloc o') := fun o o' => (bd1 o).alloc (bd1 o).size o'
      have BD := hide bd
      have BD1 := hide bd1
      have BD2 := hide bd2
      clear bd bd1 bd2 hw0
      have HS1 : Hid (((w7.drewN 1).alloc (.cells #[] 3)).heap.size = w7.heap.size + 1) := by show _ = _; simp
      have HS2 : Hid (((w7.drewN 1).alloc (.cells #[.int .i64 (e : Int)] 3)).heap.size = w7.heap.size + 1) := by show _ = _; simp
      go_region_held3 (fun w' => w'.cell? ⟨b, i, none⟩ = some (.int .i64 (e : Int)))
        (first
          | exact KS.out _ BD.out
          | exact KS.out _ (BD1.out _)
          | exact KS.out _ (BD2.out _ _)
          | exact KS.out _ HBA.out
          | exact KS.out _ (HBA.out.alloc HBA.out.size _)
          | exact KS.out _ HBB.out
          | exact KS.out _ HB8.out)
        (first
          | (refine step_app rfl (.tmp 141) (.tmp 142) rfl w7.heap.size (.slice (some ⟨w7.heap.size, 0, none⟩) 0 0) 0 [] rfl (World.ownsRow_made (w7.drewN 1) #[] 0 (Nat.le_refl _) (by simp [maxLen]) rfl) b m c (natv F) rfl (HR7.out.below (BD1.out _)) (natv_one F) (by omega) (by omega) (BD1.out _).size m (natv F) (Nat.zero_add m) rfl ?_; intro g1 c1 wa hoa hga hba; have HBA := hide ((BD1.out _).trans hba); have HOA := hide hoa; clear hba hoa)
          | (refine step_app rfl (.tmp 141) (.tmp 142) rfl w7.heap.size (.slice (some ⟨w7.heap.size, 0, none⟩) 0 0) 0 [] rfl (World.ownsRow.alloc (World.ownsRow_made (w7.drewN 1) #[] 0 (Nat.le_refl _) (by simp [maxLen]) rfl) (.cells #[.int .i64 (e : Int)] 3)) b m c (natv F) rfl (HR7.out.below (BD2.out _ _)) (natv_one F) (by omega) (by omega) (BD2.out _ _).size m (natv F) (Nat.zero_add m) rfl ?_; intro g1 c1 wa hoa hga hba; have HRE := hide (re_second (w := w7.drewN 1) (o := .cells #[] 3) HS1.out hga); have HBA := hide ((BD2.out _ _).trans hba); have HOA := hide hoa; clear hba hoa)
          | (refine step_app rfl (.tmp 141) (.tmp 142) rfl w7.heap.size (.slice (some ⟨w7.heap.size + 1, 0, none⟩) 0 0) 0 [] rfl (own_second HS2.out) b m c (natv F) rfl (HR7.out.below (BD2.out _ _)) (natv_one F) (by omega) (by omega) (BD2.out _ _).size m (natv F) (Nat.zero_add m) rfl ?_; intro g1 c1 wa hoa hga hba; have HRE := hide (re_first (w := w7.drewN 1) (o := .cells #[] 3) hga); have HBA := hide ((BD2.out _ _).trans hba); have HOA := hide hoa; clear hba hoa)
          | (refine step_app rfl (.tmp 143) (.tmp 148) rfl w7.heap.size _ m (natv F) rfl (World.ownsRow.alloc HOA.out _) _ 1 1 [.int .i64 (e : Int)] rfl (Rd.lit wa #[.int .i64 (e : Int)] 3 1 1 rfl) (by intro u hu; rw [List.mem_singleton.1 hu]; rfl) (by omega) (by omega) (HBA.out.alloc HBA.out.size _).size (m + 1) (natv (F ++ [e])) rfl (natv_snoc F e).symm ?_; intro g2 c2 wb hob hgb hbb; have HBB := hide ((HBA.out.alloc HBA.out.size _).trans hbb); have HOB := hide hob; clear hbb hob)
          | (refine step_app rfl (.tmp 143) (.tmp 148) rfl w7.heap.size _ m (natv F) rfl HOA.out _ 1 1 [.int .i64 (e : Int)] rfl HRE.out (by intro u hu; rw [List.mem_singleton.1 hu]; rfl) (by omega) (by omega) HBA.out.size (m + 1) (natv (F ++ [e])) rfl (natv_snoc F e).symm ?_; intro g2 c2 wb hob hgb hbb; have HBB := hide (HBA.out.trans hbb); have HOB := hide hob; clear hbb hob)
          | (go_at_call 16; refine (HFB.out wb (some ⟨g2, 0, none⟩) (m + 1) c2 ((F ++ [e]).map fun (i : Nat) => (i : Int)) (by simp [HM.out]) (by omega) (own_rd HOB.out) HF22'.out).mono ?_; rintro r w8 ⟨rfl, hb8⟩; have HB8 := hide (HBB.out.trans (hb8.mono HBB.out.size)); clear hb8))
      all_goals
        have HR0 := hide (HR7.out.below HB8.out)
        have HBW0 := hide (HB7.out.trans (HB8.out.mono HB7.out.size))
        clear HBA HOA HBB HOB HB8 KS HR7 HB7 BD BD1 BD2 HS1 HS2 hcu HF22'
        try clear HRE
        have HT1 := hide (show Rd w8 (some ⟨b, 0, none⟩) i 1 (natv (F.take i)) from by rw [natv_take]; exact rd_take HR0.out (Nat.le_of_lt him))
        go_wp2_with (first
          | (at_builtin; go_loud (refine app_any 22 3 Try.underlying22 hi'.out hz0'.out hz1'.out hz2'.out rfl (by decide) (w8.alloc (.cells #[] 3)) (some ⟨b, 0, none⟩) i c (natv (F.take i)) (HT1.out.alloc _) (natv_one _) rfl (.tmp 157) (.tmp 160) rfl w8.heap.size (.slice (some ⟨w8.heap.size, 0, none⟩) 0 0) 0 [] rfl (World.ownsRow_made w8 #[] 0 (Nat.le_refl _) (by simp [maxLen]) rfl) rfl (by unfold maxLen; omega) (by omega) (by simp) ?_; intro va1 wa1 ho hg hat hnn hb; have HOA1 := hide ho; have HBA1 := hide (((Below.refl _ _).alloc (Nat.le_refl _) (.cells #[] 3)).trans hb); clear ho hg hat hnn hb))
          | (at_builtin; go_loud (refine app_one 22 3 Try.underlying22 hi'.out hz0'.out hz1'.out hz2'.out rfl (by decide) wa1 #[.int .i64 (2 * (X : Int) * (Y : Int))] rfl (by intro u hu; simp at hu; subst hu; rfl) rfl (.tmp 161) (.tmp 166) rfl w8.heap.size va1 (0 + i) ([] ++ natv (F.take i)) rfl HOA1.out rfl (by unfold maxLen; omega) (by omega) HBA1.out.size ?_; intro vb1 wb1 ho hg hat hb; have HOB1 := hide ho; have HBB1 := hide (HBA1.out.trans hb); clear ho hg hat hb)))
        have hob1 : wb1.ownsRow w8.heap.size 3 1 vb1 (i + 1) (is ((F.take i).map (fun (i : Nat) => (i : Int)) ++ [2 * (X : Int) * (Y : Int)])) := by
          have := HOB1.out
          rw [Nat.zero_add] at this
          rw [is_append]; exact this
        obtain ⟨Ab1, cb1, rfl, _⟩ := own_form hob1
        refine (HFB.out wb1 Ab1 (i + 1) cb1 _ (by have := HM.out; simp; omega) (by omega) (own_rd hob1) (HF23X.out _)).mono ?_
        rintro r w9 ⟨rfl, hb⟩
        have HR1 := hide ((HR0.out.below HBB1.out).below hb)
        have HBW1 := hide (HBW0.out.trans ((HBB1.out.trans (hb.mono HBB1.out.size)).mono HBW0.out.size))
        clear hb hob1 HOA1 HBA1 HOB1 HBB1 HT1
        have HT2 := hide (show Rd w9 (some ⟨b, 0, none⟩) i 1 (natv (F.take i)) from by rw [natv_take]; exact rd_take HR1.out (Nat.le_of_lt him))
        go_wp2_with (first
          | (at_builtin; go_loud (refine app_any 22 3 Try.underlying22 hi'.out hz0'.out hz1'.out hz2'.out rfl (by decide) (w9.alloc (.cells #[] 3)) (some ⟨b, 0, none⟩) i c (natv (F.take i)) (HT2.out.alloc _) (natv_one _) rfl (.tmp 175) (.tmp 178) rfl w9.heap.size (.slice (some ⟨w9.heap.size, 0, none⟩) 0 0) 0 [] rfl (World.ownsRow_made w9 #[] 0 (Nat.le_refl _) (by simp [maxLen]) rfl) rfl (by unfold maxLen; omega) (by omega) (by simp) ?_; intro va2 wa2 ho hg hat hnn hb; have HOA2 := hide ho; have HBA2 := hide (((Below.refl _ _).alloc (Nat.le_refl _) (.cells #[] 3)).trans hb); clear ho hg hat hnn hb))
          | (at_builtin; go_loud (refine app_one 22 3 Try.underlying22 hi'.out hz0'.out hz1'.out hz2'.out rfl (by decide) wa2 #[.int .i64 (-1)] rfl (by intro u hu; simp at hu; subst hu; rfl) rfl (.tmp 179) (.tmp 180) rfl w9.heap.size va2 (0 + i) ([] ++ natv (F.take i)) rfl HOA2.out rfl (by unfold maxLen; omega) (by omega) HBA2.out.size ?_; intro vb2 wb2 ho hg hat hb; have HOB2 := hide ho; have HBB2 := hide (HBA2.out.trans hb); clear ho hg hat hb)))
        have hob2 : wb2.ownsRow w9.heap.size 3 1 vb2 (i + 1) (is ((F.take i).map (fun (i : Nat) => (i : Int)) ++ [-1])) := by
          have := HOB2.out
          rw [Nat.zero_add] at this
          rw [is_append]; exact this
        obtain ⟨Ab2, cb2, rfl, _⟩ := own_form hob2
        refine (HFB.out wb2 Ab2 (i + 1) cb2 _ (by have := HM.out; simp; omega) (by omega) (own_rd hob2) (HF24.out _)).mono ?_
        rintro r w10 ⟨rfl, hb⟩
        have HR2 := hide ((HR1.out.below HBB2.out).below hb)
        have HBW2 := hide (HBW1.out.trans ((HBB2.out.trans (hb.mono HBB2.out.size)).mono HBW1.out.size))
        clear hb hob2 HOA2 HBA2 HOB2 HBB2 HT2
        go_wp2_with fail
        refine (works30 _).mono ?_
        rintro r w11 ⟨rfl, hb11⟩
        go_wp2_with fail
        go_ret
        exact ⟨rfl, HBW2.out.trans (hb11.mono HBW2.out.size)⟩
    · clear hxx
      try clear HXX HE
      clear HC HW1 HBL HP1 HFI
      obtain ⟨i, him, ri, ti⟩ := rem_nat b3 (show 1 ≤ m by omega)
      obtain ⟨e, he⟩ : ∃ e, F[i]? = some e := ⟨_, List.getElem?_eq_getElem (by rw [HM.out]; exact him)⟩
      have hmem : e ∈ F := List.mem_of_getElem? he
      have F22 := HF22.out e hmem
      have HF22' := hide F22
      have hblt : b < w7.heap.size := by
        obtain ⟨b', o', e1, h1, _⟩ := HR7.out.2 (by omega)
        injection e1 with e1
        injection e1 with e1 e2
        subst e1; exact h1
      have hcu : w7.cell? ⟨b, i, none⟩ = some (.int .i64 (e : Int)) := by
        obtain ⟨b', o', e1, _, h2⟩ := HR7.out.2 (by omega)
        injection e1 with e1
        injection e1 with e1 e2
        subst e1; subst e2
        have := h2 i (.int .i64 (e : Int)) (by simp [natv, is, he])
        rw [Nat.zero_add] at this; exact this
      have KS : Hid (∀ w', Below w7.heap.size w7 w' → w'.cell? ⟨b, i, none⟩ = some (.int .i64 (e : Int))) := fun w' h => (h.cell (p := ⟨b, i, none⟩) hblt).trans hcu
      clear F22 he hmem
      go_wp2_with fail
      have hw0 : w7.heap.size ≤ (w7.drewN 1).heap.size := Nat.le_refl _
      have bd : Below w7.heap.size w7 (w7.drewN 1) := (Below.refl _ _).drewN 1
      have bd1 : ∀ o, Below w7.heap.size w7 ((w7.drewN 1).alloc o) := fun o => bd.alloc hw0 o
      have bd2 : ∀ o o', Below w7.heap.size w7 (((w7.drewN 1).alloc o).alloc o') := fun o o' => (bd1 o).alloc (bd1 o).size o'
      have BD := hide bd
      have BD1 := hide bd1
      have BD2 := hide bd2
      clear bd bd1 bd2 hw0
      have HS1 : Hid (((w7.drewN 1).alloc (.cells #[] 3)).heap.size = w7.heap.size + 1) := by show _ = _; simp
      have HS2 : Hid (((w7.drewN 1).alloc (.cells #[.int .i64 (e : Int)] 3)).heap.size = w7.heap.size + 1) := by show _ = _; simp
      go_region_held3 (fun w' => w'.cell? ⟨b, i, none⟩ = some (.int .i64 (e : Int)))
        (first
          | exact KS.out _ BD.out
          | exact KS.out _ (BD1.out _)
          | exact KS.out _ (BD2.out _ _)
          | exact KS.out _ HBA.out
          | exact KS.out _ (HBA.out.alloc HBA.out.size _)
          | exact KS.out _ HBB.out
          | exact KS.out _ HB8.out)
        (first
          | (refine step_app rfl (.tmp 141) (.tmp 142) rfl w7.heap.size (.slice (some ⟨w7.heap.size, 0, none⟩) 0 0) 0 [] rfl (World.ownsRow_made (w7.drewN 1) #[] 0 (Nat.le_refl _) (by simp [maxLen]) rfl) b m c (natv F) rfl (HR7.out.below (BD1.out _)) (natv_one F) (by omega) (by omega) (BD1.out _).size m (natv F) (Nat.zero_add m) rfl ?_; intro g1 c1 wa hoa hga hba; have HBA := hide ((BD1.out _).trans hba); have HOA := hide hoa; clear hba hoa)
          | (refine step_app rfl (.tmp 141) (.tmp 142) rfl w7.heap.size (.slice (some ⟨w7.heap.size, 0, none⟩) 0 0) 0 [] rfl (World.ownsRow.alloc (World.ownsRow_made (w7.drewN 1) #[] 0 (Nat.le_refl _) (by simp [maxLen]) rfl) (.cells #[.int .i64 (e : Int)] 3)) b m c (natv F) rfl (HR7.out.below (BD2.out _ _)) (natv_one F) (by omega) (by omega) (BD2.out _ _).size m (natv F) (Nat.zero_add m) rfl ?_; intro g1 c1 wa hoa hga hba; have HRE := hide (re_second (w := w7.drewN 1) (o := .cells #[] 3) HS1.out hga); have HBA := hide ((BD2.out _ _).trans hba); have HOA := hide hoa; clear hba hoa)
          | (refine step_app rfl (.tmp 141) (.tmp 142) rfl w7.heap.size (.slice (some ⟨w7.heap.size + 1, 0, none⟩) 0 0) 0 [] rfl (own_second HS2.out) b m c (natv F) rfl (HR7.out.below (BD2.out _ _)) (natv_one F) (by omega) (by omega) (BD2.out _ _).size m (natv F) (Nat.zero_add m) rfl ?_; intro g1 c1 wa hoa hga hba; have HRE := hide (re_first (w := w7.drewN 1) (o := .cells #[] 3) hga); have HBA := hide ((BD2.out _ _).trans hba); have HOA := hide hoa; clear hba hoa)
          | (refine step_app rfl (.tmp 143) (.tmp 148) rfl w7.heap.size _ m (natv F) rfl (World.ownsRow.alloc HOA.out _) _ 1 1 [.int .i64 (e : Int)] rfl (Rd.lit wa #[.int .i64 (e : Int)] 3 1 1 rfl) (by intro u hu; rw [List.mem_singleton.1 hu]; rfl) (by omega) (by omega) (HBA.out.alloc HBA.out.size _).size (m + 1) (natv (F ++ [e])) rfl (natv_snoc F e).symm ?_; intro g2 c2 wb hob hgb hbb; have HBB := hide ((HBA.out.alloc HBA.out.size _).trans hbb); have HOB := hide hob; clear hbb hob)
          | (refine step_app rfl (.tmp 143) (.tmp 148) rfl w7.heap.size _ m (natv F) rfl HOA.out _ 1 1 [.int .i64 (e : Int)] rfl HRE.out (by intro u hu; rw [List.mem_singleton.1 hu]; rfl) (by omega) (by omega) HBA.out.size (m + 1) (natv (F ++ [e])) rfl (natv_snoc F e).symm ?_; intro g2 c2 wb hob hgb hbb; have HBB := hide (HBA.out.trans hbb); have HOB := hide hob; clear hbb hob)
          | (go_at_call 16; refine (HFB.out wb (some ⟨g2, 0, none⟩) (m + 1) c2 ((F ++ [e]).map fun (i : Nat) => (i : Int)) (by simp [HM.out]) (by omega) (own_rd HOB.out) HF22'.out).mono ?_; rintro r w8 ⟨rfl, hb8⟩; have HB8 := hide (HBB.out.trans (hb8.mono HBB.out.size)); clear hb8))
      all_goals
        have HR0 := hide (HR7.out.below HB8.out)
        have HBW0 := hide (HB7.out.trans (HB8.out.mono HB7.out.size))
        clear HBA HOA HBB HOB HB8 KS HR7 HB7 BD BD1 BD2 HS1 HS2 hcu HF22'
        try clear HRE
        have HT1 := hide (show Rd w8 (some ⟨b, 0, none⟩) i 1 (natv (F.take i)) from by rw [natv_take]; exact rd_take HR0.out (Nat.le_of_lt him))
        go_wp2_with (first
          | (at_builtin; go_loud (refine app_any 22 3 Try.underlying22 hi'.out hz0'.out hz1'.out hz2'.out rfl (by decide) (w8.alloc (.cells #[] 3)) (some ⟨b, 0, none⟩) i c (natv (F.take i)) (HT1.out.alloc _) (natv_one _) rfl (.tmp 157) (.tmp 160) rfl w8.heap.size (.slice (some ⟨w8.heap.size, 0, none⟩) 0 0) 0 [] rfl (World.ownsRow_made w8 #[] 0 (Nat.le_refl _) (by simp [maxLen]) rfl) rfl (by unfold maxLen; omega) (by omega) (by simp) ?_; intro va1 wa1 ho hg hat hnn hb; have HOA1 := hide ho; have HBA1 := hide (((Below.refl _ _).alloc (Nat.le_refl _) (.cells #[] 3)).trans hb); clear ho hg hat hnn hb))
          | (at_builtin; go_loud (refine app_one 22 3 Try.underlying22 hi'.out hz0'.out hz1'.out hz2'.out rfl (by decide) wa1 #[.int .i64 (2 * (X : Int) * (Y : Int))] rfl (by intro u hu; simp at hu; subst hu; rfl) rfl (.tmp 161) (.tmp 166) rfl w8.heap.size va1 (0 + i) ([] ++ natv (F.take i)) rfl HOA1.out rfl (by unfold maxLen; omega) (by omega) HBA1.out.size ?_; intro vb1 wb1 ho hg hat hb; have HOB1 := hide ho; have HBB1 := hide (HBA1.out.trans hb); clear ho hg hat hb)))
        have hob1 : wb1.ownsRow w8.heap.size 3 1 vb1 (i + 1) (is ((F.take i).map (fun (i : Nat) => (i : Int)) ++ [2 * (X : Int) * (Y : Int)])) := by
          have := HOB1.out
          rw [Nat.zero_add] at this
          rw [is_append]; exact this
        obtain ⟨Ab1, cb1, rfl, _⟩ := own_form hob1
        refine (HFB.out wb1 Ab1 (i + 1) cb1 _ (by have := HM.out; simp; omega) (by omega) (own_rd hob1) (HF23X.out _)).mono ?_
        rintro r w9 ⟨rfl, hb⟩
        have HR1 := hide ((HR0.out.below HBB1.out).below hb)
        have HBW1 := hide (HBW0.out.trans ((HBB1.out.trans (hb.mono HBB1.out.size)).mono HBW0.out.size))
        clear hb hob1 HOA1 HBA1 HOB1 HBB1 HT1
        have HT2 := hide (show Rd w9 (some ⟨b, 0, none⟩) i 1 (natv (F.take i)) from by rw [natv_take]; exact rd_take HR1.out (Nat.le_of_lt him))
        go_wp2_with (first
          | (at_builtin; go_loud (refine app_any 22 3 Try.underlying22 hi'.out hz0'.out hz1'.out hz2'.out rfl (by decide) (w9.alloc (.cells #[] 3)) (some ⟨b, 0, none⟩) i c (natv (F.take i)) (HT2.out.alloc _) (natv_one _) rfl (.tmp 175) (.tmp 178) rfl w9.heap.size (.slice (some ⟨w9.heap.size, 0, none⟩) 0 0) 0 [] rfl (World.ownsRow_made w9 #[] 0 (Nat.le_refl _) (by simp [maxLen]) rfl) rfl (by unfold maxLen; omega) (by omega) (by simp) ?_; intro va2 wa2 ho hg hat hnn hb; have HOA2 := hide ho; have HBA2 := hide (((Below.refl _ _).alloc (Nat.le_refl _) (.cells #[] 3)).trans hb); clear ho hg hat hnn hb))
          | (at_builtin; go_loud (refine app_one 22 3 Try.underlying22 hi'.out hz0'.out hz1'.out hz2'.out rfl (by decide) wa2 #[.int .i64 (-1)] rfl (by intro u hu; simp at hu; subst hu; rfl) rfl (.tmp 179) (.tmp 180) rfl w9.heap.size va2 (0 + i) ([] ++ natv (F.take i)) rfl HOA2.out rfl (by unfold maxLen; omega) (by omega) HBA2.out.size ?_; intro vb2 wb2 ho hg hat hb; have HOB2 := hide ho; have HBB2 := hide (HBA2.out.trans hb); clear ho hg hat hb)))
        have hob2 : wb2.ownsRow w9.heap.size 3 1 vb2 (i + 1) (is ((F.take i).map (fun (i : Nat) => (i : Int)) ++ [-1])) := by
          have := HOB2.out
          rw [Nat.zero_add] at this
          rw [is_append]; exact this
        obtain ⟨Ab2, cb2, rfl, _⟩ := own_form hob2
        refine (HFB.out wb2 Ab2 (i + 1) cb2 _ (by have := HM.out; simp; omega) (by omega) (own_rd hob2) (HF24.out _)).mono ?_
        rintro r w10 ⟨rfl, hb⟩
        have HR2 := hide ((HR1.out.below HBB2.out).below hb)
        have HBW2 := hide (HBW1.out.trans ((HBB2.out.trans (hb.mono HBB2.out.size)).mono HBW1.out.size))
        clear hb hob2 HOA2 HBA2 HOB2 HBB2 HT2
        go_wp2_with fail
        refine (works30 _).mono ?_
        rintro r w11 ⟨rfl, hb11⟩
        go_wp2_with fail
        go_ret
        exact ⟨rfl, HBW2.out.trans (hb11.mono HBW2.out.size)⟩
  · rw [hk1, hb1]
    obtain rfl : m = K := hKm.symm
    clear hk1 hb1
    by_cases hm0 : m = 0
    · have HM0 := hide hm0
      clear hm0
      go_wp2_with fail
      refine (HN1.out _).mono ?_
      rintro e' w3 ⟨p, rfl, hT3, hB3, hp3⟩
      have HR3 := hide (own_rd (own_below HO2.out hB3))
      have hA3 : ∀ ad, A = some ad → ad.block ∉ p.bl := fun ad h hm => by
        obtain ⟨A', c', e1, _, h1, _⟩ := own_form HO2.out
        injection e1 with e1 _ _
        subst e1
        have := (h1 ad h).1
        have := hp3 _ hm
        omega
      have HA3 := hide hA3
      have HT3 := hide hT3
      have HB3 := hide (HB2.out.trans (hB3.mono HB2.out.size))
      have HP : Hid (∀ k ∈ p.bl, W.heap.size ≤ k) := fun k hk => by have := hp3 k hk; have := HB2.out.size; omega
      have hcap : m ≤ c ∧ c ≤ 9223372036854775807 := by
        obtain ⟨A', c', e1, _, _, h1, h2⟩ := own_form HO2.out
        injection e1 with _ _ e3
        subst e3
        unfold maxLen at h2
        exact ⟨h1, h2⟩
      obtain ⟨hcap, hcap2⟩ := hcap
      have hA0 : ∀ ad, A = some ad → ad = ⟨ad.block, 0, none⟩ := fun ad h => by
        obtain ⟨A', c', e1, _, h1, _⟩ := own_form HO2.out
        injection e1 with e1 _ _
        subst e1
        exact (h1 ad h).2.2
      clear hT3 hB3 hp3 hA3 HO2 HB2
      have hA1 : (A.map fun x => x.add 0) = A := by
        rcases A with _ | ad
        · rfl
        · rw [hA0 ad rfl]; rfl
      have hA2 : (if c = 0 then A else A.map fun x => x.add 0) = A := by rw [hA1]; split <;> rfl
      clear hA0
      go_wp2_with fail
      have hr3 := rd_take HR3.out hK
      rw [← natv_take] at hr3
      refine (HP1.out _ p _ _ HT3.out hr3 HA3.out).mono ?_
      rintro e' w4 ⟨rfl, hT4, hf4⟩
      have HT4 := hide hT4
      have HR4 := hide (HR3.out.fr hf4 HA3.out)
      have HB4 := hide (HB3.out.trans (hf4.below HP.out HB3.out.size))
      clear hr3 hT4 hf4 HT3 HR3 HB3
      go_wp2_with fail
      refine (HW1.out _ p HT4.out).mono ?_
      rintro e' w7 ⟨rfl, k5, rfl⟩
      have HT7 := hide (HT4.out.drewN k5)
      have HR7 := hide (HR4.out.drewN k5)
      have HB7 := hide (HB4.out.drewN k5)
      clear HT4 HR4 HB4
      generalize w4.drewN k5 = w7 at *
      have hm0 := HM0.out
      go_wp2_with fail
      refine (works30 _).mono ?_
      rintro r w11 ⟨rfl, hb11⟩
      go_wp2_with fail
      go_ret
      exact ⟨rfl, HB7.out.trans (hb11.mono HB7.out.size)⟩
    · have hm1 : ¬ (m : Int) = 0 := by omega
      go_wp2_with fail
      refine (HN1.out _).mono ?_
      rintro e' w3 ⟨p, rfl, hT3, hB3, hp3⟩
      have HR3 := hide (own_rd (own_below HO2.out hB3))
      have hA3 : ∀ ad, A = some ad → ad.block ∉ p.bl := fun ad h hm => by
        obtain ⟨A', c', e1, _, h1, _⟩ := own_form HO2.out
        injection e1 with e1 _ _
        subst e1
        have := (h1 ad h).1
        have := hp3 _ hm
        omega
      have HA3 := hide hA3
      have HT3 := hide hT3
      have HB3 := hide (HB2.out.trans (hB3.mono HB2.out.size))
      have HP : Hid (∀ k ∈ p.bl, W.heap.size ≤ k) := fun k hk => by have := hp3 k hk; have := HB2.out.size; omega
      have hcap : m ≤ c ∧ c ≤ 9223372036854775807 := by
        obtain ⟨A', c', e1, _, _, h1, h2⟩ := own_form HO2.out
        injection e1 with _ _ e3
        subst e3
        unfold maxLen at h2
        exact ⟨h1, h2⟩
      obtain ⟨hcap, hcap2⟩ := hcap
      have hA0 : ∀ ad, A = some ad → ad = ⟨ad.block, 0, none⟩ := fun ad h => by
        obtain ⟨A', c', e1, _, h1, _⟩ := own_form HO2.out
        injection e1 with e1 _ _
        subst e1
        exact (h1 ad h).2.2
      clear hT3 hB3 hp3 hA3 HO2 HB2
      obtain ⟨b, hb⟩ : ∃ b, A = some ⟨b, 0, none⟩ := by
        obtain ⟨b, o, e, _⟩ := HR3.out.2 (by omega)
        have := hA0 _ e
        injection this with _ h2
        subst h2
        exact ⟨b, e⟩
      subst hb
      clear hA0
      have hc0 : ¬ c = 0 := by omega
      go_wp2_with fail
      have hr3 := rd_take HR3.out hK
      rw [← natv_take] at hr3
      refine (HP1.out _ p _ _ HT3.out hr3 HA3.out).mono ?_
      rintro e' w4 ⟨rfl, hT4, hf4⟩
      have HT4 := hide hT4
      have HR4 := hide (HR3.out.fr hf4 HA3.out)
      have HB4 := hide (HB3.out.trans (hf4.below HP.out HB3.out.size))
      clear hr3 hT4 hf4 HT3 HR3 HB3
      go_wp2_with fail
      refine (HW1.out _ p HT4.out).mono ?_
      rintro e' w7 ⟨rfl, k5, rfl⟩
      have HT7 := hide (HT4.out.drewN k5)
      have HR7 := hide (HR4.out.drewN k5)
      have HB7 := hide (HB4.out.drewN k5)
      clear HT4 HR4 HB4
      generalize w4.drewN k5 = w7 at *
      try clear HXX HE
      clear HC HW1 HBL HP1 HFI
      obtain ⟨i, him, ri, ti⟩ := rem_nat b3 (show 1 ≤ m by omega)
      obtain ⟨e, he⟩ : ∃ e, F[i]? = some e := ⟨_, List.getElem?_eq_getElem (by rw [HM.out]; exact him)⟩
      have hmem : e ∈ F := List.mem_of_getElem? he
      have F22 := HF22.out e hmem
      have HF22' := hide F22
      have hblt : b < w7.heap.size := by
        obtain ⟨b', o', e1, h1, _⟩ := HR7.out.2 (by omega)
        injection e1 with e1
        injection e1 with e1 e2
        subst e1; exact h1
      have hcu : w7.cell? ⟨b, i, none⟩ = some (.int .i64 (e : Int)) := by
        obtain ⟨b', o', e1, _, h2⟩ := HR7.out.2 (by omega)
        injection e1 with e1
        injection e1 with e1 e2
        subst e1; subst e2
        have := h2 i (.int .i64 (e : Int)) (by simp [natv, is, he])
        rw [Nat.zero_add] at this; exact this
      have KS : Hid (∀ w', Below w7.heap.size w7 w' → w'.cell? ⟨b, i, none⟩ = some (.int .i64 (e : Int))) := fun w' h => (h.cell (p := ⟨b, i, none⟩) hblt).trans hcu
      clear F22 he hmem
      go_wp2_with fail
      have hw0 : w7.heap.size ≤ (w7.drewN 1).heap.size := Nat.le_refl _
      have bd : Below w7.heap.size w7 (w7.drewN 1) := (Below.refl _ _).drewN 1
      have bd1 : ∀ o, Below w7.heap.size w7 ((w7.drewN 1).alloc o) := fun o => bd.alloc hw0 o
      have bd2 : ∀ o o', Below w7.heap.size w7 (((w7.drewN 1).alloc o).alloc o') := fun o o' => (bd1 o).alloc (bd1 o).size o'
      have BD := hide bd
      have BD1 := hide bd1
      have BD2 := hide bd2
      clear bd bd1 bd2 hw0
      have HS1 : Hid (((w7.drewN 1).alloc (.cells #[] 3)).heap.size = w7.heap.size + 1) := by show _ = _; simp
      have HS2 : Hid (((w7.drewN 1).alloc (.cells #[.int .i64 (e : Int)] 3)).heap.size = w7.heap.size + 1) := by show _ = _; simp
      go_region_held3 (fun w' => w'.cell? ⟨b, i, none⟩ = some (.int .i64 (e : Int)))
        (first
          | exact KS.out _ BD.out
          | exact KS.out _ (BD1.out _)
          | exact KS.out _ (BD2.out _ _)
          | exact KS.out _ HBA.out
          | exact KS.out _ (HBA.out.alloc HBA.out.size _)
          | exact KS.out _ HBB.out
          | exact KS.out _ HB8.out)
        (first
          | (refine step_app rfl (.tmp 141) (.tmp 142) rfl w7.heap.size (.slice (some ⟨w7.heap.size, 0, none⟩) 0 0) 0 [] rfl (World.ownsRow_made (w7.drewN 1) #[] 0 (Nat.le_refl _) (by simp [maxLen]) rfl) b m c (natv F) rfl (HR7.out.below (BD1.out _)) (natv_one F) (by omega) (by omega) (BD1.out _).size m (natv F) (Nat.zero_add m) rfl ?_; intro g1 c1 wa hoa hga hba; have HBA := hide ((BD1.out _).trans hba); have HOA := hide hoa; clear hba hoa)
          | (refine step_app rfl (.tmp 141) (.tmp 142) rfl w7.heap.size (.slice (some ⟨w7.heap.size, 0, none⟩) 0 0) 0 [] rfl (World.ownsRow.alloc (World.ownsRow_made (w7.drewN 1) #[] 0 (Nat.le_refl _) (by simp [maxLen]) rfl) (.cells #[.int .i64 (e : Int)] 3)) b m c (natv F) rfl (HR7.out.below (BD2.out _ _)) (natv_one F) (by omega) (by omega) (BD2.out _ _).size m (natv F) (Nat.zero_add m) rfl ?_; intro g1 c1 wa hoa hga hba; have HRE := hide (re_second (w := w7.drewN 1) (o := .cells #[] 3) HS1.out hga); have HBA := hide ((BD2.out _ _).trans hba); have HOA := hide hoa; clear hba hoa)
          | (refine step_app rfl (.tmp 141) (.tmp 142) rfl w7.heap.size (.slice (some ⟨w7.heap.size + 1, 0, none⟩) 0 0) 0 [] rfl (own_second HS2.out) b m c (natv F) rfl (HR7.out.below (BD2.out _ _)) (natv_one F) (by omega) (by omega) (BD2.out _ _).size m (natv F) (Nat.zero_add m) rfl ?_; intro g1 c1 wa hoa hga hba; have HRE := hide (re_first (w := w7.drewN 1) (o := .cells #[] 3) hga); have HBA := hide ((BD2.out _ _).trans hba); have HOA := hide hoa; clear hba hoa)
          | (refine step_app rfl (.tmp 143) (.tmp 148) rfl w7.heap.size _ m (natv F) rfl (World.ownsRow.alloc HOA.out _) _ 1 1 [.int .i64 (e : Int)] rfl (Rd.lit wa #[.int .i64 (e : Int)] 3 1 1 rfl) (by intro u hu; rw [List.mem_singleton.1 hu]; rfl) (by omega) (by omega) (HBA.out.alloc HBA.out.size _).size (m + 1) (natv (F ++ [e])) rfl (natv_snoc F e).symm ?_; intro g2 c2 wb hob hgb hbb; have HBB := hide ((HBA.out.alloc HBA.out.size _).trans hbb); have HOB := hide hob; clear hbb hob)
          | (refine step_app rfl (.tmp 143) (.tmp 148) rfl w7.heap.size _ m (natv F) rfl HOA.out _ 1 1 [.int .i64 (e : Int)] rfl HRE.out (by intro u hu; rw [List.mem_singleton.1 hu]; rfl) (by omega) (by omega) HBA.out.size (m + 1) (natv (F ++ [e])) rfl (natv_snoc F e).symm ?_; intro g2 c2 wb hob hgb hbb; have HBB := hide (HBA.out.trans hbb); have HOB := hide hob; clear hbb hob)
          | (go_at_call 16; refine (HFB.out wb (some ⟨g2, 0, none⟩) (m + 1) c2 ((F ++ [e]).map fun (i : Nat) => (i : Int)) (by simp [HM.out]) (by omega) (own_rd HOB.out) HF22'.out).mono ?_; rintro r w8 ⟨rfl, hb8⟩; have HB8 := hide (HBB.out.trans (hb8.mono HBB.out.size)); clear hb8))
      all_goals
        have HR0 := hide (HR7.out.below HB8.out)
        have HBW0 := hide (HB7.out.trans (HB8.out.mono HB7.out.size))
        clear HBA HOA HBB HOB HB8 KS HR7 HB7 BD BD1 BD2 HS1 HS2 hcu HF22'
        try clear HRE
        have HT1 := hide (show Rd w8 (some ⟨b, 0, none⟩) i 1 (natv (F.take i)) from by rw [natv_take]; exact rd_take HR0.out (Nat.le_of_lt him))
        go_wp2_with (first
          | (at_builtin; go_loud (refine app_any 22 3 Try.underlying22 hi'.out hz0'.out hz1'.out hz2'.out rfl (by decide) (w8.alloc (.cells #[] 3)) (some ⟨b, 0, none⟩) i c (natv (F.take i)) (HT1.out.alloc _) (natv_one _) rfl (.tmp 157) (.tmp 160) rfl w8.heap.size (.slice (some ⟨w8.heap.size, 0, none⟩) 0 0) 0 [] rfl (World.ownsRow_made w8 #[] 0 (Nat.le_refl _) (by simp [maxLen]) rfl) rfl (by unfold maxLen; omega) (by omega) (by simp) ?_; intro va1 wa1 ho hg hat hnn hb; have HOA1 := hide ho; have HBA1 := hide (((Below.refl _ _).alloc (Nat.le_refl _) (.cells #[] 3)).trans hb); clear ho hg hat hnn hb))
          | (at_builtin; go_loud (refine app_one 22 3 Try.underlying22 hi'.out hz0'.out hz1'.out hz2'.out rfl (by decide) wa1 #[.int .i64 (2 * (X : Int) * (Y : Int))] rfl (by intro u hu; simp at hu; subst hu; rfl) rfl (.tmp 161) (.tmp 166) rfl w8.heap.size va1 (0 + i) ([] ++ natv (F.take i)) rfl HOA1.out rfl (by unfold maxLen; omega) (by omega) HBA1.out.size ?_; intro vb1 wb1 ho hg hat hb; have HOB1 := hide ho; have HBB1 := hide (HBA1.out.trans hb); clear ho hg hat hb)))
        have hob1 : wb1.ownsRow w8.heap.size 3 1 vb1 (i + 1) (is ((F.take i).map (fun (i : Nat) => (i : Int)) ++ [2 * (X : Int) * (Y : Int)])) := by
          have := HOB1.out
          rw [Nat.zero_add] at this
          rw [is_append]; exact this
        obtain ⟨Ab1, cb1, rfl, _⟩ := own_form hob1
        refine (HFB.out wb1 Ab1 (i + 1) cb1 _ (by have := HM.out; simp; omega) (by omega) (own_rd hob1) (HF23X.out _)).mono ?_
        rintro r w9 ⟨rfl, hb⟩
        have HR1 := hide ((HR0.out.below HBB1.out).below hb)
        have HBW1 := hide (HBW0.out.trans ((HBB1.out.trans (hb.mono HBB1.out.size)).mono HBW0.out.size))
        clear hb hob1 HOA1 HBA1 HOB1 HBB1 HT1
        have HT2 := hide (show Rd w9 (some ⟨b, 0, none⟩) i 1 (natv (F.take i)) from by rw [natv_take]; exact rd_take HR1.out (Nat.le_of_lt him))
        go_wp2_with (first
          | (at_builtin; go_loud (refine app_any 22 3 Try.underlying22 hi'.out hz0'.out hz1'.out hz2'.out rfl (by decide) (w9.alloc (.cells #[] 3)) (some ⟨b, 0, none⟩) i c (natv (F.take i)) (HT2.out.alloc _) (natv_one _) rfl (.tmp 175) (.tmp 178) rfl w9.heap.size (.slice (some ⟨w9.heap.size, 0, none⟩) 0 0) 0 [] rfl (World.ownsRow_made w9 #[] 0 (Nat.le_refl _) (by simp [maxLen]) rfl) rfl (by unfold maxLen; omega) (by omega) (by simp) ?_; intro va2 wa2 ho hg hat hnn hb; have HOA2 := hide ho; have HBA2 := hide (((Below.refl _ _).alloc (Nat.le_refl _) (.cells #[] 3)).trans hb); clear ho hg hat hnn hb))
          | (at_builtin; go_loud (refine app_one 22 3 Try.underlying22 hi'.out hz0'.out hz1'.out hz2'.out rfl (by decide) wa2 #[.int .i64 (-1)] rfl (by intro u hu; simp at hu; subst hu; rfl) rfl (.tmp 179) (.tmp 180) rfl w9.heap.size va2 (0 + i) ([] ++ natv (F.take i)) rfl HOA2.out rfl (by unfold maxLen; omega) (by omega) HBA2.out.size ?_; intro vb2 wb2 ho hg hat hb; have HOB2 := hide ho; have HBB2 := hide (HBA2.out.trans hb); clear ho hg hat hb)))
        have hob2 : wb2.ownsRow w9.heap.size 3 1 vb2 (i + 1) (is ((F.take i).map (fun (i : Nat) => (i : Int)) ++ [-1])) := by
          have := HOB2.out
          rw [Nat.zero_add] at this
          rw [is_append]; exact this
        obtain ⟨Ab2, cb2, rfl, _⟩ := own_form hob2
        refine (HFB.out wb2 Ab2 (i + 1) cb2 _ (by have := HM.out; simp; omega) (by omega) (own_rd hob2) (HF24.out _)).mono ?_
        rintro r w10 ⟨rfl, hb⟩
        have HR2 := hide ((HR1.out.below HBB2.out).below hb)
        have HBW2 := hide (HBW1.out.trans ((HBB2.out.trans (hb.mono HBB2.out.size)).mono HBW1.out.size))
        clear hb hob2 HOA2 HBA2 HOB2 HBB2 HT2
        go_wp2_with fail
        refine (works30 _).mono ?_
        rintro r w11 ⟨rfl, hb11⟩
        go_wp2_with fail
        go_ret
        exact ⟨rfl, HBW2.out.trans (hb11.mono HBW2.out.size)⟩
end Go.Proofs.Ytnkkdoookhhhaaa
