/- tally: Union. -/
import Derived.Test.YtoomcgmbaogjbaaTalA
import Derived.StillTailTactics
namespace Go.Proofs.Ytoomcgmbaogjbaa
open Go.RowKit
set_option linter.unusedVariables false

theorem dsu_far {w : World} {p : Loc} {n : Nat} {L : Nat → Nat} (h : Dsu w p n L) {g : Nat} {ty : TypeId} {cs : Array Value} (hb : Blk w g ty cs) (h1 : ty ≠ 77) (h2 : ty ≠ 3) : g ∉ [p.g, p.bu, p.bl, p.bz] := by
  obtain ⟨up, least, size, rep, ρ, M, c, hd, hs, hl⟩ := h
  simp only [List.mem_cons, List.not_mem_nil, or_false, not_or]
  exact ⟨hb.ne_ hd.hg h1, hb.ne_ hd.hu h2, hb.ne_ hd.hl h2, hb.ne_ hd.hz h2⟩
theorem bag_far {w : World} {a : Nat} {t : BT} (h : Bg w a t) {g : Nat} {ty : TypeId} {cs : Array Value} (hb : Blk w g ty cs) (h1 : ty ≠ 92) (h2 : ty ≠ 101) : g ∉ a :: t.bl :=
  fun hm => (List.mem_cons.1 hm).elim (hb.ne_ h.blk h1) (h.tr.far hb h2)
theorem dsu_bag {w w' : World} {p : Loc} {n : Nat} {L : Nat → Nat} {a : Nat} {t : BT} (hd : Dsu w p n L) (h : Bg w a t) (k : Fr (a :: t.bl) w w') : Dsu w' p n L := by
  have hd' := hd
  obtain ⟨up, least, size, rep, ρ, M, c, hds, hs, hl⟩ := hd'
  exact hd.fr k ⟨bag_far h hds.hg (by decide) (by decide), bag_far h hds.hu (by decide) (by decide), bag_far h hds.hl (by decide) (by decide), bag_far h hds.hz (by decide) (by decide)⟩
theorem bag_dsu {w w' : World} {p : Loc} {n : Nat} {L : Nat → Nat} {a : Nat} {t : BT} (hd : Dsu w p n L) (h : Bg w a t) (k : Fr [p.g, p.bu, p.bl, p.bz] w w') : Bg w' a t :=
  h.fr k (dsu_far hd h.blk (by decide) (by decide)) fun b hb => by
    obtain ⟨cs, hc⟩ := h.tr.node b hb
    exact dsu_far hd hc (by decide) (by decide)
/-- The tally's struct, its row and its bag. -/
structure Tl0 (w : World) (q : TL) (t : BT) (n : Nat) (f : Nat → Nat) : Prop where
  blk : Blk w q.g 83 #[.pointer (some ⟨q.g, 0, none⟩), .pointer (some ⟨q.p.g, 0, none⟩), .slice (some ⟨q.b, 0, none⟩) n q.c, .pointer (some ⟨q.a, 0, none⟩)]
  row : Blk w q.b 2 (arx n f q.r)
  bag : Bg w q.a t
section
variable {w w' : World} {q : TL} {t t' : BT} {n : Nat} {L f : Nat → Nat}
theorem Tly.to0 (h : Tly w q t n L f) : Tl0 w q t n f := ⟨h.blk, h.row, h.bag⟩
theorem Tl0.dsuFr (h : Tl0 w q t n f) (hd : Dsu w q.p n L) (k : Fr [q.p.g, q.p.bu, q.p.bl, q.p.bz] w w') : Tl0 w' q t n f :=
  ⟨h.blk.fr k (dsu_far hd h.blk (by decide) (by decide)), h.row.fr k (dsu_far hd h.row (by decide) (by decide)), bag_dsu hd h.bag k⟩
theorem Tl0.bagFr (h : Tl0 w q t n f) (k : Fr (q.a :: t.bl) w w') (hb : Bg w' q.a t') : Tl0 w' q t' n f :=
  ⟨h.blk.fr k (bag_far h.bag h.blk (by decide) (by decide)), h.row.fr k (bag_far h.bag h.row (by decide) (by decide)), hb⟩
theorem Tl0.dr (h : Tl0 w q t n f) (k : Dr w w') : Tl0 w' q t n f := ⟨h.blk.fr (k.fr []) (by simp), h.row.fr (k.fr []) (by simp), h.bag.dr k⟩
theorem Dsu.dr {p : Loc} (h : Dsu w p n L) (k : Dr w w') : Dsu w' p n L := by obtain ⟨j, rfl⟩ := k; exact h.drewN j
theorem Tl0.set_ (h : Tl0 w q t n f) {i : Nat} (hi : i < n) (v : Nat) : Tl0 (w.setCell ⟨q.b, i, none⟩ (.int .i64 (v : Int))) q t n (upd f i v) := by
  have hf : Fr [q.b] w (w.setCell ⟨q.b, i, none⟩ (.int .i64 (v : Int))) := (Fr.refl [q.b] w).setCell (p := ⟨q.b, i, none⟩) (.inl (by simp)) _
  have hab := bag_far h.bag h.row (by decide) (by decide)
  refine ⟨h.blk.fr hf (by simpa using h.blk.ne_ h.row (by decide)), h.row.setIntx v hi, h.bag.fr hf (by simpa using h.bag.blk.ne_ h.row (by decide)) fun b hb hm => ?_⟩
  simp only [List.mem_cons, List.not_mem_nil, or_false] at hm
  subst hm
  exact hab (List.mem_cons_of_mem _ hb)
theorem Tl0.dsuSet (h : Tl0 w q t n f) (hd : Dsu w q.p n L) (i : Nat) (u : Value) : Dsu (w.setCell ⟨q.b, i, none⟩ u) q.p n L := by
  have hf : Fr [q.b] w (w.setCell ⟨q.b, i, none⟩ u) := (Fr.refl [q.b] w).setCell (p := ⟨q.b, i, none⟩) (.inl (by simp)) _
  have := dsu_far hd h.row (by decide) (by decide)
  simp only [List.mem_cons, List.not_mem_nil, or_false, not_or] at this
  exact hd.fr hf ⟨by simpa using fun e => this.1 e.symm, by simpa using fun e => this.2.1 e.symm, by simpa using fun e => this.2.2.1 e.symm, by simpa using fun e => this.2.2.2 e.symm⟩
theorem Tl0.c1 (h : Tl0 w q t n f) : w.cell? ⟨q.g, 1, none⟩ = some (.pointer (some ⟨q.p.g, 0, none⟩)) := (h.blk.cell 1).trans rfl
theorem Tl0.c2 (h : Tl0 w q t n f) : w.cell? ⟨q.g, 2, none⟩ = some (.slice (some ⟨q.b, 0, none⟩) n q.c) := (h.blk.cell 2).trans rfl
theorem Tl0.c3 (h : Tl0 w q t n f) : w.cell? ⟨q.g, 3, none⟩ = some (.pointer (some ⟨q.a, 0, none⟩)) := (h.blk.cell 3).trans rfl
end
theorem upd_merge {n : Nat} {L f : Nat → Nat} (hl : Lab n L) (hw : ∀ i, i < n → L i = i → f i = cls n L i) {x y : Nat} (hx : x < n) (hxi : L x = x) (hy : y < n) (hyi : L y = y) (h : x < y) :
    ∀ i, i < n → merge L x y i = i → upd f x (f x + f y) i = cls n (merge L x y) i := fun i hi he => by
  have hmm : max x y = y := by omega
  have hmi : min x y = x := by omega
  have hL : L i = i ∧ i ≠ y := by
    unfold merge at he
    rw [hmm, hmi] at he
    have := hl.le i hi
    split at he
    · exfalso; omega
    · rename_i e; exact ⟨he, fun e3 => e (by rw [e3]; exact hyi)⟩
  by_cases e : i = x
  · subst e
    have := cls_merge (n := n) (L := L) (x := i) (y := y) (by omega)
    rw [hmi] at this
    rw [upd_same, this, hw i hx hxi, hw y hy hyi]
  · rw [upd_other _ _ e, hw i hi hL.1, cls_merge_out e hL.2]

set_option maxRecDepth 100000 in
set_option maxHeartbeats 8000000 in
theorem tlyUnion_lt (w : World) (q : TL) (t : BT) (n : Nat) (L f : Nat → Nat) (h : Tly w q t n L f) (a b : Nat) (ha : a < n) (hb : b < n) (hlt : L a < L b) :
    Calls Try.prog 40 #[.pointer (some ⟨q.g, 0, none⟩), .int .i64 (a : Int), .int .i64 (b : Int)] w fun e w' => (∃ v, e = .returned v) ∧
      ∃ (t' : BT) (f' : Nat → Nat), Tly w' q t' n (merge L (L a) (L b)) f' ∧ (∀ k ∈ t'.bl, k ∈ t.bl ∨ w.heap.size ≤ k) ∧ Fr (q.S t) w w' := by
  have HV := hide (tlyValid w q t n L f h)
  have hlab := h.dsu.lab
  have H0 := hide h.to0
  have HD := hide h.dsu
  have HA := hide ha
  have HB := hide hb
  have HLA := hide hlab
  have HWT := hide h.wt
  have hxn : L a < n := hlab.lt ha
  have hyn : L b < n := hlab.lt hb
  have hxi : L (L a) = L a := hlab.idem a ha
  have hyi : L (L b) = L b := hlab.idem b hb
  obtain ⟨R, hZ1, hZ2⟩ := Zs_merge hlab ha hb hlt
  rw [← h.wt _ hxn hxi, ← h.wt _ hyn hyi] at hZ1 hZ2
  have HZ2 := hide hZ2
  have HR0 := hide (h.rep.perm hZ1)
  have c1 := h.c1
  have hnb := h.nb
  have hsz := h.sz_le
  have hct := h.ct_le
  have HNB := hide h.nb
  have HSZ := hide hsz
  have HCT := hide hct
  have hlen : t.bl.length = t.bl.length := rfl
  have hfx : f (L a) ≤ 100 := by rw [h.wt _ hxn hxi]; exact Nat.le_trans (cnt_le _ _) hnb
  have hfy : f (L b) ≤ 100 := by rw [h.wt _ hyn hyi]; exact Nat.le_trans (cnt_le _ _) hnb
  have e1 : leastV n L (a : Int) = (L a : Int) := by simp [leastV, inB_nat ha]
  have e2 : leastE n (a : Int) = 0 := by simp [leastE, inB_nat ha]
  have e3 : leastV n L (b : Int) = (L b : Int) := by simp [leastV, inB_nat hb]
  have e4 : leastE n (b : Int) = 0 := by simp [leastE, inB_nat hb]
  have HL1 := hide fun (W : World) (hW : Dsu W q.p n L) => dsuLeast W a q.p n L hW
  have HL2 := hide fun (W : World) (hW : Dsu W q.p n L) => dsuLeast W b q.p n L hW
  rw [e1, e2] at HL1
  rw [e3, e4] at HL2
  have HU := hide fun (W : World) (hW : Dsu W q.p n L) => dsuUnion_in W (L a) (L b) q.p n L hW hxn hyn
  rw [hxi, hyi] at HU
  have HFIN := hide (upd_merge hlab h.wt hxn hxi hyn hyi hlt)
  have HMC : Hid (merge L (L a) (L b) = merge L (L a) (L b)) := hide rfl
  rw [HMC.out]
  clear h hlab hZ1 hZ2 ha hb hsz hct hlen e1 e2 e3 e4 HMC
  generalize hM : merge L (L a) (L b) = M at *
  have hx100 : L a ≤ 100 := by omega
  have hy100 : L b ≤ 100 := by omega
  generalize hX : L a = x at *
  generalize hY : L b = y at *
  clear hX hY hM
  have HX := hide hxn
  have HY := hide hyn
  generalize hFX : f x = fx at *
  generalize hFY : f y = fy at *
  have HFX := hide hFX
  have HFY := hide hFY
  clear hFX hFY hxi hyi
  go_enter Try.func40, Try.ntmps40
  go_wp2_with fail
  refine HV.out.mono ?_
  rintro e w1 ⟨rfl, rfl⟩
  clear HV
  go_wp2_with fail
  refine (HL1.out _ HD.out).mono ?_
  rintro e w1 ⟨rfl, hd, hf⟩
  have hf1 := hf.mono (S' := [q.p.g, q.p.bu, q.p.bl, q.p.bz]) (by simp)
  have H1 := hide (H0.out.dsuFr HD.out hf1)
  have HD1 := hide hd
  have HF1 := hide (hf1.mono (S' := q.S t) (by simp [TL.S]))
  clear hd hf hf1 c1
  have c1 := H1.out.c1
  go_wp2_with fail
  refine (HL2.out _ HD1.out).mono ?_
  rintro e w2 ⟨rfl, hd, hf⟩
  have hf2 := hf.mono (S' := [q.p.g, q.p.bu, q.p.bl, q.p.bz]) (by simp)
  have H2 := hide (H1.out.dsuFr HD1.out hf2)
  have HD2 := hide hd
  have HF2 := hide (HF1.out.trans (hf2.mono (S' := q.S t) (by simp [TL.S])))
  clear hd hf hf2 c1
  have c1 := H2.out.c1
  go_wp2_with fail
  refine (HU.out _ HD2.out).mono ?_
  rintro e w3 ⟨rfl, hd, hf⟩
  have H3 := hide (H2.out.dsuFr HD2.out hf)
  have HD3 := hide hd
  have HF3 := hide (HF2.out.trans (hf.mono (S' := q.S t) (by simp [TL.S])))
  clear hd hf c1
  have c3 := H3.out.c3
  have c2 := H3.out.c2
  have cx : w3.cell? ⟨q.b, x, none⟩ = some (.int .i64 (fx : Int)) := by rw [H3.out.row.intx HX.out, HFX.out]
  go_wp2_with fail
  go_still_tail 11, (by kernel_rfl)
  change wpList _ _ _ _ _ (w3.drewN 1)
  have HW4 : Hid (Dr w3 (w3.drewN 1)) := hide ⟨1, rfl⟩
  generalize w3.drewN 1 = w4 at *
  have H4 := hide (H3.out.dr HW4.out)
  have HD4 := hide (HD3.out.dr HW4.out)
  have HF4 := hide (HF3.out.trans (HW4.out.fr _))
  clear c2 c3 cx
  go_wp2_with fail
  refine (bagRemove w4 q.a t (fx : Int) H4.out.bag HR0.out.get (by have := HSZ.out; omega) (by have := HCT.out; omega)).mono ?_
  rintro e w5 ⟨rfl, t5, hb5, hl5, hn5, hf5⟩
  have HR5 : Hid (Rep t5.ls ((fy : Int) :: R)) := hide (by rw [hl5]; exact HR0.out.del)
  have HQ5 : Hid (t5.sz ≤ 100) := hide (by rw [HR5.out.sz]; have := HSZ.out; rw [HR0.out.sz] at this; simp only [List.length_cons] at this ⊢; omega)
  have HC5 : Hid (t5.ct ≤ 100) := hide (by have := HR5.out.ct; rw [← HR5.out.sz] at this; have := HQ5.out; omega)
  have H5 := hide (H4.out.bagFr hf5 hb5)
  have HD5 := hide (dsu_bag HD4.out H4.out.bag hf5)
  have HN5 : Hid (∀ k ∈ t5.bl, k ∈ t.bl ∨ w.heap.size ≤ k) := hide fun k hk => (hn5 k hk).imp id fun h => Nat.le_trans HF4.out.size h
  have HF5 := hide (HF4.out.trans_new hf5 (fun k hk => .inl (by simp only [TL.S]; simp only [List.mem_cons] at hk ⊢; rcases hk with h | h <;> simp [h])))
  clear hb5 hl5 hn5 hf5
  have c2 := H5.out.c2
  have c3 := H5.out.c3
  have cy : w5.cell? ⟨q.b, y, none⟩ = some (.int .i64 (fy : Int)) := by rw [H5.out.row.intx HY.out, HFY.out]
  go_wp2_with fail
  go_still_tail 11, (by kernel_rfl)
  change wpList _ _ _ _ _ (w5.drewN 1)
  have HW6 : Hid (Dr w5 (w5.drewN 1)) := hide ⟨1, rfl⟩
  generalize w5.drewN 1 = w6 at *
  have H6 := hide (H5.out.dr HW6.out)
  have HD6 := hide (HD5.out.dr HW6.out)
  have HF6 := hide (HF5.out.trans (HW6.out.fr _))
  clear c2 c3 cy
  go_wp2_with fail
  refine (bagRemove w6 q.a t5 (fy : Int) H6.out.bag HR5.out.get (by have := HQ5.out; omega) (by have := HC5.out; omega)).mono ?_
  rintro e w7 ⟨rfl, t7, hb7, hl7, hn7, hf7⟩
  have HR7 : Hid (Rep t7.ls R) := hide (by rw [hl7]; exact HR5.out.del)
  have HQ7 : Hid (t7.sz ≤ 100) := hide (by rw [HR7.out.sz]; have := HQ5.out; rw [HR5.out.sz] at this; simp only [List.length_cons] at this; omega)
  have HC7 : Hid (t7.ct ≤ 100) := hide (by have := HR7.out.ct; rw [← HR7.out.sz] at this; have := HQ7.out; omega)
  have H7 := hide (H6.out.bagFr hf7 hb7)
  have HD7 := hide (dsu_bag HD6.out H6.out.bag hf7)
  have HN7 : Hid (∀ k ∈ t7.bl, k ∈ t.bl ∨ w.heap.size ≤ k) := hide fun k hk => (hn7 k hk).elim (HN5.out k) fun h => .inr (Nat.le_trans HF6.out.size h)
  have HF7 := hide (HF6.out.trans_new hf7 (fun k hk => by
    rcases List.mem_cons.1 hk with h | h
    · exact .inl (by simp [TL.S, h])
    · exact (HN5.out k h).imp (fun h => by simp [TL.S, h]) id))
  clear hb7 hl7 hn7 hf7
  have c2 := H7.out.c2
  have cx : w7.cell? ⟨q.b, x, none⟩ = some (.int .i64 (fx : Int)) := by rw [H7.out.row.intx HX.out, HFX.out]
  have cy : w7.cell? ⟨q.b, y, none⟩ = some (.int .i64 (fy : Int)) := by rw [H7.out.row.intx HY.out, HFY.out]
  have gx := H7.out.row.frozen x
  have hxnb : (x : Int) < n := by omega
  go_wp2_with fail
  go_still_tail 16, (by kernel_rfl)
  change wpList _ _ _ _ _ (w7.drewN 1)
  have HW8 : Hid (Dr w7 (w7.drewN 1)) := hide ⟨1, rfl⟩
  generalize w7.drewN 1 = w8 at *
  have h8 := H7.out.dr HW8.out
  have HD8 := hide (HD7.out.dr HW8.out)
  have HF8 := hide (HF7.out.trans (HW8.out.fr _))
  have gx8 := h8.row.frozen x
  have cx8 : w8.cell? ⟨q.b, x, none⟩ = some (.int .i64 (fx : Int)) := by rw [h8.row.intx HX.out, HFX.out]
  have H8 := hide h8
  clear c2 cx cy gx h8
  have hsum : ((fx : Int) + (fy : Int)) = ((fx + fy : Nat) : Int) := by omega
  have H9 := hide (H8.out.set_ HX.out (fx + fy))
  have HD9 := hide (H8.out.dsuSet HD8.out x (.int .i64 ((fx + fy : Nat) : Int)))
  have HF9 : Hid (Fr (q.S t) w (w8.setCell ⟨q.b, x, none⟩ (.int .i64 ((fx + fy : Nat) : Int)))) := hide (HF8.out.setCell (p := ⟨q.b, x, none⟩) (.inl (by simp [TL.S])) _)
  rw [Int.natCast_add] at H9 HD9 HF9
  clear hsum
  go_wp2_with fail
  generalize w8.setCell ⟨q.b, x, none⟩ (.int .i64 ((fx : Int) + (fy : Int))) = w9 at *
  have c2 := H9.out.c2
  have c3 := H9.out.c3
  have cx : w9.cell? ⟨q.b, x, none⟩ = some (.int .i64 ((fx : Int) + (fy : Int))) := by rw [H9.out.row.intx HX.out, upd_same, Int.natCast_add]
  go_still_tail 11, (by kernel_rfl)
  change wpList _ _ _ _ _ (w9.drewN 1)
  have HW10 : Hid (Dr w9 (w9.drewN 1)) := hide ⟨1, rfl⟩
  generalize w9.drewN 1 = w10 at *
  have H10 := hide (H9.out.dr HW10.out)
  have HD10 := hide (HD9.out.dr HW10.out)
  have HF10 := hide (HF9.out.trans (HW10.out.fr _))
  clear c2 c3 cx gx8 cx8
  go_wp2_with fail
  refine (bagAdd w10 q.a t7 ((fx : Int) + (fy : Int)) H10.out.bag (by have := HQ7.out; omega) (by have := HC7.out; omega)).mono ?_
  rintro e w11 ⟨rfl, t11, hb11, hl11, hn11, hf11⟩
  have HR11 : Hid (Rep t11.ls (Zs n M)) := hide (by rw [hl11]; have := (HR7.out.add ((fx : Int) + (fy : Int))); rw [← Int.natCast_add] at this ⊢; exact this.perm HZ2.out.symm)
  have H11 := hide (H10.out.bagFr hf11 hb11)
  have HD11 := hide (dsu_bag HD10.out H10.out.bag hf11)
  have HN11 : Hid (∀ k ∈ t11.bl, k ∈ t.bl ∨ w.heap.size ≤ k) := hide fun k hk => (hn11 k hk).elim (HN7.out k) fun h => .inr (Nat.le_trans HF10.out.size h)
  have HF11 := hide (HF10.out.trans_new hf11 (fun k hk => by
    rcases List.mem_cons.1 hk with h | h
    · exact .inl (by simp [TL.S, h])
    · exact (HN7.out k h).imp (fun h => by simp [TL.S, h]) id))
  clear hb11 hl11 hn11 hf11
  go_wp2_with fail
  go_ret2
  exact ⟨⟨_, rfl⟩, t11, _, ⟨H11.out.blk, H11.out.row, HFIN.out, HD11.out, H11.out.bag, HR11.out, HNB.out⟩, HN11.out, HF11.out⟩

set_option maxRecDepth 100000 in
set_option maxHeartbeats 8000000 in
theorem tlyUnion_gt (w : World) (q : TL) (t : BT) (n : Nat) (L f : Nat → Nat) (h : Tly w q t n L f) (a b : Nat) (ha : a < n) (hb : b < n) (hlt : L b < L a) :
    Calls Try.prog 40 #[.pointer (some ⟨q.g, 0, none⟩), .int .i64 (a : Int), .int .i64 (b : Int)] w fun e w' => (∃ v, e = .returned v) ∧
      ∃ (t' : BT) (f' : Nat → Nat), Tly w' q t' n (merge L (L a) (L b)) f' ∧ (∀ k ∈ t'.bl, k ∈ t.bl ∨ w.heap.size ≤ k) ∧ Fr (q.S t) w w' := by
  have HV := hide (tlyValid w q t n L f h)
  have hlab := h.dsu.lab
  have H0 := hide h.to0
  have HD := hide h.dsu
  have HA := hide ha
  have HB := hide hb
  have HLA := hide hlab
  have HWT := hide h.wt
  have hxn : L b < n := hlab.lt hb
  have hyn : L a < n := hlab.lt ha
  have hxi : L (L b) = L b := hlab.idem b hb
  have hyi : L (L a) = L a := hlab.idem a ha
  obtain ⟨R, hZ1, hZ2⟩ := Zs_merge hlab hb ha hlt
  rw [← h.wt _ hxn hxi, ← h.wt _ hyn hyi] at hZ1 hZ2
  have HZ2 := hide hZ2
  have HR0 := hide (h.rep.perm hZ1)
  have c1 := h.c1
  have hnb := h.nb
  have hsz := h.sz_le
  have hct := h.ct_le
  have HNB := hide h.nb
  have HSZ := hide hsz
  have HCT := hide hct
  have hlen : t.bl.length = t.bl.length := rfl
  have hfx : f (L b) ≤ 100 := by rw [h.wt _ hxn hxi]; exact Nat.le_trans (cnt_le _ _) hnb
  have hfy : f (L a) ≤ 100 := by rw [h.wt _ hyn hyi]; exact Nat.le_trans (cnt_le _ _) hnb
  have e1 : leastV n L (a : Int) = (L a : Int) := by simp [leastV, inB_nat ha]
  have e2 : leastE n (a : Int) = 0 := by simp [leastE, inB_nat ha]
  have e3 : leastV n L (b : Int) = (L b : Int) := by simp [leastV, inB_nat hb]
  have e4 : leastE n (b : Int) = 0 := by simp [leastE, inB_nat hb]
  have HL1 := hide fun (W : World) (hW : Dsu W q.p n L) => dsuLeast W a q.p n L hW
  have HL2 := hide fun (W : World) (hW : Dsu W q.p n L) => dsuLeast W b q.p n L hW
  rw [e1, e2] at HL1
  rw [e3, e4] at HL2
  have HU := hide fun (W : World) (hW : Dsu W q.p n L) => dsuUnion_in W (L b) (L a) q.p n L hW hxn hyn
  rw [hxi, hyi] at HU
  have HFIN := hide (upd_merge hlab h.wt hxn hxi hyn hyi hlt)
  have HMC : Hid (merge L (L a) (L b) = merge L (L b) (L a)) := hide (merge_comm _ _ _)
  rw [HMC.out]
  clear h hlab hZ1 hZ2 ha hb hsz hct hlen e1 e2 e3 e4 HMC
  generalize hM : merge L (L b) (L a) = M at *
  have hx100 : L b ≤ 100 := by omega
  have hy100 : L a ≤ 100 := by omega
  generalize hX : L b = x at *
  generalize hY : L a = y at *
  clear hX hY hM
  have HX := hide hxn
  have HY := hide hyn
  generalize hFX : f x = fx at *
  generalize hFY : f y = fy at *
  have HFX := hide hFX
  have HFY := hide hFY
  clear hFX hFY hxi hyi
  go_enter Try.func40, Try.ntmps40
  go_wp2_with fail
  refine HV.out.mono ?_
  rintro e w1 ⟨rfl, rfl⟩
  clear HV
  go_wp2_with fail
  refine (HL1.out _ HD.out).mono ?_
  rintro e w1 ⟨rfl, hd, hf⟩
  have hf1 := hf.mono (S' := [q.p.g, q.p.bu, q.p.bl, q.p.bz]) (by simp)
  have H1 := hide (H0.out.dsuFr HD.out hf1)
  have HD1 := hide hd
  have HF1 := hide (hf1.mono (S' := q.S t) (by simp [TL.S]))
  clear hd hf hf1 c1
  have c1 := H1.out.c1
  go_wp2_with fail
  refine (HL2.out _ HD1.out).mono ?_
  rintro e w2 ⟨rfl, hd, hf⟩
  have hf2 := hf.mono (S' := [q.p.g, q.p.bu, q.p.bl, q.p.bz]) (by simp)
  have H2 := hide (H1.out.dsuFr HD1.out hf2)
  have HD2 := hide hd
  have HF2 := hide (HF1.out.trans (hf2.mono (S' := q.S t) (by simp [TL.S])))
  clear hd hf hf2 c1
  have c1 := H2.out.c1
  go_wp2_with fail
  refine (HU.out _ HD2.out).mono ?_
  rintro e w3 ⟨rfl, hd, hf⟩
  have H3 := hide (H2.out.dsuFr HD2.out hf)
  have HD3 := hide hd
  have HF3 := hide (HF2.out.trans (hf.mono (S' := q.S t) (by simp [TL.S])))
  clear hd hf c1
  have c3 := H3.out.c3
  have c2 := H3.out.c2
  have cx : w3.cell? ⟨q.b, x, none⟩ = some (.int .i64 (fx : Int)) := by rw [H3.out.row.intx HX.out, HFX.out]
  go_wp2_with fail
  go_still_tail 11, (by kernel_rfl)
  change wpList _ _ _ _ _ (w3.drewN 1)
  have HW4 : Hid (Dr w3 (w3.drewN 1)) := hide ⟨1, rfl⟩
  generalize w3.drewN 1 = w4 at *
  have H4 := hide (H3.out.dr HW4.out)
  have HD4 := hide (HD3.out.dr HW4.out)
  have HF4 := hide (HF3.out.trans (HW4.out.fr _))
  clear c2 c3 cx
  go_wp2_with fail
  refine (bagRemove w4 q.a t (fx : Int) H4.out.bag HR0.out.get (by have := HSZ.out; omega) (by have := HCT.out; omega)).mono ?_
  rintro e w5 ⟨rfl, t5, hb5, hl5, hn5, hf5⟩
  have HR5 : Hid (Rep t5.ls ((fy : Int) :: R)) := hide (by rw [hl5]; exact HR0.out.del)
  have HQ5 : Hid (t5.sz ≤ 100) := hide (by rw [HR5.out.sz]; have := HSZ.out; rw [HR0.out.sz] at this; simp only [List.length_cons] at this ⊢; omega)
  have HC5 : Hid (t5.ct ≤ 100) := hide (by have := HR5.out.ct; rw [← HR5.out.sz] at this; have := HQ5.out; omega)
  have H5 := hide (H4.out.bagFr hf5 hb5)
  have HD5 := hide (dsu_bag HD4.out H4.out.bag hf5)
  have HN5 : Hid (∀ k ∈ t5.bl, k ∈ t.bl ∨ w.heap.size ≤ k) := hide fun k hk => (hn5 k hk).imp id fun h => Nat.le_trans HF4.out.size h
  have HF5 := hide (HF4.out.trans_new hf5 (fun k hk => .inl (by simp only [TL.S]; simp only [List.mem_cons] at hk ⊢; rcases hk with h | h <;> simp [h])))
  clear hb5 hl5 hn5 hf5
  have c2 := H5.out.c2
  have c3 := H5.out.c3
  have cy : w5.cell? ⟨q.b, y, none⟩ = some (.int .i64 (fy : Int)) := by rw [H5.out.row.intx HY.out, HFY.out]
  go_wp2_with fail
  go_still_tail 11, (by kernel_rfl)
  change wpList _ _ _ _ _ (w5.drewN 1)
  have HW6 : Hid (Dr w5 (w5.drewN 1)) := hide ⟨1, rfl⟩
  generalize w5.drewN 1 = w6 at *
  have H6 := hide (H5.out.dr HW6.out)
  have HD6 := hide (HD5.out.dr HW6.out)
  have HF6 := hide (HF5.out.trans (HW6.out.fr _))
  clear c2 c3 cy
  go_wp2_with fail
  refine (bagRemove w6 q.a t5 (fy : Int) H6.out.bag HR5.out.get (by have := HQ5.out; omega) (by have := HC5.out; omega)).mono ?_
  rintro e w7 ⟨rfl, t7, hb7, hl7, hn7, hf7⟩
  have HR7 : Hid (Rep t7.ls R) := hide (by rw [hl7]; exact HR5.out.del)
  have HQ7 : Hid (t7.sz ≤ 100) := hide (by rw [HR7.out.sz]; have := HQ5.out; rw [HR5.out.sz] at this; simp only [List.length_cons] at this; omega)
  have HC7 : Hid (t7.ct ≤ 100) := hide (by have := HR7.out.ct; rw [← HR7.out.sz] at this; have := HQ7.out; omega)
  have H7 := hide (H6.out.bagFr hf7 hb7)
  have HD7 := hide (dsu_bag HD6.out H6.out.bag hf7)
  have HN7 : Hid (∀ k ∈ t7.bl, k ∈ t.bl ∨ w.heap.size ≤ k) := hide fun k hk => (hn7 k hk).elim (HN5.out k) fun h => .inr (Nat.le_trans HF6.out.size h)
  have HF7 := hide (HF6.out.trans_new hf7 (fun k hk => by
    rcases List.mem_cons.1 hk with h | h
    · exact .inl (by simp [TL.S, h])
    · exact (HN5.out k h).imp (fun h => by simp [TL.S, h]) id))
  clear hb7 hl7 hn7 hf7
  have c2 := H7.out.c2
  have cx : w7.cell? ⟨q.b, x, none⟩ = some (.int .i64 (fx : Int)) := by rw [H7.out.row.intx HX.out, HFX.out]
  have cy : w7.cell? ⟨q.b, y, none⟩ = some (.int .i64 (fy : Int)) := by rw [H7.out.row.intx HY.out, HFY.out]
  have gx := H7.out.row.frozen x
  have hxnb : (x : Int) < n := by omega
  go_wp2_with fail
  go_still_tail 16, (by kernel_rfl)
  change wpList _ _ _ _ _ (w7.drewN 1)
  have HW8 : Hid (Dr w7 (w7.drewN 1)) := hide ⟨1, rfl⟩
  generalize w7.drewN 1 = w8 at *
  have h8 := H7.out.dr HW8.out
  have HD8 := hide (HD7.out.dr HW8.out)
  have HF8 := hide (HF7.out.trans (HW8.out.fr _))
  have gx8 := h8.row.frozen x
  have cx8 : w8.cell? ⟨q.b, x, none⟩ = some (.int .i64 (fx : Int)) := by rw [h8.row.intx HX.out, HFX.out]
  have H8 := hide h8
  clear c2 cx cy gx h8
  have hsum : ((fx : Int) + (fy : Int)) = ((fx + fy : Nat) : Int) := by omega
  have H9 := hide (H8.out.set_ HX.out (fx + fy))
  have HD9 := hide (H8.out.dsuSet HD8.out x (.int .i64 ((fx + fy : Nat) : Int)))
  have HF9 : Hid (Fr (q.S t) w (w8.setCell ⟨q.b, x, none⟩ (.int .i64 ((fx + fy : Nat) : Int)))) := hide (HF8.out.setCell (p := ⟨q.b, x, none⟩) (.inl (by simp [TL.S])) _)
  rw [Int.natCast_add] at H9 HD9 HF9
  clear hsum
  go_wp2_with fail
  generalize w8.setCell ⟨q.b, x, none⟩ (.int .i64 ((fx : Int) + (fy : Int))) = w9 at *
  have c2 := H9.out.c2
  have c3 := H9.out.c3
  have cx : w9.cell? ⟨q.b, x, none⟩ = some (.int .i64 ((fx : Int) + (fy : Int))) := by rw [H9.out.row.intx HX.out, upd_same, Int.natCast_add]
  go_still_tail 11, (by kernel_rfl)
  change wpList _ _ _ _ _ (w9.drewN 1)
  have HW10 : Hid (Dr w9 (w9.drewN 1)) := hide ⟨1, rfl⟩
  generalize w9.drewN 1 = w10 at *
  have H10 := hide (H9.out.dr HW10.out)
  have HD10 := hide (HD9.out.dr HW10.out)
  have HF10 := hide (HF9.out.trans (HW10.out.fr _))
  clear c2 c3 cx gx8 cx8
  go_wp2_with fail
  refine (bagAdd w10 q.a t7 ((fx : Int) + (fy : Int)) H10.out.bag (by have := HQ7.out; omega) (by have := HC7.out; omega)).mono ?_
  rintro e w11 ⟨rfl, t11, hb11, hl11, hn11, hf11⟩
  have HR11 : Hid (Rep t11.ls (Zs n M)) := hide (by rw [hl11]; have := (HR7.out.add ((fx : Int) + (fy : Int))); rw [← Int.natCast_add] at this ⊢; exact this.perm HZ2.out.symm)
  have H11 := hide (H10.out.bagFr hf11 hb11)
  have HD11 := hide (dsu_bag HD10.out H10.out.bag hf11)
  have HN11 : Hid (∀ k ∈ t11.bl, k ∈ t.bl ∨ w.heap.size ≤ k) := hide fun k hk => (hn11 k hk).elim (HN7.out k) fun h => .inr (Nat.le_trans HF10.out.size h)
  have HF11 := hide (HF10.out.trans_new hf11 (fun k hk => by
    rcases List.mem_cons.1 hk with h | h
    · exact .inl (by simp [TL.S, h])
    · exact (HN7.out k h).imp (fun h => by simp [TL.S, h]) id))
  clear hb11 hl11 hn11 hf11
  go_wp2_with fail
  go_ret2
  exact ⟨⟨_, rfl⟩, t11, _, ⟨H11.out.blk, H11.out.row, HFIN.out, HD11.out, H11.out.bag, HR11.out, HNB.out⟩, HN11.out, HF11.out⟩
end Go.Proofs.Ytoomcgmbaogjbaa
