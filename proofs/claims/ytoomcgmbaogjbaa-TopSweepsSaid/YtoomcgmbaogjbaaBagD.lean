/- bag: rotate. bag: balance. -/
import Derived.Test.YtoomcgmbaogjbaaBagB
namespace Go.Proofs.Ytoomcgmbaogjbaa
open Go.RowKit
set_option linter.unusedVariables false

set_option maxRecDepth 100000 in
set_option maxHeartbeats 8000000 in
theorem bagRotate0 (w : World) (b c : Nat) (ll lr r : BT) (x y : Int) (t u : Nat) (s0 d0 h0 s1 d1 h1 : Int)
    (hb : NodeAt w b (some ⟨c, 0, none⟩) r.pt x t s0 d0 h0) (hc : NodeAt w c ll.pt lr.pt y u s1 d1 h1) (hll : Tr w ll) (hlr : Tr w lr) (hr : Tr w r)
    (nd : (b :: c :: (ll.bl ++ lr.bl ++ r.bl)).Nodup) (hs : t + u + ll.sz + lr.sz + r.sz ≤ 1000000) (hd : 2 + ll.ct + lr.ct + r.ct ≤ 1000000) :
    Calls Try.prog 65 #[.pointer (some ⟨b, 0, none⟩), .int .i64 0] w fun e w' => e = .returned (.pointer (some ⟨c, 0, none⟩)) ∧ Tr w' (.node c ll (.node b lr r x t) y u) ∧ Fr [b, c] w w' := by
  simp only [List.nodup_cons, List.mem_cons, List.mem_append, not_or, List.nodup_append] at nd
  obtain ⟨⟨bc, ⟨bll, blr⟩, br⟩, ⟨⟨cll, clr⟩, cr⟩, -⟩ := nd
  have HB := hide hb
  have HC := hide hc
  have HLL := hide hll
  have HLR := hide hlr
  have HR := hide hr
  have HN := hide (And.intro (And.intro bll blr) (And.intro br (And.intro cll (And.intro clr cr))))
  have HS := hide hs
  have HD := hide hd
  obtain ⟨c0, c1, -⟩ := hb.cells
  obtain ⟨f0, f1, -⟩ := hb.fz
  obtain ⟨e0, e1, -⟩ := hc.cells
  obtain ⟨g0, g1, -⟩ := hc.fz
  have cb : ¬ c = b := fun h => bc h.symm
  clear hb hc hll hlr hr bll blr br cll clr cr hs hd
  go_enter Try.func65, Try.ntmps65
  go_wp2_with fail
  go_region
  go_wp2_with fail
  have hf1 : Fr [b, c] w (((w.setCell ⟨b, 0, none⟩ (.pointer lr.pt)).setCell ⟨c, 1, none⟩ (.pointer (some ⟨b, 0, none⟩))).drew) := (((Fr.refl [b, c] w).setCell (p := ⟨b, 0, none⟩) (.inl (by simp)) _).setCell (p := ⟨c, 1, none⟩) (.inl (by simp)) _).drew
  have hb1 := ((HB.out.set0 lr.pt).fr (S := [c]) ((Fr.refl [c] _).setCell (p := ⟨c, 1, none⟩) (.inl (by simp)) (.pointer (some ⟨b, 0, none⟩))) (by simp [bc])).drewN 1
  have hc1 := ((HC.out.fr (S := [b]) ((Fr.refl [b] _).setCell (p := ⟨b, 0, none⟩) (.inl (by simp)) (.pointer lr.pt)) (by simp [cb])).set1 (some ⟨b, 0, none⟩)).drewN 1
  have HF1 := hide hf1
  have HB1 := hide hb1
  have HC1 := hide hc1
  change Hid (NodeAt (((w.setCell ⟨b, 0, none⟩ (.pointer lr.pt)).setCell ⟨c, 1, none⟩ (.pointer (some ⟨b, 0, none⟩))).drew) _ _ _ _ _ _ _ _) at HB1
  change Hid (NodeAt (((w.setCell ⟨b, 0, none⟩ (.pointer lr.pt)).setCell ⟨c, 1, none⟩ (.pointer (some ⟨b, 0, none⟩))).drew) _ _ _ _ _ _ _ _) at HC1
  clear c0 c1 f0 f1 e0 e1 g0 g1 hf1 hb1 hc1 HB HC
  generalize ((w.setCell ⟨b, 0, none⟩ (.pointer lr.pt)).setCell ⟨c, 1, none⟩ (.pointer (some ⟨b, 0, none⟩))).drew = w1 at *
  have hmid : Tr w1 lr := HLR.out.fr HF1.out (by intro k hk; have := HN.out.1.2; have := HN.out.2.2.2.1; simp only [List.mem_cons, List.not_mem_nil, or_false]; rintro (rfl | rfl) <;> contradiction)
  have hoth : Tr w1 r := HR.out.fr HF1.out (by intro k hk; have := HN.out.2.1; have := HN.out.2.2.2.2; simp only [List.mem_cons, List.not_mem_nil, or_false]; rintro (rfl | rfl) <;> contradiction)
  have hout : Tr w1 ll := HLL.out.fr HF1.out (by intro k hk; have := HN.out.1.1; have := HN.out.2.2.1; simp only [List.mem_cons, List.not_mem_nil, or_false]; rintro (rfl | rfl) <;> contradiction)
  refine (bagRefresh w1 b lr r x t _ _ _ HB1.out hmid hoth HN.out.1.2 HN.out.2.1 (by have := HS.out; simp only [BT.sz]; omega) (by have := HD.out; simp only [BT.ct]; omega)).mono ?_
  rintro e w2 ⟨⟨v, rfl⟩, htb, hfb⟩
  have hc2 := HC1.out.fr hfb (by simp [cb])
  have hout2 : Tr w2 ll := hout.fr hfb (by intro k hk; have := HN.out.1.1; simp only [List.mem_cons, List.not_mem_nil, or_false]; rintro rfl; contradiction)
  have HC2 := hide hc2
  have HTB := hide htb
  have HFB := hide hfb
  have HO2 := hide hout2
  clear hmid hoth hout hc2 htb hfb hout2 HC1 HB1
  go_wp2_with fail
  refine (bagRefresh w2 c ll (.node b lr r x t) y u _ _ _ HC2.out HO2.out HTB.out HN.out.2.2.1 (by have := HN.out.2.2.2.1; have := HN.out.2.2.2.2; simp only [BT.bl, List.mem_cons, List.mem_append, not_or]; exact ⟨cb, HN.out.2.2.2.1, HN.out.2.2.2.2⟩) (by have := HS.out; simp only [BT.sz]; omega) (by have := HD.out; simp only [BT.ct]; omega)).mono ?_
  rintro e w3 ⟨⟨v, rfl⟩, htc, hfc⟩
  have HTC := hide htc
  have HFC := hide hfc
  clear htc hfc
  go_wp2_with fail
  go_ret
  exact ⟨rfl, HTC.out, (HF1.out.trans (HFB.out.mono (by simp))).trans (HFC.out.mono (by simp))⟩

set_option maxRecDepth 100000 in
set_option maxHeartbeats 8000000 in
theorem bagRotate1 (w : World) (b c : Nat) (ll lr r : BT) (x y : Int) (t u : Nat) (s0 d0 h0 s1 d1 h1 : Int)
    (hb : NodeAt w b r.pt (some ⟨c, 0, none⟩) x t s0 d0 h0) (hc : NodeAt w c ll.pt lr.pt y u s1 d1 h1) (hll : Tr w ll) (hlr : Tr w lr) (hr : Tr w r)
    (nd : (b :: c :: (ll.bl ++ lr.bl ++ r.bl)).Nodup) (hs : t + u + ll.sz + lr.sz + r.sz ≤ 1000000) (hd : 2 + ll.ct + lr.ct + r.ct ≤ 1000000) :
    Calls Try.prog 65 #[.pointer (some ⟨b, 0, none⟩), .int .i64 1] w fun e w' => e = .returned (.pointer (some ⟨c, 0, none⟩)) ∧ Tr w' (.node c (.node b r ll x t) lr y u) ∧ Fr [b, c] w w' := by
  simp only [List.nodup_cons, List.mem_cons, List.mem_append, not_or, List.nodup_append] at nd
  obtain ⟨⟨bc, ⟨bll, blr⟩, br⟩, ⟨⟨cll, clr⟩, cr⟩, -⟩ := nd
  have HB := hide hb
  have HC := hide hc
  have HLL := hide hll
  have HLR := hide hlr
  have HR := hide hr
  have HN := hide (And.intro (And.intro bll blr) (And.intro br (And.intro cll (And.intro clr cr))))
  have HS := hide hs
  have HD := hide hd
  obtain ⟨c0, c1, -⟩ := hb.cells
  obtain ⟨f0, f1, -⟩ := hb.fz
  obtain ⟨e0, e1, -⟩ := hc.cells
  obtain ⟨g0, g1, -⟩ := hc.fz
  have cb : ¬ c = b := fun h => bc h.symm
  clear hb hc hll hlr hr bll blr br cll clr cr hs hd
  go_enter Try.func65, Try.ntmps65
  go_wp2_with fail
  go_region
  go_wp2_with fail
  have hf1 : Fr [b, c] w (((w.setCell ⟨b, 1, none⟩ (.pointer ll.pt)).setCell ⟨c, 0, none⟩ (.pointer (some ⟨b, 0, none⟩))).drew) := (((Fr.refl [b, c] w).setCell (p := ⟨b, 1, none⟩) (.inl (by simp)) _).setCell (p := ⟨c, 0, none⟩) (.inl (by simp)) _).drew
  have hb1 := ((HB.out.set1 ll.pt).fr (S := [c]) ((Fr.refl [c] _).setCell (p := ⟨c, 0, none⟩) (.inl (by simp)) (.pointer (some ⟨b, 0, none⟩))) (by simp [bc])).drewN 1
  have hc1 := ((HC.out.fr (S := [b]) ((Fr.refl [b] _).setCell (p := ⟨b, 1, none⟩) (.inl (by simp)) (.pointer ll.pt)) (by simp [cb])).set0 (some ⟨b, 0, none⟩)).drewN 1
  have HF1 := hide hf1
  have HB1 := hide hb1
  have HC1 := hide hc1
  change Hid (NodeAt (((w.setCell ⟨b, 1, none⟩ (.pointer ll.pt)).setCell ⟨c, 0, none⟩ (.pointer (some ⟨b, 0, none⟩))).drew) _ _ _ _ _ _ _ _) at HB1
  change Hid (NodeAt (((w.setCell ⟨b, 1, none⟩ (.pointer ll.pt)).setCell ⟨c, 0, none⟩ (.pointer (some ⟨b, 0, none⟩))).drew) _ _ _ _ _ _ _ _) at HC1
  clear c0 c1 f0 f1 e0 e1 g0 g1 hf1 hb1 hc1 HB HC
  generalize ((w.setCell ⟨b, 1, none⟩ (.pointer ll.pt)).setCell ⟨c, 0, none⟩ (.pointer (some ⟨b, 0, none⟩))).drew = w1 at *
  have hmid : Tr w1 ll := HLL.out.fr HF1.out (by intro k hk; have := HN.out.1.1; have := HN.out.2.2.1; simp only [List.mem_cons, List.not_mem_nil, or_false]; rintro (rfl | rfl) <;> contradiction)
  have hoth : Tr w1 r := HR.out.fr HF1.out (by intro k hk; have := HN.out.2.1; have := HN.out.2.2.2.2; simp only [List.mem_cons, List.not_mem_nil, or_false]; rintro (rfl | rfl) <;> contradiction)
  have hout : Tr w1 lr := HLR.out.fr HF1.out (by intro k hk; have := HN.out.1.2; have := HN.out.2.2.2.1; simp only [List.mem_cons, List.not_mem_nil, or_false]; rintro (rfl | rfl) <;> contradiction)
  refine (bagRefresh w1 b r ll x t _ _ _ HB1.out hoth hmid HN.out.2.1 HN.out.1.1 (by have := HS.out; simp only [BT.sz]; omega) (by have := HD.out; simp only [BT.ct]; omega)).mono ?_
  rintro e w2 ⟨⟨v, rfl⟩, htb, hfb⟩
  have hc2 := HC1.out.fr hfb (by simp [cb])
  have hout2 : Tr w2 lr := hout.fr hfb (by intro k hk; have := HN.out.1.2; simp only [List.mem_cons, List.not_mem_nil, or_false]; rintro rfl; contradiction)
  have HC2 := hide hc2
  have HTB := hide htb
  have HFB := hide hfb
  have HO2 := hide hout2
  clear hmid hoth hout hc2 htb hfb hout2 HC1 HB1
  go_wp2_with fail
  refine (bagRefresh w2 c (.node b r ll x t) lr y u _ _ _ HC2.out HTB.out HO2.out (by have := HN.out.2.2.1; have := HN.out.2.2.2.2; simp only [BT.bl, List.mem_cons, List.mem_append, not_or]; exact ⟨cb, HN.out.2.2.2.2, HN.out.2.2.1⟩) HN.out.2.2.2.1 (by have := HS.out; simp only [BT.sz]; omega) (by have := HD.out; simp only [BT.ct]; omega)).mono ?_
  rintro e w3 ⟨⟨v, rfl⟩, htc, hfc⟩
  have HTC := hide htc
  have HFC := hide hfc
  clear htc hfc
  go_wp2_with fail
  go_ret
  exact ⟨rfl, HTC.out, (HF1.out.trans (HFB.out.mono (by simp))).trans (HFC.out.mono (by simp))⟩
end Go.Proofs.Ytoomcgmbaogjbaa
namespace Go.Proofs.Ytoomcgmbaogjbaa
open Go.RowKit
set_option linter.unusedVariables false

/-- A later draw of the same world. -/
def Dr (w W : World) : Prop := ∃ k, W = w.drewN k
theorem Dr.draw {w W : World} (h : Dr w W) (n : Nat) : Dr w (W.drewN n) := by obtain ⟨k, rfl⟩ := h; exact ⟨k + n, World.drewN_drewN _ _ _⟩
theorem Dr.fr {w W : World} (h : Dr w W) (S : List Nat) : Fr S w W := by obtain ⟨k, rfl⟩ := h; exact (Fr.refl S w).drewN k
theorem NodeAt.dr {w W : World} {b : Nat} {l r : Option Addr} {x : Int} {t : Nat} {s d h : Int} (k : NodeAt w b l r x t s d h) (hW : Dr w W) : NodeAt W b l r x t s d h := k.fr (hW.fr []) (by simp)
theorem Tr.dr {w W : World} {t : BT} (k : Tr w t) (hW : Dr w W) : Tr W t := k.fr (hW.fr []) (by simp)
theorem bagSizesD (w W : World) (t : BT) (h : Tr w t) (hW : ∃ k, W = w.drewN k) :
    Calls Try.prog 58 #[.pointer t.pt] W fun e w' => e = .returned (.tuple #[.int .i64 (t.sz : Int), .int .i64 (t.ct : Int), .int .i64 (t.ht : Int)]) ∧ ∃ k, w' = w.drewN k := by
  obtain ⟨k, rfl⟩ := hW
  refine (bagSizes _ t (h.fr ((Fr.refl [] w).drewN k) (by simp))).mono ?_
  rintro e w' ⟨rfl, k', rfl⟩
  exact ⟨rfl, k + k', (World.drewN_drewN _ _ _)⟩
theorem BT.ht_pos {t : BT} (h : 0 < t.ht) : ∃ b l r x n, t = .node b l r x n := by
  cases t with
  | nil => simp [BT.ht] at h
  | node b l r x n => exact ⟨_, _, _, _, _, rfl⟩

set_option maxRecDepth 100000 in
set_option maxHeartbeats 8000000 in
theorem bagBalance_A (w : World) (b : Nat) (l r : BT) (x : Int) (t : Nat) (s0 d0 h0 : Int)
    (hb : NodeAt w b l.pt r.pt x t s0 d0 h0) (hl : Tr w l) (hr : Tr w r) (nd : (b :: (l.bl ++ r.bl)).Nodup)
    (hs : t + l.sz + r.sz ≤ 1000000) (hd : 1 + l.ct + r.ct ≤ 1000000) (h1 : l.ht ≤ r.ht + 1) (h2 : r.ht ≤ l.ht + 1) :
    Calls Try.prog 61 #[.pointer (some ⟨b, 0, none⟩)] w fun e w' => e = .returned (.pointer (some ⟨b, 0, none⟩)) ∧ Tr w' (.node b l r x t) ∧ Fr [b] w w' := by
  simp only [List.nodup_cons, List.mem_append, not_or] at nd
  obtain ⟨⟨bl, br⟩, -⟩ := nd
  have lct := l.ht_ct
  have rct := r.ht_ct
  have HB := hide hb
  have HL := hide hl
  have HR := hide hr
  have HBL := hide bl
  have HBR := hide br
  have HS := hide hs
  have HD := hide hd
  have l1 : l.ht ≤ 1000000 := by omega
  have r1 : r.ht ≤ 1000000 := by omega
  obtain ⟨c0, c1, -⟩ := hb.cells
  have K0 : Hid (∃ k, w = w.drewN k) := hide ⟨0, rfl⟩
  clear hb hl hr bl br hs hd lct rct
  go_enter Try.func61, Try.ntmps61
  go_wp2_with fail
  refine wp_loop_rounds 3 ?_
  rw [rounds_succ]
  go_wp2_with fail
  refine (bagSizesD w _ l HL.out K0.out).mono ?_
  rintro e W1 ⟨rfl, hK1⟩
  have K1 := hide hK1
  clear hK1
  obtain ⟨j1, hj1⟩ := K1.out
  have cb1 : W1.cell? ⟨b, 0, none⟩ = some (.pointer l.pt) := by rw [hj1]; exact HB.out.cells.1
  have db1 : W1.cell? ⟨b, 1, none⟩ = some (.pointer r.pt) := by rw [hj1]; exact HB.out.cells.2.1
  have fb1 : W1.frozen? ⟨b, 0, none⟩ = false := by rw [hj1]; exact HB.out.fz.1
  have gb1 : W1.frozen? ⟨b, 1, none⟩ = false := by rw [hj1]; exact HB.out.fz.2.1
  clear hj1
  go_wp2_with fail
  refine (bagSizesD w _ r HR.out K1.out).mono ?_
  rintro e W2 ⟨rfl, hK2⟩
  have K2 := hide hK2
  clear hK2
  obtain ⟨j2, hj2⟩ := K2.out
  have cb2 : W2.cell? ⟨b, 0, none⟩ = some (.pointer l.pt) := by rw [hj2]; exact HB.out.cells.1
  have db2 : W2.cell? ⟨b, 1, none⟩ = some (.pointer r.pt) := by rw [hj2]; exact HB.out.cells.2.1
  have fb2 : W2.frozen? ⟨b, 0, none⟩ = false := by rw [hj2]; exact HB.out.fz.1
  have gb2 : W2.frozen? ⟨b, 1, none⟩ = false := by rw [hj2]; exact HB.out.fz.2.1
  clear hj2
  go_wp2_with fail
  rw [rounds_succ]
  go_wp2_with fail
  refine (bagSizesD w _ r HR.out K2.out).mono ?_
  rintro e W3 ⟨rfl, hK3⟩
  have K3 := hide hK3
  clear hK3
  obtain ⟨j3, hj3⟩ := K3.out
  have cb3 : W3.cell? ⟨b, 0, none⟩ = some (.pointer l.pt) := by rw [hj3]; exact HB.out.cells.1
  have db3 : W3.cell? ⟨b, 1, none⟩ = some (.pointer r.pt) := by rw [hj3]; exact HB.out.cells.2.1
  have fb3 : W3.frozen? ⟨b, 0, none⟩ = false := by rw [hj3]; exact HB.out.fz.1
  have gb3 : W3.frozen? ⟨b, 1, none⟩ = false := by rw [hj3]; exact HB.out.fz.2.1
  clear hj3
  go_wp2_with fail
  refine (bagSizesD w _ l HL.out K3.out).mono ?_
  rintro e W4 ⟨rfl, hK4⟩
  have K4 := hide hK4
  clear hK4
  obtain ⟨j4, hj4⟩ := K4.out
  have cb4 : W4.cell? ⟨b, 0, none⟩ = some (.pointer l.pt) := by rw [hj4]; exact HB.out.cells.1
  have db4 : W4.cell? ⟨b, 1, none⟩ = some (.pointer r.pt) := by rw [hj4]; exact HB.out.cells.2.1
  have fb4 : W4.frozen? ⟨b, 0, none⟩ = false := by rw [hj4]; exact HB.out.fz.1
  have gb4 : W4.frozen? ⟨b, 1, none⟩ = false := by rw [hj4]; exact HB.out.fz.2.1
  clear hj4
  go_wp2_with fail
  rw [rounds_succ]
  go_wp2_with fail
  obtain ⟨j, hj⟩ := K4.out
  have hf : Fr [b] w W4 := by rw [hj]; exact (Fr.refl [b] w).drewN j
  have HF := hide hf
  clear hf hj
  refine (bagRefresh W4 b l r x t s0 d0 h0 (by obtain ⟨j, hj⟩ := K4.out; rw [hj]; exact HB.out.drewN j) (HL.out.fr HF.out (by intro c hc; simp only [List.mem_cons, List.not_mem_nil, or_false]; rintro rfl; exact HBL.out hc)) (HR.out.fr HF.out (by intro c hc; simp only [List.mem_cons, List.not_mem_nil, or_false]; rintro rfl; exact HBR.out hc)) HBL.out HBR.out (by have := HS.out; simp only [BT.sz]; omega) (by have := HD.out; simp only [BT.ct]; omega)).mono ?_
  rintro e w5 ⟨⟨v, rfl⟩, ht5, hf5⟩
  have HT5 := hide ht5
  have HF5 := hide hf5
  clear ht5 hf5
  go_wp2_with fail
  go_ret
  exact ⟨rfl, HT5.out, HF.out.trans HF5.out⟩

set_option maxRecDepth 100000 in
set_option maxHeartbeats 8000000 in
theorem bagBalance_B1 (w : World) (b c : Nat) (ll lr r : BT) (x y : Int) (t u : Nat) (s0 d0 h0 : Int)
    (hb : NodeAt w b (some ⟨c, 0, none⟩) r.pt x t s0 d0 h0) (hk : Tr w (BT.node c ll lr y u)) (hr : Tr w r)
    (nd : (b :: c :: (ll.bl ++ lr.bl ++ r.bl)).Nodup) (hs : t + u + ll.sz + lr.sz + r.sz ≤ 1000000) (hd : 2 + ll.ct + lr.ct + r.ct ≤ 1000000)
    (h1 : r.ht + 1 < (BT.node c ll lr y u).ht) (h2 : lr.ht ≤ ll.ht) :
    Calls Try.prog 61 #[.pointer (some ⟨b, 0, none⟩)] w fun e w' => e = .returned (.pointer (some ⟨c, 0, none⟩)) ∧ Tr w' (.node c ll (.node b lr r x t) y u) ∧ Fr [b, c] w w' := by
  have hkc := (BT.node c ll lr y u).ht_ct
  have rct := r.ht_ct
  simp only [BT.ct] at hkc
  have HB := hide hb
  have HC := hide hk.1
  have HLL := hide hk.2.1
  have HLR := hide hk.2.2
  have HK := hide hk
  have HR := hide hr
  have HND := hide nd
  have HS := hide hs
  have HD := hide hd
  obtain ⟨T, hT⟩ : ∃ T, T = (BT.node c ll lr y u) := ⟨_, rfl⟩
  have hTp : T.pt = some ⟨c, 0, none⟩ := by rw [hT]; rfl
  have HKT : Hid (Tr w T) := by rw [hT]; exact HK
  rw [← hT] at h1
  have k1 : T.ht ≤ 1000000 := by rw [hT]; omega
  have r1 : r.ht ≤ 1000000 := by omega
  obtain ⟨O, hO⟩ : ∃ O, O = ll := ⟨_, rfl⟩
  obtain ⟨I, hI⟩ : ∃ I, I = lr := ⟨_, rfl⟩
  have HO : Hid (Tr w O) := by rw [hO]; exact HLL
  have HI : Hid (Tr w I) := by rw [hI]; exact HLR
  have h2' : I.ht ≤ O.ht := by rw [hO, hI]; exact h2
  have h3' : O.ht ≤ 1000000 ∧ I.ht ≤ 1000000 := by rw [hT] at k1; simp only [BT.ht] at k1; rw [hO, hI]; (try simp only [BT.ht]); omega
  have o1 := h3'.1
  have i1 := h3'.2
  have hcp : NodeAt w c O.pt I.pt y u (((BT.node c ll lr y u)).sz : Int) (((BT.node c ll lr y u)).ct : Int) (((BT.node c ll lr y u)).ht : Int) := by rw [hO, hI]; exact HC.out
  have hbp : NodeAt w b T.pt r.pt x t s0 d0 h0 := by rw [hTp]; exact HB.out
  have HCP := hide hcp
  have HBP := hide hbp
  have HT := hide hT
  have HTP := hide hTp
  have HOE := hide hO
  have HIE := hide hI
  obtain ⟨c0, c1, -⟩ := hbp.cells
  obtain ⟨e0, e1, -⟩ := hcp.cells
  have K0 : Hid (∃ k, w = w.drewN k) := hide ⟨0, rfl⟩
  clear hb hk hr nd hs hd hkc rct hcp hbp h2 h3' hT hO hI HK
  clear hTp
  go_enter Try.func61, Try.ntmps61
  go_wp2_with fail
  refine wp_loop_rounds 3 ?_
  rw [rounds_succ]
  go_wp2_with fail
  refine (bagSizesD w _ T HKT.out K0.out).mono ?_
  rintro e W1 ⟨rfl, hK1⟩
  have K1 := hide hK1
  clear hK1
  obtain ⟨j1, hj1⟩ := K1.out
  have cb1 : W1.cell? ⟨b, 0, none⟩ = some (.pointer T.pt) := by rw [hj1]; exact HBP.out.cells.1
  have db1 : W1.cell? ⟨b, 1, none⟩ = some (.pointer r.pt) := by rw [hj1]; exact HBP.out.cells.2.1
  have fb1 : W1.frozen? ⟨b, 0, none⟩ = false := by rw [hj1]; exact HBP.out.fz.1
  have gb1 : W1.frozen? ⟨b, 1, none⟩ = false := by rw [hj1]; exact HBP.out.fz.2.1
  have cc1 : W1.cell? ⟨c, 0, none⟩ = some (.pointer O.pt) := by rw [hj1]; exact HCP.out.cells.1
  have dc1 : W1.cell? ⟨c, 1, none⟩ = some (.pointer I.pt) := by rw [hj1]; exact HCP.out.cells.2.1
  have fc1 : W1.frozen? ⟨c, 0, none⟩ = false := by rw [hj1]; exact HCP.out.fz.1
  have gc1 : W1.frozen? ⟨c, 1, none⟩ = false := by rw [hj1]; exact HCP.out.fz.2.1
  clear hj1
  go_wp2_with fail
  refine (bagSizesD w _ r HR.out K1.out).mono ?_
  rintro e W2 ⟨rfl, hK2⟩
  have K2 := hide hK2
  clear hK2
  obtain ⟨j2, hj2⟩ := K2.out
  have cb2 : W2.cell? ⟨b, 0, none⟩ = some (.pointer T.pt) := by rw [hj2]; exact HBP.out.cells.1
  have db2 : W2.cell? ⟨b, 1, none⟩ = some (.pointer r.pt) := by rw [hj2]; exact HBP.out.cells.2.1
  have fb2 : W2.frozen? ⟨b, 0, none⟩ = false := by rw [hj2]; exact HBP.out.fz.1
  have gb2 : W2.frozen? ⟨b, 1, none⟩ = false := by rw [hj2]; exact HBP.out.fz.2.1
  have cc2 : W2.cell? ⟨c, 0, none⟩ = some (.pointer O.pt) := by rw [hj2]; exact HCP.out.cells.1
  have dc2 : W2.cell? ⟨c, 1, none⟩ = some (.pointer I.pt) := by rw [hj2]; exact HCP.out.cells.2.1
  have fc2 : W2.frozen? ⟨c, 0, none⟩ = false := by rw [hj2]; exact HCP.out.fz.1
  have gc2 : W2.frozen? ⟨c, 1, none⟩ = false := by rw [hj2]; exact HCP.out.fz.2.1
  clear hj2
  have hTp2 := HTP.out
  rw [hTp2]
  clear hTp2
  go_wp2_with fail
  refine (bagSizesD w _ I HI.out K2.out).mono ?_
  rintro e W3 ⟨rfl, hK3⟩
  have K3 := hide hK3
  clear hK3
  obtain ⟨j3, hj3⟩ := K3.out
  have cb3 : W3.cell? ⟨b, 0, none⟩ = some (.pointer T.pt) := by rw [hj3]; exact HBP.out.cells.1
  have db3 : W3.cell? ⟨b, 1, none⟩ = some (.pointer r.pt) := by rw [hj3]; exact HBP.out.cells.2.1
  have fb3 : W3.frozen? ⟨b, 0, none⟩ = false := by rw [hj3]; exact HBP.out.fz.1
  have gb3 : W3.frozen? ⟨b, 1, none⟩ = false := by rw [hj3]; exact HBP.out.fz.2.1
  have cc3 : W3.cell? ⟨c, 0, none⟩ = some (.pointer O.pt) := by rw [hj3]; exact HCP.out.cells.1
  have dc3 : W3.cell? ⟨c, 1, none⟩ = some (.pointer I.pt) := by rw [hj3]; exact HCP.out.cells.2.1
  have fc3 : W3.frozen? ⟨c, 0, none⟩ = false := by rw [hj3]; exact HCP.out.fz.1
  have gc3 : W3.frozen? ⟨c, 1, none⟩ = false := by rw [hj3]; exact HCP.out.fz.2.1
  clear hj3
  go_wp2_with fail
  refine (bagSizesD w _ O HO.out K3.out).mono ?_
  rintro e W4 ⟨rfl, hK4⟩
  have K4 := hide hK4
  clear hK4
  obtain ⟨j4, hj4⟩ := K4.out
  have cb4 : W4.cell? ⟨b, 0, none⟩ = some (.pointer T.pt) := by rw [hj4]; exact HBP.out.cells.1
  have db4 : W4.cell? ⟨b, 1, none⟩ = some (.pointer r.pt) := by rw [hj4]; exact HBP.out.cells.2.1
  have fb4 : W4.frozen? ⟨b, 0, none⟩ = false := by rw [hj4]; exact HBP.out.fz.1
  have gb4 : W4.frozen? ⟨b, 1, none⟩ = false := by rw [hj4]; exact HBP.out.fz.2.1
  have cc4 : W4.cell? ⟨c, 0, none⟩ = some (.pointer O.pt) := by rw [hj4]; exact HCP.out.cells.1
  have dc4 : W4.cell? ⟨c, 1, none⟩ = some (.pointer I.pt) := by rw [hj4]; exact HCP.out.cells.2.1
  have fc4 : W4.frozen? ⟨c, 0, none⟩ = false := by rw [hj4]; exact HCP.out.fz.1
  have gc4 : W4.frozen? ⟨c, 1, none⟩ = false := by rw [hj4]; exact HCP.out.fz.2.1
  clear hj4
  go_wp2_with fail
  have HW : Hid (Dr w W4) := K4
  clear cb1 db1 fb1 gb1 cc1 dc1 fc1 gc1 cb2 db2 fb2 gb2 cc2 dc2 fc2 gc2 cb3 db3 fb3 gb3 cc3 dc3 fc3 gc3 cb4 db4 fb4 gb4 cc4 dc4 fc4 gc4 c0 c1 e0 e1
  refine (bagRotate0 W4 b c ll lr r x y t u _ _ _ _ _ _ (HB.out.dr HW.out) (HC.out.dr HW.out) (HLL.out.dr HW.out) (HLR.out.dr HW.out) (HR.out.dr HW.out) HND.out HS.out HD.out).mono ?_
  rintro e w5 ⟨rfl, ht5, hf5⟩
  have HT5 := hide ht5
  have HF5 := hide hf5
  clear ht5 hf5
  go_wp2_with fail
  go_ret
  exact ⟨rfl, HT5.out, (HW.out.fr [b, c]).trans HF5.out⟩

set_option maxRecDepth 100000 in
set_option maxHeartbeats 8000000 in
theorem bagBalance_C1 (w : World) (b c : Nat) (ll lr r : BT) (x y : Int) (t u : Nat) (s0 d0 h0 : Int)
    (hb : NodeAt w b r.pt (some ⟨c, 0, none⟩) x t s0 d0 h0) (hk : Tr w (BT.node c ll lr y u)) (hr : Tr w r)
    (nd : (b :: c :: (ll.bl ++ lr.bl ++ r.bl)).Nodup) (hs : t + u + ll.sz + lr.sz + r.sz ≤ 1000000) (hd : 2 + ll.ct + lr.ct + r.ct ≤ 1000000)
    (h1 : r.ht + 1 < (BT.node c ll lr y u).ht) (h2 : ll.ht ≤ lr.ht) :
    Calls Try.prog 61 #[.pointer (some ⟨b, 0, none⟩)] w fun e w' => e = .returned (.pointer (some ⟨c, 0, none⟩)) ∧ Tr w' (.node c (.node b r ll x t) lr y u) ∧ Fr [b, c] w w' := by
  have hkc := (BT.node c ll lr y u).ht_ct
  have rct := r.ht_ct
  simp only [BT.ct] at hkc
  have HB := hide hb
  have HC := hide hk.1
  have HLL := hide hk.2.1
  have HLR := hide hk.2.2
  have HK := hide hk
  have HR := hide hr
  have HND := hide nd
  have HS := hide hs
  have HD := hide hd
  obtain ⟨T, hT⟩ : ∃ T, T = (BT.node c ll lr y u) := ⟨_, rfl⟩
  have hTp : T.pt = some ⟨c, 0, none⟩ := by rw [hT]; rfl
  have HKT : Hid (Tr w T) := by rw [hT]; exact HK
  rw [← hT] at h1
  have k1 : T.ht ≤ 1000000 := by rw [hT]; omega
  have r1 : r.ht ≤ 1000000 := by omega
  obtain ⟨O, hO⟩ : ∃ O, O = lr := ⟨_, rfl⟩
  obtain ⟨I, hI⟩ : ∃ I, I = ll := ⟨_, rfl⟩
  have HO : Hid (Tr w O) := by rw [hO]; exact HLR
  have HI : Hid (Tr w I) := by rw [hI]; exact HLL
  have h2' : I.ht ≤ O.ht := by rw [hO, hI]; exact h2
  have h3' : O.ht ≤ 1000000 ∧ I.ht ≤ 1000000 := by rw [hT] at k1; simp only [BT.ht] at k1; rw [hO, hI]; (try simp only [BT.ht]); omega
  have o1 := h3'.1
  have i1 := h3'.2
  have hcp : NodeAt w c I.pt O.pt y u (((BT.node c ll lr y u)).sz : Int) (((BT.node c ll lr y u)).ct : Int) (((BT.node c ll lr y u)).ht : Int) := by rw [hO, hI]; exact HC.out
  have hbp : NodeAt w b r.pt T.pt x t s0 d0 h0 := by rw [hTp]; exact HB.out
  have HCP := hide hcp
  have HBP := hide hbp
  have HT := hide hT
  have HTP := hide hTp
  have HOE := hide hO
  have HIE := hide hI
  obtain ⟨c0, c1, -⟩ := hbp.cells
  obtain ⟨e0, e1, -⟩ := hcp.cells
  have K0 : Hid (∃ k, w = w.drewN k) := hide ⟨0, rfl⟩
  clear hb hk hr nd hs hd hkc rct hcp hbp h2 h3' hT hO hI HK
  clear hTp
  go_enter Try.func61, Try.ntmps61
  go_wp2_with fail
  refine wp_loop_rounds 3 ?_
  rw [rounds_succ]
  go_wp2_with fail
  refine (bagSizesD w _ r HR.out K0.out).mono ?_
  rintro e W1 ⟨rfl, hK1⟩
  have K1 := hide hK1
  clear hK1
  obtain ⟨j1, hj1⟩ := K1.out
  have cb1 : W1.cell? ⟨b, 0, none⟩ = some (.pointer r.pt) := by rw [hj1]; exact HBP.out.cells.1
  have db1 : W1.cell? ⟨b, 1, none⟩ = some (.pointer T.pt) := by rw [hj1]; exact HBP.out.cells.2.1
  have fb1 : W1.frozen? ⟨b, 0, none⟩ = false := by rw [hj1]; exact HBP.out.fz.1
  have gb1 : W1.frozen? ⟨b, 1, none⟩ = false := by rw [hj1]; exact HBP.out.fz.2.1
  have cc1 : W1.cell? ⟨c, 0, none⟩ = some (.pointer I.pt) := by rw [hj1]; exact HCP.out.cells.1
  have dc1 : W1.cell? ⟨c, 1, none⟩ = some (.pointer O.pt) := by rw [hj1]; exact HCP.out.cells.2.1
  have fc1 : W1.frozen? ⟨c, 0, none⟩ = false := by rw [hj1]; exact HCP.out.fz.1
  have gc1 : W1.frozen? ⟨c, 1, none⟩ = false := by rw [hj1]; exact HCP.out.fz.2.1
  clear hj1
  go_wp2_with fail
  refine (bagSizesD w _ T HKT.out K1.out).mono ?_
  rintro e W2 ⟨rfl, hK2⟩
  have K2 := hide hK2
  clear hK2
  obtain ⟨j2, hj2⟩ := K2.out
  have cb2 : W2.cell? ⟨b, 0, none⟩ = some (.pointer r.pt) := by rw [hj2]; exact HBP.out.cells.1
  have db2 : W2.cell? ⟨b, 1, none⟩ = some (.pointer T.pt) := by rw [hj2]; exact HBP.out.cells.2.1
  have fb2 : W2.frozen? ⟨b, 0, none⟩ = false := by rw [hj2]; exact HBP.out.fz.1
  have gb2 : W2.frozen? ⟨b, 1, none⟩ = false := by rw [hj2]; exact HBP.out.fz.2.1
  have cc2 : W2.cell? ⟨c, 0, none⟩ = some (.pointer I.pt) := by rw [hj2]; exact HCP.out.cells.1
  have dc2 : W2.cell? ⟨c, 1, none⟩ = some (.pointer O.pt) := by rw [hj2]; exact HCP.out.cells.2.1
  have fc2 : W2.frozen? ⟨c, 0, none⟩ = false := by rw [hj2]; exact HCP.out.fz.1
  have gc2 : W2.frozen? ⟨c, 1, none⟩ = false := by rw [hj2]; exact HCP.out.fz.2.1
  clear hj2
  go_wp2_with fail
  rw [rounds_succ]
  go_wp2_with fail
  refine (bagSizesD w _ T HKT.out K2.out).mono ?_
  rintro e W3 ⟨rfl, hK3⟩
  have K3 := hide hK3
  clear hK3
  obtain ⟨j3, hj3⟩ := K3.out
  have cb3 : W3.cell? ⟨b, 0, none⟩ = some (.pointer r.pt) := by rw [hj3]; exact HBP.out.cells.1
  have db3 : W3.cell? ⟨b, 1, none⟩ = some (.pointer T.pt) := by rw [hj3]; exact HBP.out.cells.2.1
  have fb3 : W3.frozen? ⟨b, 0, none⟩ = false := by rw [hj3]; exact HBP.out.fz.1
  have gb3 : W3.frozen? ⟨b, 1, none⟩ = false := by rw [hj3]; exact HBP.out.fz.2.1
  have cc3 : W3.cell? ⟨c, 0, none⟩ = some (.pointer I.pt) := by rw [hj3]; exact HCP.out.cells.1
  have dc3 : W3.cell? ⟨c, 1, none⟩ = some (.pointer O.pt) := by rw [hj3]; exact HCP.out.cells.2.1
  have fc3 : W3.frozen? ⟨c, 0, none⟩ = false := by rw [hj3]; exact HCP.out.fz.1
  have gc3 : W3.frozen? ⟨c, 1, none⟩ = false := by rw [hj3]; exact HCP.out.fz.2.1
  clear hj3
  go_wp2_with fail
  refine (bagSizesD w _ r HR.out K3.out).mono ?_
  rintro e W4 ⟨rfl, hK4⟩
  have K4 := hide hK4
  clear hK4
  obtain ⟨j4, hj4⟩ := K4.out
  have cb4 : W4.cell? ⟨b, 0, none⟩ = some (.pointer r.pt) := by rw [hj4]; exact HBP.out.cells.1
  have db4 : W4.cell? ⟨b, 1, none⟩ = some (.pointer T.pt) := by rw [hj4]; exact HBP.out.cells.2.1
  have fb4 : W4.frozen? ⟨b, 0, none⟩ = false := by rw [hj4]; exact HBP.out.fz.1
  have gb4 : W4.frozen? ⟨b, 1, none⟩ = false := by rw [hj4]; exact HBP.out.fz.2.1
  have cc4 : W4.cell? ⟨c, 0, none⟩ = some (.pointer I.pt) := by rw [hj4]; exact HCP.out.cells.1
  have dc4 : W4.cell? ⟨c, 1, none⟩ = some (.pointer O.pt) := by rw [hj4]; exact HCP.out.cells.2.1
  have fc4 : W4.frozen? ⟨c, 0, none⟩ = false := by rw [hj4]; exact HCP.out.fz.1
  have gc4 : W4.frozen? ⟨c, 1, none⟩ = false := by rw [hj4]; exact HCP.out.fz.2.1
  clear hj4
  have hTp4 := HTP.out
  rw [hTp4]
  clear hTp4
  go_wp2_with fail
  refine (bagSizesD w _ I HI.out K4.out).mono ?_
  rintro e W5 ⟨rfl, hK5⟩
  have K5 := hide hK5
  clear hK5
  obtain ⟨j5, hj5⟩ := K5.out
  have cb5 : W5.cell? ⟨b, 0, none⟩ = some (.pointer r.pt) := by rw [hj5]; exact HBP.out.cells.1
  have db5 : W5.cell? ⟨b, 1, none⟩ = some (.pointer T.pt) := by rw [hj5]; exact HBP.out.cells.2.1
  have fb5 : W5.frozen? ⟨b, 0, none⟩ = false := by rw [hj5]; exact HBP.out.fz.1
  have gb5 : W5.frozen? ⟨b, 1, none⟩ = false := by rw [hj5]; exact HBP.out.fz.2.1
  have cc5 : W5.cell? ⟨c, 0, none⟩ = some (.pointer I.pt) := by rw [hj5]; exact HCP.out.cells.1
  have dc5 : W5.cell? ⟨c, 1, none⟩ = some (.pointer O.pt) := by rw [hj5]; exact HCP.out.cells.2.1
  have fc5 : W5.frozen? ⟨c, 0, none⟩ = false := by rw [hj5]; exact HCP.out.fz.1
  have gc5 : W5.frozen? ⟨c, 1, none⟩ = false := by rw [hj5]; exact HCP.out.fz.2.1
  clear hj5
  go_wp2_with fail
  refine (bagSizesD w _ O HO.out K5.out).mono ?_
  rintro e W6 ⟨rfl, hK6⟩
  have K6 := hide hK6
  clear hK6
  obtain ⟨j6, hj6⟩ := K6.out
  have cb6 : W6.cell? ⟨b, 0, none⟩ = some (.pointer r.pt) := by rw [hj6]; exact HBP.out.cells.1
  have db6 : W6.cell? ⟨b, 1, none⟩ = some (.pointer T.pt) := by rw [hj6]; exact HBP.out.cells.2.1
  have fb6 : W6.frozen? ⟨b, 0, none⟩ = false := by rw [hj6]; exact HBP.out.fz.1
  have gb6 : W6.frozen? ⟨b, 1, none⟩ = false := by rw [hj6]; exact HBP.out.fz.2.1
  have cc6 : W6.cell? ⟨c, 0, none⟩ = some (.pointer I.pt) := by rw [hj6]; exact HCP.out.cells.1
  have dc6 : W6.cell? ⟨c, 1, none⟩ = some (.pointer O.pt) := by rw [hj6]; exact HCP.out.cells.2.1
  have fc6 : W6.frozen? ⟨c, 0, none⟩ = false := by rw [hj6]; exact HCP.out.fz.1
  have gc6 : W6.frozen? ⟨c, 1, none⟩ = false := by rw [hj6]; exact HCP.out.fz.2.1
  clear hj6
  go_wp2_with fail
  have HW : Hid (Dr w W6) := K6
  clear cb1 db1 fb1 gb1 cc1 dc1 fc1 gc1 cb2 db2 fb2 gb2 cc2 dc2 fc2 gc2 cb3 db3 fb3 gb3 cc3 dc3 fc3 gc3 cb4 db4 fb4 gb4 cc4 dc4 fc4 gc4 cb5 db5 fb5 gb5 cc5 dc5 fc5 gc5 cb6 db6 fb6 gb6 cc6 dc6 fc6 gc6 c0 c1 e0 e1
  refine (bagRotate1 W6 b c ll lr r x y t u _ _ _ _ _ _ (HB.out.dr HW.out) (HC.out.dr HW.out) (HLL.out.dr HW.out) (HLR.out.dr HW.out) (HR.out.dr HW.out) HND.out HS.out HD.out).mono ?_
  rintro e w5 ⟨rfl, ht5, hf5⟩
  have HT5 := hide ht5
  have HF5 := hide hf5
  clear ht5 hf5
  go_wp2_with fail
  go_ret
  exact ⟨rfl, HT5.out, (HW.out.fr [b, c]).trans HF5.out⟩

set_option maxRecDepth 100000 in
set_option maxHeartbeats 8000000 in
theorem bagBalance_B2 (w : World) (b c d : Nat) (ll dl dr r : BT) (x y z : Int) (t u v : Nat) (s0 d0 h0 : Int)
    (hb : NodeAt w b (some ⟨c, 0, none⟩) r.pt x t s0 d0 h0) (hk : Tr w (BT.node c ll (BT.node d dl dr z v) y u)) (hr : Tr w r)
    (nd : (b :: c :: d :: (ll.bl ++ dl.bl ++ dr.bl ++ r.bl)).Nodup) (hs : t + u + v + ll.sz + dl.sz + dr.sz + r.sz ≤ 1000000) (hd : 3 + ll.ct + dl.ct + dr.ct + r.ct ≤ 1000000)
    (h1 : r.ht + 1 < (BT.node c ll (BT.node d dl dr z v) y u).ht) (h2 : ll.ht < (BT.node d dl dr z v).ht) :
    Calls Try.prog 61 #[.pointer (some ⟨b, 0, none⟩)] w fun e w' => e = .returned (.pointer (some ⟨d, 0, none⟩)) ∧ Tr w' (.node d (.node c ll dl y u) (.node b dr r x t) z v) ∧ Fr [b, c, d] w w' := by
  have hkc := (BT.node c ll (BT.node d dl dr z v) y u).ht_ct
  have rct := r.ht_ct
  simp only [BT.ct] at hkc
  have HB := hide hb
  have HC := hide hk.1
  have HLL := hide hk.2.1
  have HD_ := hide hk.2.2
  have HDD := hide hk.2.2.1
  have HDL := hide hk.2.2.2.1
  have HDR := hide hk.2.2.2.2
  have HK := hide hk
  have HR := hide hr
  have HND := hide nd
  have HS := hide hs
  have HD := hide hd
  obtain ⟨T, hT⟩ : ∃ T, T = (BT.node c ll (BT.node d dl dr z v) y u) := ⟨_, rfl⟩
  have hTp : T.pt = some ⟨c, 0, none⟩ := by rw [hT]; rfl
  have HKT : Hid (Tr w T) := by rw [hT]; exact HK
  rw [← hT] at h1
  have k1 : T.ht ≤ 1000000 := by rw [hT]; omega
  have r1 : r.ht ≤ 1000000 := by omega
  obtain ⟨O, hO⟩ : ∃ O, O = ll := ⟨_, rfl⟩
  obtain ⟨I, hI⟩ : ∃ I, I = (BT.node d dl dr z v) := ⟨_, rfl⟩
  have HO : Hid (Tr w O) := by rw [hO]; exact HLL
  have HI : Hid (Tr w I) := by rw [hI]; exact HD_
  have h2' : O.ht < I.ht := by rw [hO, hI]; exact h2
  have h3' : O.ht ≤ 1000000 ∧ I.ht ≤ 1000000 := by rw [hT] at k1; simp only [BT.ht] at k1; rw [hO, hI]; (try simp only [BT.ht]); omega
  have o1 := h3'.1
  have i1 := h3'.2
  have hcp : NodeAt w c O.pt I.pt y u (((BT.node c ll (BT.node d dl dr z v) y u)).sz : Int) (((BT.node c ll (BT.node d dl dr z v) y u)).ct : Int) (((BT.node c ll (BT.node d dl dr z v) y u)).ht : Int) := by rw [hO, hI]; exact HC.out
  have hbp : NodeAt w b T.pt r.pt x t s0 d0 h0 := by rw [hTp]; exact HB.out
  have HCP := hide hcp
  have HBP := hide hbp
  have HT := hide hT
  have HTP := hide hTp
  have HOE := hide hO
  have HIE := hide hI
  obtain ⟨c0, c1, -⟩ := hbp.cells
  obtain ⟨e0, e1, -⟩ := hcp.cells
  have K0 : Hid (∃ k, w = w.drewN k) := hide ⟨0, rfl⟩
  clear hb hk hr nd hs hd hkc rct hcp hbp h2 h3' hT hO hI HK
  clear hTp
  go_enter Try.func61, Try.ntmps61
  go_wp2_with fail
  refine wp_loop_rounds 3 ?_
  rw [rounds_succ]
  go_wp2_with fail
  refine (bagSizesD w _ T HKT.out K0.out).mono ?_
  rintro e W1 ⟨rfl, hK1⟩
  have K1 := hide hK1
  clear hK1
  obtain ⟨j1, hj1⟩ := K1.out
  have cb1 : W1.cell? ⟨b, 0, none⟩ = some (.pointer T.pt) := by rw [hj1]; exact HBP.out.cells.1
  have db1 : W1.cell? ⟨b, 1, none⟩ = some (.pointer r.pt) := by rw [hj1]; exact HBP.out.cells.2.1
  have fb1 : W1.frozen? ⟨b, 0, none⟩ = false := by rw [hj1]; exact HBP.out.fz.1
  have gb1 : W1.frozen? ⟨b, 1, none⟩ = false := by rw [hj1]; exact HBP.out.fz.2.1
  have cc1 : W1.cell? ⟨c, 0, none⟩ = some (.pointer O.pt) := by rw [hj1]; exact HCP.out.cells.1
  have dc1 : W1.cell? ⟨c, 1, none⟩ = some (.pointer I.pt) := by rw [hj1]; exact HCP.out.cells.2.1
  have fc1 : W1.frozen? ⟨c, 0, none⟩ = false := by rw [hj1]; exact HCP.out.fz.1
  have gc1 : W1.frozen? ⟨c, 1, none⟩ = false := by rw [hj1]; exact HCP.out.fz.2.1
  clear hj1
  go_wp2_with fail
  refine (bagSizesD w _ r HR.out K1.out).mono ?_
  rintro e W2 ⟨rfl, hK2⟩
  have K2 := hide hK2
  clear hK2
  obtain ⟨j2, hj2⟩ := K2.out
  have cb2 : W2.cell? ⟨b, 0, none⟩ = some (.pointer T.pt) := by rw [hj2]; exact HBP.out.cells.1
  have db2 : W2.cell? ⟨b, 1, none⟩ = some (.pointer r.pt) := by rw [hj2]; exact HBP.out.cells.2.1
  have fb2 : W2.frozen? ⟨b, 0, none⟩ = false := by rw [hj2]; exact HBP.out.fz.1
  have gb2 : W2.frozen? ⟨b, 1, none⟩ = false := by rw [hj2]; exact HBP.out.fz.2.1
  have cc2 : W2.cell? ⟨c, 0, none⟩ = some (.pointer O.pt) := by rw [hj2]; exact HCP.out.cells.1
  have dc2 : W2.cell? ⟨c, 1, none⟩ = some (.pointer I.pt) := by rw [hj2]; exact HCP.out.cells.2.1
  have fc2 : W2.frozen? ⟨c, 0, none⟩ = false := by rw [hj2]; exact HCP.out.fz.1
  have gc2 : W2.frozen? ⟨c, 1, none⟩ = false := by rw [hj2]; exact HCP.out.fz.2.1
  clear hj2
  have hTp2 := HTP.out
  rw [hTp2]
  clear hTp2
  go_wp2_with fail
  refine (bagSizesD w _ I HI.out K2.out).mono ?_
  rintro e W3 ⟨rfl, hK3⟩
  have K3 := hide hK3
  clear hK3
  obtain ⟨j3, hj3⟩ := K3.out
  have cb3 : W3.cell? ⟨b, 0, none⟩ = some (.pointer T.pt) := by rw [hj3]; exact HBP.out.cells.1
  have db3 : W3.cell? ⟨b, 1, none⟩ = some (.pointer r.pt) := by rw [hj3]; exact HBP.out.cells.2.1
  have fb3 : W3.frozen? ⟨b, 0, none⟩ = false := by rw [hj3]; exact HBP.out.fz.1
  have gb3 : W3.frozen? ⟨b, 1, none⟩ = false := by rw [hj3]; exact HBP.out.fz.2.1
  have cc3 : W3.cell? ⟨c, 0, none⟩ = some (.pointer O.pt) := by rw [hj3]; exact HCP.out.cells.1
  have dc3 : W3.cell? ⟨c, 1, none⟩ = some (.pointer I.pt) := by rw [hj3]; exact HCP.out.cells.2.1
  have fc3 : W3.frozen? ⟨c, 0, none⟩ = false := by rw [hj3]; exact HCP.out.fz.1
  have gc3 : W3.frozen? ⟨c, 1, none⟩ = false := by rw [hj3]; exact HCP.out.fz.2.1
  clear hj3
  go_wp2_with fail
  refine (bagSizesD w _ O HO.out K3.out).mono ?_
  rintro e W4 ⟨rfl, hK4⟩
  have K4 := hide hK4
  clear hK4
  obtain ⟨j4, hj4⟩ := K4.out
  have cb4 : W4.cell? ⟨b, 0, none⟩ = some (.pointer T.pt) := by rw [hj4]; exact HBP.out.cells.1
  have db4 : W4.cell? ⟨b, 1, none⟩ = some (.pointer r.pt) := by rw [hj4]; exact HBP.out.cells.2.1
  have fb4 : W4.frozen? ⟨b, 0, none⟩ = false := by rw [hj4]; exact HBP.out.fz.1
  have gb4 : W4.frozen? ⟨b, 1, none⟩ = false := by rw [hj4]; exact HBP.out.fz.2.1
  have cc4 : W4.cell? ⟨c, 0, none⟩ = some (.pointer O.pt) := by rw [hj4]; exact HCP.out.cells.1
  have dc4 : W4.cell? ⟨c, 1, none⟩ = some (.pointer I.pt) := by rw [hj4]; exact HCP.out.cells.2.1
  have fc4 : W4.frozen? ⟨c, 0, none⟩ = false := by rw [hj4]; exact HCP.out.fz.1
  have gc4 : W4.frozen? ⟨c, 1, none⟩ = false := by rw [hj4]; exact HCP.out.fz.2.1
  clear hj4
  go_wp2_with fail
  have HW : Hid (Dr w W4) := K4
  clear cb1 db1 fb1 gb1 cc1 dc1 fc1 gc1 cb2 db2 fb2 gb2 cc2 dc2 fc2 gc2 cb3 db3 fb3 gb3 cc3 dc3 fc3 gc3 cb4 db4 fb4 gb4 cc4 dc4 fc4 gc4 c0 c1 e0 e1
  have HROT : Hid (∀ W, Dr w W → Calls Try.prog 65 #[.pointer (some ⟨c, 0, none⟩), .int .i64 1] W fun e w' => e = .returned (.pointer (some ⟨d, 0, none⟩)) ∧ Tr w' (.node d (.node c ll dl y u) dr z v) ∧ Fr [c, d] W w') :=
    hide fun W hW => bagRotate1 W c d dl dr ll y z u v _ _ _ _ _ _ (HC.out.dr hW) (HDD.out.dr hW) (HDL.out.dr hW) (HDR.out.dr hW) (HLL.out.dr hW)
      (by have := HND.out; simp only [List.nodup_cons, List.nodup_append, List.mem_cons, List.mem_append, not_or] at this ⊢; obtain ⟨⟨h1, h2, ⟨⟨h3, h4⟩, h5⟩, h6⟩, ⟨h7, ⟨⟨h8, h9⟩, h10⟩, h11⟩, ⟨⟨⟨h12, h13⟩, h14⟩, h15⟩, ⟨⟨g1, g2, g3⟩, g4, g5⟩, g6, g7⟩ := this; exact ⟨⟨h7, ⟨h9, h10⟩, h8⟩, ⟨⟨h13, h14⟩, h12⟩, ⟨g2, g4, fun p hp q hq => g5 p (.inr hp) q hq⟩, g1, fun p hp q hq e => hp.elim (fun hp => g3 q hq p hp e.symm) (fun hp => g5 q (.inl hq) p hp e.symm)⟩)
      (by have := HS.out; omega) (by have := HD.out; omega)
  go_region_with
    (go_at_call 65
     refine (HROT.out _ (HW.out.draw _)).mono ?_
     rintro e w5 ⟨rfl, ht5, hf5⟩
     have HT5 := hide ht5
     have HF5 := hide ((HW.out.draw _).fr [c, d] |>.trans hf5)
     have hb5 := HB.out.fr HF5.out (by have := HND.out; simp only [List.nodup_cons, List.mem_cons, not_or] at this; simp [this.1.1, this.1.2.1])
     obtain ⟨c50, c51, -⟩ := hb5.cells
     obtain ⟨f50, f51, -⟩ := hb5.fz
     have HB5 := hide hb5
     clear ht5 hf5 hb5)
  all_goals
    have hf6 : Fr [b] w5 (w5.setCell ⟨b, 0, none⟩ (.pointer (some ⟨d, 0, none⟩))) := (Fr.refl [b] w5).setCell (p := ⟨b, 0, none⟩) (.inl (by simp)) _
    have hb6 := HB5.out.set0 (some ⟨d, 0, none⟩)
    have ht6 : Tr (w5.setCell ⟨b, 0, none⟩ (.pointer (some ⟨d, 0, none⟩))) (.node d (.node c ll dl y u) dr z v) := HT5.out.fr hf6 (by
      have := HND.out
      simp only [List.nodup_cons, List.mem_cons, List.mem_append, not_or] at this
      obtain ⟨⟨h1, h2, ⟨⟨h3, h4⟩, h5⟩, h6⟩, -⟩ := this
      intro q hq hm
      simp only [List.mem_cons, List.not_mem_nil, or_false] at hm
      subst hm
      simp only [BT.bl, List.mem_cons, List.mem_append] at hq
      revert hq
      simp [h1, h2, h3, h4, h5])
    have hr6 : Tr (w5.setCell ⟨b, 0, none⟩ (.pointer (some ⟨d, 0, none⟩))) r := (HR.out.fr HF5.out (by
      have := HND.out
      simp only [List.nodup_cons, List.nodup_append, List.mem_cons, List.mem_append, not_or] at this
      obtain ⟨-, ⟨-, -, h11⟩, ⟨-, h15⟩, -⟩ := this
      intro q hq hm
      simp only [List.mem_cons, List.not_mem_nil, or_false] at hm
      rcases hm with rfl | rfl
      · exact h11 hq
      · exact h15 hq)).fr hf6 (by
      have := HND.out
      simp only [List.nodup_cons, List.mem_cons, List.mem_append, not_or] at this
      obtain ⟨⟨-, -, -, h6⟩, -⟩ := this
      intro q hq hm
      simp only [List.mem_cons, List.not_mem_nil, or_false] at hm
      subst hm
      exact h6 hq)
    have HF6 := hide hf6
    have HB6 := hide hb6
    have HT6 := hide ht6
    have HR6 := hide hr6
    clear hf6 hb6 ht6 hr6 c50 c51 f50 f51
    generalize w5.setCell ⟨b, 0, none⟩ (.pointer (some ⟨d, 0, none⟩)) = w6 at *
    go_wp2_with fail
    refine (bagRotate0 w6 b d (.node c ll dl y u) dr r x z t v _ _ _ _ _ _ HB6.out HT6.out.1 HT6.out.2.1 HT6.out.2.2 HR6.out
      (HND.out.perm (List.perm_iff_count.2 fun q => by simp only [BT.bl, List.count_cons, List.count_append]; omega))
      (by have := HS.out; simp only [BT.sz]; omega) (by have := HD.out; simp only [BT.ct]; omega)).mono ?_
    rintro e w7 ⟨rfl, ht7, hf7⟩
    have HT7 := hide ht7
    have HF7 := hide hf7
    clear ht7 hf7
    go_wp2_with fail
    go_ret
    exact ⟨rfl, HT7.out, ((HF5.out.mono (by simp)).trans (HF6.out.mono (by simp))).trans (HF7.out.mono (by simp))⟩

set_option maxRecDepth 100000 in
set_option maxHeartbeats 8000000 in
theorem bagBalance_C2 (w : World) (b c d : Nat) (lr dl dr r : BT) (x y z : Int) (t u v : Nat) (s0 d0 h0 : Int)
    (hb : NodeAt w b r.pt (some ⟨c, 0, none⟩) x t s0 d0 h0) (hk : Tr w (BT.node c (BT.node d dl dr z v) lr y u)) (hr : Tr w r)
    (nd : (b :: c :: d :: (lr.bl ++ dl.bl ++ dr.bl ++ r.bl)).Nodup) (hs : t + u + v + lr.sz + dl.sz + dr.sz + r.sz ≤ 1000000) (hd : 3 + lr.ct + dl.ct + dr.ct + r.ct ≤ 1000000)
    (h1 : r.ht + 1 < (BT.node c (BT.node d dl dr z v) lr y u).ht) (h2 : lr.ht < (BT.node d dl dr z v).ht) :
    Calls Try.prog 61 #[.pointer (some ⟨b, 0, none⟩)] w fun e w' => e = .returned (.pointer (some ⟨d, 0, none⟩)) ∧ Tr w' (.node d (.node b r dl x t) (.node c dr lr y u) z v) ∧ Fr [b, c, d] w w' := by
  have hkc := (BT.node c (BT.node d dl dr z v) lr y u).ht_ct
  have rct := r.ht_ct
  simp only [BT.ct] at hkc
  have HB := hide hb
  have HC := hide hk.1
  have HD_ := hide hk.2.1
  have HLR := hide hk.2.2
  have HDD := hide hk.2.1.1
  have HDL := hide hk.2.1.2.1
  have HDR := hide hk.2.1.2.2
  have HK := hide hk
  have HR := hide hr
  have HND := hide nd
  have HS := hide hs
  have HD := hide hd
  obtain ⟨T, hT⟩ : ∃ T, T = (BT.node c (BT.node d dl dr z v) lr y u) := ⟨_, rfl⟩
  have hTp : T.pt = some ⟨c, 0, none⟩ := by rw [hT]; rfl
  have HKT : Hid (Tr w T) := by rw [hT]; exact HK
  rw [← hT] at h1
  have k1 : T.ht ≤ 1000000 := by rw [hT]; omega
  have r1 : r.ht ≤ 1000000 := by omega
  obtain ⟨O, hO⟩ : ∃ O, O = lr := ⟨_, rfl⟩
  obtain ⟨I, hI⟩ : ∃ I, I = (BT.node d dl dr z v) := ⟨_, rfl⟩
  have HO : Hid (Tr w O) := by rw [hO]; exact HLR
  have HI : Hid (Tr w I) := by rw [hI]; exact HD_
  have h2' : O.ht < I.ht := by rw [hO, hI]; exact h2
  have h3' : O.ht ≤ 1000000 ∧ I.ht ≤ 1000000 := by rw [hT] at k1; simp only [BT.ht] at k1; rw [hO, hI]; (try simp only [BT.ht]); omega
  have o1 := h3'.1
  have i1 := h3'.2
  have hcp : NodeAt w c I.pt O.pt y u (((BT.node c (BT.node d dl dr z v) lr y u)).sz : Int) (((BT.node c (BT.node d dl dr z v) lr y u)).ct : Int) (((BT.node c (BT.node d dl dr z v) lr y u)).ht : Int) := by rw [hO, hI]; exact HC.out
  have hbp : NodeAt w b r.pt T.pt x t s0 d0 h0 := by rw [hTp]; exact HB.out
  have HCP := hide hcp
  have HBP := hide hbp
  have HT := hide hT
  have HTP := hide hTp
  have HOE := hide hO
  have HIE := hide hI
  obtain ⟨c0, c1, -⟩ := hbp.cells
  obtain ⟨e0, e1, -⟩ := hcp.cells
  have K0 : Hid (∃ k, w = w.drewN k) := hide ⟨0, rfl⟩
  clear hb hk hr nd hs hd hkc rct hcp hbp h2 h3' hT hO hI HK
  clear hTp
  go_enter Try.func61, Try.ntmps61
  go_wp2_with fail
  refine wp_loop_rounds 3 ?_
  rw [rounds_succ]
  go_wp2_with fail
  refine (bagSizesD w _ r HR.out K0.out).mono ?_
  rintro e W1 ⟨rfl, hK1⟩
  have K1 := hide hK1
  clear hK1
  obtain ⟨j1, hj1⟩ := K1.out
  have cb1 : W1.cell? ⟨b, 0, none⟩ = some (.pointer r.pt) := by rw [hj1]; exact HBP.out.cells.1
  have db1 : W1.cell? ⟨b, 1, none⟩ = some (.pointer T.pt) := by rw [hj1]; exact HBP.out.cells.2.1
  have fb1 : W1.frozen? ⟨b, 0, none⟩ = false := by rw [hj1]; exact HBP.out.fz.1
  have gb1 : W1.frozen? ⟨b, 1, none⟩ = false := by rw [hj1]; exact HBP.out.fz.2.1
  have cc1 : W1.cell? ⟨c, 0, none⟩ = some (.pointer I.pt) := by rw [hj1]; exact HCP.out.cells.1
  have dc1 : W1.cell? ⟨c, 1, none⟩ = some (.pointer O.pt) := by rw [hj1]; exact HCP.out.cells.2.1
  have fc1 : W1.frozen? ⟨c, 0, none⟩ = false := by rw [hj1]; exact HCP.out.fz.1
  have gc1 : W1.frozen? ⟨c, 1, none⟩ = false := by rw [hj1]; exact HCP.out.fz.2.1
  clear hj1
  go_wp2_with fail
  refine (bagSizesD w _ T HKT.out K1.out).mono ?_
  rintro e W2 ⟨rfl, hK2⟩
  have K2 := hide hK2
  clear hK2
  obtain ⟨j2, hj2⟩ := K2.out
  have cb2 : W2.cell? ⟨b, 0, none⟩ = some (.pointer r.pt) := by rw [hj2]; exact HBP.out.cells.1
  have db2 : W2.cell? ⟨b, 1, none⟩ = some (.pointer T.pt) := by rw [hj2]; exact HBP.out.cells.2.1
  have fb2 : W2.frozen? ⟨b, 0, none⟩ = false := by rw [hj2]; exact HBP.out.fz.1
  have gb2 : W2.frozen? ⟨b, 1, none⟩ = false := by rw [hj2]; exact HBP.out.fz.2.1
  have cc2 : W2.cell? ⟨c, 0, none⟩ = some (.pointer I.pt) := by rw [hj2]; exact HCP.out.cells.1
  have dc2 : W2.cell? ⟨c, 1, none⟩ = some (.pointer O.pt) := by rw [hj2]; exact HCP.out.cells.2.1
  have fc2 : W2.frozen? ⟨c, 0, none⟩ = false := by rw [hj2]; exact HCP.out.fz.1
  have gc2 : W2.frozen? ⟨c, 1, none⟩ = false := by rw [hj2]; exact HCP.out.fz.2.1
  clear hj2
  go_wp2_with fail
  rw [rounds_succ]
  go_wp2_with fail
  refine (bagSizesD w _ T HKT.out K2.out).mono ?_
  rintro e W3 ⟨rfl, hK3⟩
  have K3 := hide hK3
  clear hK3
  obtain ⟨j3, hj3⟩ := K3.out
  have cb3 : W3.cell? ⟨b, 0, none⟩ = some (.pointer r.pt) := by rw [hj3]; exact HBP.out.cells.1
  have db3 : W3.cell? ⟨b, 1, none⟩ = some (.pointer T.pt) := by rw [hj3]; exact HBP.out.cells.2.1
  have fb3 : W3.frozen? ⟨b, 0, none⟩ = false := by rw [hj3]; exact HBP.out.fz.1
  have gb3 : W3.frozen? ⟨b, 1, none⟩ = false := by rw [hj3]; exact HBP.out.fz.2.1
  have cc3 : W3.cell? ⟨c, 0, none⟩ = some (.pointer I.pt) := by rw [hj3]; exact HCP.out.cells.1
  have dc3 : W3.cell? ⟨c, 1, none⟩ = some (.pointer O.pt) := by rw [hj3]; exact HCP.out.cells.2.1
  have fc3 : W3.frozen? ⟨c, 0, none⟩ = false := by rw [hj3]; exact HCP.out.fz.1
  have gc3 : W3.frozen? ⟨c, 1, none⟩ = false := by rw [hj3]; exact HCP.out.fz.2.1
  clear hj3
  go_wp2_with fail
  refine (bagSizesD w _ r HR.out K3.out).mono ?_
  rintro e W4 ⟨rfl, hK4⟩
  have K4 := hide hK4
  clear hK4
  obtain ⟨j4, hj4⟩ := K4.out
  have cb4 : W4.cell? ⟨b, 0, none⟩ = some (.pointer r.pt) := by rw [hj4]; exact HBP.out.cells.1
  have db4 : W4.cell? ⟨b, 1, none⟩ = some (.pointer T.pt) := by rw [hj4]; exact HBP.out.cells.2.1
  have fb4 : W4.frozen? ⟨b, 0, none⟩ = false := by rw [hj4]; exact HBP.out.fz.1
  have gb4 : W4.frozen? ⟨b, 1, none⟩ = false := by rw [hj4]; exact HBP.out.fz.2.1
  have cc4 : W4.cell? ⟨c, 0, none⟩ = some (.pointer I.pt) := by rw [hj4]; exact HCP.out.cells.1
  have dc4 : W4.cell? ⟨c, 1, none⟩ = some (.pointer O.pt) := by rw [hj4]; exact HCP.out.cells.2.1
  have fc4 : W4.frozen? ⟨c, 0, none⟩ = false := by rw [hj4]; exact HCP.out.fz.1
  have gc4 : W4.frozen? ⟨c, 1, none⟩ = false := by rw [hj4]; exact HCP.out.fz.2.1
  clear hj4
  have hTp4 := HTP.out
  rw [hTp4]
  clear hTp4
  go_wp2_with fail
  refine (bagSizesD w _ I HI.out K4.out).mono ?_
  rintro e W5 ⟨rfl, hK5⟩
  have K5 := hide hK5
  clear hK5
  obtain ⟨j5, hj5⟩ := K5.out
  have cb5 : W5.cell? ⟨b, 0, none⟩ = some (.pointer r.pt) := by rw [hj5]; exact HBP.out.cells.1
  have db5 : W5.cell? ⟨b, 1, none⟩ = some (.pointer T.pt) := by rw [hj5]; exact HBP.out.cells.2.1
  have fb5 : W5.frozen? ⟨b, 0, none⟩ = false := by rw [hj5]; exact HBP.out.fz.1
  have gb5 : W5.frozen? ⟨b, 1, none⟩ = false := by rw [hj5]; exact HBP.out.fz.2.1
  have cc5 : W5.cell? ⟨c, 0, none⟩ = some (.pointer I.pt) := by rw [hj5]; exact HCP.out.cells.1
  have dc5 : W5.cell? ⟨c, 1, none⟩ = some (.pointer O.pt) := by rw [hj5]; exact HCP.out.cells.2.1
  have fc5 : W5.frozen? ⟨c, 0, none⟩ = false := by rw [hj5]; exact HCP.out.fz.1
  have gc5 : W5.frozen? ⟨c, 1, none⟩ = false := by rw [hj5]; exact HCP.out.fz.2.1
  clear hj5
  go_wp2_with fail
  refine (bagSizesD w _ O HO.out K5.out).mono ?_
  rintro e W6 ⟨rfl, hK6⟩
  have K6 := hide hK6
  clear hK6
  obtain ⟨j6, hj6⟩ := K6.out
  have cb6 : W6.cell? ⟨b, 0, none⟩ = some (.pointer r.pt) := by rw [hj6]; exact HBP.out.cells.1
  have db6 : W6.cell? ⟨b, 1, none⟩ = some (.pointer T.pt) := by rw [hj6]; exact HBP.out.cells.2.1
  have fb6 : W6.frozen? ⟨b, 0, none⟩ = false := by rw [hj6]; exact HBP.out.fz.1
  have gb6 : W6.frozen? ⟨b, 1, none⟩ = false := by rw [hj6]; exact HBP.out.fz.2.1
  have cc6 : W6.cell? ⟨c, 0, none⟩ = some (.pointer I.pt) := by rw [hj6]; exact HCP.out.cells.1
  have dc6 : W6.cell? ⟨c, 1, none⟩ = some (.pointer O.pt) := by rw [hj6]; exact HCP.out.cells.2.1
  have fc6 : W6.frozen? ⟨c, 0, none⟩ = false := by rw [hj6]; exact HCP.out.fz.1
  have gc6 : W6.frozen? ⟨c, 1, none⟩ = false := by rw [hj6]; exact HCP.out.fz.2.1
  clear hj6
  go_wp2_with fail
  have HW : Hid (Dr w W6) := K6
  clear cb1 db1 fb1 gb1 cc1 dc1 fc1 gc1 cb2 db2 fb2 gb2 cc2 dc2 fc2 gc2 cb3 db3 fb3 gb3 cc3 dc3 fc3 gc3 cb4 db4 fb4 gb4 cc4 dc4 fc4 gc4 cb5 db5 fb5 gb5 cc5 dc5 fc5 gc5 cb6 db6 fb6 gb6 cc6 dc6 fc6 gc6 c0 c1 e0 e1
  have HROT : Hid (∀ W, Dr w W → Calls Try.prog 65 #[.pointer (some ⟨c, 0, none⟩), .int .i64 0] W fun e w' => e = .returned (.pointer (some ⟨d, 0, none⟩)) ∧ Tr w' (.node d dl (.node c dr lr y u) z v) ∧ Fr [c, d] W w') :=
    hide fun W hW => bagRotate0 W c d dl dr lr y z u v _ _ _ _ _ _ (HC.out.dr hW) (HDD.out.dr hW) (HDL.out.dr hW) (HDR.out.dr hW) (HLR.out.dr hW)
      (by have := HND.out; simp only [List.nodup_cons, List.nodup_append, List.mem_cons, List.mem_append, not_or] at this ⊢; obtain ⟨⟨h1, h2, ⟨⟨h3, h4⟩, h5⟩, h6⟩, ⟨h7, ⟨⟨h8, h9⟩, h10⟩, h11⟩, ⟨⟨⟨h12, h13⟩, h14⟩, h15⟩, ⟨⟨g1, g2, g3⟩, g4, g5⟩, g6, g7⟩ := this; exact ⟨⟨h7, ⟨h9, h10⟩, h8⟩, ⟨⟨h13, h14⟩, h12⟩, ⟨g2, g4, fun p hp q hq => g5 p (.inr hp) q hq⟩, g1, fun p hp q hq e => hp.elim (fun hp => g3 q hq p hp e.symm) (fun hp => g5 q (.inl hq) p hp e.symm)⟩)
      (by have := HS.out; omega) (by have := HD.out; omega)
  go_region_with
    (go_at_call 65
     refine (HROT.out _ (HW.out.draw _)).mono ?_
     rintro e w5 ⟨rfl, ht5, hf5⟩
     have HT5 := hide ht5
     have HF5 := hide ((HW.out.draw _).fr [c, d] |>.trans hf5)
     have hb5 := HB.out.fr HF5.out (by have := HND.out; simp only [List.nodup_cons, List.mem_cons, not_or] at this; simp [this.1.1, this.1.2.1])
     obtain ⟨c50, c51, -⟩ := hb5.cells
     obtain ⟨f50, f51, -⟩ := hb5.fz
     have HB5 := hide hb5
     clear ht5 hf5 hb5)
  all_goals
    have hf6 : Fr [b] w5 (w5.setCell ⟨b, 1, none⟩ (.pointer (some ⟨d, 0, none⟩))) := (Fr.refl [b] w5).setCell (p := ⟨b, 1, none⟩) (.inl (by simp)) _
    have hb6 := HB5.out.set1 (some ⟨d, 0, none⟩)
    have ht6 : Tr (w5.setCell ⟨b, 1, none⟩ (.pointer (some ⟨d, 0, none⟩))) (.node d dl (.node c dr lr y u) z v) := HT5.out.fr hf6 (by
      have := HND.out
      simp only [List.nodup_cons, List.mem_cons, List.mem_append, not_or] at this
      obtain ⟨⟨h1, h2, ⟨⟨h3, h4⟩, h5⟩, h6⟩, -⟩ := this
      intro q hq hm
      simp only [List.mem_cons, List.not_mem_nil, or_false] at hm
      subst hm
      simp only [BT.bl, List.mem_cons, List.mem_append] at hq
      revert hq
      simp [h1, h2, h3, h4, h5])
    have hr6 : Tr (w5.setCell ⟨b, 1, none⟩ (.pointer (some ⟨d, 0, none⟩))) r := (HR.out.fr HF5.out (by
      have := HND.out
      simp only [List.nodup_cons, List.nodup_append, List.mem_cons, List.mem_append, not_or] at this
      obtain ⟨-, ⟨-, -, h11⟩, ⟨-, h15⟩, -⟩ := this
      intro q hq hm
      simp only [List.mem_cons, List.not_mem_nil, or_false] at hm
      rcases hm with rfl | rfl
      · exact h11 hq
      · exact h15 hq)).fr hf6 (by
      have := HND.out
      simp only [List.nodup_cons, List.mem_cons, List.mem_append, not_or] at this
      obtain ⟨⟨-, -, -, h6⟩, -⟩ := this
      intro q hq hm
      simp only [List.mem_cons, List.not_mem_nil, or_false] at hm
      subst hm
      exact h6 hq)
    have HF6 := hide hf6
    have HB6 := hide hb6
    have HT6 := hide ht6
    have HR6 := hide hr6
    clear hf6 hb6 ht6 hr6 c50 c51 f50 f51
    generalize w5.setCell ⟨b, 1, none⟩ (.pointer (some ⟨d, 0, none⟩)) = w6 at *
    go_wp2_with fail
    refine (bagRotate1 w6 b d dl (.node c dr lr y u) r x z t v _ _ _ _ _ _ HB6.out HT6.out.1 HT6.out.2.1 HT6.out.2.2 HR6.out
      (HND.out.perm (List.perm_iff_count.2 fun q => by simp only [BT.bl, List.count_cons, List.count_append]; omega))
      (by have := HS.out; simp only [BT.sz]; omega) (by have := HD.out; simp only [BT.ct]; omega)).mono ?_
    rintro e w7 ⟨rfl, ht7, hf7⟩
    have HT7 := hide ht7
    have HF7 := hide hf7
    clear ht7 hf7
    go_wp2_with fail
    go_ret
    exact ⟨rfl, HT7.out, ((HF5.out.mono (by simp)).trans (HF6.out.mono (by simp))).trans (HF7.out.mono (by simp))⟩

end Go.Proofs.Ytoomcgmbaogjbaa
