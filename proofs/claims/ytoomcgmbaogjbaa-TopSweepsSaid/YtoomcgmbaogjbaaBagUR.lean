/- bag: update, by the closure of Remove. -/
import Derived.Test.YtoomcgmbaogjbaaBagG
namespace Go.Proofs.Ytoomcgmbaogjbaa
open Go.RowKit
set_option linter.unusedVariables false

set_option maxRecDepth 100000 in
set_option maxHeartbeats 8000000 in
theorem bagUpdateR (bx : Nat) (m : Int) (g : Nat → Nat)
    (P : Nat → Prop) (hF : ∀ (W : World) (k : Nat), P k → k ≤ 1000000 → W.cell? ⟨bx, 0, none⟩ = some (.int .i64 m) → Calls Try.prog 63 #[.int .i64 (k : Int), .pointer (some ⟨bx, 0, none⟩)] W fun e w' => e = .returned (.int .i64 (g k : Int)) ∧ Dr W w')
    (hg : ∀ k, g k ≤ k + 1) : ∀ (t : BT) (w : World) (x : Int), Tr w t → t.bl.Nodup → Sorted t.ls → t.sz + 1 ≤ 1000000 → t.ct + 1 ≤ 1000000 → w.cell? ⟨bx, 0, none⟩ = some (.int .i64 m) → bx ∉ t.bl → P (getL x t.ls) →
    Calls Try.prog 48 #[.pointer t.pt, .int .i64 x, .func (.func 63) #[] #[.pointer (some ⟨bx, 0, none⟩)]] w fun e w' => ∃ t' : BT, e = .returned (.pointer t'.pt) ∧ Tr w' t' ∧ t'.ls = bupd x g t.ls ∧ t'.bl.Nodup ∧
      (∀ b ∈ t'.bl, b ∈ t.bl ∨ w.heap.size ≤ b) ∧ Fr t.bl w w'
  | .nil, w, x, ht, nd, so, hs, hd, hm, hb, hp => by
    show Calls _ _ #[.pointer none, .int .i64 x, .func (.func 63) #[] #[.pointer (some ⟨bx, 0, none⟩)]] _ _
    have HF0 := hide (hF w 0 hp (by omega) hm)
    clear ht nd so hs hd hp
    by_cases h0 : g 0 = 0
    · have HG := hide h0
      rw [h0] at HF0
      clear hF h0 hg
      go_enter Try.func48, Try.ntmps48
      go_wp2_with fail
      refine HF0.out.mono ?_
      rintro e w1 ⟨rfl, hw⟩
      have HW := hide hw
      clear hw
      go_wp2_with fail
      go_ret
      exact ⟨.nil, rfl, trivial, by simp [bupd, BT.ls, HG.out], by simp [BT.bl], by simp [BT.bl], HW.out.fr _⟩
    · have HG := hide h0
      have h1 := hg 0
      have h2 : ((g 0 : Int) == 0) = false := by simp; omega
      clear hF hg
      go_enter Try.func48, Try.ntmps48
      go_wp2_with fail
      refine HF0.out.mono ?_
      rintro e w1 ⟨rfl, hw⟩
      have HW := hide hw
      clear hw
      generalize hG : g 0 = G at *
      go_wp2_with fail
      have hn : NodeAt (w1.alloc (.cells #[.pointer none, .pointer none, .int .i64 x, .int .i64 (G : Int), .int .i64 0, .int .i64 0, .int .i64 0] 101)) w1.heap.size BT.nil.pt BT.nil.pt x G 0 0 0 := Blk.new _ _ _
      have RF := hide (bagRefresh _ w1.heap.size .nil .nil x G 0 0 0 hn trivial trivial (by simp [BT.bl]) (by simp [BT.bl]) (by simp only [BT.sz]; omega) (by simp only [BT.ct]; omega))
      have hf1 : Fr [] w (w1.alloc (.cells #[.pointer none, .pointer none, .int .i64 x, .int .i64 (G : Int), .int .i64 0, .int .i64 0, .int .i64 0] 101)) := (HW.out.fr []).alloc _
      have HF1 := hide hf1
      have HSZ := hide (show w1.heap.size = w.heap.size from by obtain ⟨k, hk⟩ := HW.out; rw [hk]; rfl)
      clear hn hf1
      refine RF.out.mono ?_
      rintro e w3 ⟨⟨v, rfl⟩, ht3, hf3⟩
      have HT3 := hide ht3
      have HF3 := hide hf3
      clear ht3 hf3 RF
      go_wp2_with fail
      go_ret
      exact ⟨.node w1.heap.size .nil .nil x G, rfl, HT3.out, by simp [bupd, BT.ls, hG, HG.out], by simp [BT.bl], by simp [BT.bl, HSZ.out], HF1.out.trans_new HF3.out (by simp [HSZ.out])⟩
  | .node b l r y n, w, x, ht, nd, so, hs, hd, hm, hb, hp => by
    have hss : Sorted l.ls ∧ (∀ a ∈ l.ls, a.1 < y) ∧ Sorted r.ls := by
      have := so
      unfold Sorted at this
      rw [BT.ls, List.pairwise_append] at this
      exact ⟨this.1, fun a ha => this.2.2 a ha _ (List.mem_cons_self ..), (List.pairwise_cons.1 this.2.1).2⟩
    obtain ⟨sl, sy, sr⟩ := hss
    obtain ⟨ndb, ndlr⟩ := List.nodup_cons.1 nd
    obtain ⟨ndl, ndr, dj⟩ := List.nodup_append.1 ndlr
    have hbl : b ∉ l.bl := fun h => ndb (List.mem_append.2 (.inl h))
    have hbr : b ∉ r.bl := fun h => ndb (List.mem_append.2 (.inr h))
    have hbx : bx ≠ b := fun e => hb (by rw [e]; exact List.mem_cons_self ..)
    have hbxl : bx ∉ l.bl := fun h => hb (List.mem_cons_of_mem _ (List.mem_append.2 (.inl h)))
    have hbxr : bx ∉ r.bl := fun h => hb (List.mem_cons_of_mem _ (List.mem_append.2 (.inr h)))
    rw [BT.sz] at hs
    rw [BT.ct] at hd
    show Calls _ _ #[.pointer (some ⟨b, 0, none⟩), .int .i64 x, .func (.func 63) #[] #[.pointer (some ⟨bx, 0, none⟩)]] _ _
    obtain ⟨c0, c1, c2, c3, -⟩ := ht.1.cells
    obtain ⟨f0, f1, f2, f3, -⟩ := ht.1.fz
    have HT := hide ht
    rcases Int.lt_trichotomy x y with hxy | hxy | hxy
    · have IH := hide fun (W : World) (hW : Dr w W) => bagUpdateR bx m g P hF hg l W x (ht.2.1.dr hW) ndl sl (by omega) (by omega) (by obtain ⟨k, rfl⟩ := hW; exact hm) hbxl (by rw [BT.ls, getL_lt x y n r.ls hxy l.ls] at hp; exact hp)
      have FIN := hide fun (w5 : World) (t5 : BT) => bagUpd_left w w5 b l r t5 x y n g ht nd so hxy hg hs hd
      have HBL := hide hbl
      clear hp ht nd so hs hd hm hb sl sy sr ndb ndlr ndl ndr dj hbl hbr hbx hbxl hbxr hF
      go_enter Try.func48, Try.ntmps48
      go_wp2_with fail
      go_region_with
        (go_at_call 48
         refine (IH.out _ ⟨_, rfl⟩).mono ?_
         rintro e w5 ⟨t5, rfl, ht5, hl5, hn5, hb5, hf5⟩
         have hf5' := (Dr.fr (w := w) ⟨_, rfl⟩ _).trans hf5
         have HQ := hide (FIN.out w5 t5 ht5 hl5 hn5 hb5 hf5')
         have hq5 := HT.out.1.fr hf5' HBL.out
         obtain ⟨c50, c51, -⟩ := hq5.cells
         obtain ⟨f50, f51, -⟩ := hq5.fz
         clear ht5 hl5 hn5 hb5 hf5 hf5' hq5)
      all_goals
        clear c50 c51 f50 f51
        go_wp2_with fail
        refine HQ.out.mono ?_
        rintro e w7 ⟨t7, rfl, h7⟩
        have H7 := hide h7
        clear h7
        go_wp2_with fail
        go_ret
        exact ⟨t7, rfl, H7.out⟩
    · subst hxy
      have hp' : P n := by rw [BT.ls, getL_ge x _ l.ls sy, getL, if_neg (by omega), if_pos rfl] at hp; exact hp
      have HF0 := hide fun (W : World) (k : Nat) (hk : k = n) => hF W k (by rw [hk]; exact hp')
      have HN := hide (show n ≤ 1000000 by omega)
      have HM := hide hm
      by_cases h0 : g n = 0
      · have FIN := hide fun (w5 : World) (hw : Dr w w5) (k : Nat) => bagUpd_out w w5 b l r x n g ht nd so hs hd hw h0 k
        have H0 := hide h0
        clear hp hp' ht nd so hs hd hm hb sl sy sr ndb ndlr ndl ndr dj hbl hbr hbx hbxl hbxr hF h0
        go_enter Try.func48, Try.ntmps48
        go_wp2_with fail
        refine (HF0.out _ n rfl HN.out HM.out).mono ?_
        rintro e w5 ⟨rfl, hw⟩
        have HW := hide hw
        have hq5 := HT.out.1.dr hw
        obtain ⟨c50, c51, c52, c53, -⟩ := hq5.cells
        obtain ⟨f50, f51, f52, f53, -⟩ := hq5.fz
        have h0 := H0.out
        clear hw hq5
        rw [h0] at FIN
        rw [h0]
        clear h0
        go_wp2_with fail
        have hq6 := (HT.out.1.dr HW.out).set3 0
        have FIN1 : Hid _ := hide (FIN.out w5 HW.out 1)
        have hz : ((0 : Nat) : Int) = 0 := rfl
        rw [hz] at FIN1 hq6
        obtain ⟨c60, c61, c62, c63, -⟩ := hq6.cells
        clear c50 c51 c52 c53 f50 f51 f52 f53 c0 c1 c2 c3 f0 f1 f2 f3 hz FIN hq6
        generalize w5.setCell ⟨b, 3, none⟩ (.int .i64 0) = w6 at *
        go_still_tail 10, (by kernel_rfl)
        change wpList _ _ _ _ _ (w6.drewN 1)
        generalize w6.drewN 1 = w7 at *
        go_wp2_with fail
        refine FIN1.out.mono ?_
        rintro e w8 ⟨t7, rfl, h7⟩
        have H7 := hide h7
        clear h7
        go_wp2_with fail
        go_ret
        exact ⟨t7, rfl, H7.out⟩
      · have FIN := hide fun (w5 : World) (hw : Dr w w5) => bagUpd_at w w5 b l r x n g ht nd so hg hs hd hw h0
        have h1 := hg n
        have h2 : ((g n : Int) == 0) = false := by simp; omega
        clear hp hp' ht nd so hs hd hm hb sl sy sr ndb ndlr ndl ndr dj hbl hbr hbx hbxl hbxr hF
        go_enter Try.func48, Try.ntmps48
        go_wp2_with fail
        refine (HF0.out _ n rfl HN.out HM.out).mono ?_
        rintro e w5 ⟨rfl, hw⟩
        have HW := hide hw
        have hq5 := HT.out.1.dr hw
        obtain ⟨c50, c51, c52, c53, -⟩ := hq5.cells
        obtain ⟨f50, f51, f52, f53, -⟩ := hq5.fz
        have FIN1 := hide (FIN.out w5 hw)
        generalize g n = G at *
        clear hw hq5 c0 c1 c2 c3 f0 f1 f2 f3
        go_wp2_with fail
        refine FIN1.out.mono ?_
        rintro e w7 ⟨t7, rfl, h7⟩
        have H7 := hide h7
        clear h7
        go_wp2_with fail
        go_ret
        exact ⟨t7, rfl, H7.out⟩
    · have IH := hide fun (W : World) (hW : Dr w W) => bagUpdateR bx m g P hF hg r W x (ht.2.2.dr hW) ndr sr (by omega) (by omega) (by obtain ⟨k, rfl⟩ := hW; exact hm) hbxr (by rw [BT.ls, getL_ge x _ l.ls (fun a ha => Int.lt_trans (sy a ha) hxy), getL, if_neg (by omega), if_neg (by omega)] at hp; exact hp)
      have FIN := hide fun (w5 : World) (t5 : BT) => bagUpd_right w w5 b l r t5 x y n g ht nd so hxy hg hs hd
      have HBL := hide hbr
      clear hp ht nd so hs hd hm hb sl sy sr ndb ndlr ndl ndr dj hbl hbr hbx hbxl hbxr hF
      go_enter Try.func48, Try.ntmps48
      go_wp2_with fail
      go_region_with
        (go_at_call 48
         refine (IH.out _ ⟨_, rfl⟩).mono ?_
         rintro e w5 ⟨t5, rfl, ht5, hl5, hn5, hb5, hf5⟩
         have hf5' := (Dr.fr (w := w) ⟨_, rfl⟩ _).trans hf5
         have HQ := hide (FIN.out w5 t5 ht5 hl5 hn5 hb5 hf5')
         have hq5 := HT.out.1.fr hf5' HBL.out
         obtain ⟨c50, c51, -⟩ := hq5.cells
         obtain ⟨f50, f51, -⟩ := hq5.fz
         clear ht5 hl5 hn5 hb5 hf5 hf5' hq5)
      all_goals
        clear c50 c51 f50 f51
        go_wp2_with fail
        refine HQ.out.mono ?_
        rintro e w7 ⟨t7, rfl, h7⟩
        have H7 := hide h7
        clear h7
        go_wp2_with fail
        go_ret
        exact ⟨t7, rfl, H7.out⟩
end Go.Proofs.Ytoomcgmbaogjbaa
