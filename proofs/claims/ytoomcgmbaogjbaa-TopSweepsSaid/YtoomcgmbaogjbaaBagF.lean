/- bag: balance whole, detach. bag: join. -/
import Derived.Test.YtoomcgmbaogjbaaBagD
namespace Go.Proofs.Ytoomcgmbaogjbaa
open Go.RowKit
set_option linter.unusedVariables false

theorem BT.sz_ls : ∀ t : BT, t.sz = (t.ls.map (·.2)).sum
  | .nil => rfl
  | .node _ l r x t => by simp only [BT.sz, BT.ls, List.map_append, List.map_cons, List.sum_append, List.sum_cons, ← sz_ls l, ← sz_ls r]; omega
theorem BT.ct_ls : ∀ t : BT, t.ct = t.ls.length
  | .nil => rfl
  | .node _ l r x t => by simp only [BT.ct, BT.ls, List.length_append, List.length_cons, ← ct_ls l, ← ct_ls r]; omega

theorem bagBalance (w : World) (b : Nat) (l r : BT) (x : Int) (t : Nat) (s0 d0 h0 : Int)
    (hb : NodeAt w b l.pt r.pt x t s0 d0 h0) (hl : Tr w l) (hr : Tr w r) (nd : (b :: (l.bl ++ r.bl)).Nodup)
    (hs : t + l.sz + r.sz ≤ 1000000) (hd : 1 + l.ct + r.ct ≤ 1000000) :
    Calls Try.prog 61 #[.pointer (some ⟨b, 0, none⟩)] w fun e w' => ∃ t' : BT, e = .returned (.pointer t'.pt) ∧ Tr w' t' ∧ t'.ls = l.ls ++ (x, t) :: r.ls ∧ t'.bl.Perm (b :: (l.bl ++ r.bl)) ∧ Fr (b :: (l.bl ++ r.bl)) w w' := by
  by_cases h1 : r.ht + 1 < l.ht
  · obtain ⟨c, ll, lr, y, u, rfl⟩ := BT.ht_pos (t := l) (by omega)
    by_cases h2 : lr.ht ≤ ll.ht
    · refine (bagBalance_B1 w b c ll lr r x y t u s0 d0 h0 hb hl hr (nd.perm (List.perm_iff_count.2 fun q => by simp only [BT.bl, List.count_cons, List.count_append]; omega)) (by simp only [BT.sz] at hs; omega) (by simp only [BT.ct] at hd; omega) h1 h2).mono ?_
      rintro e w' ⟨rfl, ht, hf⟩
      exact ⟨_, rfl, ht, by simp [BT.ls], List.perm_iff_count.2 fun q => by simp only [BT.bl, List.count_cons, List.count_append]; omega, hf.mono (by simp [BT.bl])⟩
    · obtain ⟨d, dl, dr, z, v, rfl⟩ := BT.ht_pos (t := lr) (by omega)
      refine (bagBalance_B2 w b c d ll dl dr r x y z t u v s0 d0 h0 hb hl hr (nd.perm (List.perm_iff_count.2 fun q => by simp only [BT.bl, List.count_cons, List.count_append]; omega)) (by simp only [BT.sz] at hs; omega) (by simp only [BT.ct] at hd; omega) h1 (by omega)).mono ?_
      rintro e w' ⟨rfl, ht, hf⟩
      exact ⟨_, rfl, ht, by simp [BT.ls], List.perm_iff_count.2 fun q => by simp only [BT.bl, List.count_cons, List.count_append]; omega, hf.mono (by simp [BT.bl])⟩
  · by_cases h3 : l.ht + 1 < r.ht
    · obtain ⟨c, ll, lr, y, u, rfl⟩ := BT.ht_pos (t := r) (by omega)
      by_cases h2 : ll.ht ≤ lr.ht
      · refine (bagBalance_C1 w b c ll lr l x y t u s0 d0 h0 hb hr hl (nd.perm (List.perm_iff_count.2 fun q => by simp only [BT.bl, List.count_cons, List.count_append]; omega)) (by simp only [BT.sz] at hs; omega) (by simp only [BT.ct] at hd; omega) h3 h2).mono ?_
        rintro e w' ⟨rfl, ht, hf⟩
        exact ⟨_, rfl, ht, by simp [BT.ls], List.perm_iff_count.2 fun q => by simp only [BT.bl, List.count_cons, List.count_append]; omega, hf.mono (by simp [BT.bl])⟩
      · obtain ⟨d, dl, dr, z, v, rfl⟩ := BT.ht_pos (t := ll) (by omega)
        refine (bagBalance_C2 w b c d lr dl dr l x y z t u v s0 d0 h0 hb hr hl (nd.perm (List.perm_iff_count.2 fun q => by simp only [BT.bl, List.count_cons, List.count_append]; omega)) (by simp only [BT.sz] at hs; omega) (by simp only [BT.ct] at hd; omega) h3 (by omega)).mono ?_
        rintro e w' ⟨rfl, ht, hf⟩
        exact ⟨_, rfl, ht, by simp [BT.ls], List.perm_iff_count.2 fun q => by simp only [BT.bl, List.count_cons, List.count_append]; omega, hf.mono (by simp [BT.bl])⟩
    · refine (bagBalance_A w b l r x t s0 d0 h0 hb hl hr nd hs hd (by omega) (by omega)).mono ?_
      rintro e w' ⟨rfl, ht, hf⟩
      exact ⟨_, rfl, ht, rfl, List.Perm.refl _, hf.mono (by simp)⟩

set_option maxRecDepth 100000 in
set_option maxHeartbeats 8000000 in
theorem bagDetach : ∀ (l : BT) (w : World) (b : Nat) (r : BT) (x : Int) (t : Nat), Tr w (.node b l r x t) → (BT.node b l r x t).bl.Nodup → (BT.node b l r x t).sz ≤ 1000000 → (BT.node b l r x t).ct ≤ 1000000 →
    Calls Try.prog 64 #[.pointer (some ⟨b, 0, none⟩)] w fun e w' => ∃ (c : Nat) (rest : BT) (p q : Option Addr) (y : Int) (u : Nat) (s d h : Int),
      e = .returned (.tuple #[.pointer (some ⟨c, 0, none⟩), .pointer rest.pt]) ∧ NodeAt w' c p q y u s d h ∧ Tr w' rest ∧ (c :: rest.bl).Perm (BT.node b l r x t).bl ∧ (BT.node b l r x t).ls = (y, u) :: rest.ls ∧ Fr (BT.node b l r x t).bl w w'
  | .nil, w, b, r, x, t, ht, nd, hs, hd => by
    have HT := hide ht
    have HND := hide nd
    obtain ⟨c0, c1, -⟩ := ht.1.cells
    replace c0 : w.cell? ⟨b, 0, none⟩ = some (.pointer none) := c0
    clear ht nd hs hd
    go_enter Try.func64, Try.ntmps64
    go_wp2_with fail
    go_quiet (fail)
    go_wp2_with fail
    go_ret2
    have HW : Dr w (w.drewN nq) := ⟨nq, rfl⟩
    exact ⟨b, r, _, _, x, t, _, _, _, rfl, HT.out.1.dr HW, HT.out.2.2.dr HW, by simp [BT.bl], by simp [BT.ls], HW.fr _⟩
  | .node bl ll lr y u, w, b, r, x, t, ht, nd, hs, hd => by
    have HT := hide ht
    have HND := hide nd
    have hs2 : (BT.node bl ll lr y u).sz ≤ 1000000 := by rw [BT.sz] at hs; omega
    have hd2 : (BT.node bl ll lr y u).ct ≤ 1000000 := by rw [BT.ct] at hd; omega
    have hnd2 : (BT.node bl ll lr y u).bl.Nodup := (List.nodup_append.1 (List.nodup_cons.1 nd).2).1
    obtain ⟨c0, c1, -⟩ := ht.1.cells
    obtain ⟨f0, f1, -⟩ := ht.1.fz
    replace c0 : w.cell? ⟨b, 0, none⟩ = some (.pointer (some ⟨bl, 0, none⟩)) := c0
    have IH := hide fun (W : World) (hW : Dr w W) => bagDetach ll W bl lr y u (ht.2.1.dr hW) hnd2 hs2 hd2
    have HS := hide hs
    have HD := hide hd
    clear ht nd hs hd hs2 hd2 hnd2
    go_enter Try.func64, Try.ntmps64
    go_wp2_with fail
    go_region_with
      (go_at_call 64
       refine (IH.out _ ⟨_, rfl⟩).mono ?_
       rintro e w5 ⟨c, rest, p, q, z, v, s5, d5, h5, rfl, hn5, ht5, hp5, hl5, hf5⟩
       have HN5 := hide hn5
       have HT5 := hide ht5
       have HP5 := hide hp5
       have HL5 := hide hl5
       have hf5' := hf5.mono (S' := (BT.node bl ll lr y u).bl) (fun _ h => h)
       have HF5 := hide ((Dr.fr (w := w) ⟨_, rfl⟩ _).trans hf5')
       have hb5 := HT.out.1.fr HF5.out (fun hm => (List.nodup_cons.1 HND.out).1 (List.mem_append.2 (.inl hm)))
       obtain ⟨c50, c51, -⟩ := hb5.cells
       obtain ⟨f50, f51, -⟩ := hb5.fz
       have HB5 := hide hb5
       clear hn5 ht5 hp5 hl5 hf5 hf5' hb5)
    all_goals
      have hnd := HND.out
      simp only [BT.bl, List.nodup_cons, List.nodup_append, List.mem_append, not_or] at hnd
      have hP : ∀ k, k ∈ rest.bl ∨ k = c ↔ k ∈ (BT.node bl ll lr y u).bl := fun k => by rw [← HP5.out.mem_iff]; simp [or_comm]
      have hbL : b ∉ (BT.node bl ll lr y u).bl := fun hm => (List.nodup_cons.1 HND.out).1 (List.mem_append.2 (.inl hm))
      have hbR : b ∉ r.bl := fun hm => (List.nodup_cons.1 HND.out).1 (List.mem_append.2 (.inr hm))
      have hLR : ∀ k ∈ (BT.node bl ll lr y u).bl, k ∉ r.bl := fun k hk hr => (List.nodup_append.1 (List.nodup_cons.1 HND.out).2).2.2 k hk k hr rfl
      have hcb : c ≠ b := fun e => hbL ((hP b).1 (.inr e.symm))
      have hf6 : Fr [b] w5 (w5.setCell ⟨b, 0, none⟩ (.pointer rest.pt)) := (Fr.refl [b] w5).setCell (p := ⟨b, 0, none⟩) (.inl (by simp)) _
      have hb6 := HB5.out.set0 rest.pt
      have hc6 := HN5.out.fr hf6 (by simpa using hcb)
      have ht6 : Tr (w5.setCell ⟨b, 0, none⟩ (.pointer rest.pt)) rest := HT5.out.fr hf6 (fun k hk hm => by
        simp only [List.mem_cons, List.not_mem_nil, or_false] at hm
        subst hm
        exact hbL ((hP k).1 (.inl hk)))
      have hr6 : Tr (w5.setCell ⟨b, 0, none⟩ (.pointer rest.pt)) r := (HT.out.2.2.fr HF5.out (fun k hk hm => hLR k hm hk)).fr hf6 (fun k hk hm => by
        simp only [List.mem_cons, List.not_mem_nil, or_false] at hm
        subst hm
        exact hbR hk)
      have hsz : (BT.node bl ll lr y u).sz = v + rest.sz := by rw [BT.sz_ls, HL5.out, BT.sz_ls]; rfl
      have hct : (BT.node bl ll lr y u).ct = rest.ct + 1 := by rw [BT.ct_ls, HL5.out, BT.ct_ls]; rfl
      have hnr : (b :: (rest.bl ++ r.bl)).Nodup := by
        refine List.nodup_cons.2 ⟨fun hm => (List.mem_append.1 hm).elim (fun h => hbL ((hP b).1 (.inl h))) hbR, List.nodup_append.2 ⟨(List.nodup_cons.1 (HP5.out.nodup_iff.2 (List.nodup_append.1 (List.nodup_cons.1 HND.out).2).1)).2, (List.nodup_append.1 (List.nodup_cons.1 HND.out).2).2.1, fun p hp q hq e => hLR p ((hP p).1 (.inl hp)) (e ▸ hq)⟩⟩
      have hcr : c ∉ b :: (rest.bl ++ r.bl) := by
        intro hm
        rcases List.mem_cons.1 hm with h | h
        · exact hcb h
        · rcases List.mem_append.1 h with h | h
          · exact (List.nodup_cons.1 (HP5.out.nodup_iff.2 (List.nodup_append.1 (List.nodup_cons.1 HND.out).2).1)).1 h
          · exact hLR c ((hP c).1 (.inr rfl)) h
      have BAL := hide (bagBalance _ b rest r x t _ _ _ hb6 ht6 hr6 hnr (by have := HS.out; rw [BT.sz, hsz] at this; omega) (by have := HD.out; rw [BT.ct, hct] at this; omega))
      have HC6 := hide hc6
      have HF6 := hide (((HF5.out.mono (S' := (BT.node b (BT.node bl ll lr y u) r x t).bl) (fun k hk => List.mem_cons_of_mem _ (List.mem_append.2 (.inl hk)))).trans (hf6.mono (by simp [BT.bl]))))
      have HCR := hide hcr
      have HSUB := hide (fun k (hk : k ∈ b :: (rest.bl ++ r.bl)) => show k ∈ (BT.node b (BT.node bl ll lr y u) r x t).bl from by
        rcases List.mem_cons.1 hk with h | h
        · rw [h]; exact List.mem_cons_self ..
        · exact List.mem_cons_of_mem _ (List.mem_append.2 ((List.mem_append.1 h).imp (fun h => (hP k).1 (.inl h)) id)))
      clear hnd hP hbL hbR hLR hcb hf6 hb6 hc6 ht6 hr6 hsz hct hnr hcr c50 c51 f50 f51
      go_wp2_with fail
      refine BAL.out.mono ?_
      rintro e w7 ⟨t7, rfl, ht7, hl7, hp7, hf7⟩
      have HT7 := hide ht7
      have HL7 := hide hl7
      have HP7 := hide hp7
      have HF7 := hide hf7
      clear ht7 hl7 hp7 hf7
      go_wp2_with fail
      go_ret2
      refine ⟨c, t7, _, _, z, v, _, _, _, rfl, HC6.out.fr HF7.out HCR.out, HT7.out, ?_, ?_, HF6.out.trans (HF7.out.mono HSUB.out)⟩
      · refine (List.Perm.cons c HP7.out).trans ?_
        have hp := HP5.out
        refine List.perm_iff_count.2 fun k => ?_
        have hk := List.perm_iff_count.1 hp k
        simp only [BT.bl, List.count_cons, List.count_append] at hk ⊢
        omega
      · rw [HL7.out]
        show (BT.node bl ll lr y u).ls ++ (x, t) :: r.ls = _
        rw [HL5.out]
        rfl
end Go.Proofs.Ytoomcgmbaogjbaa
namespace Go.Proofs.Ytoomcgmbaogjbaa
open Go.RowKit
set_option linter.unusedVariables false

set_option maxRecDepth 100000 in
set_option maxHeartbeats 8000000 in
theorem bagJoin (w : World) (a b : BT) (ha : Tr w a) (hb : Tr w b) (nd : (a.bl ++ b.bl).Nodup) (hs : a.sz + b.sz ≤ 1000000) (hd : a.ct + b.ct ≤ 1000000) :
    Calls Try.prog 60 #[.pointer a.pt, .pointer b.pt] w fun e w' => ∃ t' : BT, e = .returned (.pointer t'.pt) ∧ Tr w' t' ∧ t'.ls = a.ls ++ b.ls ∧ t'.bl.Perm (a.bl ++ b.bl) ∧ Fr (a.bl ++ b.bl) w w' := by
  cases a with
  | nil =>
    have HB := hide hb
    show Calls _ _ #[.pointer none, .pointer b.pt] _ _
    clear ha hb nd hs hd
    go_enter Try.func60, Try.ntmps60
    go_wp2_with fail
    go_ret
    exact ⟨b, rfl, HB.out, rfl, List.Perm.refl _, Fr.refl _ _⟩
  | node ab al ar ax an =>
  cases b with
  | nil =>
    have HA := hide ha
    show Calls _ _ #[.pointer (some ⟨ab, 0, none⟩), .pointer none] _ _
    clear ha hb nd hs hd
    go_enter Try.func60, Try.ntmps60
    go_wp2_with fail
    go_ret
    exact ⟨_, rfl, HA.out, by simp [BT.ls], by simp [BT.bl], Fr.refl _ _⟩
  | node bb bl br bx bn =>
    have DET := hide (bagDetach bl w bb br bx bn hb (List.nodup_append.1 nd).2.1 (by omega) (by omega))
    have HA := hide ha
    have HND := hide nd
    have HS := hide hs
    have HD := hide hd
    show Calls _ _ #[.pointer (some ⟨ab, 0, none⟩), .pointer (some ⟨bb, 0, none⟩)] _ _
    clear ha hb nd hs hd
    go_enter Try.func60, Try.ntmps60
    go_wp2_with fail
    refine DET.out.mono ?_
    rintro e w5 ⟨c, rest, p, q, z, v, s5, d5, h5, rfl, hn5, ht5, hp5, hl5, hf5⟩
    have HN5 := hide hn5
    have HT5 := hide ht5
    have HP5 := hide hp5
    have HL5 := hide hl5
    have HF5 := hide hf5
    obtain ⟨c50, c51, -⟩ := hn5.cells
    obtain ⟨f50, f51, -⟩ := hn5.fz
    clear hn5 ht5 hp5 hl5 hf5 DET
    go_wp2_with fail
    obtain ⟨ndA, ndB, dj⟩ := List.nodup_append.1 HND.out
    have hP : ∀ k, k ∈ rest.bl ∨ k = c ↔ k ∈ (BT.node bb bl br bx bn).bl := fun k => by rw [← HP5.out.mem_iff]; simp [or_comm]
    have hcA : c ∉ (BT.node ab al ar ax an).bl := fun h => dj c h c ((hP c).1 (.inr rfl)) rfl
    have hcr : c ∉ rest.bl := (List.nodup_cons.1 (HP5.out.nodup_iff.2 ndB)).1
    have hf6 : Fr [c] w5 ((w5.setCell ⟨c, 0, none⟩ (.pointer (BT.node ab al ar ax an).pt)).setCell ⟨c, 1, none⟩ (.pointer rest.pt)) := ((Fr.refl [c] w5).setCell (p := ⟨c, 0, none⟩) (.inl (by simp)) _).setCell (p := ⟨c, 1, none⟩) (.inl (by simp)) _
    have hn6 := (HN5.out.set0 (BT.node ab al ar ax an).pt).set1 rest.pt
    have ha6 := (HA.out.fr HF5.out (fun k hk hm => dj k hk k hm rfl)).fr hf6 (fun k hk hm => by
        simp only [List.mem_cons, List.not_mem_nil, or_false] at hm
        subst hm
        exact hcA hk)
    have hr6 := HT5.out.fr hf6 (fun k hk hm => by
        simp only [List.mem_cons, List.not_mem_nil, or_false] at hm
        subst hm
        exact hcr hk)
    have hsz : (BT.node bb bl br bx bn).sz = v + rest.sz := by rw [BT.sz_ls, HL5.out, BT.sz_ls]; rfl
    have hct : (BT.node bb bl br bx bn).ct = rest.ct + 1 := by rw [BT.ct_ls, HL5.out, BT.ct_ls]; rfl
    have BAL := hide (bagBalance _ c (.node ab al ar ax an) rest z v _ _ _ hn6 ha6 hr6
      (List.nodup_cons.2 ⟨fun hm => (List.mem_append.1 hm).elim hcA hcr, List.nodup_append.2 ⟨ndA, (List.nodup_cons.1 (HP5.out.nodup_iff.2 ndB)).2, fun p hp q hq e => dj p hp q ((hP q).1 (.inl hq)) e⟩⟩)
      (by have := HS.out; rw [hsz] at this; omega) (by have := HD.out; rw [hct] at this; omega))
    have HF6 := hide ((HF5.out.mono (S' := (BT.node ab al ar ax an).bl ++ (BT.node bb bl br bx bn).bl) (fun k hk => List.mem_append.2 (.inr hk))).trans (hf6.mono (fun k hk => by
      simp only [List.mem_cons, List.not_mem_nil, or_false] at hk
      subst hk
      exact List.mem_append.2 (.inr ((hP k).1 (.inr rfl))))))
    have HSUB := hide (fun k (hk : k ∈ c :: ((BT.node ab al ar ax an).bl ++ rest.bl)) => show k ∈ (BT.node ab al ar ax an).bl ++ (BT.node bb bl br bx bn).bl from by
        rcases List.mem_cons.1 hk with h | h
        · rw [h]; exact List.mem_append.2 (.inr ((hP c).1 (.inr rfl)))
        · exact List.mem_append.2 ((List.mem_append.1 h).imp id (fun h => (hP k).1 (.inl h))))
    clear hP hcA hcr hf6 hn6 ha6 hr6 hsz hct ndA ndB dj c50 c51 f50 f51
    refine BAL.out.mono ?_
    rintro e w7 ⟨t7, rfl, ht7, hl7, hp7, hf7⟩
    have HT7 := hide ht7
    have HL7 := hide hl7
    have HP7 := hide hp7
    have HF7 := hide hf7
    clear ht7 hl7 hp7 hf7
    go_wp2_with fail
    go_ret
    refine ⟨t7, rfl, HT7.out, ?_, ?_, HF6.out.trans (HF7.out.mono HSUB.out)⟩
    · rw [HL7.out, HL5.out]
    · refine HP7.out.trans ?_
      have hp := HP5.out
      refine List.perm_iff_count.2 fun k => ?_
      have hk := List.perm_iff_count.1 hp k
      simp only [List.count_cons, List.count_append] at hk ⊢
      omega
end Go.Proofs.Ytoomcgmbaogjbaa
