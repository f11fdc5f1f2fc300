/- bag: Count. bag: Remove. -/
import Derived.Test.YtoomcgmbaogjbaaBagH
import Derived.Test.YtoomcgmbaogjbaaBagUR
namespace Go.Proofs.Ytoomcgmbaogjbaa
open Go.RowKit
set_option linter.unusedVariables false

theorem getL_node_lt {b : Nat} {l r : BT} {x y : Int} {n : Nat} (h : x < y) : getL x (BT.node b l r y n).ls = getL x l.ls := getL_lt x y n r.ls h l.ls
theorem Sorted.parts {b : Nat} {l r : BT} {y : Int} {n : Nat} (h : Sorted (BT.node b l r y n).ls) : Sorted l.ls ∧ (∀ a ∈ l.ls, a.1 < y) ∧ Sorted r.ls := by
  unfold Sorted at h
  rw [BT.ls, List.pairwise_append] at h
  exact ⟨h.1, fun a ha => h.2.2 a ha _ (List.mem_cons_self ..), (List.pairwise_cons.1 h.2.1).2⟩
theorem getL_node_gt {b : Nat} {l r : BT} {x y : Int} {n : Nat} (so : Sorted (BT.node b l r y n).ls) (h : y < x) : getL x (BT.node b l r y n).ls = getL x r.ls := by
  rw [BT.ls, getL_ge x _ l.ls (fun a ha => Int.lt_trans (so.parts.2.1 a ha) h), getL, if_neg (by omega), if_neg (by omega)]
theorem getL_node_eq {b : Nat} {l r : BT} {x : Int} {n : Nat} (so : Sorted (BT.node b l r x n).ls) : getL x (BT.node b l r x n).ls = n := by
  rw [BT.ls, getL_ge x _ l.ls so.parts.2.1, getL, if_neg (by omega), if_pos rfl]

set_option maxRecDepth 100000 in
set_option maxHeartbeats 8000000 in
theorem bagCount (w : World) (g : Nat) (t : BT) (x : Int) (h : Bg w g t) : Calls Try.prog 62 #[.pointer (some ⟨g, 0, none⟩), .int .i64 x] w fun e w' => e = .returned (.int .i64 (getL x t.ls : Int)) ∧ w = w' := by
  have HV := hide (bagTree w g t h)
  have HT := hide h.tr
  have HS := hide h.so
  have hcc : ∃ c, c = getL x t.ls := ⟨_, rfl⟩
  obtain ⟨C, hC⟩ := hcc
  obtain ⟨M, hM⟩ : ∃ M, M = t.ct := ⟨_, rfl⟩
  obtain ⟨tp, htp⟩ : ∃ tp, tp = t.pt := ⟨_, rfl⟩
  rw [← htp] at HV
  rw [← hC]
  have H0 : Hid (∃ sub : BT, M = sub.ct ∧ tp = sub.pt ∧ Tr w sub ∧ Sorted sub.ls ∧ getL x sub.ls = C) := hide ⟨t, hM, htp, HT.out, HS.out, hC.symm⟩
  clear h HT HS hC hM htp
  go_enter Try.func62, Try.ntmps62
  go_wp2_with fail
  refine HV.out.mono ?_
  rintro e w1 ⟨rfl, rfl⟩
  clear HV
  go_wp2_with fail
  go_loopg [5] M (fun gh s wr => ∃ sub : BT, gh = sub.ct ∧ s = .pointer sub.pt ∧ Tr wr sub ∧ Sorted sub.ls ∧ getL x sub.ls = C ∧ w = wr)
  case atStart => obtain ⟨sub, h1, h2, h3, h4, h5⟩ := H0.out; exact ⟨sub, h1, by rw [h2], h3, h4, h5, rfl⟩
  case round =>
    obtain ⟨sub, rfl, rfl, htr, hso, hg, rfl⟩ := hrel
    have HG := hide hg
    clear hg H0
    cases sub with
    | nil =>
      have hz : C = 0 := by rw [← HG.out]; rfl
      subst hz
      clear htr hso HG
      simp only [BT.pt]
      go_wp2_with fail
      go_ret
      exact ⟨rfl, rfl⟩
    | node b l r y n =>
      obtain ⟨c0, c1, c2, c3, -⟩ := htr.1.cells
      have HTR := hide htr
      have HSO := hide hso
      clear htr hso
      simp only [BT.pt]
      rcases Int.lt_trichotomy x y with hxy | hxy | hxy
      · go_wp2_with fail
        go_roundg l.ct
        case measure => simp only [BT.ct]; omega
        case rel => exact ⟨l, rfl, rfl, HTR.out.2.1, HSO.out.parts.1, by rw [← HG.out, getL_node_lt hxy], rfl⟩
      · subst hxy
        have hz : C = n := by rw [← HG.out]; exact getL_node_eq HSO.out
        subst hz
        clear HG
        go_wp2_with fail
        go_ret
        exact ⟨rfl, rfl⟩
      · go_wp2_with fail
        go_roundg r.ct
        case measure => simp only [BT.ct]; omega
        case rel => exact ⟨r, rfl, rfl, HTR.out.2.2, HSO.out.parts.2.2, by rw [← HG.out, getL_node_gt HSO.out hxy], rfl⟩
end Go.Proofs.Ytoomcgmbaogjbaa
namespace Go.Proofs.Ytoomcgmbaogjbaa
open Go.RowKit
set_option linter.unusedVariables false

theorem getL_le (x : Int) : ∀ L : List (Int × Nat), getL x L ≤ (L.map (·.2)).sum
  | [] => Nat.zero_le _
  | (y, k) :: L => by
    have := getL_le x L
    simp only [getL, List.map_cons, List.sum_cons]
    split
    · omega
    · split <;> omega

set_option maxRecDepth 100000 in
set_option maxHeartbeats 8000000 in
theorem bagRemove (w : World) (g : Nat) (t : BT) (x : Int) (h : Bg w g t) (hx : 1 ≤ getL x t.ls) (hs : t.sz + 1 ≤ 1000000) (hd : t.ct + 1 ≤ 1000000) :
    Calls Try.prog 51 #[.pointer (some ⟨g, 0, none⟩), .int .i64 x, .int .i64 1] w fun e w' => e = .returned (.int .i64 0) ∧
      ∃ t' : BT, Bg w' g t' ∧ t'.ls = bupd x (fun k => k - 1) t.ls ∧ (∀ b ∈ t'.bl, b ∈ t.bl ∨ w.heap.size ≤ b) ∧ Fr (g :: t.bl) w w' := by
  have hf1 : Fr [] w (w.alloc (.cells #[.int .i64 1] 3)) := (Fr.refl [] w).alloc _
  have h1 := h.fr hf1 (by simp) (by simp)
  have hx1 : Blk (w.alloc (.cells #[.int .i64 1] 3)) w.heap.size 3 #[.int .i64 1] := Blk.new _ _ _
  have hz1 : (w.alloc (.cells #[.int .i64 1] 3)).heap.size = w.heap.size + 1 := by simp
  have HZ1 := hide hz1
  have HX := hide hx
  have hgz : getL x t.ls ≤ 1000000 := Nat.le_trans (getL_le x t.ls) (by rw [← BT.sz_ls]; omega)
  have hcg : decide ((getL x t.ls : Int) < 1) = false := decide_eq_false (by omega)
  have HF1 := hide hf1
  have H1 := hide h1
  have HX1 := hide hx1
  have HS := hide hs
  have HD := hide hd
  have hsb : t.sz ≤ 1000000 := by omega
  have c0 : (w.alloc (.cells #[.int .i64 1] 3)).cell? ⟨w.heap.size, 0, none⟩ = some (.int .i64 1) := (hx1.cell 0).trans rfl
  clear h hf1 h1 hx1 hs hd hz1 hx
  go_enter Try.func51, Try.ntmps51
  go_wp2_with fail
  generalize w.alloc (.cells #[.int .i64 1] 3) = w1 at *
  generalize hbx : w.heap.size = bx at *
  have HBX := hide hbx
  clear hbx
  refine (bagValid _ g t H1.out).mono ?_
  rintro e _ ⟨rfl, rfl⟩
  go_wp2_with fail
  go_quiet ((go_at_call 62; exact quiet_any1 (quiet_eq (bagCount _ g t x (H1.out.dr ⟨_, rfl⟩)))))
  have HW : Hid (Dr w1 (w1.drewN nq)) := hide ⟨nq, rfl⟩
  generalize w1.drewN nq = w2 at *
  have H2 := hide (H1.out.dr HW.out)
  have hx2 := HX1.out.fr (HW.out.fr []) (by simp)
  have c1 := H2.out.c1
  have g1 := H2.out.blk.frozen 1
  have HUP := hide (bagUpdateR bx 1 (fun k => k - 1) (fun k => 1 ≤ k) (fun W k hp hk hc => bagRemF bx 1 (by omega) W k hk hp hc) (fun k => by omega) t w2 x H2.out.tr H2.out.nd H2.out.so HS.out HD.out ((hx2.cell 0).trans rfl) (H2.out.tr.far hx2 (by decide)) HX.out)
  clear c0 hx2
  go_wp2_with fail
  refine HUP.out.mono ?_
  rintro e w3 ⟨t3, rfl, ht3, hl3, hn3, hb3, hf3⟩
  have hbk3 := H2.out.blk.fr hf3 (fun hm => H2.out.gt hm)
  have c31 := (hbk3.cell 1).trans rfl
  have g31 := hbk3.frozen 1
  have HBK3 := hide hbk3
  have HT3 := hide ht3
  have HL3 := hide hl3
  have HN3 := hide hn3
  have HB3 := hide hb3
  have HF3 := hide hf3
  clear hbk3 ht3 hl3 hn3 hb3 hf3 HUP c1 g1
  go_wp2_with fail
  go_ret
  have hw12 : w2.heap.size = w1.heap.size := by obtain ⟨k, hk⟩ := HW.out; rw [hk]; rfl
  have hg4 : Fr [g] w3 (w3.setCell ⟨g, 1, none⟩ (.pointer t3.pt)) := (Fr.refl [g] w3).setCell (p := ⟨g, 1, none⟩) (.inl (by simp)) _
  have hgt3 : g ∉ t3.bl := HT3.out.far HBK3.out (by decide)
  refine ⟨rfl, t3, ⟨HBK3.out.set_ 1 (.pointer t3.pt), HT3.out.fr hg4 (fun k hk hm => by simp only [List.mem_cons, List.not_mem_nil, or_false] at hm; subst hm; exact hgt3 hk), HN3.out, ?_⟩, HL3.out, ?_, ?_⟩
  · rw [HL3.out]
    exact bupd_sorted x _ H2.out.so
  · intro b hb
    refine (HB3.out b hb).imp id fun h => ?_
    have := HZ1.out
    have := HBX.out
    omega
  · exact ((HF1.out.mono (S' := g :: t.bl) (by simp)).trans ((HW.out.fr _).trans (HF3.out.mono (fun k hk => List.mem_cons_of_mem _ hk)))).trans (hg4.mono (by simp))
end Go.Proofs.Ytoomcgmbaogjbaa
