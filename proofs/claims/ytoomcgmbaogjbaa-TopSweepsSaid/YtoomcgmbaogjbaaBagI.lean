/- bag: Add. -/
import Derived.Test.YtoomcgmbaogjbaaBagH
import Derived.Test.YtoomcgmbaogjbaaBagUA
namespace Go.Proofs.Ytoomcgmbaogjbaa
open Go.RowKit
set_option linter.unusedVariables false

set_option maxRecDepth 100000 in
set_option maxHeartbeats 8000000 in
theorem bagAdd (w : World) (g : Nat) (t : BT) (x : Int) (h : Bg w g t) (hs : t.sz + 1 ≤ 1000000) (hd : t.ct + 1 ≤ 1000000) :
    Calls Try.prog 38 #[.pointer (some ⟨g, 0, none⟩), .int .i64 x, .int .i64 1] w fun e w' => e = .returned (.int .i64 0) ∧
      ∃ t' : BT, Bg w' g t' ∧ t'.ls = bupd x (fun k => k + 1) t.ls ∧ (∀ b ∈ t'.bl, b ∈ t.bl ∨ w.heap.size ≤ b) ∧ Fr (g :: t.bl) w w' := by
  have hf1 : Fr [] w (w.alloc (.cells #[.int .i64 1] 3)) := (Fr.refl [] w).alloc _
  have h1 := h.fr hf1 (by simp) (by simp)
  have hx1 : Blk (w.alloc (.cells #[.int .i64 1] 3)) w.heap.size 3 #[.int .i64 1] := Blk.new _ _ _
  have hz1 : (w.alloc (.cells #[.int .i64 1] 3)).heap.size = w.heap.size + 1 := by simp
  have HZ1 := hide hz1
  have HF1 := hide hf1
  have H1 := hide h1
  have HX1 := hide hx1
  have HS := hide hs
  have HD := hide hd
  have hsb : t.sz ≤ 1000000 := by omega
  have c0 : (w.alloc (.cells #[.int .i64 1] 3)).cell? ⟨w.heap.size, 0, none⟩ = some (.int .i64 1) := (hx1.cell 0).trans rfl
  clear h hf1 h1 hx1 hs hd hz1
  go_enter Try.func38, Try.ntmps38
  go_wp2_with fail
  generalize w.alloc (.cells #[.int .i64 1] 3) = w1 at *
  generalize hbx : w.heap.size = bx at *
  have HBX := hide hbx
  clear hbx
  refine (bagValid _ g t H1.out).mono ?_
  rintro e _ ⟨rfl, rfl⟩
  go_wp2_with fail
  go_quiet ((go_at_call 47; exact quiet_any1 (bagSize _ g t (H1.out.dr ⟨_, rfl⟩))))
  have HW : Hid (Dr w1 (w1.drewN nq)) := hide ⟨nq, rfl⟩
  generalize w1.drewN nq = w2 at *
  have H2 := hide (H1.out.dr HW.out)
  have hx2 := HX1.out.fr (HW.out.fr []) (by simp)
  have c1 := H2.out.c1
  have g1 := H2.out.blk.frozen 1
  have HUP := hide (bagUpdateA bx 1 (fun k => k + 1) (fun _ => True) (fun W k _ hk hc => bagAddF bx 1 (by omega) W k hk hc) (fun k => Nat.le_refl _) t w2 x H2.out.tr H2.out.nd H2.out.so HS.out HD.out ((hx2.cell 0).trans rfl) (H2.out.tr.far hx2 (by decide)) trivial)
  clear c0 hx2
  go_wp2_with fail
  refine HUP.out.mono ?_
  rintro e w3 ⟨t3, rfl, ht3, hl3, hn3, hb3, hf3⟩
  have hbk3 := H2.out.blk.fr hf3 (fun hm => H2.out.gt hm)
  have c31 := (hbk3.cell 1).trans rfl
  have g31 := hbk3.frozen 1
  have HBK3 := hide hbk3
  have HT3 := hide ht3
  have HL3 := hide hl3
  have HN3 := hide hn3
  have HB3 := hide hb3
  have HF3 := hide hf3
  clear hbk3 ht3 hl3 hn3 hb3 hf3 HUP c1 g1
  go_wp2_with fail
  go_ret
  have hw12 : w2.heap.size = w1.heap.size := by obtain ⟨k, hk⟩ := HW.out; rw [hk]; rfl
  have hg4 : Fr [g] w3 (w3.setCell ⟨g, 1, none⟩ (.pointer t3.pt)) := (Fr.refl [g] w3).setCell (p := ⟨g, 1, none⟩) (.inl (by simp)) _
  have hgt3 : g ∉ t3.bl := HT3.out.far HBK3.out (by decide)
  refine ⟨rfl, t3, ⟨HBK3.out.set_ 1 (.pointer t3.pt), HT3.out.fr hg4 (fun k hk hm => by simp only [List.mem_cons, List.not_mem_nil, or_false] at hm; subst hm; exact hgt3 hk), HN3.out, ?_⟩, HL3.out, ?_, ?_⟩
  · rw [HL3.out]
    exact bupd_sorted x _ H2.out.so
  · intro b hb
    refine (HB3.out b hb).imp id fun h => ?_
    have := HZ1.out
    have := HBX.out
    omega
  · exact ((HF1.out.mono (S' := g :: t.bl) (by simp)).trans ((HW.out.fr _).trans (HF3.out.mono (fun k hk => List.mem_cons_of_mem _ hk)))).trans (hg4.mono (by simp))
end Go.Proofs.Ytoomcgmbaogjbaa
