/- tally: Union, whole. -/
import Derived.Test.YtoomcgmbaogjbaaTalB
namespace Go.Proofs.Ytoomcgmbaogjbaa
open Go.RowKit
set_option linter.unusedVariables false

set_option maxRecDepth 100000 in
set_option maxHeartbeats 8000000 in
theorem tlyUnion_eq (w : World) (q : TL) (t : BT) (n : Nat) (L f : Nat → Nat) (h : Tly w q t n L f) (a b : Nat) (ha : a < n) (hb : b < n) (he : L a = L b) :
    Calls Try.prog 40 #[.pointer (some ⟨q.g, 0, none⟩), .int .i64 (a : Int), .int .i64 (b : Int)] w fun e w' => (∃ v, e = .returned v) ∧
      Tly w' q t n L f ∧ Fr (q.S t) w w' := by
  have HV := hide (tlyValid w q t n L f h)
  have H := hide h
  have H0 := hide h.to0
  have HD := hide h.dsu
  have c1 := h.c1
  have e1 : leastV n L (a : Int) = (L a : Int) := by simp [leastV, inB_nat ha]
  have e2 : leastE n (a : Int) = 0 := by simp [leastE, inB_nat ha]
  have e3 : leastV n L (b : Int) = (L b : Int) := by simp [leastV, inB_nat hb]
  have e4 : leastE n (b : Int) = 0 := by simp [leastE, inB_nat hb]
  have HL1 := hide fun (W : World) (hW : Dsu W q.p n L) => dsuLeast W a q.p n L hW
  have HL2 := hide fun (W : World) (hW : Dsu W q.p n L) => dsuLeast W b q.p n L hW
  rw [e1, e2] at HL1
  rw [e3, e4, ← he] at HL2
  have hla := h.dsu.lab.lt ha
  have hnb := h.nb
  clear h ha hb e1 e2 e3 e4 he
  have hx100 : L a ≤ 100 := by omega
  generalize L a = x at *
  go_enter Try.func40, Try.ntmps40
  go_wp2_with fail
  refine HV.out.mono ?_
  rintro e w1 ⟨rfl, rfl⟩
  clear HV
  go_wp2_with fail
  refine (HL1.out _ HD.out).mono ?_
  rintro e w1 ⟨rfl, hd, hf⟩
  have hf1 := hf.mono (S' := [q.p.g, q.p.bu, q.p.bl, q.p.bz]) (by simp)
  have H1 := hide (H0.out.dsuFr HD.out hf1)
  have HD1 := hide hd
  have HF1 := hide (hf1.mono (S' := q.S t) (by simp [TL.S]))
  clear hd hf hf1 c1
  have c1 := H1.out.c1
  go_wp2_with fail
  refine (HL2.out _ HD1.out).mono ?_
  rintro e w2 ⟨rfl, hd, hf⟩
  have hf2 := hf.mono (S' := [q.p.g, q.p.bu, q.p.bl, q.p.bz]) (by simp)
  have H2 := hide (H1.out.dsuFr HD1.out hf2)
  have HD2 := hide hd
  have HF2 := hide (HF1.out.trans (hf2.mono (S' := q.S t) (by simp [TL.S])))
  clear hd hf hf2 c1
  go_wp2_with fail
  go_ret2
  exact ⟨⟨_, rfl⟩, ⟨H2.out.blk, H2.out.row, H.out.wt, HD2.out, H2.out.bag, H.out.rep, H.out.nb⟩, HF2.out⟩

theorem tlyUnion (w : World) (q : TL) (t : BT) (n : Nat) (L f : Nat → Nat) (h : Tly w q t n L f) (a b : Nat) (ha : a < n) (hb : b < n) :
    Calls Try.prog 40 #[.pointer (some ⟨q.g, 0, none⟩), .int .i64 (a : Int), .int .i64 (b : Int)] w fun e w' => (∃ v, e = .returned v) ∧
      ∃ (t' : BT) (f' : Nat → Nat), Tly w' q t' n (unionL n L a b) f' ∧ (∀ k ∈ t'.bl, k ∈ t.bl ∨ w.heap.size ≤ k) ∧ Fr (q.S t) w w' := by
  have hU : unionL n L (a : Int) (b : Int) = merge L (L a) (L b) := by simp [unionL, inB_nat ha, inB_nat hb]
  rw [hU]
  rcases Nat.lt_trichotomy (L a) (L b) with hlt | he | hlt
  · exact tlyUnion_lt w q t n L f h a b ha hb hlt
  · refine (tlyUnion_eq w q t n L f h a b ha hb he).mono ?_
    rintro e w' ⟨hv, ht, hf⟩
    rw [he, merge_self]
    exact ⟨hv, t, f, ht, fun k hk => .inl hk, hf⟩
  · exact tlyUnion_gt w q t n L f h a b ha hb hlt
end Go.Proofs.Ytoomcgmbaogjbaa
