/- seepageref30: New of sizes that there are. -/
import Derived.Test.YtnkkdoookhhhaaaWrapRt
namespace Go.Proofs.Ytnkkdoookhhhaaa
open Go.RowKit
set_option linter.unusedVariables false

theorem bool_infoU : (Try.prog.info? 4).map (fun i => (i.zero, i.size, i.bytes)) = some (some (.bool false), 1, 1) := by kernel_rfl
theorem heap2U (w : World) (A O : Obj) : ((w.alloc A).alloc O).heap[w.heap.size]? = some A ∧ ((w.alloc A).alloc O).heap[w.heap.size + 1]? = some O := by
  have e1 : w.heap.size + 1 = (w.alloc A).heap.size := by simp
  refine ⟨?_, ?_⟩
  · rw [Below.heap_alloc _ _ _ (by simp)]; exact heap_alloc_new w A
  · rw [e1]; exact heap_alloc_new _ O
theorem below2U (w : World) (A O : Obj) (k : Nat) : Below w.heap.size w (((w.alloc A).alloc O).drewN k) :=
  (((Below.refl _ _).alloc (Nat.le_refl _) _).alloc (by simp) _).drewN k
/-- The two new blocks of New. -/
structure RNewZ (w wx : World) (g b : Nat) (W H m : Nat) : Prop where
  hg : Blk wx g 68 #[.bool true, .int .i64 (W : Int), .int .i64 (H : Int), .slice (some ⟨b, 0, none⟩) m m]
  hh : Blk wx b 4 (arb m fun _ => false)
  fresh : w.heap.size ≤ g ∧ w.heap.size ≤ b
  bel : Below w.heap.size w wx
set_option maxRecDepth 100000 in
set_option maxHeartbeats 4000000 in
theorem r30New_ok (w : World) (W H n : Nat) (ht : torB (W : Int) (H : Int) = true) (hn : n = W * H) :
    Calls Try.prog 25 #[.int .i64 (W : Int), .int .i64 (H : Int)] w
      fun e w' => ∃ p : RLoc, e = .returned (.tuple #[.pointer (some ⟨p.g, 0, none⟩), .int .i64 0]) ∧ RT w' p W H n [] ∧ (∀ b ∈ p.bl, w.heap.size ≤ b) ∧ Below w.heap.size w w' := by
  have HI := r30Sizes (W : Int) (H : Int) w
  rw [ht] at HI
  obtain ⟨h1, h2, h3, h4, h5⟩ : 1 ≤ (W : Int) ∧ 1 ≤ (H : Int) ∧ (W : Int) ≤ 4096 ∧ (H : Int) ≤ 4096 ∧ (W : Int) * (H : Int) ≤ 4096 := by unfold torB at ht; exact of_decide_eq_true ht
  have hWH : 2 * (W : Int) * (H : Int) = ((2 * n : Nat) : Int) := by rw [hn]; push_cast; rw [Int.mul_assoc]
  have hn4 : n ≤ 4096 := by have : ((W * H : Nat) : Int) ≤ 4096 := by push_cast; exact h5
                            omega
  have hNB := hide (show (1 ≤ W ∧ W ≤ 4096) ∧ (1 ≤ H ∧ H ≤ 4096) ∧ n = W * H ∧ n ≤ 4096 from ⟨⟨by omega, by omega⟩, ⟨by omega, by omega⟩, hn, hn4⟩)
  have hm8 : 2 * n ≤ 8192 := by omega
  obtain ⟨m, hm⟩ : ∃ m, m = 2 * n := ⟨_, rfl⟩
  rw [← hm] at hWH hm8
  have HM := hide hm
  have HI2 := hide HI
  clear HI ht hn h5 hm hn4
  obtain ⟨i0, hi, hz0, hz1, hz2⟩ := info_parts bool_infoU
  have hmk := fun W => run_make_bools 65 4 i0 Try.underlying65 hi hz0 hz1 hz2 m (by omega) W
  clear hi hz0 hz1 hz2
  go_enter Try.func25, Try.ntmps25
  go_wp2_with fail
  refine HI2.out.mono ?_
  rintro e w' ⟨rfl, rfl⟩
  go_wp2_with fail
  go_ret2
  obtain ⟨b1, b2⟩ := heap2U w (.cells (arb m fun _ => false) 4) (.cells #[.bool true, .int .i64 (W : Int), .int .i64 (H : Int), .slice (some ⟨w.heap.size, 0, none⟩) m m] 68)
  obtain ⟨nW, nH, nn, nb⟩ := hNB.out
  have hm : m = 2 * n := HM.out
  subst hm
  refine ⟨⟨w.heap.size + 1, w.heap.size⟩, rfl, ⟨b2, ?_, nW, nH, nn, nb, fun e he => by simp at he⟩, fun b hb => ?_, below2U w _ _ 0⟩
  · have e0 : (fun (c : Nat) => ([] : List Nat).contains c) = fun _ => false := by funext c; simp
    rw [e0]; exact b1
  · simp only [RLoc.bl, List.mem_cons, List.not_mem_nil, or_false] at hb
    omega
end Go.Proofs.Ytnkkdoookhhhaaa
