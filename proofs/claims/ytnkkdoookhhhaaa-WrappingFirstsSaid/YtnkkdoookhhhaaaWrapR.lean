/- seepageref30: a torus of the document in memory; ends. -/
import Derived.Test.YtnkkdoookhhhaaaWrapK
import Derived.Test.YtnkkdoookhhhaaaWrapU
namespace Go.Proofs.Ytnkkdoookhhhaaa
open Go.RowKit
set_option linter.unusedVariables false

structure RLoc where
  g : Nat
  b : Nat
def RLoc.bl (p : RLoc) : List Nat := [p.g, p.b]
/-- A torus of the document in memory. -/
structure RT (w : World) (p : RLoc) (W H n : Nat) (E : List Nat) : Prop where
  hg : Blk w p.g 68 #[.bool true, .int .i64 (W : Int), .int .i64 (H : Int), .slice (some ⟨p.b, 0, none⟩) (2 * n) (2 * n)]
  hh : Blk w p.b 4 (arb (2 * n) fun c => E.contains c)
  nW : 1 ≤ W ∧ W ≤ 4096
  nH : 1 ≤ H ∧ H ≤ 4096
  nn : n = W * H
  nb : n ≤ 4096
  ie : ∀ e ∈ E, e < 2 * n
section
variable {w w' : World} {p : RLoc} {W H n : Nat} {E : List Nat}
theorem RT.cells (h : RT w p W H n E) : w.cell? ⟨p.g, 0, none⟩ = some (.bool true) ∧ w.cell? ⟨p.g, 1, none⟩ = some (.int .i64 (W : Int)) ∧ w.cell? ⟨p.g, 2, none⟩ = some (.int .i64 (H : Int)) ∧ w.cell? ⟨p.g, 3, none⟩ = some (.slice (some ⟨p.b, 0, none⟩) (2 * n) (2 * n)) :=
  ⟨(h.hg.cell 0).trans rfl, (h.hg.cell 1).trans rfl, (h.hg.cell 2).trans rfl, (h.hg.cell 3).trans rfl⟩
theorem RT.fr {S : List Nat} (h : RT w p W H n E) (k : Fr S w w') (hS : ∀ b ∈ p.bl, b ∉ S) : RT w' p W H n E := ⟨h.hg.fr k (hS _ (by simp [RLoc.bl])), h.hh.fr k (hS _ (by simp [RLoc.bl])), h.nW, h.nH, h.nn, h.nb, h.ie⟩
theorem RT.fresh (h : RT w p W H n E) (k : Below w.heap.size w w') : RT w' p W H n E := h.fr (Fr.of_below [] k) (by simp)
theorem RT.drewN (h : RT w p W H n E) (k : Nat) : RT (w.drewN k) p W H n E := h.fresh ((Below.refl _ _).drewN k)
theorem RT.lt (h : RT w p W H n E) : ∀ k ∈ p.bl, k < w.heap.size := by
  intro k hk
  simp only [RLoc.bl, List.mem_cons, List.not_mem_nil, or_false] at hk
  rcases hk with rfl | rfl
  · exact h.hg.lt
  · exact h.hh.lt
theorem RT.n1 (h : RT w p W H n E) : 1 ≤ n := by rw [h.nn]; exact Nat.mul_pos h.nW.1 h.nH.1
theorem RT.inE (h : RT w p W H n E) : InE (W * H) tS (tT W H) E := fun e he => tE_in (by rw [← h.nn]; exact h.ie e he)
theorem RT.gb (h : RT w p W H n E) : p.g ≠ p.b := h.hg.ne_ h.hh (by decide)
end

set_option maxRecDepth 100000 in
set_option maxHeartbeats 8000000 in
theorem r30Ends0 (w : World) (q : Int) (v d x y x' y' b : Nat) (p : RLoc) (W H n : Nat) (E : List Nat) (h : RT w p W H n E) (q0 : 0 ≤ q) (q8 : q ≤ 8192) (hq1 : q / 2 = (v : Int)) (hq2 : q % 2 = (d : Int)) (hv : v < n) (hx : x < W) (hy : y < H)
    (hvx : (v : Int) % (W : Int) = (x : Int)) (hvy : (v : Int) / (W : Int) = (y : Int)) (hd : (d = 0 ∧ y' = y ∧ ((x : Int) + 1) % (W : Int) = (x' : Int)) ∨ (d = 1 ∧ x' = x ∧ ((y : Int) + 1) % (H : Int) = (y' : Int))) (hx' : x' < W) (hy' : y' < H)
    (hb : (y' : Int) * (W : Int) + (x' : Int) = (b : Int)) (hbn : b < n) :
    Calls Try.prog 40 #[.pointer (some ⟨p.g, 0, none⟩), .int .i64 q] w fun e w' => e = .returned (.tuple #[.int .i64 (v : Int), .int .i64 (b : Int)]) ∧ ∃ k, w' = w.drewN k := by
  have nb := h.nb
  obtain ⟨nW1, nW2⟩ := h.nW
  obtain ⟨nH1, nH2⟩ := h.nH
  have t1 : q.tdiv 2 = (v : Int) := by rw [Int.tdiv_eq_ediv_of_nonneg q0]; exact hq1
  have t2 : q.tmod 2 = (d : Int) := by rw [Int.tmod_eq_emod_of_nonneg q0]; exact hq2
  have t3 : (v : Int).tmod (W : Int) = (x : Int) := by rw [Int.tmod_eq_emod_of_nonneg (by omega)]; exact hvx
  have t4 : (v : Int).tdiv (W : Int) = (y : Int) := by rw [Int.tdiv_eq_ediv_of_nonneg (by omega)]; exact hvy
  have i1 : IntKind.i64.wrap (x : Int) = x := IntWalk.i64_in _ (by omega)
  have i2 : IntKind.i64.wrap (y : Int) = y := IntWalk.i64_in _ (by omega)
  have i5 : IntKind.i64.wrap (b : Int) = b := IntWalk.i64_in _ (by omega)
  have i6 : IntKind.i64.wrap ((y' : Int) * (W : Int)) = y' * W := IntWalk.i64_in _ (by
    have : (0 : Int) ≤ (y' : Int) * (W : Int) := Int.mul_nonneg (by omega) (by omega)
    omega)
  have i7 : IntKind.i64.wrap (y' : Int) = y' := IntWalk.i64_in _ (by omega)
  have i8 : IntKind.i64.wrap (x' : Int) = x' := IntWalk.i64_in _ (by omega)
  obtain ⟨_, c1, c2, _⟩ := h.cells
  clear h
  rcases hd with ⟨rfl, rfl, hm⟩ | ⟨rfl, rfl, hm⟩
  · have t6 : ((x : Int) + 1).tmod (W : Int) = (x' : Int) := by rw [Int.tmod_eq_emod_of_nonneg (by omega)]; exact hm
    go_enter Try.func40, Try.ntmps40
    go_wp2_with fail
    go_quiet (fail)
    go_wp2_with fail
    go_quiet (fail)
    go_wp2_with fail
    go_ret2
    exact ⟨rfl, _, World.drewN_drewN _ _ _⟩
  · have t6 : ((y : Int) + 1).tmod (H : Int) = (y' : Int) := by rw [Int.tmod_eq_emod_of_nonneg (by omega)]; exact hm
    go_enter Try.func40, Try.ntmps40
    go_wp2_with fail
    go_quiet (fail)
    go_wp2_with fail
    go_quiet (fail)
    go_wp2_with fail
    go_ret2
    exact ⟨rfl, _, World.drewN_drewN _ _ _⟩
theorem r30Ends (w : World) (e : Nat) (p : RLoc) (W H n : Nat) (E : List Nat) (h : RT w p W H n E) (he : e < 2 * n) :
    Calls Try.prog 40 #[.pointer (some ⟨p.g, 0, none⟩), .int .i64 (e : Int)] w fun r w' => r = .returned (.tuple #[.int .i64 (tS e : Int), .int .i64 (tT W H e : Int)]) ∧ ∃ k, w' = w.drewN k := by
  have hn := h.nn
  have nb := h.nb
  have hb := tE_in (W := W) (H := H) (e := e) (by rw [← hn]; exact he)
  have hW : 0 < W := h.nW.1
  have hr := row_lt hb.1
  have hx := Nat.mod_lt (tS e) hW
  by_cases hd : e % 2 = 0
  · refine r30Ends0 w (e : Int) (tS e) 0 (tS e % W) (tS e / W) ((tS e % W + 1) % W) (tS e / W) (tT W H e) p W H n E h (by omega) (by omega) (by unfold tS; omega) (by omega) (by rw [hn]; exact hb.1) hx hr (by omega) (by omega) (.inl ⟨rfl, rfl, by norm_cast⟩) (Nat.mod_lt _ hW) hr ?_ (by rw [hn]; exact hb.2)
    unfold tT; rw [if_pos hd]; unfold tS; push_cast; rfl
  · refine r30Ends0 w (e : Int) (tS e) 1 (tS e % W) (tS e / W) (tS e % W) ((tS e / W + 1) % H) (tT W H e) p W H n E h (by omega) (by omega) (by unfold tS; omega) (by omega) (by rw [hn]; exact hb.1) hx hr (by omega) (by omega) (.inr ⟨rfl, rfl, by norm_cast⟩) hx (Nat.mod_lt _ h.nH.1) ?_ (by rw [hn]; exact hb.2)
    unfold tT; rw [if_neg hd]; unfold tS; push_cast; rfl
end Go.Proofs.Ytnkkdoookhhhaaa
