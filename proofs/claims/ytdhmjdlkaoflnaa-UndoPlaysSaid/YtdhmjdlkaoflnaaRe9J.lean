/- seepageref09: nil sets' Trial; rows compared. -/
import Derived.Test.YtdhmjdlkaoflnaaRe9I
import Derived.Test.YtdhmjdlkaoflnaaOpenS
import Derived.Laws.StructEq
namespace Go.Proofs.Ytdhmjdlkaoflnaa
open Go.RowKit
set_option linter.unusedVariables false

set_option maxHeartbeats 2000000 in
theorem r9Nil_Trial (w : World) (x : Value) : Calls Try.prog 28 #[.pointer none, x] w fun e w' => e = .returned (.tuple #[.agg #[.int .i64 0, .int .i64 0, .int .i64 0], .int .i64 1]) ∧ Below w.heap.size w w' := by
  go_enter Try.func28, Try.ntmps28
  go_wp2_with fail
  refine (r9Nil_valid _).mono ?_
  rintro e w' ⟨rfl, rfl⟩
  go_wp2_with fail
  exact bodyPost_ret (v := .tuple #[.agg #[.int .i64 0, .int .i64 0, .int .i64 0], .int .i64 1]) (by simp [results, Try.results28, go_sem]) rfl ⟨rfl, (Below.refl _ _).alloc (Nat.le_refl _) _⟩

theorem row_neq (a b c : Int) (W : World) : (binOp .neq 48 (.agg #[.int .i64 a, .int .i64 b, .int .i64 c]) (.agg #[.int .i64 a, .int .i64 b, .int .i64 c])).run Try.prog W = .ok (.bool false) W := by
  rw [run_neq_struct, run_equalIn_agg W 9999 _ _ _ (by kernel_rfl) (by kernel_rfl)]
  simp [Op.eqFields, Program.fieldsOf, Try.underlying48, go_sem]
/-- The program's sets and the document's, each in its own blocks from B on. -/
def Pl (W w : World) (p : ULoc) (g n : Nat) (past : List (Nat → Nat)) (L : Nat → Nat) (past2 : List (Nat → Nat)) (L2 : Nat → Nat) : Prop :=
  Und w p n past L ∧ Ref9Q w g n past2 L2 (fun b => b ∉ p.bl ∧ W.heap.size ≤ b) ∧ p.from_ W.heap.size ∧ Below W.heap.size W w
section
variable {W w w' : World} {p p' : ULoc} {g n : Nat} {past past2 past' past3 : List (Nat → Nat)} {L L2 L' L3 : Nat → Nat}
theorem Pl.undo (h : Pl W w p g n past L past2 L2) (hu : Und w' p' n past' L') (hm : Moved w p p') (hf : Fr p.bl w w') : Pl W w' p' g n past' L' past2 L2 := by
  obtain ⟨h1, h2, h3, h4⟩ := h
  have e1 := (h2.mono (Q := fun b => (b ∉ p.bl ∧ W.heap.size ≤ b) ∧ b < w.heap.size) (fun b hb hp => ⟨hp, hb⟩)).fr hf (fun b hb hp => hp.1.1 hb)
  refine ⟨hu, e1.mono fun b _ hp => ⟨fun hm' => ?_, hp.1.2⟩, hm.from_ h3 h4.size, h4.trans (hf.below h3 h4.size)⟩
  rcases hm.bl b hm' with h | h
  · exact hp.1.1 h
  · have := hp.2; omega
theorem Pl.undo1 (h : Pl W w p g n past L past2 L2) (hu : Und1 w w' p n past' L') : ∃ p' : ULoc, p'.g = p.g ∧ Pl W w' p' g n past' L' past2 L2 := by
  obtain ⟨p', h1, h2, h3⟩ := hu
  exact ⟨p', h2.g, h.undo h1 h2 h3⟩
theorem Pl.undoB (h : Pl W w p g n past L past2 L2) (hu : UndB w w' p n past' L') : Pl W w' p g n past' L' past2 L2 := h.undo hu.1 (Moved.refl _ _) hu.2
theorem Pl.refs (h : Pl W w p g n past L past2 L2) (hr : R9Step w w' g n past3 L3 (fun b => b ∉ p.bl ∧ W.heap.size ≤ b)) : Pl W w' p g n past L past3 L3 := by
  obtain ⟨h1, h2, h3, h4⟩ := h
  obtain ⟨r1, S, r2, r3⟩ := hr
  refine ⟨h1.fr r2 (fun b hb hm => (r3 b hm).1 hb), r1.mono fun b _ hp => ?_, h3, h4.trans (r2.below (fun b hb => (r3 b hb).2) h4.size)⟩
  rcases hp with hp | hp
  · exact hp
  · exact ⟨fun hm => by have := h1.lt b hm; omega, Nat.le_trans h4.size hp⟩
theorem Pl.fresh (h : Pl W w p g n past L past2 L2) (k : Below w.heap.size w w') : Pl W w' p g n past L past2 L2 :=
  ⟨h.1.fresh k, h.2.1.fresh k, h.2.2.1, h.2.2.2.trans (k.mono h.2.2.2.size)⟩
theorem Pl.drewN (h : Pl W w p g n past L past2 L2) (k : Nat) : Pl W (w.drewN k) p g n past L past2 L2 := h.fresh ((Below.refl _ _).drewN k)
end
end Go.Proofs.Ytdhmjdlkaoflnaa
