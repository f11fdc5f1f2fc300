/- seepageref09: the program's sets and the document's beside other blocks. -/
import Derived.Test.YtdhmjdlkaoflnaaRe9J
namespace Go.Proofs.Ytdhmjdlkaoflnaa
open Go.RowKit
set_option linter.unusedVariables false

/-- The program's sets and the document's, each in its own blocks; the blocks of D are neither's, X is one of them. -/
structure PlD (W w : World) (D : List Nat) (X : Nat) (cs : Array Value) (p : ULoc) (g n : Nat) (past : List (Nat → Nat)) (L : Nat → Nat) (past2 : List (Nat → Nat)) (L2 : Nat → Nat) : Prop where
  u : Und w p n past L
  r : Ref9Q w g n past2 L2 (fun b => b ∉ p.bl ∧ W.heap.size ≤ b ∧ b ∉ D)
  f : p.from_ W.heap.size
  b : Below W.heap.size W w
  d : ∀ x ∈ D, x ∉ p.bl ∧ x < w.heap.size
  x : Blk w X 53 cs
  xd : X ∈ D
section
variable {W w w' w2 : World} {D : List Nat} {X : Nat} {cs : Array Value} {p p' : ULoc} {g n : Nat} {past past2 past' past3 : List (Nat → Nat)} {L L2 L' L3 : Nat → Nat}
theorem Pl.open_ (h : Pl W w p g n past L past2 L2) (cs : Array Value) : PlD W (w.alloc (.cells cs 53)) [w.heap.size] w.heap.size cs p g n past L past2 L2 := by
  obtain ⟨h1, h2, h3, h4⟩ := h
  have hb : Below w.heap.size w (w.alloc (.cells cs 53)) := (Below.refl _ _).alloc (Nat.le_refl _) _
  refine ⟨h1.fresh hb, (h2.mono fun b hb hp => ⟨hp.1, hp.2, fun hm => by rw [List.mem_singleton.1 hm] at hb; omega⟩).fresh hb, h3, h4.trans (hb.mono h4.size), fun x hx => ?_, Blk.new _ _ _, by simp⟩
  · rw [List.mem_singleton.1 hx]
    exact ⟨fun hm => by have := h1.lt _ hm; omega, by simp⟩
theorem PlD.close (h : PlD W w D X cs p g n past L past2 L2) : Pl W w p g n past L past2 L2 := ⟨h.u, h.r.mono fun b _ hp => ⟨hp.1, hp.2.1⟩, h.f, h.b⟩
theorem PlD.lt (h : PlD W w D X cs p g n past L past2 L2) : X < w.heap.size := h.x.lt
theorem PlD.undo (h : PlD W w D X cs p g n past L past2 L2) (hu : Und w' p' n past' L') (hm : Moved w p p') (hf : Fr p.bl w w') : PlD W w' D X cs p' g n past' L' past2 L2 := by
  have e1 := (h.r.mono (Q := fun b => (b ∉ p.bl ∧ W.heap.size ≤ b ∧ b ∉ D) ∧ b < w.heap.size) (fun b hb hp => ⟨hp, hb⟩)).fr hf (fun b hb hp => hp.1.1 hb)
  refine ⟨hu, e1.mono fun b _ hp => ⟨fun hm' => ?_, hp.1.2⟩, hm.from_ h.f h.b.size, h.b.trans (hf.below h.f h.b.size), fun x hx => ⟨fun hm' => ?_, ?_⟩, h.x.fr hf (h.d X h.xd).1, h.xd⟩
  · rcases hm.bl b hm' with h1 | h1
    · exact hp.1.1 h1
    · have := hp.2; omega
  · rcases hm.bl x hm' with h1 | h1
    · exact (h.d x hx).1 h1
    · have := (h.d x hx).2; omega
  · exact Nat.lt_of_lt_of_le (h.d x hx).2 hf.size
theorem PlD.undo1 (h : PlD W w D X cs p g n past L past2 L2) (hu : Und1 w w' p n past' L') : ∃ p' : ULoc, p'.g = p.g ∧ PlD W w' D X cs p' g n past' L' past2 L2 := by
  obtain ⟨p', h1, h2, h3⟩ := hu
  exact ⟨p', h2.g, h.undo h1 h2 h3⟩
theorem PlD.undoB (h : PlD W w D X cs p g n past L past2 L2) (hu : UndB w w' p n past' L') : PlD W w' D X cs p g n past' L' past2 L2 := h.undo hu.1 (Moved.refl _ _) hu.2
theorem PlD.refs (h : PlD W w D X cs p g n past L past2 L2) (hr : R9Step w w' g n past3 L3 (fun b => b ∉ p.bl ∧ W.heap.size ≤ b ∧ b ∉ D)) : PlD W w' D X cs p g n past L past3 L3 := by
  obtain ⟨r1, S, r2, r3⟩ := hr
  refine ⟨h.u.fr r2 (fun b hb hm => (r3 b hm).1 hb), r1.mono fun b _ hp => ?_, h.f, h.b.trans (r2.below (fun b hb => (r3 b hb).2.1) h.b.size), fun x hx => ⟨(h.d x hx).1, Nat.lt_of_lt_of_le (h.d x hx).2 r2.size⟩,
    h.x.fr r2 (fun hm => (r3 X hm).2.2 h.xd), h.xd⟩
  rcases hp with hp | hp
  · exact hp
  · exact ⟨fun hm => by have := h.u.lt b hm; omega, Nat.le_trans h.b.size hp, fun hm => by have := (h.d b hm).2; omega⟩
theorem PlD.fresh (h : PlD W w D X cs p g n past L past2 L2) (k : Below w.heap.size w w') : PlD W w' D X cs p g n past L past2 L2 :=
  ⟨h.u.fresh k, h.r.fresh k, h.f, h.b.trans (k.mono h.b.size), fun x hx => ⟨(h.d x hx).1, Nat.lt_of_lt_of_le (h.d x hx).2 k.size⟩, h.x.below k h.x.lt, h.xd⟩
theorem PlD.drewN (h : PlD W w D X cs p g n past L past2 L2) (k : Nat) : PlD W (w.drewN k) D X cs p g n past L past2 L2 := h.fresh ((Below.refl _ _).drewN k)
/-- Other sets have turned, whose blocks are of D. -/
theorem PlD.other {S D' : List Nat} (h : PlD W w D X cs p g n past L past2 L2) (k : Fr S w w') (hS : ∀ b ∈ S, b ∈ D ∧ W.heap.size ≤ b) (hX : X ∉ S) (hD : ∀ b ∈ D', b ∈ D ∨ (w.heap.size ≤ b ∧ b < w'.heap.size)) (hXD : X ∈ D') :
    PlD W w' D' X cs p g n past L past2 L2 := by
  have e1 := (h.r.mono (Q := fun b => (b ∉ p.bl ∧ W.heap.size ≤ b ∧ b ∉ D) ∧ b < w.heap.size) (fun b hb hp => ⟨hp, hb⟩)).fr k (fun b hb hp => hp.1.2.2 (hS b hb).1)
  refine ⟨h.u.fr k (fun b hb hm => (h.d b (hS b hm).1).1 hb), e1.mono fun b _ hp => ⟨hp.1.1, hp.1.2.1, fun hm => ?_⟩, h.f, h.b.trans (k.below (fun b hb => (hS b hb).2) h.b.size), fun x hx => ?_, h.x.fr k hX, hXD⟩
  · rcases hD b hm with h1 | h1
    · exact hp.1.2.2 h1
    · have := hp.2; omega
  · rcases hD x hx with h1 | h1
    · exact ⟨(h.d x h1).1, Nat.lt_of_lt_of_le (h.d x h1).2 k.size⟩
    · exact ⟨fun hm => by have := h.u.lt x hm; omega, h1.2⟩
/-- Copies of both: they lie apart from the sets that were copied. -/
theorem PlD.copy (h : PlD W w D X cs p g n past L past2 L2) (hu : Und w' p' n past L) (hb : Below w.heap.size w w') (hp : p'.from_ w.heap.size) {g' : Nat}
    (hr : Ref9Q w2 g' n past2 L2 (fun b => ((b ∉ p.bl ∧ W.heap.size ≤ b ∧ b ∉ D) ∧ b < w.heap.size) ∨ w'.heap.size ≤ b)) (hb2 : Below w'.heap.size w' w2) :
    PlD W w2 (D ++ p.bl) X cs p' g' n past L past2 L2 ∧ Und w2 p n past L := by
  have hb3 : Below w.heap.size w w2 := hb.trans (hb2.mono hb.size)
  refine ⟨⟨hu.fresh hb2, hr.mono fun b _ hq => ?_, fun k hk => Nat.le_trans h.b.size (hp k hk), h.b.trans (hb3.mono h.b.size), fun x hx => ?_, h.x.below hb3 h.x.lt, List.mem_append_left _ h.xd⟩, h.u.fresh hb3⟩
  · rcases hq with ⟨⟨h1, h2, h3⟩, h4⟩ | h1
    · refine ⟨fun hm => by have := hp b hm; omega, h2, fun hm => ?_⟩
      rcases List.mem_append.1 hm with hm | hm
      · exact h3 hm
      · exact h1 hm
    · refine ⟨fun hm => by have := hu.lt b hm; omega, Nat.le_trans h.b.size (Nat.le_trans hb.size h1), fun hm => ?_⟩
      rcases List.mem_append.1 hm with hm | hm
      · have := (h.d b hm).2; have := hb.size; omega
      · have := h.u.lt b hm; have := hb.size; omega
  · rcases List.mem_append.1 hx with hx | hx
    · exact ⟨fun hm => by have := hp x hm; have := (h.d x hx).2; omega, Nat.lt_of_lt_of_le (h.d x hx).2 hb3.size⟩
    · exact ⟨fun hm => by have := hp x hm; have := h.u.lt x hx; omega, Nat.lt_of_lt_of_le (h.u.lt x hx) hb3.size⟩
theorem PlD.refW (h : PlD W w D X cs p g n past L past2 L2) (hb : Below w.heap.size w w') : Ref9Q w' g n past2 L2 (fun b => (b ∉ p.bl ∧ W.heap.size ≤ b ∧ b ∉ D) ∧ b < w.heap.size) :=
  (h.r.mono (fun b hb hp => ⟨hp, hb⟩)).fresh hb
end
end Go.Proofs.Ytdhmjdlkaoflnaa
