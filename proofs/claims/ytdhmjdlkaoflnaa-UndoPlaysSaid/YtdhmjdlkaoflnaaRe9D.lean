/- seepageref09's sets with the blocks that they lie in. -/
import Derived.Test.YtdhmjdlkaoflnaaRe9C
namespace Go.Proofs.Ytdhmjdlkaoflnaa
open Go.RowKit
set_option linter.unusedVariables false

theorem own_notOwn {w : World} {B B' n n' sz sz' b : Nat} {E E' : TypeId} {V V' : Value} {xs xs' : List Value} (h : w.ownsRow B E sz V n xs) (h' : w.ownsRow B' E' sz' V' n' xs') (hne : E ≠ E') (hb : V.ownBlock = some b) : V'.ownBlock ≠ some b := by
  rcases h.2 with ⟨rfl, _⟩ | ⟨g, cap, cur, rfl, _, hh, _⟩
  · cases hb
  · rcases h'.2 with ⟨rfl, _⟩ | ⟨g', cap', cur', rfl, _, hh', _⟩
    · intro e; cases e
    · intro e
      have e1 : g = b := by injection hb
      have e2 : g' = b := by injection e
      subst e1; subst e2
      rw [hh] at hh'
      injection hh' with e3
      injection e3 with _ e4 _
      exact hne e4

/-- The document's sets in memory: every block that they lie in satisfies P. -/
structure R9 (w : World) (g n : Nat) (past : List (Nat → Nat)) (L : Nat → Nat) (P : Nat → Prop) (v vp : Value) (vs : List Value) : Prop where
  hb : Blk w g 66 #[.bool true, v, vp]
  hl : w.ownsRow 0 3 1 v n (arr n L).toList
  ho : w.ownsRow 0 27 1 vp past.length vs
  hv : ∀ (i : Nat) (f : Nat → Nat), past[i]? = some f → ∃ u : Value, vs[i]? = some u ∧ w.ownsRow 0 3 1 u n (arr n f).toList ∧ ∀ b, u.ownBlock = some b → P b
  nb : n ≤ 65536
  pg : P g
  pl : ∀ b, v.ownBlock = some b → P b
  pp : ∀ b, vp.ownBlock = some b → P b
def Ref9Q (w : World) (g n : Nat) (past : List (Nat → Nat)) (L : Nat → Nat) (P : Nat → Prop) : Prop := ∃ v vp vs, R9 w g n past L P v vp vs

section
variable {w w' : World} {g n B : Nat} {past : List (Nat → Nat)} {L : Nat → Nat} {P Q : Nat → Prop} {v vp : Value} {vs : List Value}
theorem R9.ref (h : R9 w g n past L P v vp vs) : Ref9 w g n past L 0 := ⟨Nat.zero_le _, h.nb, v, vp, vs, h.hb, h.hl, h.ho, fun i hi => by
  obtain ⟨u, e, hu, _⟩ := h.hv i past[i] (List.getElem?_eq_getElem hi)
  exact ⟨u, e, hu⟩⟩
theorem Ref9Q.ref (h : Ref9Q w g n past L P) : Ref9 w g n past L 0 := by obtain ⟨v, vp, vs, h⟩ := h; exact h.ref
theorem R9.fr {S : List Nat} (h : R9 w g n past L P v vp vs) (k : Fr S w w') (hS : ∀ b ∈ S, ¬ P b) : R9 w' g n past L P v vp vs :=
  ⟨h.hb.fr k (fun hm => hS _ hm h.pg), own_fr h.hl k (fun b hb hm => hS b hm (h.pl b hb)), own_fr h.ho k (fun b hb hm => hS b hm (h.pp b hb)), fun i f hf => by
    obtain ⟨u, e, hu, hp⟩ := h.hv i f hf
    exact ⟨u, e, own_fr hu k (fun b hb hm => hS b hm (hp b hb)), hp⟩, h.nb, h.pg, h.pl, h.pp⟩
theorem Ref9Q.fr {S : List Nat} (h : Ref9Q w g n past L P) (k : Fr S w w') (hS : ∀ b ∈ S, ¬ P b) : Ref9Q w' g n past L P := by
  obtain ⟨v, vp, vs, h⟩ := h; exact ⟨v, vp, vs, h.fr k hS⟩
theorem Ref9Q.fresh (h : Ref9Q w g n past L P) (k : Below w.heap.size w w') : Ref9Q w' g n past L P := h.fr (Fr.of_below [] k) (by simp)
theorem R9.mono (h : R9 w g n past L P v vp vs) (hPQ : ∀ b, b < w.heap.size → P b → Q b) : R9 w g n past L Q v vp vs :=
  ⟨h.hb, h.hl, h.ho, fun i f hf => by
    obtain ⟨u, e, hu, hp⟩ := h.hv i f hf
    exact ⟨u, e, hu, fun b hb => hPQ b (World.ownsRow.lt hu b hb).2 (hp b hb)⟩, h.nb, hPQ _ h.hb.lt h.pg, fun b hb => hPQ b (World.ownsRow.lt h.hl b hb).2 (h.pl b hb), fun b hb => hPQ b (World.ownsRow.lt h.ho b hb).2 (h.pp b hb)⟩
theorem Ref9Q.mono (h : Ref9Q w g n past L P) (hPQ : ∀ b, b < w.heap.size → P b → Q b) : Ref9Q w g n past L Q := by
  obtain ⟨v, vp, vs, h⟩ := h; exact ⟨v, vp, vs, h.mono hPQ⟩
theorem Ref9.toQ (h : Ref9 w g n past L B) : Ref9Q w g n past L (fun b => B ≤ b) := by
  obtain ⟨h1, h2, v, vp, vs, hb, hl, ho, hv⟩ := h
  exact ⟨v, vp, vs, hb, own_rebase hl (fun _ _ => Nat.zero_le _), own_rebase ho (fun _ _ => Nat.zero_le _), fun i f hf => by
    obtain ⟨hi, rfl⟩ := List.getElem?_eq_some_iff.1 hf
    obtain ⟨u, e, hu⟩ := hv i hi
    exact ⟨u, e, own_rebase hu (fun _ _ => Nat.zero_le _), fun b hb => (World.ownsRow.lt hu b hb).1⟩, h2, h1, fun b hb => (World.ownsRow.lt hl b hb).1, fun b hb => (World.ownsRow.lt ho b hb).1⟩
end
end Go.Proofs.Ytdhmjdlkaoflnaa
