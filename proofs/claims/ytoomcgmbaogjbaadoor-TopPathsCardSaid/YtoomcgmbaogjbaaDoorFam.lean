/- A family of rows of ints, each in a block of its own. Nothing of the program. -/
import Derived.Test.YtoomcgmbaogjbaaDoorLctH
namespace Go.Proofs.YtoomcgmbaogjbaaDoor
open Go.RowKit
set_option linter.unusedVariables false

def updL (f : Nat → List Nat) (i : Nat) (v : List Nat) : Nat → List Nat := fun j => if j = i then v else f j
def updW (f : Nat → Value) (i : Nat) (v : Value) : Nat → Value := fun j => if j = i then v else f j
/-- I rows, from block B on. -/
structure Fam (w : World) (E : TypeId) (B I : Nat) (cv : Nat → Value) (L : Nat → List Nat) : Prop where
  own : ∀ i, i < I → w.ownsRow B E 1 (cv i) (L i).length (nts (L i))
  ne : ∀ i j, i < I → j < I → i ≠ j → ∀ b, (cv i).ownBlock = some b → (cv j).ownBlock ≠ some b
section
variable {w w' : World} {E : TypeId} {B I : Nat} {cv : Nat → Value} {L : Nat → List Nat}
theorem Fam.start (w : World) (E : TypeId) (B I : Nat) : Fam w E B I (fun _ => .slice none 0 0) fun _ => [] :=
  ⟨fun i _ => World.ownsRow_nil _ _ _ _, fun i j _ _ _ b e => by cases e⟩
theorem Fam.lt (h : Fam w E B I cv L) {i : Nat} (hi : i < I) {b : Nat} (e : (cv i).ownBlock = some b) : B ≤ b ∧ b < w.heap.size := World.ownsRow.lt (h.own i hi) b e
theorem Fam.fr {S : List Nat} (h : Fam w E B I cv L) (k : Fr S w w') (hS : ∀ s ∈ S, s < B) : Fam w' E B I cv L :=
  ⟨fun i hi => own_fr (h.own i hi) k fun b e hb => by have := hS b hb; have := (h.lt hi e).1; omega, h.ne⟩
theorem Fam.app (h : Fam w E B I cv L) {i x : Nat} (hi : i < I) {v' : Value} (hown : w'.ownsRow B E 1 v' (L i ++ [x]).length (nts (L i ++ [x]))) (hg : w.grownBy w' (cv i).ownBlock)
    (hat : v'.ownBlock = (cv i).ownBlock ∨ ∃ b, w.heap.size ≤ b ∧ v'.ownBlock = some b) : Fam w' E B I (updW cv i v') (updL L i (L i ++ [x])) := by
  refine ⟨fun j hj => ?_, fun j k hj hk hjk b e => ?_⟩
  · unfold updW updL
    by_cases e : j = i
    · rw [if_pos e, if_pos e]; exact hown
    · rw [if_neg e, if_neg e]
      refine World.ownsRow.kept (h.own j hj) hg ?_
      cases hb : (cv j).ownBlock with
      | none => exact .inl rfl
      | some b => exact .inr fun e2 => h.ne j i hj hi e b hb e2.symm
  · unfold updW at e ⊢
    by_cases ej : j = i
    · have ek : k ≠ i := fun e2 => hjk (ej.trans e2.symm)
      rw [if_pos ej] at e
      rw [if_neg ek]
      intro e2
      rcases hat with h1 | ⟨b', h1, h2⟩
      · rw [h1] at e
        exact h.ne i k hi hk (fun e3 => ek e3.symm) b e e2
      · rw [e] at h2
        injection h2 with h2
        have := (h.lt hk e2).2
        omega
    · rw [if_neg ej] at e
      by_cases ek : k = i
      · rw [if_pos ek]
        intro e2
        rcases hat with h1 | ⟨b', h1, h2⟩
        · rw [h1] at e2
          exact h.ne j i hj hi ej b e e2
        · rw [e2] at h2
          injection h2 with h2
          have := (h.lt hj e).2
          omega
      · rw [if_neg ek]; exact h.ne j k hj hk hjk b e
theorem Fam.congr (h : Fam w E B I cv L) {cv' : Nat → Value} {L' : Nat → List Nat} (e : ∀ i, i < I → cv i = cv' i ∧ L i = L' i) : Fam w E B I cv' L' :=
  ⟨fun i hi => by have := h.own i hi; rw [(e i hi).1, (e i hi).2] at this; exact this, fun i j hi hj hij b hb => by
    rw [← (e i hi).1] at hb
    rw [← (e j hj).1]; exact h.ne i j hi hj hij b hb⟩
end
/-- n values as the cells of a block. -/
def arv (n : Nat) (f : Nat → Value) : Array Value := ((List.range n).map f).toArray
theorem arv_size (n : Nat) (f : Nat → Value) : (arv n f).size = n := by simp [arv]
theorem arv_get {n i : Nat} (f : Nat → Value) (h : i < n) : (arv n f)[i]? = some (f i) := by simp [arv, h]
theorem arv_set (n : Nat) (f : Nat → Value) (i : Nat) (v : Value) : (arv n f).setIfInBounds i v = arv n (updW f i v) := by
  apply Array.ext_getElem?
  intro j
  rw [Array.getElem?_setIfInBounds]
  by_cases hj : j < n
  · rw [arv_get _ hj, arv_get _ hj, arv_size]
    by_cases he : i = j
    · subst he; simp [hj, updW]
    · rw [if_neg he]; unfold updW; rw [if_neg (fun e => he e.symm)]
  · have e1 : (arv n f)[j]? = none := by simp [arv]; omega
    have e2 : (arv n (updW f i v))[j]? = none := by simp [arv]; omega
    rw [e1, e2, arv_size]
    split
    · rw [if_neg (by omega)]
    · rfl
theorem arv_congr {n : Nat} {f g : Nat → Value} (e : ∀ i, i < n → f i = g i) : arv n f = arv n g := by
  unfold arv
  congr 1
  exact List.map_congr_left fun i hi => by rw [e i (by simpa using hi)]
theorem made_arv (z : Value) (n : Nat) : madeCells #[z] n = arv n fun _ => z := by
  apply Array.ext_getElem?
  intro j
  by_cases hj : j < n
  · rw [arv_get _ hj]
    simp [madeCells, hj, Nat.mod_one]
  · have e1 : (arv n fun _ => z)[j]? = none := by simp [arv]; omega
    have e2 : (madeCells #[z] n)[j]? = none := by simp [madeCells]; omega
    rw [e1, e2]
end Go.Proofs.YtoomcgmbaogjbaaDoor
