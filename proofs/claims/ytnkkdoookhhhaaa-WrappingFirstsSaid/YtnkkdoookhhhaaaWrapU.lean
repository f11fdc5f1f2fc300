/- Plain: the flood of the document, step by step, as its loops go. Nothing of the program. -/
import Derived.Test.YtnkkdoookhhhaaaWrapQ
namespace Go.Proofs.Ytnkkdoookhhhaaa
open Go.RowKit
set_option linter.unusedVariables false

/-- How many vertices have been found. -/
def fnd (fi : Nat → Int) (n : Nat) : Nat := cnt (fun j => decide (0 ≤ fi j)) n
theorem fnd_le (fi : Nat → Int) (n : Nat) : fnd fi n ≤ n := cnt_le _ _
/-- The flood, while the component of v is being found. -/
structure FP (W H n : Nat) (E : List Nat) (v : Nat) (fi dx dy : Nat → Int) : Prop where
  nn : n = W * H
  nb : n ≤ 4096
  ie : ∀ e ∈ E, e < 2 * n
  fl : Fld W H E v fi dx dy
  z : ∀ i, i < n → fi i < 0 → dx i = 0 ∧ dy i = 0
section
variable {W H n : Nat} {E : List Nat} {v : Nat} {fi dx dy : Nat → Int}
theorem FP.new (nn : n = W * H) (nb : n ≤ 4096) (ie : ∀ e ∈ E, e < 2 * n) : FP W H n E 0 (fun _ => -1) (fun _ => 0) (fun _ => 0) := ⟨nn, nb, ie, Fld.new W H E, fun _ _ _ => ⟨rfl, rfl⟩⟩
theorem FP.ends (h : FP W H n E v fi dx dy) {e : Nat} (he : e < 2 * n) : tS e < n ∧ tT W H e < n := by
  have := tE_in (W := W) (H := H) (e := e) (by rw [← h.nn]; exact he)
  rw [h.nn]; exact this
theorem FP.inE (h : FP W H n E v fi dx dy) : InE (W * H) tS (tT W H) E := fun e he => tE_in (by rw [← h.nn]; exact h.ie e he)
theorem FP.root (h : FP W H n E v fi dx dy) (hn : ∀ i, i < n → 0 ≤ fi i → fi i < v) (hv : v < n) (hf : fi v < 0) : FP W H n E v (updz fi v v) dx dy := by
  have hz := h.z v hv hf
  have nn := h.nn
  refine ⟨nn, h.nb, h.ie, h.fl.root (by rw [← nn]; exact hn) (by rw [← nn]; exact hv) hf hz.1 hz.2, fun i hi h0 => ?_⟩
  by_cases e : i = v
  · subst e; rw [updz_same] at h0; omega
  · rw [updz_other _ _ e] at h0; exact h.z i hi h0
theorem FP.skip (h : FP W H n E v fi dx dy) (hn : ∀ i, i < n → 0 ≤ fi i → fi i < v) (hv : v < n) (hf : 0 ≤ fi v) : FP W H n E (v + 1) fi dx dy ∧ ∀ i, i < n → 0 ≤ fi i → fi i < (v + 1 : Nat) := by
  have nn := h.nn
  obtain ⟨a, b⟩ := h.fl.skip (by rw [← nn]; exact hn) (by rw [← nn]; exact hv) hf
  exact ⟨⟨nn, h.nb, h.ie, a, h.z⟩, by rw [nn]; exact b⟩
theorem FP.next (h : FP W H n E v fi dx dy) (hv : v < n) (hf : fi v = v) (hc : ∀ e ∈ E, fi (tS e) = v ↔ fi (tT W H e) = v) : FP W H n E (v + 1) fi dx dy ∧ ∀ i, i < n → 0 ≤ fi i → fi i < (v + 1 : Nat) := by
  have nn := h.nn
  obtain ⟨a, b⟩ := h.fl.next h.inE (by rw [← nn]; exact hv) hf hc
  exact ⟨⟨nn, h.nb, h.ie, a, h.z⟩, by rw [nn]; exact b⟩
theorem tX_nat (e : Nat) : tX e = 1 - ((e % 2 : Nat) : Int) := by unfold tX; split <;> omega
theorem tY_nat (e : Nat) : tY e = ((e % 2 : Nat) : Int) := by unfold tY; split <;> omega
theorem FP.lo (h : FP W H n E v fi dx dy) {i : Nat} (hi : i < n) : fi i = -1 ∨ fi i = (tL W H E i : Int) := h.fl.lo i (by rw [← h.nn]; exact hi)
theorem FP.bd (h : FP W H n E v fi dx dy) {i : Nat} (hi : i < n) : -4096 ≤ dx i ∧ dx i ≤ 4096 ∧ -4096 ≤ dy i ∧ dy i ≤ 4096 := by
  by_cases h0 : 0 ≤ fi i
  · have := h.fl.bd i (by rw [← h.nn]; exact hi) h0
    have hc := cnt_le (fun j => decide (0 ≤ fi j)) (W * H)
    have := h.nn
    have := h.nb
    omega
  · have := h.z i hi (by omega)
    omega
theorem FP.lab (h : FP W H n E v fi dx dy) {e : Nat} (he : e ∈ E) : tL W H E (tS e) = tL W H E (tT W H e) := labE_edge h.inE he
theorem fnd_put {fi : Nat → Int} {n b v : Nat} (hb : b < n) (h : fi b < 0) : fnd (updz fi b (v : Int)) n = fnd fi n + 1 := cnt_upd hb h
theorem FP.put_z (h : ∀ i, i < n → fi i < 0 → dx i = 0 ∧ dy i = 0) (b : Nat) (x y : Int) : ∀ i, i < n → updz fi b (v : Int) i < 0 → updz dx b x i = 0 ∧ updz dy b y i = 0 := by
  intro i hi h0
  by_cases e : i = b
  · subst e; rw [updz_same] at h0; omega
  · rw [updz_other _ _ e] at h0 ⊢; rw [updz_other _ _ e]; exact h i hi h0
/-- Along an edge. -/
theorem FP.putA (h : FP W H n E v fi dx dy) (hf : fi v = v) {e : Nat} (he : e ∈ E) (ha : fi (tS e) = v) (hb : fi (tT W H e) < 0) :
    FP W H n E v (updz fi (tT W H e) v) (updz dx (tT W H e) (dx (tS e) + (1 - ((e % 2 : Nat) : Int)))) (updz dy (tT W H e) (dy (tS e) + ((e % 2 : Nat) : Int))) ∧ updz fi (tT W H e) v v = v ∧ fnd (updz fi (tT W H e) v) n = fnd fi n + 1 := by
  have hen := h.ends (h.ie e he)
  have nn := h.nn
  rw [← tX_nat, ← tY_nat]
  refine ⟨⟨nn, h.nb, h.ie, h.fl.put (by rw [← nn]; exact hen.1) (by rw [← nn]; exact hen.2) ha hb (h.lab he) (tX_bd e) (tY_bd e) (fun φ hφ => hφ e he rfl) (fun φ hφ => hφ e he rfl), FP.put_z h.z _ _ _⟩, ?_, fnd_put hen.2 hb⟩
  unfold updz
  split
  · rfl
  · exact hf
/-- Back along an edge. -/
theorem FP.putB (h : FP W H n E v fi dx dy) (hf : fi v = v) {e : Nat} (he : e ∈ E) (hb : fi (tT W H e) = v) (ha : fi (tS e) < 0) :
    FP W H n E v (updz fi (tS e) v) (updz dx (tS e) (dx (tT W H e) - (1 - ((e % 2 : Nat) : Int)))) (updz dy (tS e) (dy (tT W H e) - ((e % 2 : Nat) : Int))) ∧ updz fi (tS e) v v = v ∧ fnd (updz fi (tS e) v) n = fnd fi n + 1 := by
  have hen := h.ends (h.ie e he)
  have nn := h.nn
  have hl := h.lab he
  rw [← tX_nat, ← tY_nat, Int.sub_eq_add_neg, Int.sub_eq_add_neg]
  have bx := tX_bd e
  have by_ := tY_bd e
  refine ⟨⟨nn, h.nb, h.ie, h.fl.put (by rw [← nn]; exact hen.2) (by rw [← nn]; exact hen.1) hb ha hl.symm (by omega) (by omega) (fun φ hφ => ?_) (fun φ hφ => ?_), FP.put_z h.z _ _ _⟩, ?_, fnd_put hen.1 ha⟩
  · have := hφ e he hl; omega
  · have := hφ e he hl; omega
  · unfold updz
    split
    · rfl
    · exact hf
/-- What the two tests of an edge can be. -/
theorem FP.cases_ (h : FP W H n E v fi dx dy) (hf : fi v = v) {e : Nat} (he : e ∈ E) :
    (fi (tS e) = v ∧ fi (tT W H e) < 0) ∨ (fi (tT W H e) = v ∧ fi (tS e) < 0) ∨ (fi (tS e) = v ∧ fi (tT W H e) = v) ∨ (fi (tS e) ≠ v ∧ fi (tT W H e) ≠ v) := by
  have hen := h.ends (h.ie e he)
  have hl := h.lab he
  have l1 := h.lo hen.1
  have l2 := h.lo hen.2
  omega
theorem FP.done (h : FP W H n E n fi dx dy) : (∀ i, i < n → fi i = (tL W H E i : Int)) ∧ Wlk W H E dx dy := by
  have nn := h.nn
  have hf := h.fl
  rw [nn] at hf
  have := hf.done
  rw [← nn] at this
  exact this
end
def mone (k : Nat) : Nat → Int := fun i => if i < k then -1 else 0
theorem mone_succ (k : Nat) : updz (mone k) k (-1) = mone (k + 1) := by
  funext i; unfold updz mone; split
  · subst_vars; simp
  · split <;> split <;> omega
end Go.Proofs.Ytnkkdoookhhhaaa
