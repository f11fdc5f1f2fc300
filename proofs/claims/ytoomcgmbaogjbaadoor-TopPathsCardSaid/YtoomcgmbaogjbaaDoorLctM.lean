/- lct: as it lies in memory. -/
import Derived.Test.YtoomcgmbaogjbaaDoorLctP
import Derived.Test.YtoomcgmbaogjbaaDoorInfo
namespace Go.Proofs.YtoomcgmbaogjbaaDoor
open Go.RowKit
set_option linter.unusedVariables false

/-- A node's cells; J: what nobody asks for. -/
def LM.cell (M : LM) (J : Nat → Nat → Int) (i c : Nat) : Value :=
  if c = 0 then .int .i64 (M.k 0 i : Int) else if c = 1 then .int .i64 (M.k 1 i : Int) else if c = 2 then .int .i64 (M.up i : Int) else if c = 3 then .bool (M.fl i)
  else if c = 4 then .int .i64 (M.key i) else if c = 6 then .int .i64 (M.fi i : Int) else .int .i64 (J c i)
def lar (N : Nat) (M : LM) (J : Nat → Nat → Int) : Array Value := ((List.range ((N + 1) * 9)).map fun j => M.cell J (j / 9) (j % 9)).toArray
theorem lar_size (N : Nat) (M : LM) (J : Nat → Nat → Int) : (lar N M J).size = (N + 1) * 9 := by simp [lar]
theorem lar_at {N : Nat} {M : LM} {J : Nat → Nat → Int} {j : Nat} (h : j < (N + 1) * 9) : (lar N M J)[j]? = some (M.cell J (j / 9) (j % 9)) := by simp [lar, h]
theorem lar_get {N : Nat} {M : LM} {J : Nat → Nat → Int} {i c : Nat} (hi : i ≤ N) (hc : c < 9) : (lar N M J)[i * 9 + c]? = some (M.cell J i c) := by
  rw [lar_at (by omega), show (i * 9 + c) / 9 = i by omega, show (i * 9 + c) % 9 = c by omega]
theorem lar_set {N : Nat} {M M' : LM} {J J' : Nat → Nat → Int} {i c : Nat} {v : Value} (hi : i ≤ N) (hc : c < 9) (h : ∀ x d, x ≤ N → d < 9 → M'.cell J' x d = if x = i ∧ d = c then v else M.cell J x d) :
    (lar N M J).setIfInBounds (i * 9 + c) v = lar N M' J' := by
  apply Array.ext_getElem?
  intro j
  rw [Array.getElem?_setIfInBounds]
  by_cases hj : j < (N + 1) * 9
  · rw [lar_at hj, lar_at hj, lar_size, h (j / 9) (j % 9) (by omega) (by omega)]
    by_cases e : i * 9 + c = j
    · rw [if_pos e, if_pos (by omega), if_pos (by omega)]
    · rw [if_neg e, if_neg (by omega)]
  · have e1 : (lar N M J)[j]? = none := by simp [lar]; omega
    have e2 : (lar N M' J')[j]? = none := by simp [lar]; omega
    rw [e1, e2, lar_size]
    split
    · rw [if_neg (by omega)]
    · rfl
def LM.setK (M : LM) (s i v : Nat) : LM := { M with k := fun u x => if x = i ∧ u = s then v else M.k u x }
def LM.setUp (M : LM) (i v : Nat) : LM := { M with up := fun x => if x = i then v else M.up x }
def LM.setFl (M : LM) (i : Nat) (v : Bool) : LM := { M with fl := fun x => if x = i then v else M.fl x }
def LM.setKey (M : LM) (i : Nat) (v : Int) : LM := { M with key := fun x => if x = i then v else M.key x }
def LM.setFi (M : LM) (i v : Nat) : LM := { M with fi := fun x => if x = i then v else M.fi x }
/-- Where a forest lies. -/
structure LLoc where
  g : Nat
  b : Nat
/-- A link-cut forest. -/
structure Lf (w : World) (p : LLoc) (N : Nat) (M : LM) : Prop where
  blk : ∃ e : Int, Blk w p.g 71 #[.pointer (some ⟨p.g, 0, none⟩), .slice (some ⟨p.b, 0, none⟩) (N + 1) (N + 1), .int .i64 e]
  row : ∃ J, Blk w p.b 77 (lar N M J)
  nb : N ≤ 1000
section
variable {w w' : World} {p : LLoc} {N : Nat} {M : LM} {S : List Nat}
theorem Lf.fr (h : Lf w p N M) (k : Fr S w w') (hg : p.g ∉ S) (hb : p.b ∉ S) : Lf w' p N M := by
  obtain ⟨⟨e, h1⟩, ⟨J, h2⟩, h3⟩ := h
  exact ⟨⟨e, h1.fr k hg⟩, ⟨J, h2.fr k hb⟩, h3⟩
theorem Lf.gb (h : Lf w p N M) : p.g ≠ p.b := by
  obtain ⟨⟨e, h1⟩, ⟨J, h2⟩, h3⟩ := h
  exact h1.ne_ h2 (by decide)
theorem Lf.c0 (h : Lf w p N M) : w.cell? ⟨p.g, 0, none⟩ = some (.pointer (some ⟨p.g, 0, none⟩)) := by
  obtain ⟨⟨e, h1⟩, -, -⟩ := h
  exact (h1.cell 0).trans rfl
theorem Lf.c1 (h : Lf w p N M) : w.cell? ⟨p.g, 1, none⟩ = some (.slice (some ⟨p.b, 0, none⟩) (N + 1) (N + 1)) := by
  obtain ⟨⟨e, h1⟩, -, -⟩ := h
  exact (h1.cell 1).trans rfl
theorem Lf.at_ (h : Lf w p N M) {i c : Nat} (hi : i ≤ N) (hc : c < 9) : ∃ J, w.cell? ⟨p.b, i * 9 + c, none⟩ = some (M.cell J i c) := by
  obtain ⟨-, ⟨J, h2⟩, -⟩ := h
  exact ⟨J, (h2.cell _).trans (lar_get hi hc)⟩
theorem Lf.k0 (h : Lf w p N M) {i : Nat} (hi : i ≤ N) : w.cell? ⟨p.b, i * 9, none⟩ = some (.int .i64 (M.k 0 i : Int)) := by
  obtain ⟨J, hJ⟩ := h.at_ (c := 0) hi (by decide)
  exact hJ
theorem Lf.k1 (h : Lf w p N M) {i : Nat} (hi : i ≤ N) : w.cell? ⟨p.b, i * 9 + 1, none⟩ = some (.int .i64 (M.k 1 i : Int)) := by
  obtain ⟨J, hJ⟩ := h.at_ (c := 1) hi (by decide)
  exact hJ
theorem Lf.up (h : Lf w p N M) {i : Nat} (hi : i ≤ N) : w.cell? ⟨p.b, i * 9 + 2, none⟩ = some (.int .i64 (M.up i : Int)) := by
  obtain ⟨J, hJ⟩ := h.at_ (c := 2) hi (by decide)
  exact hJ
theorem Lf.fl (h : Lf w p N M) {i : Nat} (hi : i ≤ N) : w.cell? ⟨p.b, i * 9 + 3, none⟩ = some (.bool (M.fl i)) := by
  obtain ⟨J, hJ⟩ := h.at_ (c := 3) hi (by decide)
  exact hJ
theorem Lf.ky (h : Lf w p N M) {i : Nat} (hi : i ≤ N) : w.cell? ⟨p.b, i * 9 + 4, none⟩ = some (.int .i64 (M.key i)) := by
  obtain ⟨J, hJ⟩ := h.at_ (c := 4) hi (by decide)
  exact hJ
theorem Lf.fi (h : Lf w p N M) {i : Nat} (hi : i ≤ N) : w.cell? ⟨p.b, i * 9 + 6, none⟩ = some (.int .i64 (M.fi i : Int)) := by
  obtain ⟨J, hJ⟩ := h.at_ (c := 6) hi (by decide)
  exact hJ
theorem Lf.ji (h : Lf w p N M) {i c : Nat} (hi : i ≤ N) (hc : c = 5 ∨ c = 7 ∨ c = 8) : ∃ v : Int, w.cell? ⟨p.b, i * 9 + c, none⟩ = some (.int .i64 v) := by
  obtain ⟨J, hJ⟩ := h.at_ (c := c) hi (by omega)
  rcases hc with rfl | rfl | rfl <;> exact ⟨_, hJ⟩
theorem Lf.frz (h : Lf w p N M) (j : Nat) : w.frozen? ⟨p.b, j, none⟩ = false := by
  obtain ⟨-, ⟨J, h2⟩, -⟩ := h
  exact h2.frozen j
theorem Lf.set_ (h : Lf w p N M) {M' : LM} {i c : Nat} (hi : i ≤ N) (hc : c < 9) (v : Value) (hM : ∀ J : Nat → Nat → Int, ∃ J' : Nat → Nat → Int, ∀ x d, x ≤ N → d < 9 → M'.cell J' x d = if x = i ∧ d = c then v else M.cell J x d) : Lf (w.setCell ⟨p.b, i * 9 + c, none⟩ v) p N M' := by
  have hgb := h.gb
  obtain ⟨⟨e, h1⟩, ⟨J, h2⟩, h3⟩ := h
  obtain ⟨J', hJ⟩ := hM J
  exact ⟨⟨e, h1.far (p := ⟨p.b, i * 9 + c, none⟩) hgb v⟩, ⟨J', by have := h2.set_ (i * 9 + c) v; rwa [lar_set hi hc hJ] at this⟩, h3⟩
theorem Lf.setK0 (h : Lf w p N M) {i : Nat} (hi : i ≤ N) (v : Nat) : Lf (w.setCell ⟨p.b, i * 9, none⟩ (.int .i64 (v : Int))) p N (M.setK 0 i v) :=
  h.set_ (c := 0) hi (by decide) _ fun J => ⟨J, fun x d _ _ => by
    simp only [LM.cell, LM.setK]
    by_cases e : x = i <;> by_cases e2 : d = 0 <;> simp [e, e2]⟩
theorem Lf.setK1 (h : Lf w p N M) {i : Nat} (hi : i ≤ N) (v : Nat) : Lf (w.setCell ⟨p.b, i * 9 + 1, none⟩ (.int .i64 (v : Int))) p N (M.setK 1 i v) :=
  h.set_ (c := 1) hi (by decide) _ fun J => ⟨J, fun x d _ _ => by
    simp only [LM.cell, LM.setK]
    by_cases e : x = i <;> by_cases e2 : d = 1 <;> simp [e, e2]⟩
theorem Lf.setUp (h : Lf w p N M) {i : Nat} (hi : i ≤ N) (v : Nat) : Lf (w.setCell ⟨p.b, i * 9 + 2, none⟩ (.int .i64 (v : Int))) p N (M.setUp i v) :=
  h.set_ (c := 2) hi (by decide) _ fun J => ⟨J, fun x d _ _ => by
    simp only [LM.cell, LM.setUp]
    by_cases e : x = i <;> by_cases e2 : d = 2 <;> simp [e, e2]⟩
theorem Lf.setFl (h : Lf w p N M) {i : Nat} (hi : i ≤ N) (v : Bool) : Lf (w.setCell ⟨p.b, i * 9 + 3, none⟩ (.bool v)) p N (M.setFl i v) :=
  h.set_ (c := 3) hi (by decide) _ fun J => ⟨J, fun x d _ _ => by
    simp only [LM.cell, LM.setFl]
    by_cases e : x = i <;> by_cases e2 : d = 3 <;> simp [e, e2]⟩
theorem Lf.setKey (h : Lf w p N M) {i : Nat} (hi : i ≤ N) (v : Int) : Lf (w.setCell ⟨p.b, i * 9 + 4, none⟩ (.int .i64 v)) p N (M.setKey i v) :=
  h.set_ (c := 4) hi (by decide) _ fun J => ⟨J, fun x d _ _ => by
    simp only [LM.cell, LM.setKey]
    by_cases e : x = i <;> by_cases e2 : d = 4 <;> simp [e, e2]⟩
theorem Lf.setFi (h : Lf w p N M) {i : Nat} (hi : i ≤ N) (v : Nat) : Lf (w.setCell ⟨p.b, i * 9 + 6, none⟩ (.int .i64 (v : Int))) p N (M.setFi i v) :=
  h.set_ (c := 6) hi (by decide) _ fun J => ⟨J, fun x d _ _ => by
    simp only [LM.cell, LM.setFi]
    by_cases e : x = i <;> by_cases e2 : d = 6 <;> simp [e, e2]⟩
theorem Lf.setJ (h : Lf w p N M) {i c : Nat} (hi : i ≤ N) (hc : c = 5 ∨ c = 7 ∨ c = 8) (v : Int) : Lf (w.setCell ⟨p.b, i * 9 + c, none⟩ (.int .i64 v)) p N M :=
  h.set_ hi (by omega) _ fun J => ⟨fun d x => if x = i ∧ d = c then v else J d x, fun x d _ _ => by
    simp only [LM.cell]
    by_cases e : x = i
    · by_cases e2 : d = c
      · subst e2
        rcases hc with rfl | rfl | rfl <;> simp [e]
      · simp [e, e2]
    · simp [e]⟩
end
end Go.Proofs.YtoomcgmbaogjbaaDoor
