/- Plain: graphs as lists of edges: the half-edges, the rows of the vertices, how they are laid out. Nothing of the program. -/
import Derived.Test.YtoomcgmbaogjbaaDoorSetsQ
namespace Go.Proofs.YtoomcgmbaogjbaaDoor
open Go.RowKit
set_option linter.unusedVariables false

/-- The ends and the weight of edge i. -/
def eU (l : List (Int × Int × Int)) (i : Nat) : Nat := (l[i]?.getD (0, 0, 0)).1.toNat
def eV (l : List (Int × Int × Int)) (i : Nat) : Nat := (l[i]?.getD (0, 0, 0)).2.1.toNat
def eW (l : List (Int × Int × Int)) (i : Nat) : Int := (l[i]?.getD (0, 0, 0)).2.2
/-- Half-edge j: its vertex; the other end. -/
def eP (l : List (Int × Int × Int)) (j : Nat) : Nat := if j % 2 = 0 then eU l (j / 2) else eV l (j / 2)
def eQ (l : List (Int × Int × Int)) (j : Nat) : Nat := if j % 2 = 0 then eV l (j / 2) else eU l (j / 2)
/-- The edges of a graph with n vertices. -/
def GOk (n : Nat) (l : List (Int × Int × Int)) : Prop := ∀ e ∈ l, 0 ≤ e.1 ∧ e.1 < n ∧ 0 ≤ e.2.1 ∧ e.2.1 < n ∧ e.1 ≠ e.2.1
/-- The labels of a graph. -/
def gLb (n : Nat) (l : List (Int × Int × Int)) : Nat → Nat := foldU n (l.map fun e => (e.1, e.2.1)) fun i => i
section
variable {n : Nat} {l : List (Int × Int × Int)}
theorem eU_get {i : Nat} (h : i < l.length) : eU l i = l[i].1.toNat := by simp [eU, h]
theorem eV_get {i : Nat} (h : i < l.length) : eV l i = l[i].2.1.toNat := by simp [eV, h]
theorem eW_get {i : Nat} (h : i < l.length) : eW l i = l[i].2.2 := by simp [eW, h]
theorem GOk.at_ (h : GOk n l) {i : Nat} (hi : i < l.length) : l[i].1 = (eU l i : Int) ∧ l[i].2.1 = (eV l i : Int) ∧ eU l i < n ∧ eV l i < n ∧ eU l i ≠ eV l i := by
  have := h l[i] (List.getElem_mem hi)
  rw [eU_get hi, eV_get hi]; omega
theorem GOk.take (h : GOk n l) (k : Nat) : GOk n (l.take k) := fun e he => h e (List.mem_of_mem_take he)
theorem eP_even {i : Nat} : eP l (2 * i) = eU l i := by unfold eP; rw [if_pos (by omega), show 2 * i / 2 = i by omega]
theorem eP_odd {i : Nat} : eP l (2 * i + 1) = eV l i := by unfold eP; rw [if_neg (by omega), show (2 * i + 1) / 2 = i by omega]
theorem GOk.P_lt (h : GOk n l) {j : Nat} (hj : j < 2 * l.length) : eP l j < n ∧ eQ l j < n ∧ eP l j ≠ eQ l j := by
  have := h.at_ (i := j / 2) (by omega)
  unfold eP eQ
  split
  · exact ⟨this.2.2.1, this.2.2.2.1, this.2.2.2.2⟩
  · exact ⟨this.2.2.2.1, this.2.2.1, fun e => this.2.2.2.2 e.symm⟩
/-- The first loop of build: how often a vertex has been met, one place on. -/
def csA (l : List (Int × Int × Int)) (k : Nat) : Nat → Nat := fun i => cnt (fun j => eP l j + 1 == i) (2 * k)
theorem csA_zero : csA l 0 = fun _ => 0 := rfl
theorem csA_succ (k : Nat) : upd (upd (csA l k) (eU l k + 1) (csA l k (eU l k + 1) + 1)) (eV l k + 1) (upd (csA l k) (eU l k + 1) (csA l k (eU l k + 1) + 1) (eV l k + 1) + 1) = csA l (k + 1) := by
  funext i
  have e : csA l (k + 1) i = csA l k i + (if eU l k + 1 = i then 1 else 0) + (if eV l k + 1 = i then 1 else 0) := by
    unfold csA
    rw [show 2 * (k + 1) = 2 * k + 1 + 1 by omega]
    simp only [cnt, eP_even, eP_odd, beq_iff_eq]
  rw [e]
  unfold upd
  by_cases h1 : i = eV l k + 1
  · subst h1
    rw [if_pos rfl]
    by_cases h2 : eV l k + 1 = eU l k + 1
    · rw [if_pos h2, if_pos h2.symm, if_pos rfl, h2]
    · rw [if_neg h2, if_neg (fun e => h2 e.symm), if_pos rfl]
  · rw [if_neg h1]
    by_cases h2 : i = eU l k + 1
    · subst h2
      rw [if_pos rfl, if_pos rfl, if_neg (fun e => h1 e.symm)]
    · rw [if_neg h2, if_neg (fun e => h2 e.symm), if_neg (fun e => h1 e.symm)]; omega
theorem csA_le (k i : Nat) : csA l k i ≤ 2 * k := cnt_le _ _
/-- The second loop: sums up to v. -/
def csB (l : List (Int × Int × Int)) (v : Nat) : Nat → Nat := fun i => if i ≤ v then stt (2 * l.length) (eP l) i else csA l l.length i
theorem csB_zero : csB l 0 = csA l l.length := by
  funext i; unfold csB; split
  · obtain rfl : i = 0 := by omega
    rw [stt_zero]; exact (cnt_zero fun j _ => by simp).symm
  · rfl
theorem csA_full (v : Nat) : csA l l.length (v + 1) = cls (2 * l.length) (eP l) v := by
  unfold csA cls
  exact cnt_congr fun j _ => by rw [Bool.eq_iff_iff]; simp
theorem csB_succ (v : Nat) : upd (csB l v) (v + 1) (csB l v (v + 1) + csB l v v) = csB l (v + 1) := by
  funext i
  have e1 : csB l v (v + 1) = cls (2 * l.length) (eP l) v := by unfold csB; rw [if_neg (by omega)]; exact csA_full v
  have e2 : csB l v v = stt (2 * l.length) (eP l) v := by unfold csB; rw [if_pos (Nat.le_refl _)]
  rw [e1, e2]
  unfold upd
  by_cases h : i = v + 1
  · subst h
    rw [if_pos rfl]
    unfold csB
    rw [if_pos (Nat.le_refl _), stt_succ]; omega
  · rw [if_neg h]
    unfold csB
    by_cases h2 : i ≤ v
    · rw [if_pos h2, if_pos (by omega)]
    · rw [if_neg h2, if_neg (by omega)]
theorem csB_le (v i : Nat) : csB l v i ≤ 2 * l.length := by
  unfold csB; split
  · exact stt_le _ _ _
  · exact csA_le _ _
/-- The third loop: where the next half-edge of a vertex goes, when j of them have been laid. -/
def csN (l : List (Int × Int × Int)) (j : Nat) : Nat → Nat := fun v => stt (2 * l.length) (eP l) v + cnt (fun i => eP l i == v) j
theorem csN_zero : csN l 0 = stt (2 * l.length) (eP l) := by funext v; simp [csN, cnt]
theorem csN_at (j : Nat) : csN l j (eP l j) = pos (2 * l.length) (eP l) j := rfl
theorem csN_succ (j : Nat) : upd (csN l j) (eP l j) (csN l j (eP l j) + 1) = csN l (j + 1) := by
  funext v
  unfold upd csN
  simp only [cnt, beq_iff_eq]
  by_cases h : v = eP l j
  · subst h; rw [if_pos rfl, if_pos rfl]; omega
  · rw [if_neg h, if_neg (fun e => h e.symm)]; omega
/-- What the list holds, when j half-edges have been laid. -/
def Laid (l : List (Int × Int × Int)) (j : Nat) (lst : Nat → Nat) : Prop := ∀ i, i < j → lst (pos (2 * l.length) (eP l) i) = i / 2
theorem Laid.zero (lst : Nat → Nat) : Laid l 0 lst := fun i hi => by omega
theorem Laid.succ {j : Nat} {lst : Nat → Nat} (h : Laid l j lst) (hj : j < 2 * l.length) : Laid l (j + 1) (upd lst (pos (2 * l.length) (eP l) j) (j / 2)) := by
  intro i hi
  by_cases e : i = j
  · subst e; exact upd_same _ _ _
  · rw [upd_other _ _ (pos_ne (by omega) hj)]; exact h i (by omega)
/-- The edges of a vertex, by their numbers. -/
def inc (l : List (Int × Int × Int)) (v : Nat) : List Nat := mem (2 * l.length) (eP l) v
theorem Laid.row {lst : Nat → Nat} (h : Laid l (2 * l.length) lst) {v t j : Nat} (hj : (inc l v)[t]? = some j) : lst (stt (2 * l.length) (eP l) v + t) = j / 2 := by
  obtain ⟨h1, h2, h3⟩ := filter_range_get _ _ _ _ hj
  have e : eP l j = v := by simpa using h2
  have := h j h1
  unfold pos at this
  rw [e, h3] at this
  exact this
theorem inc_len (v : Nat) : (inc l v).length = cls (2 * l.length) (eP l) v := mem_len _ _ _
theorem inc_mem {v j : Nat} : j ∈ inc l v ↔ j < 2 * l.length ∧ eP l j = v := by simp [inc, mem]
theorem inc_get {v t j : Nat} (hj : (inc l v)[t]? = some j) : j < 2 * l.length ∧ eP l j = v := inc_mem.1 (List.mem_of_getElem? hj)
theorem stt_end (v : Nat) : stt (2 * l.length) (eP l) (v + 1) = stt (2 * l.length) (eP l) v + (inc l v).length := by rw [stt_succ, inc_len]
theorem stt_le2 (v : Nat) : stt (2 * l.length) (eP l) v ≤ 2 * l.length := stt_le _ _ _
theorem gLb_lab (n : Nat) (l : List (Int × Int × Int)) : Lab n (gLb n l) := foldU_lab n _ (Lab.id_ n)
theorem gLb_snoc (e : Int × Int × Int) : gLb n (l ++ [e]) = unionL n (gLb n l) e.1 e.2.1 := by
  unfold gLb
  rw [List.map_append, List.map_cons, List.map_nil, foldU_snoc]
end
/-- What New answers: 0, or the error. -/
def gErr (n : Int) : List (Int × Int × Int) → Int
  | [] => 0
  | e :: l => if e.1 < 0 ∨ n ≤ e.1 ∨ e.2.1 < 0 ∨ n ≤ e.2.1 then 3 else if e.1 = e.2.1 then 9 else gErr n l
def newE (n : Int) (l : List (Int × Int × Int)) : Int := if n < 0 ∨ 4096 < n ∨ 16384 < l.length then 2 else gErr n l
theorem gErr_ok {n : Nat} {l : List (Int × Int × Int)} : gErr n l = 0 ↔ GOk n l := by
  induction l with
  | nil => simp [gErr, GOk]
  | cons e l ih =>
    unfold gErr
    constructor
    · intro h
      split at h
      · cases h
      · split at h
        · cases h
        · intro x hx
          rcases List.mem_cons.1 hx with rfl | hx
          · omega
          · exact ih.1 h x hx
    · intro h
      have he := h e (by simp)
      rw [if_neg (by omega), if_neg he.2.2.2.2]
      exact ih.2 fun x hx => h x (by simp [hx])
theorem gErr_drop {n : Int} {l : List (Int × Int × Int)} {k : Nat} (h : k < l.length) : gErr n (l.drop k) = if l[k].1 < 0 ∨ n ≤ l[k].1 ∨ l[k].2.1 < 0 ∨ n ≤ l[k].2.1 then 3 else if l[k].1 = l[k].2.1 then 9 else gErr n (l.drop (k + 1)) := by
  rw [List.drop_eq_getElem_cons h, gErr]
end Go.Proofs.YtoomcgmbaogjbaaDoor
