/- Plain: the groups of labels, and where their elements go in one list. -/
import Derived.Test.YtoomcgmbaogjbaaDoorDsuPaths
namespace Go.Proofs.YtoomcgmbaogjbaaDoor
open Go.RowKit
set_option linter.unusedVariables false

/-- The members of r, in increasing order; the roots; the groups. -/
def mem (n : Nat) (L : Nat → Nat) (r : Nat) : List Nat := (List.range n).filter fun i => L i == r
def rts (L : Nat → Nat) (k : Nat) : List Nat := (List.range k).filter fun i => L i == i
def grp (n : Nat) (L : Nat → Nat) : List (List Int) := (rts L n).map fun r => (mem n L r).map fun (i : Nat) => (i : Int)

theorem filter_range_len (p : Nat → Bool) (n : Nat) : ((List.range n).filter p).length = cnt p n := by
  induction n with
  | zero => rfl
  | succ n ih =>
    rw [List.range_succ, List.filter_append, List.length_append, ih]
    simp only [cnt]
    cases h : p n <;> simp [h]
theorem filter_range_get (p : Nat → Bool) (n t j : Nat) (h : ((List.range n).filter p)[t]? = some j) : j < n ∧ p j = true ∧ cnt p j = t := by
  induction n with
  | zero => simp at h
  | succ n ih =>
    rw [List.range_succ, List.filter_append] at h
    by_cases ht : t < ((List.range n).filter p).length
    · rw [List.getElem?_append_left ht] at h
      obtain ⟨a, b, c⟩ := ih h
      exact ⟨by omega, b, c⟩
    · rw [List.getElem?_append_right (by omega)] at h
      cases hp : p n
      · simp [hp] at h
      · rw [filter_range_len] at h ht
        simp only [List.filter_cons, hp, if_true, List.filter_nil] at h
        have h0 : t - cnt p n = 0 := by
          rcases Nat.eq_zero_or_pos (t - cnt p n) with e | e
          · exact e
          · rw [List.getElem?_eq_none (by simp; omega)] at h; cases h
        rw [h0] at h
        simp at h
        subst h
        exact ⟨by omega, hp, by omega⟩
theorem mem_len (n : Nat) (L : Nat → Nat) (r : Nat) : (mem n L r).length = cls n L r := filter_range_len _ _
theorem rts_len (n : Nat) (L : Nat → Nat) : (rts L n).length = sets n L := filter_range_len _ _
theorem grp_len (n : Nat) (L : Nat → Nat) : (grp n L).length = sets n L := by simp [grp, rts_len]
theorem rts_succ_in {L : Nat → Nat} {k : Nat} (h : L k = k) : rts L (k + 1) = rts L k ++ [k] := by simp [rts, List.range_succ, List.filter_append, h]
theorem rts_succ_out {L : Nat → Nat} {k : Nat} (h : L k ≠ k) : rts L (k + 1) = rts L k := by simp [rts, List.range_succ, List.filter_append, h]

/-- Where the members of m begin. -/
def stt (n : Nat) (L : Nat → Nat) (m : Nat) : Nat := cnt (fun j => decide (L j < m)) n
theorem stt_zero (n : Nat) (L : Nat → Nat) : stt n L 0 = 0 := cnt_zero fun i _ => by simp
theorem stt_succ (n : Nat) (L : Nat → Nat) (m : Nat) : stt n L (m + 1) = stt n L m + cls n L m := by
  unfold stt cls
  rw [← cnt_or (fun i _ => by simp; omega)]
  apply cnt_congr
  intro i _
  rw [Bool.eq_iff_iff]
  simp
  omega
theorem stt_le (n : Nat) (L : Nat → Nat) (m : Nat) : stt n L m ≤ n := cnt_le _ _
theorem stt_mono (n : Nat) (L : Nat → Nat) {a b : Nat} (h : a ≤ b) : stt n L a ≤ stt n L b := cnt_mono fun i _ hi => by simp at hi ⊢; omega
theorem cls_none {n : Nat} {L : Nat → Nat} (hl : Lab n L) {k : Nat} (h : L k ≠ k) : cls n L k = 0 := cnt_zero fun i hi => by
  have := hl.idem i hi
  simp
  intro e
  rw [e] at this
  exact h this

/-- Where element j goes. -/
def pos (n : Nat) (L : Nat → Nat) (j : Nat) : Nat := stt n L (L j) + cnt (fun i => L i == L j) j
theorem cnt_step {p : Nat → Bool} {j m : Nat} (h : p j = true) (hm : j < m) : cnt p j + 1 ≤ cnt p m := by
  have h1 : cnt p (j + 1) = cnt p j + 1 := by simp [cnt, h]
  rw [← h1]
  have key : ∀ a b, a ≤ b → cnt p a ≤ cnt p b := by
    intro a b hab
    induction b with
    | zero => have : a = 0 := by omega
              subst this; exact Nat.le_refl _
    | succ b ih =>
      by_cases e : a = b + 1
      · subst e; exact Nat.le_refl _
      · have := ih (by omega); simp only [cnt]; omega
  exact key _ _ hm
theorem pos_lt_end {n : Nat} {L : Nat → Nat} {j : Nat} (hj : j < n) : pos n L j < stt n L (L j + 1) := by
  rw [stt_succ]
  have : cnt (fun i => L i == L j) j + 1 ≤ cls n L (L j) := cnt_step (by simp) hj
  unfold pos; omega
theorem pos_lt {n : Nat} {L : Nat → Nat} {j : Nat} (hj : j < n) : pos n L j < n := by
  have := pos_lt_end (L := L) hj
  have := stt_le n L (L j + 1); omega
theorem pos_ne {n : Nat} {L : Nat → Nat} {j k : Nat} (hjk : j < k) (hk : k < n) : pos n L j ≠ pos n L k := by
  rcases Nat.lt_trichotomy (L j) (L k) with h | h | h
  · have h1 := pos_lt_end (n := n) (L := L) (show j < n by omega)
    have h2 := stt_mono n L (show L j + 1 ≤ L k by omega)
    unfold pos at *; omega
  · have h1 : cnt (fun i => L i == L j) j + 1 ≤ cnt (fun i => L i == L j) k := cnt_step (by simp) hjk
    unfold pos
    rw [← h]; omega
  · have h1 := pos_lt_end (n := n) (L := L) hk
    have h2 := stt_mono n L (show L k + 1 ≤ L j by omega)
    unfold pos at *; omega
theorem sum_in {n : Nat} {L : Nat → Nat} (r : Nat) : stt n L r + cls n L r ≤ n := by rw [← stt_succ]; exact stt_le _ _ _

/-- What the list holds in the end: the rows of the groups. -/
theorem row_of {n : Nat} {L lst : Nat → Nat} (h : ∀ j, j < n → lst (pos n L j) = j) (r t j : Nat) (hj : (mem n L r)[t]? = some j) : lst (stt n L r + t) = j := by
  obtain ⟨h1, h2, h3⟩ := filter_range_get _ _ _ _ hj
  have e : L j = r := by simpa using h2
  have := h j h1
  unfold pos at this
  rw [e, h3] at this
  exact this

theorem Lab.first {n : Nat} {L : Nat → Nat} (hl : Lab n L) {k : Nat} (hk : k < n) (h : L k = k) : cnt (fun i => L i == k) k = 0 := cnt_zero fun i hi => by
  have := hl.le i (by omega)
  simp; omega

/-- The groups' windows, up to k. -/
def wins (n : Nat) (L : Nat → Nat) (b : Nat) (k : Nat) : List Value := (rts L k).map fun r => Value.slice (some ⟨b, stt n L r, none⟩) (cls n L r) (cls n L r)
theorem wins_len (n : Nat) (L : Nat → Nat) (b k : Nat) : (wins n L b k).length = (rts L k).length := by simp [wins]
theorem wins_succ_in {n : Nat} {L : Nat → Nat} {b k : Nat} (h : L k = k) : wins n L b (k + 1) = wins n L b k ++ [Value.slice (some ⟨b, stt n L k, none⟩) (cls n L k) (cls n L k)] := by simp [wins, rts_succ_in h]
theorem wins_succ_out {n : Nat} {L : Nat → Nat} {b k : Nat} (h : L k ≠ k) : wins n L b (k + 1) = wins n L b k := by simp [wins, rts_succ_out h]
theorem rts_le (L : Nat → Nat) (k : Nat) : (rts L k).length ≤ k := by
  have := List.length_filter_le (fun i => L i == i) (List.range k)
  simpa [rts] using this

/-- A value that is a list of lists of ints, in blocks from B on. -/
def IsGrp (w : World) (B : Nat) (v : Value) (G : List (List Int)) : Prop :=
  ∃ A c vs, v = .slice A G.length c ∧ (∀ ad, A = some ad → B ≤ ad.block) ∧ Rd w A G.length 1 vs ∧ ∀ j (hj : j < G.length), ∃ A' c', vs[j]? = some (.slice A' G[j].length c') ∧ (∀ ad, A' = some ad → B ≤ ad.block) ∧ Rd w A' G[j].length 1 (is G[j])
theorem IsGrp.keep {w w' : World} {B : Nat} {v : Value} {G : List (List Int)} (h : IsGrp w B v G) (k : Below w.heap.size w w') : IsGrp w' B v G := by
  obtain ⟨A, c, vs, e, hB, hr, hg⟩ := h
  exact ⟨A, c, vs, e, hB, hr.below k, fun j hj => by obtain ⟨A', c', h1, h2, h3⟩ := hg j hj; exact ⟨A', c', h1, h2, h3.below k⟩⟩
theorem IsGrp.fr {w w' : World} {B : Nat} {v : Value} {G : List (List Int)} {S : List Nat} (h : IsGrp w B v G) (k : Fr S w w') (hS : ∀ k ∈ S, k < B) : IsGrp w' B v G := by
  obtain ⟨A, c, vs, e, hB, hr, hg⟩ := h
  exact ⟨A, c, vs, e, hB, hr.fr k (fun ad e hm => by have := hS _ hm; have := hB ad e; omega), fun j hj => by
    obtain ⟨A', c', h1, h2, h3⟩ := hg j hj
    exact ⟨A', c', h1, h2, h3.fr k (fun ad e hm => by have := hS _ hm; have := h2 ad e; omega)⟩⟩
theorem IsGrp.drewN {w : World} {B : Nat} {v : Value} {G : List (List Int)} (h : IsGrp w B v G) (k : Nat) : IsGrp (w.drewN k) B v G := h

theorem grp_is {w : World} {n b B : Nat} {L lst : Nat → Nat} {t : Nat} {A : Option Addr} {c : Nat} (h : ∀ j, j < n → lst (pos n L j) = j) (hb : Blk w b t (arr n lst)) (hr : Rd w A (rts L n).length 1 (wins n L b n)) (hB : B ≤ b) (hA : ∀ ad, A = some ad → B ≤ ad.block) :
    IsGrp w B (.slice A (sets n L) c) (grp n L) := by
  refine ⟨A, c, wins n L b n, by rw [grp_len], hA, by rw [grp_len, ← rts_len]; exact hr, fun j hj => ?_⟩
  have hj' : j < (rts L n).length := by rw [rts_len, ← grp_len]; exact hj
  have e : (grp n L)[j] = (mem n L (rts L n)[j]).map fun (i : Nat) => (i : Int) := by simp [grp]
  have el : (grp n L)[j].length = cls n L (rts L n)[j] := by rw [e, List.length_map, mem_len]
  refine ⟨some ⟨b, stt n L (rts L n)[j], none⟩, cls n L (rts L n)[j], ?_, fun ad e => by injection e with e; subst e; exact hB, ?_⟩
  · rw [el]
    simp [wins, hj']
  · rw [el, e]
    refine ⟨by simp [is, mem_len], fun _ => ⟨b, stt n L (rts L n)[j], rfl, hb.lt, fun q u hu => ?_⟩⟩
    have hq : q < (mem n L (rts L n)[j]).length := by
      have := (List.getElem?_eq_some_iff.1 hu).1
      simpa [is] using this
    have hu' : u = .int .i64 ((mem n L (rts L n)[j])[q] : Nat) := by
      have := (List.getElem?_eq_some_iff.1 hu).2
      simp [is] at this
      exact this.symm
    have hrow := row_of h (rts L n)[j] q _ (List.getElem?_eq_getElem hq)
    have hin : stt n L (rts L n)[j] + q < n := by
      have := sum_in (n := n) (L := L) (rts L n)[j]
      rw [mem_len] at hq; omega
    rw [hb.int hin, hrow, hu']
end Go.Proofs.YtoomcgmbaogjbaaDoor
