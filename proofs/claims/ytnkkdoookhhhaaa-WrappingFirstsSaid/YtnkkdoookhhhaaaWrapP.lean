/- Plain: graphs whose edges bear displacements; components that have a potential, and those that wrap. Nothing of the program. -/
import Derived.Test.YtnkkdoookhhhaaaSetsQ
namespace Go.Proofs.Ytnkkdoookhhhaaa
open Go.RowKit
set_option linter.unusedVariables false

section
variable (n : Nat) (s t : Nat → Nat)
/-- The labels of the graph with the edges E, whose ends are s and t. -/
def labE (E : List Nat) : Nat → Nat := foldU n (E.map fun e => ((s e : Int), (t e : Int))) (fun i => i)
def InE (E : List Nat) : Prop := ∀ e ∈ E, s e < n ∧ t e < n
/-- φ is a potential of the component of v, for the displacements f. -/
def Good (f : Nat → Int) (E : List Nat) (L : Nat → Nat) (v : Nat) (φ : Nat → Int) : Prop := ∀ e ∈ E, L (s e) = L v → φ (t e) = φ (s e) + f e
def Flat (f : Nat → Int) (E : List Nat) (L : Nat → Nat) (v : Nat) : Prop := ∃ φ, Good s t f E L v φ
/-- Every potential rises by d from r to v. -/
def Pt (f : Nat → Int) (E : List Nat) (L : Nat → Nat) (r v : Nat) (d : Int) : Prop := ∀ φ, Good s t f E L r φ → φ v = φ r + d
end
section
variable {n : Nat} {s t : Nat → Nat} {f : Nat → Int} {E : List Nat} {L : Nat → Nat}
theorem labE_nil : labE n s t [] = fun i => i := rfl
theorem unionL_nat {L : Nat → Nat} {a b : Nat} (ha : a < n) (hb : b < n) : unionL n L (a : Int) (b : Int) = merge L (L a) (L b) := by
  unfold unionL
  rw [inB_nat ha, inB_nat hb]
  simp
theorem labE_snoc {e : Nat} (h : s e < n ∧ t e < n) : labE n s t (E ++ [e]) = merge (labE n s t E) (labE n s t E (s e)) (labE n s t E (t e)) := by
  unfold labE
  rw [List.map_append, List.map_cons, List.map_nil, foldU_snoc, unionL_nat h.1 h.2]
theorem labE_lab (E : List Nat) : Lab n (labE n s t E) := foldU_lab n _ (Lab.id_ n)
theorem InE.snoc {e : Nat} (h : InE n s t E) (he : s e < n ∧ t e < n) : InE n s t (E ++ [e]) := by
  intro x hx
  rcases List.mem_append.1 hx with hx | hx
  · exact h x hx
  · rw [List.mem_singleton.1 hx]; exact he
theorem InE.nil : InE n s t [] := fun e he => by simp at he
theorem labE_edge (hin : InE n s t E) {e : Nat} (he : e ∈ E) : labE n s t E (s e) = labE n s t E (t e) := by
  have h := hin e he
  have := foldU_joins (n := n) (l := E.map fun e => ((s e : Int), (t e : Int))) (fun i => i) (e := ((s e : Int), (t e : Int))) (List.mem_map.2 ⟨e, he, rfl⟩) (inB_nat h.1) (inB_nat h.2)
  exact this
/-- What is the same at both ends of every edge is the same all over a component. -/
theorem labE_ind {α : Type} (c : Nat → α) (h : ∀ e ∈ E, c (s e) = c (t e)) {i j : Nat} (hi : i < n) (hj : j < n) (hl : labE n s t E i = labE n s t E j) : c i = c j := by
  classical
  have := foldU_closed (n := n) (l := E.map fun e => ((s e : Int), (t e : Int))) (L := fun i => i) (f := fun k => decide (c k = c i)) (fun e he h1 h2 => by
    obtain ⟨x, hx, rfl⟩ := List.mem_map.1 he
    show decide (c (s x) = c i) = decide (c (t x) = c i)
    rw [h x hx]) (fun i j _ _ h => by have h' : i = j := h; rw [h']) i j hi hj hl
  simp at this
  exact this.symm
theorem good_unique (hin : InE n s t E) {φ ψ : Nat → Int} {v i : Nat} (hφ : Good s t f E (labE n s t E) v φ) (hψ : Good s t f E (labE n s t E) v ψ) (hv : v < n) (hi : i < n)
    (hl : labE n s t E i = labE n s t E v) : φ i - φ v = ψ i - ψ v := by
  have := labE_ind (n := n) (s := s) (t := t) (E := E) (fun k => if labE n s t E k = labE n s t E v then φ k - ψ k else 0) (fun e he => by
    have h1 := labE_edge hin he
    by_cases h : labE n s t E (s e) = labE n s t E v
    · show (if _ then _ else _) = (if _ then _ else _)
      rw [if_pos h, if_pos (h1 ▸ h), hφ e he h, hψ e he h]; omega
    · show (if _ then _ else _) = (if _ then _ else _)
      rw [if_neg h, if_neg (h1 ▸ h)]) hi hv hl
  simp only [hl, if_true] at this
  omega
theorem good_congr {φ : Nat → Int} {v w : Nat} (h : L v = L w) : Good s t f E L v φ ↔ Good s t f E L w φ := by unfold Good; rw [h]
theorem flat_congr {v w : Nat} (h : L v = L w) : Flat s t f E L v ↔ Flat s t f E L w := by unfold Flat Good; rw [h]
theorem good_add {e v : Nat} {φ : Nat → Int} : Good s t f (E ++ [e]) L v φ ↔ Good s t f E L v φ ∧ (L (s e) = L v → φ (t e) = φ (s e) + f e) := by
  unfold Good
  constructor
  · intro h
    exact ⟨fun x hx => h x (by simp [hx]), h e (by simp)⟩
  · rintro ⟨h1, h2⟩ x hx
    rcases List.mem_append.1 hx with hx | hx
    · exact h1 x hx
    · rw [List.mem_singleton.1 hx]; exact h2
theorem merge_iff {L : Nat → Nat} {x y i : Nat} : merge L x y i = min x y ↔ L i = x ∨ L i = y := by
  constructor
  · intro h
    unfold merge at h
    split at h
    · omega
    · omega
  · exact merge_in
theorem good_join {e v : Nat} {φ : Nat → Int} (hv : L v = L (s e) ∨ L v = L (t e)) :
    Good s t f (E ++ [e]) (merge L (L (s e)) (L (t e))) v φ ↔ Good s t f E L (s e) φ ∧ Good s t f E L (t e) φ ∧ φ (t e) = φ (s e) + f e := by
  rw [good_add]
  unfold Good
  rw [merge_in hv, merge_in (.inl rfl)]
  constructor
  · rintro ⟨h1, h2⟩
    exact ⟨fun x hx hl => h1 x hx (merge_iff.2 (.inl hl)), fun x hx hl => h1 x hx (merge_iff.2 (.inr hl)), h2 rfl⟩
  · rintro ⟨h1, h2, h3⟩
    refine ⟨fun x hx hl => ?_, fun _ => h3⟩
    rcases merge_iff.1 hl with hl | hl
    · exact h1 x hx hl
    · exact h2 x hx hl
theorem good_out {e v : Nat} {φ : Nat → Int} (h1 : L v ≠ L (s e)) (h2 : L v ≠ L (t e)) :
    Good s t f (E ++ [e]) (merge L (L (s e)) (L (t e))) v φ ↔ Good s t f E L v φ := by
  rw [good_add]
  unfold Good
  rw [merge_out h1 h2, merge_in (.inl rfl)]
  have hm : ∀ i, merge L (L (s e)) (L (t e)) i = L v ↔ L i = L v := by
    intro i
    by_cases h : L i = L (s e) ∨ L i = L (t e)
    · rw [merge_in h]
      constructor
      · intro e; omega
      · intro e; omega
    · have ⟨ha, hb⟩ := not_or.1 h
      rw [merge_out ha hb]
  constructor
  · rintro ⟨h3, _⟩ x hx hl
    exact h3 x hx ((hm _).2 hl)
  · intro h3
    exact ⟨fun x hx hl => h3 x hx ((hm _).1 hl), fun hl => by omega⟩
theorem flat_out {e v : Nat} (h1 : L v ≠ L (s e)) (h2 : L v ≠ L (t e)) : Flat s t f (E ++ [e]) (merge L (L (s e)) (L (t e))) v ↔ Flat s t f E L v := by
  unfold Flat
  simp only [good_out h1 h2]
/-- An edge within a component. -/
theorem flat_same {e v r : Nat} {da db : Int} (hv : L v = L (s e)) (hr : L r = L (s e)) (ha : Pt s t f E L r (s e) da) (hb : Pt s t f E L r (t e) db) :
    Flat s t f (E ++ [e]) L v ↔ Flat s t f E L v ∧ da + f e - db = 0 := by
  have hrv : L r = L v := by rw [hr, hv]
  constructor
  · rintro ⟨φ, h⟩
    obtain ⟨h1, h2⟩ := good_add.1 h
    have h3 := (good_congr hrv).2 h1
    have := ha φ h3
    have := hb φ h3
    have := h2 hv.symm
    exact ⟨⟨φ, h1⟩, by omega⟩
  · rintro ⟨⟨φ, h⟩, h0⟩
    refine ⟨φ, good_add.2 ⟨h, fun _ => ?_⟩⟩
    have h3 := (good_congr hrv).2 h
    have := ha φ h3
    have := hb φ h3
    omega
theorem flat_same_out {e v : Nat} (hv : L v ≠ L (s e)) : Flat s t f (E ++ [e]) L v ↔ Flat s t f E L v := by
  unfold Flat
  simp only [good_add]
  constructor
  · rintro ⟨φ, h, _⟩; exact ⟨φ, h⟩
  · rintro ⟨φ, h⟩; exact ⟨φ, h, fun e => absurd e.symm hv⟩
/-- An edge between two components. -/
theorem flat_join (hin : InE n s t E) (hL : L = labE n s t E) {e v : Nat} (hne : L (s e) ≠ L (t e)) (hv : L v = L (s e) ∨ L v = L (t e)) :
    Flat s t f (E ++ [e]) (merge L (L (s e)) (L (t e))) v ↔ Flat s t f E L (s e) ∧ Flat s t f E L (t e) := by
  constructor
  · rintro ⟨φ, h⟩
    obtain ⟨h1, h2, _⟩ := (good_join hv).1 h
    exact ⟨⟨φ, h1⟩, ⟨φ, h2⟩⟩
  · rintro ⟨⟨φ, h1⟩, ⟨ψ, h2⟩⟩
    refine ⟨fun i => if L i = L (s e) then φ i else ψ i + (φ (s e) + f e - ψ (t e)), (good_join hv).2 ⟨fun x hx hl => ?_, fun x hx hl => ?_, ?_⟩⟩
    · have he : L (s x) = L (t x) := by rw [hL]; exact labE_edge hin hx
      simp only [hl, ← he, if_true]
      exact h1 x hx hl
    · have he : L (s x) = L (t x) := by rw [hL]; exact labE_edge hin hx
      have hn : ¬ L (t e) = L (s e) := fun h => hne h.symm
      simp only [hl, ← he, if_neg hn]
      rw [h2 x hx hl]; omega
    · have hn : ¬ L (t e) = L (s e) := fun h => hne h.symm
      simp only [if_true, if_neg hn]
      omega
theorem Pt.add {e r v : Nat} {d : Int} (h : Pt s t f E L r v d) : Pt s t f (E ++ [e]) L r v d := fun φ hφ => h φ (good_add.1 hφ).1
theorem Pt.out {e r v : Nat} {d : Int} (h : Pt s t f E L r v d) (h1 : L r ≠ L (s e)) (h2 : L r ≠ L (t e)) : Pt s t f (E ++ [e]) (merge L (L (s e)) (L (t e))) r v d :=
  fun φ hφ => h φ ((good_out h1 h2).1 hφ)
/-- Behind an edge between two components: within one of them, and from one to the other. -/
theorem Pt.in1 {e r v : Nat} {d : Int} (h : Pt s t f E L r v d) (hr : L r = L (s e) ∨ L r = L (t e)) : Pt s t f (E ++ [e]) (merge L (L (s e)) (L (t e))) r v d := fun φ hφ => by
  obtain ⟨g1, g2, _⟩ := (good_join hr).1 hφ
  rcases hr with hr | hr
  · exact h φ ((good_congr hr).2 g1)
  · exact h φ ((good_congr hr).2 g2)
theorem Pt.over {e ra rb v : Nat} {da db d : Int} (ha : Pt s t f E L ra (s e) da) (hb : Pt s t f E L rb (t e) db) (hra : L ra = L (s e)) (hrb : L rb = L (t e)) (h : Pt s t f E L rb v d) :
    Pt s t f (E ++ [e]) (merge L (L (s e)) (L (t e))) ra v (d + (da + f e - db)) := fun φ hφ => by
  obtain ⟨g1, g2, g3⟩ := (good_join (.inl hra)).1 hφ
  have := ha φ ((good_congr hra).2 g1)
  have := hb φ ((good_congr hrb).2 g2)
  have := h φ ((good_congr hrb).2 g2)
  omega
theorem Pt.over' {e ra rb v : Nat} {da db d : Int} (ha : Pt s t f E L ra (s e) da) (hb : Pt s t f E L rb (t e) db) (hra : L ra = L (s e)) (hrb : L rb = L (t e)) (h : Pt s t f E L ra v d) :
    Pt s t f (E ++ [e]) (merge L (L (s e)) (L (t e))) rb v (d + -(da + f e - db)) := fun φ hφ => by
  obtain ⟨g1, g2, g3⟩ := (good_join (.inr hrb)).1 hφ
  have := ha φ ((good_congr hra).2 g1)
  have := hb φ ((good_congr hrb).2 g2)
  have := h φ ((good_congr hra).2 g1)
  omega
end

/-- One coordinate of a torus: the displacements from the roots, which components wrap, whether one does. -/
structure Co (n : Nat) (s t : Nat → Nat) (f : Nat → Int) (E : List Nat) (rep : Nat → Nat) (p : Nat → Int) (wd : Nat → Bool) (ac : Bool) : Prop where
  pot : ∀ i, i < n → Pt s t f E (labE n s t E) (rep i) i (p i)
  root : ∀ i, i < n → p (rep i) = 0
  bd : ∀ i j, i < n → j < n → labE n s t E i = labE n s t E j → p i - p j + 1 ≤ cls n (labE n s t E) (labE n s t E i)
  wd : ∀ i, i < n → (wd (rep i) = true ↔ ¬ Flat s t f E (labE n s t E) i)
  ac : ac = true ↔ ∃ i, i < n ∧ ¬ Flat s t f E (labE n s t E) i

section
variable {n : Nat} {s t : Nat → Nat} {f : Nat → Int} {E : List Nat} {rep : Nat → Nat} {p : Nat → Int} {wd : Nat → Bool} {ac : Bool}
theorem flat_nil (L : Nat → Nat) (v : Nat) : Flat s t f [] L v := ⟨fun _ => 0, fun e he => by simp at he⟩
theorem Co.new (n : Nat) (s t : Nat → Nat) (f : Nat → Int) : Co n s t f [] (fun i => i) (fun _ => 0) (fun _ => false) false :=
  ⟨fun i _ φ _ => by simp, fun _ _ => rfl, fun i j hi hj _ => by rw [labE_nil, cls_id hi]; simp, fun i _ => by simp [flat_nil], by simp [flat_nil]⟩
/-- An edge within a component. -/
theorem Co.same (h : Co n s t f E rep p wd ac) {e : Nat} (hin : InE n s t E) (he : s e < n ∧ t e < n) (hrep : ∀ i j, i < n → j < n → (rep i = rep j ↔ labE n s t E i = labE n s t E j)) (hrl : ∀ i, i < n → rep i < n ∧ rep (rep i) = rep i)
    (hs : rep (s e) = rep (t e)) {q : Bool} (hq : q = true ↔ p (s e) + f e - p (t e) ≠ 0) :
    Co n s t f (E ++ [e]) rep p (updb wd (rep (s e)) (wd (rep (s e)) || q)) (ac || q) := by
  have hl := (hrep _ _ he.1 he.2).1 hs
  have hL : labE n s t (E ++ [e]) = labE n s t E := by rw [labE_snoc he, hl, merge_self]
  have hrr : ∀ i, i < n → labE n s t E (rep i) = labE n s t E i := fun i hi => (hrep _ _ (hrl i hi).1 hi).1 (hrl i hi).2
  have hfl : ∀ i, i < n → (Flat s t f (E ++ [e]) (labE n s t E) i ↔ Flat s t f E (labE n s t E) i ∧ (labE n s t E i = labE n s t E (s e) → q = false)) := by
    intro i hi
    by_cases hi2 : labE n s t E i = labE n s t E (s e)
    · rw [flat_same (r := rep (s e)) hi2 (hrr _ he.1) (h.pot _ he.1) (by rw [hs]; exact h.pot _ he.2)]
      refine and_congr_right fun _ => ?_
      rw [← Bool.not_eq_true, hq]
      constructor
      · intro h0 _ h1; exact h1 h0
      · intro h0; exact Decidable.of_not_not (h0 hi2)
    · rw [flat_same_out hi2]
      exact ⟨fun hf => ⟨hf, fun e => absurd e hi2⟩, fun hf => hf.1⟩
  refine ⟨fun i hi => ?_, h.root, fun i j hi hj => ?_, fun i hi => ?_, ?_⟩
  · rw [hL]; exact (h.pot i hi).add
  · rw [hL]; exact h.bd i j hi hj
  · rw [hL, hfl i hi]
    unfold updb
    by_cases hi2 : rep i = rep (s e)
    · have hi3 := (hrep _ _ hi he.1).1 hi2
      rw [if_pos hi2, ← hi2, Bool.or_eq_true, h.wd i hi]
      constructor
      · rintro (h1 | h1) ⟨h2, h3⟩
        · exact h1 h2
        · rw [h3 hi3] at h1; cases h1
      · intro h1
        cases q
        · left; intro h2; exact h1 ⟨h2, fun _ => rfl⟩
        · right; rfl
    · rw [if_neg hi2, h.wd i hi]
      have hi3 : labE n s t E i ≠ labE n s t E (s e) := fun e2 => hi2 ((hrep _ _ hi he.1).2 e2)
      exact not_congr ⟨fun hf => ⟨hf, fun e => absurd e hi3⟩, fun hf => hf.1⟩
  · rw [hL, Bool.or_eq_true, h.ac]
    constructor
    · rintro (⟨i, hi, h1⟩ | h1)
      · exact ⟨i, hi, fun h2 => h1 ((hfl i hi).1 h2).1⟩
      · exact ⟨s e, he.1, fun h2 => by rw [((hfl _ he.1).1 h2).2 rfl] at h1; cases h1⟩
    · rintro ⟨i, hi, h1⟩
      cases q
      · left; exact ⟨i, hi, fun h2 => h1 ((hfl i hi).2 ⟨h2, fun _ => rfl⟩)⟩
      · right; rfl
/-- An edge between two components: R is the root of both, O was one; rd leads from R to O. -/
theorem Co.join (h : Co n s t f E rep p wd ac) {e : Nat} (hin : InE n s t E) (he : s e < n ∧ t e < n) (hf : -1 ≤ f e ∧ f e ≤ 1) (hrep : ∀ i j, i < n → j < n → (rep i = rep j ↔ labE n s t E i = labE n s t E j)) (hrl : ∀ i, i < n → rep i < n ∧ rep (rep i) = rep i)
    (hs : rep (s e) ≠ rep (t e)) {R O : Nat} {rd : Int}
    (hc : (R = rep (s e) ∧ O = rep (t e) ∧ rd = p (s e) + f e - p (t e)) ∨ (R = rep (t e) ∧ O = rep (s e) ∧ rd = -(p (s e) + f e - p (t e)))) :
    Co n s t f (E ++ [e]) (fun i => if rep i = O then R else rep i) (fun i => if rep i = O then p i + rd else p i) (updb wd R (wd R || wd O)) (ac || wd O) := by
  have hl : labE n s t E (s e) ≠ labE n s t E (t e) := fun e2 => hs ((hrep _ _ he.1 he.2).2 e2)
  have hL : labE n s t (E ++ [e]) = merge (labE n s t E) (labE n s t E (s e)) (labE n s t E (t e)) := labE_snoc he
  have hrr : ∀ i, i < n → labE n s t E (rep i) = labE n s t E i := fun i hi => (hrep _ _ (hrl i hi).1 hi).1 (hrl i hi).2
  have hra := hrr _ he.1
  have hrb := hrr _ he.2
  have hpa := h.pot _ he.1
  have hpb := h.pot _ he.2
  have hRO : R ≠ O := by
    rcases hc with ⟨rfl, rfl, _⟩ | ⟨rfl, rfl, _⟩
    · exact hs
    · exact hs.symm
  have hR1 : rep R = R := by
    rcases hc with ⟨rfl, rfl, _⟩ | ⟨rfl, rfl, _⟩
    · exact (hrl _ he.1).2
    · exact (hrl _ he.2).2
  have hO1 : rep O = O := by
    rcases hc with ⟨rfl, rfl, _⟩ | ⟨rfl, rfl, _⟩
    · exact (hrl _ he.2).2
    · exact (hrl _ he.1).2
  have hRn : R < n := by
    rcases hc with ⟨rfl, rfl, _⟩ | ⟨rfl, rfl, _⟩
    · exact (hrl _ he.1).1
    · exact (hrl _ he.2).1
  have hOn : O < n := by
    rcases hc with ⟨rfl, rfl, _⟩ | ⟨rfl, rfl, _⟩
    · exact (hrl _ he.2).1
    · exact (hrl _ he.1).1
  have hRL : labE n s t E R = labE n s t E (s e) ∨ labE n s t E R = labE n s t E (t e) := by
    rcases hc with ⟨rfl, rfl, _⟩ | ⟨rfl, rfl, _⟩
    · exact .inl hra
    · exact .inr hrb
  have hroot : ∀ i, i < n → (rep i = O ∨ rep i = R ↔ (labE n s t E i = labE n s t E (s e) ∨ labE n s t E i = labE n s t E (t e))) := by
    intro i hi
    rw [← hrep i _ hi he.1, ← hrep i _ hi he.2]
    rcases hc with ⟨rfl, rfl, _⟩ | ⟨rfl, rfl, _⟩
    · exact Or.comm
    · exact Iff.rfl
  have hfl : ∀ i, i < n → (Flat s t f (E ++ [e]) (labE n s t (E ++ [e])) i ↔ if rep i = O ∨ rep i = R then wd R = false ∧ wd O = false else Flat s t f E (labE n s t E) i) := by
    intro i hi
    rw [hL]
    by_cases hi2 : labE n s t E i = labE n s t E (s e) ∨ labE n s t E i = labE n s t E (t e)
    · rw [if_pos ((hroot i hi).2 hi2), flat_join hin rfl hl hi2]
      have wa := h.wd _ he.1
      have wb := h.wd _ he.2
      rw [← Bool.not_eq_true, ← Bool.not_eq_true]
      rcases hc with ⟨rfl, rfl, _⟩ | ⟨rfl, rfl, _⟩
      · rw [wa, wb, Classical.not_not, Classical.not_not]
      · rw [wa, wb, Classical.not_not, Classical.not_not]; exact And.comm
    · rw [if_neg (fun e => hi2 ((hroot i hi).1 e))]
      obtain ⟨h1, h2⟩ := not_or.1 hi2
      exact flat_out h1 h2
  refine ⟨fun i hi => ?_, fun i hi => ?_, fun i j hi hj hij => ?_, fun i hi => ?_, ?_⟩
  · rw [hL]
    by_cases hiO : rep i = O
    · simp only [hiO, if_true]
      have hp := h.pot i hi
      rw [hiO] at hp
      rcases hc with ⟨rfl, rfl, rfl⟩ | ⟨rfl, rfl, rfl⟩
      · exact Pt.over hpa hpb hra hrb hp
      · exact Pt.over' hpa hpb hra hrb hp
    · simp only [if_neg hiO]
      by_cases hiR : rep i = R
      · exact (h.pot i hi).in1 (by rw [hiR]; exact hRL)
      · have hno : ¬ (labE n s t E i = labE n s t E (s e) ∨ labE n s t E i = labE n s t E (t e)) := fun e2 => by
          rcases (hroot i hi).2 e2 with e3 | e3
          · exact hiO e3
          · exact hiR e3
        obtain ⟨h1, h2⟩ := not_or.1 hno
        exact (h.pot i hi).out (by rw [hrr i hi]; exact h1) (by rw [hrr i hi]; exact h2)
  · have h0R : p R = 0 := by have := h.root R hRn; rwa [hR1] at this
    by_cases hiO : rep i = O
    · simp only [hiO, if_true, hR1, if_neg hRO]; exact h0R
    · simp only [if_neg hiO, (hrl i hi).2]; exact h.root i hi
  · rw [hL] at hij ⊢
    have ba := h.bd
    by_cases hi2 : labE n s t E i = labE n s t E (s e) ∨ labE n s t E i = labE n s t E (t e)
    · have hj2 : labE n s t E j = labE n s t E (s e) ∨ labE n s t E j = labE n s t E (t e) := merge_iff.1 (by rw [← hij]; exact merge_in hi2)
      rw [merge_in hi2, cls_merge hl]
      have hcl : ∀ k m, k < n → m < n → labE n s t E k = labE n s t E m → labE n s t E k = labE n s t E (s e) → p k - p m + 1 ≤ cls n (labE n s t E) (labE n s t E (s e)) := fun k m hk hm h1 h2 => by
        rw [← h2]; exact ba k m hk hm h1
      have hcl2 : ∀ k m, k < n → m < n → labE n s t E k = labE n s t E m → labE n s t E k = labE n s t E (t e) → p k - p m + 1 ≤ cls n (labE n s t E) (labE n s t E (t e)) := fun k m hk hm h1 h2 => by
        rw [← h2]; exact ba k m hk hm h1
      have a0 := hcl (s e) (s e) he.1 he.1 rfl rfl
      have b0 := hcl2 (t e) (t e) he.2 he.2 rfl rfl
      have hrA : ∀ k, k < n → labE n s t E k = labE n s t E (s e) → rep k = rep (s e) := fun k hk e2 => (hrep k _ hk he.1).2 e2
      have hrB : ∀ k, k < n → labE n s t E k = labE n s t E (t e) → rep k = rep (t e) := fun k hk e2 => (hrep k _ hk he.2).2 e2
      simp only [Int.natCast_add]
      rcases hi2 with hi2 | hi2 <;> rcases hj2 with hj2 | hj2
      · have := hcl i j hi hj (by rw [hi2, hj2]) hi2
        have e1 := hrA i hi hi2
        have e2 := hrA j hj hj2
        rw [e1, e2]
        split <;> omega
      · have c1 := hcl i (s e) hi he.1 hi2 hi2
        have c2 := hcl2 (t e) j he.2 hj hj2.symm rfl
        have e1 := hrA i hi hi2
        have e2 := hrB j hj hj2
        rw [e1, e2]
        rcases hc with ⟨rfl, rfl, rfl⟩ | ⟨rfl, rfl, rfl⟩
        · rw [if_neg hs, if_pos rfl]; omega
        · rw [if_pos rfl, if_neg (Ne.symm hs)]; omega
      · have c1 := hcl (s e) j he.1 hj hj2.symm rfl
        have c2 := hcl2 i (t e) hi he.2 hi2 hi2
        have e1 := hrB i hi hi2
        have e2 := hrA j hj hj2
        rw [e1, e2]
        rcases hc with ⟨rfl, rfl, rfl⟩ | ⟨rfl, rfl, rfl⟩
        · rw [if_pos rfl, if_neg hs]; omega
        · rw [if_neg (Ne.symm hs), if_pos rfl]; omega
      · have := hcl2 i j hi hj (by rw [hi2, hj2]) hi2
        have e1 := hrB i hi hi2
        have e2 := hrB j hj hj2
        rw [e1, e2]
        split <;> omega
    · obtain ⟨h1, h2⟩ := not_or.1 hi2
      have hj2 : ¬ (labE n s t E j = labE n s t E (s e) ∨ labE n s t E j = labE n s t E (t e)) := fun e2 => hi2 (merge_iff.1 (by rw [hij]; exact merge_in e2))
      obtain ⟨h3, h4⟩ := not_or.1 hj2
      rw [merge_out h1 h2, merge_out h3 h4] at hij
      have hiO : ¬ rep i = O := fun e2 => hi2 ((hroot i hi).1 (.inl e2))
      have hjO : ¬ rep j = O := fun e2 => hj2 ((hroot j hj).1 (.inl e2))
      rw [if_neg hiO, if_neg hjO, merge_out h1 h2, cls_merge_out h1 h2]
      exact ba i j hi hj hij
  · rw [hfl i hi]
    unfold updb
    by_cases hiO : rep i = O
    · simp only [hiO, true_or, if_true]
      cases wd R <;> cases wd O <;> simp
    · by_cases hiR : rep i = R
      · simp only [hiR, or_true, if_true, if_neg hRO]
        cases wd R <;> cases wd O <;> simp
      · simp only [if_neg hiO, if_neg hiR, hiO, hiR, or_self, if_false]
        exact h.wd i hi
  · rw [Bool.or_eq_true, h.ac]
    have wO := h.wd O hOn
    rw [hO1] at wO
    constructor
    · rintro (⟨i, hi, h1⟩ | h1)
      · refine ⟨i, hi, fun h2 => ?_⟩
        rw [hfl i hi] at h2
        have := h.wd i hi
        split at h2
        · rename_i hor
          rcases hor with hor | hor
          · rw [hor] at this; rw [h2.2] at this; exact absurd (this.2 h1) (by simp)
          · rw [hor] at this; rw [h2.1] at this; exact absurd (this.2 h1) (by simp)
        · exact h1 h2
      · refine ⟨O, hOn, fun h2 => ?_⟩
        rw [hfl O hOn, hO1, if_pos (.inl rfl)] at h2
        rw [h2.2] at h1; cases h1
    · rintro ⟨i, hi, h1⟩
      rw [hfl i hi] at h1
      split at h1
      · cases hO : wd O
        · left
          have hR : wd R = true := by
            cases hR : wd R
            · exact absurd ⟨hR, hO⟩ h1
            · rfl
          have wR := h.wd R hRn
          rw [hR1] at wR
          exact ⟨R, hRn, wR.1 hR⟩
        · right; rfl
      · exact .inl ⟨i, hi, h1⟩
end
end Go.Proofs.Ytnkkdoookhhhaaa
