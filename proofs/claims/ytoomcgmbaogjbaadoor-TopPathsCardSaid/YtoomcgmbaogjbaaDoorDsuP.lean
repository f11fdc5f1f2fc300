/- Plain: labels of sets, their union, and a forest that represents them. -/
import Derived.Test.YtoomcgmbaogjbaaDoorForest
namespace Go.Proofs.YtoomcgmbaogjbaaDoor
open Go.RowKit
set_option linter.unusedVariables false

/-- How many numbers below n satisfy p. -/
def cnt (p : Nat → Bool) : Nat → Nat
  | 0 => 0
  | n + 1 => cnt p n + if p n then 1 else 0
theorem cnt_le (p : Nat → Bool) (n : Nat) : cnt p n ≤ n := by
  induction n with
  | zero => simp [cnt]
  | succ n ih => simp only [cnt]; split <;> omega
theorem cnt_congr {p q : Nat → Bool} {n : Nat} (h : ∀ i, i < n → p i = q i) : cnt p n = cnt q n := by
  induction n with
  | zero => rfl
  | succ n ih => simp only [cnt]; rw [ih (fun i hi => h i (by omega)), h n (by omega)]
theorem cnt_or {p q : Nat → Bool} {n : Nat} (h : ∀ i, i < n → ¬ (p i = true ∧ q i = true)) : cnt (fun i => p i || q i) n = cnt p n + cnt q n := by
  induction n with
  | zero => rfl
  | succ n ih =>
    simp only [cnt]; rw [ih (fun i hi => h i (by omega))]
    have h1 := h n (by omega)
    by_cases hp : p n = true
    · by_cases hq : q n = true
      · exact absurd ⟨hp, hq⟩ h1
      · simp [hp, hq]; omega
    · by_cases hq : q n = true
      · simp [hp, hq]; omega
      · simp [hp, hq]
theorem cnt_pos {p : Nat → Bool} {n m : Nat} (hm : m < n) (hp : p m = true) : 1 ≤ cnt p n := by
  induction n with
  | zero => omega
  | succ n ih =>
    simp only [cnt]
    by_cases e : m = n
    · subst e; simp [hp]
    · have := ih (by omega); omega
theorem cnt_del {p : Nat → Bool} {n m : Nat} (hm : m < n) (hp : p m = true) : cnt (fun i => p i && !(i == m)) n + 1 = cnt p n := by
  induction n with
  | zero => omega
  | succ n ih =>
    simp only [cnt]
    by_cases e : m = n
    · subst e
      have : cnt (fun i => p i && !(i == m)) m = cnt p m := cnt_congr fun i hi => by simp; intro _; omega
      rw [this]; simp [hp]
    · have h1 := ih (by omega)
      have h2 : (n == m) = false := by simp; omega
      simp only [h2, Bool.not_false, Bool.and_true]; omega
theorem cnt_zero {p : Nat → Bool} {n : Nat} (h : ∀ i, i < n → p i = false) : cnt p n = 0 := by
  induction n with
  | zero => rfl
  | succ n ih => simp only [cnt]; rw [ih (fun i hi => h i (by omega)), h n (by omega)]; simp

/-- Labels: each number has the least number of its set. -/
structure Lab (n : Nat) (L : Nat → Nat) : Prop where
  le : ∀ i, i < n → L i ≤ i
  idem : ∀ i, i < n → L (L i) = L i
def cls (n : Nat) (L : Nat → Nat) (x : Nat) : Nat := cnt (fun j => L j == x) n
def sets (n : Nat) (L : Nat → Nat) : Nat := cnt (fun i => L i == i) n
def merge (L : Nat → Nat) (x y : Nat) : Nat → Nat := fun i => if L i = max x y then min x y else L i
theorem merge_comm (L : Nat → Nat) (x y : Nat) : merge L x y = merge L y x := by unfold merge; rw [Nat.max_comm, Nat.min_comm]
theorem merge_in {L : Nat → Nat} {x y i : Nat} (h : L i = x ∨ L i = y) : merge L x y i = min x y := by unfold merge; split <;> omega
theorem merge_out {L : Nat → Nat} {x y i : Nat} (h : L i ≠ x) (h' : L i ≠ y) : merge L x y i = L i := by unfold merge; rw [if_neg (by omega)]

theorem Lab.id_ (n : Nat) : Lab n (fun i => i) := ⟨fun _ _ => Nat.le_refl _, fun _ _ => rfl⟩
theorem Lab.lt {n : Nat} {L : Nat → Nat} (h : Lab n L) {i : Nat} (hi : i < n) : L i < n := Nat.lt_of_le_of_lt (h.le i hi) hi
theorem Lab.merge_ {n : Nat} {L : Nat → Nat} (h : Lab n L) {a b : Nat} (ha : a < n) (hb : b < n) : Lab n (merge L (L a) (L b)) := by
  have ia := h.idem a ha
  have ib := h.idem b hb
  refine ⟨fun i hi => ?_, fun i hi => ?_⟩
  · have := h.le i hi
    unfold merge; split <;> omega
  · by_cases h1 : L i = L a ∨ L i = L b
    · rw [merge_in h1]
      apply merge_in
      rcases Nat.le_total (L a) (L b) with h2 | h2
      · rw [Nat.min_eq_left h2]; exact .inl ia
      · rw [Nat.min_eq_right h2]; exact .inr ib
    · have e := h.idem i hi
      have h2 : L i ≠ L a := fun e => h1 (.inl e)
      have h3 : L i ≠ L b := fun e => h1 (.inr e)
      rw [merge_out h2 h3, merge_out (by rw [e]; exact h2) (by rw [e]; exact h3), e]
theorem merge_self (L : Nat → Nat) (x : Nat) : merge L x x = L := by
  funext i; unfold merge; split <;> simp_all

theorem cls_merge {n : Nat} {L : Nat → Nat} {x y : Nat} (h : x ≠ y) : cls n (merge L x y) (min x y) = cls n L x + cls n L y := by
  unfold cls
  rw [← cnt_or (fun i _ => by simp; omega)]
  apply cnt_congr
  intro i _
  rw [Bool.eq_iff_iff]
  simp only [Bool.or_eq_true, beq_iff_eq]
  unfold merge
  split <;> omega
theorem cls_merge_out {n : Nat} {L : Nat → Nat} {x y z : Nat} (h : z ≠ x) (h' : z ≠ y) : cls n (merge L x y) z = cls n L z := by
  unfold cls
  apply cnt_congr
  intro i _
  rw [Bool.eq_iff_iff]
  simp only [beq_iff_eq]
  unfold merge
  split <;> omega
theorem sets_merge {n : Nat} {L : Nat → Nat} (hl : Lab n L) {a b : Nat} (ha : a < n) (hb : b < n) (h : L a ≠ L b) : sets n (merge L (L a) (L b)) + 1 = sets n L := by
  unfold sets
  have hm : max (L a) (L b) < n := by have := hl.lt ha; have := hl.lt hb; omega
  have hp : L (max (L a) (L b)) = max (L a) (L b) := by
    rcases Nat.le_total (L a) (L b) with h2 | h2
    · rw [Nat.max_eq_right h2]; exact hl.idem b hb
    · rw [Nat.max_eq_left h2]; exact hl.idem a ha
  rw [← cnt_del (p := fun i => L i == i) hm (by simpa using hp)]
  congr 1
  apply cnt_congr
  intro i hi
  have hle := hl.le i hi
  rw [Bool.eq_iff_iff]
  simp only [Bool.and_eq_true, Bool.not_eq_true', beq_iff_eq, beq_eq_false_iff_ne]
  unfold merge
  split <;> omega

/-- A forest with the least elements, the sizes and the number of its trees represents the labels L. -/
structure Sts (n : Nat) (L up least size rep ρ : Nat → Nat) (M c : Nat) : Prop where
  fo : Forest n up rep ρ M
  le : ∀ i, i < n → least (rep i) = L i
  same : ∀ i j, i < n → j < n → (rep i = rep j ↔ L i = L j)
  sz : ∀ i, i < n → size (rep i) = cls n L (L i)
  cn : c = sets n L

theorem Forest.rep_rep {n M : Nat} {up rep ρ : Nat → Nat} (h : Forest n up rep ρ M) {i : Nat} (hi : i < n) : rep (rep i) = rep i :=
  h.root _ (h.rep_lt i hi) (h.rep_root i hi)

theorem Sts.union {n M c : Nat} {L up least size rep ρ : Nat → Nat} (h : Sts n L up least size rep ρ M c) (hl : Lab n L) {a b : Nat} (ha : a < n) (hb : b < n) (hne : rep a ≠ rep b) :
    Sts n (merge L (L a) (L b)) (upd up (rep b) (rep a)) (upd least (rep a) (min (least (rep a)) (least (rep b)))) (upd size (rep a) (size (rep a) + size (rep b)))
      (fun i => if rep i = rep b then rep a else rep i) (upd ρ (rep a) (max (ρ (rep a)) (ρ (rep b) + 1))) (M + 1) (c - 1) := by
  have hx := h.fo.rep_lt a ha
  have hy := h.fo.rep_lt b hb
  have rx := h.fo.rep_rep ha
  have ry := h.fo.rep_rep hb
  have ux := h.fo.rep_root a ha
  have uy := h.fo.rep_root b hb
  have hL : L a ≠ L b := fun e => hne ((h.same a b ha hb).2 e)
  refine ⟨⟨fun i hi => ?_, fun i hi => ?_, fun i hi => ?_, fun i hi hu => ?_, fun i hi => ?_, fun i hi => ⟨?_, fun hu => ?_⟩⟩, fun i hi => ?_, fun i j hi hj => ?_, fun i hi => ?_, ?_⟩
  · by_cases e : i = rep b
    · subst e; rw [upd_same]; exact hx
    · rw [upd_other _ _ e]; exact h.fo.up_lt i hi
  · split
    · exact hx
    · exact h.fo.rep_lt i hi
  · skip
    by_cases e : i = rep b
    · subst e; rw [upd_same, rx, if_neg hne, ry, if_pos rfl]
    · rw [upd_other _ _ e, h.fo.rep_up i hi]
  · skip
    by_cases e : i = rep b
    · subst e; rw [upd_same] at hu; exact absurd hu hne
    · rw [upd_other _ _ e] at hu
      have := h.fo.root i hi hu
      rw [if_neg (by rw [this]; exact e), this]
  · skip
    by_cases e : rep i = rep b
    · rw [if_pos e, upd_other _ _ hne, ux]
    · rw [if_neg e, upd_other _ _ e, h.fo.rep_root i hi]
  · have r1 := (h.fo.rank i hi).1
    have r2 := (h.fo.rank _ hx).1
    have r3 := (h.fo.rank _ hy).1
    by_cases e : i = rep a
    · subst e; rw [upd_same]; omega
    · rw [upd_other _ _ e]; omega
  · by_cases e : i = rep b
    · subst e
      rw [upd_same, upd_same, upd_other _ _ (fun e => hne e.symm)]; omega
    · rw [upd_other _ _ e] at hu ⊢
      have e2 : i ≠ rep a := by rintro rfl; exact hu ux
      have r1 := (h.fo.rank i hi).2 hu
      rw [upd_other _ _ e2]
      by_cases e3 : up i = rep a
      · rw [e3, upd_same]; rw [e3] at r1; omega
      · rw [upd_other _ _ e3]; exact r1
  · skip
    have la := h.le a ha
    have lb := h.le b hb
    by_cases e : rep i = rep b
    · rw [if_pos e, upd_same, la, lb, merge_in (.inr ((h.same i b hi hb).1 e))]
    · rw [if_neg e]
      by_cases e2 : rep i = rep a
      · rw [e2, upd_same, la, lb, merge_in (.inl ((h.same i a hi ha).1 e2))]
      · rw [upd_other _ _ e2, h.le i hi, merge_out (fun e3 => e2 ((h.same i a hi ha).2 e3)) (fun e3 => e ((h.same i b hi hb).2 e3))]
  · skip
    have key : ∀ k, k < n → ((rep k = rep b ∨ rep k = rep a) ∧ merge L (L a) (L b) k = min (L a) (L b)) ∨ ((rep k ≠ rep b ∧ rep k ≠ rep a) ∧ merge L (L a) (L b) k = L k ∧ L k ≠ L a ∧ L k ≠ L b) := by
      intro k hk
      by_cases e : rep k = rep b
      · exact .inl ⟨.inl e, merge_in (.inr ((h.same k b hk hb).1 e))⟩
      · by_cases e2 : rep k = rep a
        · exact .inl ⟨.inr e2, merge_in (.inl ((h.same k a hk ha).1 e2))⟩
        · have f1 : L k ≠ L a := fun e3 => e2 ((h.same k a hk ha).2 e3)
          have f2 : L k ≠ L b := fun e3 => e ((h.same k b hk hb).2 e3)
          exact .inr ⟨⟨e, e2⟩, merge_out f1 f2, f1, f2⟩
    have h1 : ∀ k, (rep k = rep b ∨ rep k = rep a) → (if rep k = rep b then rep a else rep k) = rep a := fun k hk => by
      split
      · rfl
      · rcases hk with hk | hk
        · contradiction
        · exact hk
    rcases key i hi with ⟨e1, m1⟩ | ⟨⟨e1, e1'⟩, m1, f1, f1'⟩ <;> rcases key j hj with ⟨e2, m2⟩ | ⟨⟨e2, e2'⟩, m2, f2, f2'⟩
    · rw [h1 i e1, h1 j e2, m1, m2]; simp
    · rw [h1 i e1, if_neg e2, m1, m2]
      constructor
      · intro e; exact absurd e.symm e2'
      · intro e; omega
    · rw [if_neg e1, h1 j e2, m1, m2]
      constructor
      · intro e; exact absurd e e1'
      · intro e; omega
    · rw [if_neg e1, if_neg e2, m1, m2]; exact h.same i j hi hj
  · skip
    have sa := h.sz a ha
    have sb := h.sz b hb
    by_cases e : rep i = rep b
    · rw [if_pos e, upd_same, sa, sb, merge_in (.inr ((h.same i b hi hb).1 e)), cls_merge hL]
    · rw [if_neg e]
      by_cases e2 : rep i = rep a
      · rw [e2, upd_same, sa, sb, merge_in (.inl ((h.same i a hi ha).1 e2)), cls_merge hL]
      · have f1 : L i ≠ L a := fun e3 => e2 ((h.same i a hi ha).2 e3)
        have f2 : L i ≠ L b := fun e3 => e ((h.same i b hi hb).2 e3)
        rw [upd_other _ _ e2, h.sz i hi, merge_out f1 f2, cls_merge_out f1 f2]
  · have := sets_merge hl ha hb hL
    rw [h.cn]; omega

theorem cls_id {n x : Nat} (h : x < n) : cls n (fun i => i) x = 1 := by
  unfold cls
  have h1 := cnt_del (p := fun j => j == x) h (by simp)
  have h2 : cnt (fun i => (i == x) && !(i == x)) n = 0 := cnt_zero fun i _ => by cases (i == x) <;> rfl
  rw [h2] at h1
  exact h1.symm
theorem sets_id (n : Nat) : sets n (fun i => i) = n := by
  unfold sets
  induction n with
  | zero => rfl
  | succ n ih => simp only [cnt, ih]; simp
theorem Sts.new (n : Nat) : Sts n (fun i => i) (fun i => i) (fun i => i) (fun _ => 1) (fun i => i) (fun _ => 0) 0 n :=
  ⟨⟨fun _ h => h, fun _ h => h, fun _ _ => rfl, fun _ _ _ => rfl, fun _ _ => rfl, fun _ _ => ⟨Nat.le_refl _, fun h => absurd rfl h⟩⟩, fun _ _ => rfl, fun _ _ _ _ => Iff.rfl, fun i hi => (cls_id hi).symm, (sets_id n).symm⟩
def inB (n : Nat) (a : Int) : Bool := decide (0 ≤ a ∧ a < n)
def sameB (n : Nat) (L : Nat → Nat) (a b : Int) : Bool := inB n a && inB n b && L a.toNat == L b.toNat
def leastV (n : Nat) (L : Nat → Nat) (a : Int) : Int := if inB n a then (L a.toNat : Int) else 0
def leastE (n : Nat) (a : Int) : Int := if inB n a then 0 else 3
def sizeV (n : Nat) (L : Nat → Nat) (a : Int) : Int := if inB n a then (cls n L (L a.toNat) : Int) else 0
def unionB (n : Nat) (L : Nat → Nat) (a b : Int) : Bool := inB n a && inB n b && !(L a.toNat == L b.toNat)
def unionE (n : Nat) (a b : Int) : Int := if inB n a && inB n b then 0 else 3
def unionL (n : Nat) (L : Nat → Nat) (a b : Int) : Nat → Nat := if inB n a && inB n b then merge L (L a.toNat) (L b.toNat) else L
def foldU (n : Nat) (l : List (Int × Int)) (L : Nat → Nat) : Nat → Nat := l.foldl (fun L e => unionL n L e.1 e.2) L
theorem foldU_snoc (n : Nat) (l : List (Int × Int)) (e : Int × Int) (L : Nat → Nat) : foldU n (l ++ [e]) L = unionL n (foldU n l L) e.1 e.2 := by simp [foldU]
theorem inB_nat {n i : Nat} (h : i < n) : inB n (i : Int) = true := by simp [inB]; omega
theorem cnt_mono {p q : Nat → Bool} {n : Nat} (h : ∀ i, i < n → p i = true → q i = true) : cnt p n ≤ cnt q n := by
  induction n with
  | zero => simp [cnt]
  | succ n ih =>
    simp only [cnt]
    have h1 := ih (fun i hi => h i (by omega))
    have h2 := h n (by omega)
    by_cases hp : p n = true
    · simp [hp, h2 hp]; omega
    · simp [hp]; omega
theorem cnt_lt {p q : Nat → Bool} {n m : Nat} (h : ∀ i, i < n → p i = true → q i = true) (hm : m < n) (hp : p m = false) (hq : q m = true) : cnt p n + 1 ≤ cnt q n := by
  rw [← cnt_del hm hq]
  have : cnt p n ≤ cnt (fun i => q i && !(i == m)) n := cnt_mono fun i hi hpi => by
    simp only [Bool.and_eq_true, Bool.not_eq_true', beq_eq_false_iff_ne]
    exact ⟨h i hi hpi, fun e => by subst e; rw [hp] at hpi; cases hpi⟩
  omega
theorem inB_lt {n : Nat} {a : Int} (h : inB n a = true) : a.toNat < n := by simp [inB] at h; omega
theorem cnt_succ_true {p : Nat → Bool} {k : Nat} (h : p k = true) : cnt p (k + 1) = cnt p k + 1 := by simp [cnt, h]
theorem cnt_succ_false {p : Nat → Bool} {k : Nat} (h : p k = false) : cnt p (k + 1) = cnt p k := by simp [cnt, h]
theorem cnt_full {p : Nat → Bool} {n : Nat} (h : ∀ i, i < n → p i = true) : cnt p n = n := by
  induction n with
  | zero => rfl
  | succ n ih => simp only [cnt]; rw [ih (fun i hi => h i (by omega)), h n (by omega)]; rfl
def filL (L : Nat → Nat) (k : Nat) : Nat → Nat := fun i => if i < k then L i else 0
theorem filL_succ (L : Nat → Nat) (k : Nat) : upd (filL L k) k (L k) = filL L (k + 1) := by
  funext i; unfold upd filL; split
  · subst_vars; simp
  · split <;> split <;> (first | rfl | omega)
end Go.Proofs.YtoomcgmbaogjbaaDoor
