/- plain: the order of the edges, the picks of Kruskal's algorithm, their labels. plain: ancestors in a forest of parents; the reconstruction tree of the picks. plain: depths by a queue, ancestors by powers of two, the lowest common ancestor. -/
import Derived.Test.YtoomcgmbaogjbaaDoorGraP
namespace Go.Proofs.YtoomcgmbaogjbaaDoor
set_option linter.unusedVariables false

theorem list_snoc {α : Type} {p : List α → Prop} (h0 : p []) (h1 : ∀ l a, p l → p (l ++ [a])) (l : List α) : p l := by
  have key : ∀ l : List α, p l.reverse := by
    intro l
    induction l with
    | nil => exact h0
    | cons a l ih => rw [List.reverse_cons]; exact h1 _ _ ih
  have := key l.reverse
  rwa [List.reverse_reverse] at this
theorem merge_eq {L : Nat → Nat} {a b i j : Nat} : merge L a b i = merge L a b j ↔ L i = L j ∨ ((L i = a ∨ L i = b) ∧ (L j = a ∨ L j = b)) := by
  unfold merge
  split <;> split <;> omega

/-! ### The order -/
def cmpI (a b : Int) : Int := if a < b then -1 else if b < a then 1 else 0
def cfE (l : List (Int × Int × Int)) (x y : Fin l.length) : Int := if cmpI (eW l x) (eW l y) = 0 then cmpI ((x : Nat) : Int) ((y : Nat) : Int) else cmpI (eW l x) (eW l y)
theorem cfE_neg {l : List (Int × Int × Int)} {x y : Fin l.length} : cfE l x y < 0 ↔ eW l x < eW l y ∨ (eW l x = eW l y ∧ (x : Nat) < (y : Nat)) := by
  unfold cfE cmpI
  split <;> (repeat' split at *) <;> omega
def leE (l : List (Int × Int × Int)) (x y : Fin l.length) : Bool := !(decide (cfE l y x < 0))
theorem leE_iff {l : List (Int × Int × Int)} {x y : Fin l.length} : leE l x y = true ↔ eW l x < eW l y ∨ (eW l x = eW l y ∧ (x : Nat) ≤ (y : Nat)) := by
  unfold leE
  rw [Bool.not_eq_true', decide_eq_false_iff_not, cfE_neg]
  omega
/-- The indexes of the edges by weight, then by index. -/
def ordF (l : List (Int × Int × Int)) : List (Fin l.length) := (List.finRange l.length).mergeSort (leE l)
def ordN (l : List (Int × Int × Int)) : List Nat := (ordF l).map (·.val)
theorem ordN_len (l : List (Int × Int × Int)) : (ordN l).length = l.length := by simp [ordN, ordF]
theorem ordN_lt {l : List (Int × Int × Int)} : ∀ i ∈ ordN l, i < l.length := by
  intro i hi
  obtain ⟨x, -, rfl⟩ := List.mem_map.1 hi
  exact x.2
theorem ordN_mono (l : List (Int × Int × Int)) : (ordN l).Pairwise fun i j => eW l i ≤ eW l j := by
  have h : (ordF l).Pairwise fun x y => leE l x y = true := List.pairwise_mergeSort (fun a b c h1 h2 => by rw [leE_iff] at *; omega) (fun a b => by
    rw [Bool.or_eq_true, leE_iff, leE_iff]; omega) _
  unfold ordN
  rw [List.pairwise_map]
  exact h.imp fun {x y} h => by rw [leE_iff] at h; omega

section
variable {n : Nat} {l : List (Int × Int × Int)}
/-- The labels after the picks P. -/
def pL (l : List (Int × Int × Int)) (P : List Nat) : Nat → Nat := P.foldl (fun L i => merge L (L (eU l i)) (L (eV l i))) fun i => i
theorem pL_nil : pL l [] = fun i => i := rfl
theorem pL_snoc (P : List Nat) (i : Nat) : pL l (P ++ [i]) = merge (pL l P) (pL l P (eU l i)) (pL l P (eV l i)) := by simp [pL]
theorem pL_take {P : List Nat} {t : Nat} (h : t < P.length) : pL l (P.take (t + 1)) = merge (pL l (P.take t)) (pL l (P.take t) (eU l P[t])) (pL l (P.take t) (eV l P[t])) := by
  rw [List.take_succ_eq_append_getElem h, pL_snoc]
theorem GOk.lt (hok : GOk n l) {i : Nat} (hi : i < l.length) : eU l i < n ∧ eV l i < n := by
  obtain ⟨-, -, a, b, -⟩ := hok.at_ hi
  exact ⟨a, b⟩
theorem pL_lab (hok : GOk n l) (P : List Nat) : (∀ i ∈ P, i < l.length) → Lab n (pL l P) := by
  refine list_snoc (p := fun P => (∀ i ∈ P, i < l.length) → Lab n (pL l P)) (fun _ => Lab.id_ n) (fun P i ih h => ?_) P
  rw [pL_snoc]
  have hi := hok.lt (h i (by simp))
  exact (ih fun j hj => h j (by simp [hj])).merge_ hi.1 hi.2
/-- One edge more. -/
def kst (l : List (Int × Int × Int)) (P : List Nat) (i : Nat) : List Nat := if pL l P (eU l i) = pL l P (eV l i) then P else P ++ [i]
def kr (l : List (Int × Int × Int)) (O : List Nat) : List Nat := O.foldl (kst l) []
theorem kr_snoc (O : List Nat) (i : Nat) : kr l (O ++ [i]) = kst l (kr l O) i := by simp [kr]
theorem kr_sub (O : List Nat) : (kr l O).Sublist O := by
  refine list_snoc (p := fun O => (kr l O).Sublist O) (List.Sublist.refl _) (fun O i ih => ?_) O
  rw [kr_snoc]
  unfold kst
  split
  · exact ih.trans (List.sublist_append_left _ _)
  · exact ih.append (List.Sublist.refl _)
/-- Picks that are a forest, by increasing weight. -/
structure Pk (n : Nat) (l : List (Int × Int × Int)) (P : List Nat) : Prop where
  lt : ∀ i ∈ P, i < l.length
  df : ∀ t (h : t < P.length), pL l (P.take t) (eU l P[t]) ≠ pL l (P.take t) (eV l P[t])
  mono : P.Pairwise fun i j => eW l i ≤ eW l j
theorem kr_df (O : List Nat) : ∀ t (h : t < (kr l O).length), pL l ((kr l O).take t) (eU l (kr l O)[t]) ≠ pL l ((kr l O).take t) (eV l (kr l O)[t]) := by
  have key : ∀ O : List Nat, ∀ t x, (kr l O)[t]? = some x → pL l ((kr l O).take t) (eU l x) ≠ pL l ((kr l O).take t) (eV l x) := by
    intro O
    refine list_snoc (p := fun O => ∀ t x, (kr l O)[t]? = some x → pL l ((kr l O).take t) (eU l x) ≠ pL l ((kr l O).take t) (eV l x)) (fun t x h => by cases h) (fun O i ih t x h => ?_) O
    rw [kr_snoc] at h ⊢
    unfold kst at h ⊢
    by_cases hne : pL l (kr l O) (eU l i) = pL l (kr l O) (eV l i)
    · rw [if_pos hne] at h ⊢
      exact ih t x h
    · rw [if_neg hne] at h ⊢
      rcases Nat.lt_or_ge t (kr l O).length with ht | ht
      · rw [List.getElem?_append_left ht] at h
        rw [List.take_append_of_le_length (Nat.le_of_lt ht)]
        exact ih t x h
      · rw [List.getElem?_append_right ht] at h
        have e : t = (kr l O).length := by
          have := (List.getElem?_eq_some_iff.1 h).1
          simp at this; omega
        subst e
        simp at h
        subst h
        simpa using hne
  exact fun t h => key O t _ (List.getElem?_eq_getElem h)
theorem kr_pk (O : List Nat) (h1 : ∀ i ∈ O, i < l.length) (h2 : O.Pairwise fun i j => eW l i ≤ eW l j) : Pk n l (kr l O) :=
  ⟨fun i hi => h1 i ((kr_sub O).subset hi), kr_df O, h2.sublist (kr_sub O)⟩
/-- The picks of a graph. -/
def picks (l : List (Int × Int × Int)) : List Nat := kr l (ordN l)
theorem picks_pk : Pk n l (picks l) := kr_pk _ ordN_lt (ordN_mono l)
theorem Pk.take {P : List Nat} (h : Pk n l P) (k : Nat) : Pk n l (P.take k) :=
  ⟨fun i hi => h.lt i (List.mem_of_mem_take hi), fun t ht => by
    have h1 : t < k ∧ t < P.length := by simp at ht; omega
    rw [List.take_take, Nat.min_eq_left (by omega), List.getElem_take]
    exact h.df t h1.2, h.mono.sublist (List.take_sublist _ _)⟩
theorem Pk.len (hok : GOk n l) : ∀ (P : List Nat), Pk n l P → sets n (pL l P) + P.length = n := by
  intro P
  refine list_snoc (p := fun P => Pk n l P → sets n (pL l P) + P.length = n) (fun _ => by rw [pL_nil, sets_id]; simp) (fun P i ih h => ?_) P
  have h' : Pk n l P := by have := h.take P.length; rwa [List.take_left] at this
  have hi := hok.lt (h.lt i (by simp))
  have hd := h.df P.length (by simp)
  rw [List.take_left, List.getElem_append_right (by omega)] at hd
  simp only [Nat.sub_self, List.getElem_cons_zero] at hd
  rw [pL_snoc]
  have := sets_merge (pL_lab hok P h'.lt) hi.1 hi.2 hd
  have := ih h'
  simp; omega
theorem Pk.le (hok : GOk n l) {P : List Nat} (h : Pk n l P) : P.length ≤ n := by have := Pk.len hok P h; omega
/-- What is together stays together. -/
theorem pL_mono {P : List Nat} {x y : Nat} {s : Nat} : ∀ t, s ≤ t → pL l (P.take s) x = pL l (P.take s) y → pL l (P.take t) x = pL l (P.take t) y := by
  intro t
  induction t with
  | zero => intro h e; obtain rfl : s = 0 := by omega
            exact e
  | succ t ih =>
    intro h e
    rcases Nat.lt_or_ge t P.length with ht | ht
    · rcases Nat.lt_or_ge s (t + 1) with hs | hs
      · rw [pL_take ht, merge_eq]
        exact .inl (ih (by omega) e)
      · obtain rfl : s = t + 1 := by omega
        exact e
    · rcases Nat.lt_or_ge s (t + 1) with hs | hs
      · have := ih (by omega) e
        rw [List.take_of_length_le (by omega)] at this ⊢
        exact this
      · obtain rfl : s = t + 1 := by omega
        exact e
/-- The pick that joins two vertices. -/
theorem pL_first {P : List Nat} {x y : Nat} (hxy : x ≠ y) (h : pL l P x = pL l P y) :
    ∃ t, ∃ (ht : t < P.length), pL l (P.take t) x ≠ pL l (P.take t) y ∧ pL l (P.take (t + 1)) x = pL l (P.take (t + 1)) y ∧
      ((pL l (P.take t) x = pL l (P.take t) (eU l P[t]) ∧ pL l (P.take t) y = pL l (P.take t) (eV l P[t])) ∨ (pL l (P.take t) x = pL l (P.take t) (eV l P[t]) ∧ pL l (P.take t) y = pL l (P.take t) (eU l P[t]))) := by
  have key : ∀ k, k ≤ P.length → pL l (P.take k) x = pL l (P.take k) y → ∃ t, t < k ∧ pL l (P.take t) x ≠ pL l (P.take t) y ∧ pL l (P.take (t + 1)) x = pL l (P.take (t + 1)) y := by
    intro k
    induction k with
    | zero => intro _ e; exact absurd e hxy
    | succ k ih =>
      intro hk e
      by_cases e2 : pL l (P.take k) x = pL l (P.take k) y
      · obtain ⟨t, h1, h2⟩ := ih (by omega) e2
        exact ⟨t, by omega, h2⟩
      · exact ⟨k, by omega, e2, e⟩
  obtain ⟨t, ht, h1, h2⟩ := key P.length (Nat.le_refl _) (by rw [List.take_length]; exact h)
  refine ⟨t, ht, h1, h2, ?_⟩
  rw [pL_take ht, merge_eq] at h2
  omega
end
end Go.Proofs.YtoomcgmbaogjbaaDoor
namespace Go.Proofs.YtoomcgmbaogjbaaDoor
set_option linter.unusedVariables false

def up1 (par : Nat → Int) (x : Int) : Int := if x < 0 then -1 else par x.toNat
/-- The k-th ancestor, or -1. -/
def anI (par : Nat → Int) : Nat → Int → Int
  | 0, x => x
  | k + 1, x => up1 par (anI par k x)
theorem anI_add (par : Nat → Int) (j k : Nat) (x : Int) : anI par (j + k) x = anI par j (anI par k x) := by
  induction j with
  | zero => rw [Nat.zero_add]; rfl
  | succ j ih => rw [Nat.succ_add]; show up1 par _ = up1 par _; rw [ih]
theorem anI_neg (par : Nat → Int) (k : Nat) : anI par k (-1) = -1 := by
  induction k with
  | zero => rfl
  | succ k ih => show up1 par _ = _; rw [ih]; rfl
theorem up1_nat (par : Nat → Int) (x : Nat) : up1 par (x : Int) = par x := by
  unfold up1
  rw [if_neg (by omega)]; simp
/-- y is x, or an ancestor of x. -/
def Anc (par : Nat → Int) (x y : Nat) : Prop := ∃ k, anI par k (x : Int) = (y : Int)
section
variable {par : Nat → Int} {x y z : Nat}
theorem Anc.refl (par : Nat → Int) (x : Nat) : Anc par x x := ⟨0, rfl⟩
theorem Anc.up (h : Anc par x y) (e : par y = (z : Int)) : Anc par x z := by
  obtain ⟨k, hk⟩ := h
  exact ⟨k + 1, by show up1 par _ = _; rw [hk, up1_nat, e]⟩
theorem Anc.ind {C : Nat → Prop} (h0 : C x) (h1 : ∀ y z : Nat, Anc par x y → C y → par y = (z : Int) → C z) : ∀ y, Anc par x y → C y := by
  have key : ∀ k (y : Nat), anI par k (x : Int) = (y : Int) → C y := by
    intro k
    induction k with
    | zero => intro y h; obtain rfl : x = y := by change (x : Int) = (y : Int) at h; omega
              exact h0
    | succ k ih =>
      intro y h
      change up1 par (anI par k (x : Int)) = (y : Int) at h
      by_cases hn : anI par k (x : Int) < 0
      · unfold up1 at h; rw [if_pos hn] at h; omega
      · obtain ⟨y', hy'⟩ := Int.eq_ofNat_of_zero_le (show 0 ≤ anI par k (x : Int) by omega)
        rw [hy', up1_nat] at h
        exact h1 y' y ⟨k, hy'⟩ (ih y' hy') h
  exact fun y ⟨k, h⟩ => key k y h
theorem Anc.trans (h : Anc par x y) (k : Anc par y z) : Anc par x z := by
  obtain ⟨a, ha⟩ := h
  obtain ⟨b, hb⟩ := k
  exact ⟨b + a, by rw [anI_add, ha, hb]⟩
theorem Anc.lin (h : Anc par x y) (k : Anc par x z) : Anc par y z ∨ Anc par z y := by
  obtain ⟨a, ha⟩ := h
  obtain ⟨b, hb⟩ := k
  rcases Nat.le_total a b with h | h
  · left
    refine ⟨b - a, ?_⟩
    rw [← ha, ← anI_add, show b - a + a = b by omega, hb]
  · right
    refine ⟨a - b, ?_⟩
    rw [← hb, ← anI_add, show a - b + b = a by omega, ha]
theorem Anc.root (h : Anc par y z) (e : par y = -1) : z = y := by
  obtain ⟨k, hk⟩ := h
  cases k with
  | zero => change (y : Int) = (z : Int) at hk; omega
  | succ k =>
    rw [anI_add (j := k) (k := 1)] at hk
    have : anI par 1 (y : Int) = -1 := by show up1 par (y : Int) = -1; rw [up1_nat, e]
    rw [this, anI_neg] at hk
    omega
theorem Anc.root2 (h : Anc par x y) (k : Anc par x z) (ey : par y = -1) (ez : par z = -1) : y = z := by
  rcases h.lin k with h | h
  · exact (h.root ey).symm
  · exact h.root ez
end
def updI (f : Nat → Int) (i : Nat) (v : Int) : Nat → Int := fun j => if j = i then v else f j
/-- Two roots get a new parent k. -/
theorem anc_join {par : Nat → Int} {a b k x y : Nat} (ha : par a = -1) (hb : par b = -1) (hk : par k = -1) (hak : a ≠ k) (hbk : b ≠ k) :
    Anc (updI (updI par a (k : Int)) b (k : Int)) x y ↔ Anc par x y ∨ (y = k ∧ (Anc par x a ∨ Anc par x b)) := by
  have hin : ∀ z, z = a ∨ z = b → updI (updI par a (k : Int)) b (k : Int) z = (k : Int) := fun z h => by
    unfold updI
    rcases h with rfl | rfl
    · split
      · rfl
      · rw [if_pos rfl]
    · rw [if_pos rfl]
  have hout : ∀ z, z ≠ a → z ≠ b → updI (updI par a (k : Int)) b (k : Int) z = par z := fun z h h' => by
    unfold updI
    rw [if_neg h', if_neg h]
  have fwd : ∀ {y}, Anc par x y → Anc (updI (updI par a (k : Int)) b (k : Int)) x y := fun {y} h => by
    refine Anc.ind (C := fun y => Anc (updI (updI par a (k : Int)) b (k : Int)) x y) (Anc.refl _ _) (fun y z _ h e => ?_) y h
    have h1 : y ≠ a := fun e2 => by rw [e2, ha] at e; omega
    have h2 : y ≠ b := fun e2 => by rw [e2, hb] at e; omega
    exact h.up (by rw [hout y h1 h2, e])
  constructor
  · refine fun h0 => Anc.ind (C := fun y => Anc par x y ∨ (y = k ∧ (Anc par x a ∨ Anc par x b))) (.inl (Anc.refl _ _)) (fun y z _ h e => ?_) y h0
    by_cases h1 : y = a ∨ y = b
    · have ez : z = k := by rw [hin y h1] at e; omega
      rcases h with h | ⟨rfl, -⟩
      · refine .inr ⟨ez, ?_⟩
        rcases h1 with rfl | rfl
        · exact .inl h
        · exact .inr h
      · rcases h1 with e | e
        · exact absurd e.symm hak
        · exact absurd e.symm hbk
    · have h1' := not_or.1 h1
      rw [hout y h1'.1 h1'.2] at e
      rcases h with h | ⟨rfl, -⟩
      · exact .inl (h.up e)
      · rw [hk] at e; omega
  · rintro (h | ⟨rfl, h⟩)
    · exact fwd h
    · rcases h with h | h
      · exact (fwd h).up (hin a (.inl rfl))
      · exact (fwd h).up (hin b (.inr rfl))

/-- The forest of nodes after the picks P: par their parents, rt the roots by labels. -/
structure Rc (n : Nat) (l : List (Int × Int × Int)) (P : List Nat) (par : Nat → Int) (rt : Nat → Nat) : Prop where
  r0 : ∀ x, x < n → rt (pL l P x) < n + P.length
  rn : ∀ x, x < n → par (rt (pL l P x)) = -1
  ra : ∀ x, x < n → Anc par x (rt (pL l P x))
  ri : ∀ x y, x < n → y < n → rt (pL l P x) = rt (pL l P y) → pL l P x = pL l P y
  up : ∀ x z : Nat, par x = (z : Int) → x < z ∧ n ≤ z ∧ z < n + P.length
  mn : ∀ x, par x = -1 ∨ ∃ z : Nat, par x = (z : Int)
  an : ∀ s (h : s < P.length) x, x < n → (Anc par x (n + s) ↔ pL l (P.take (s + 1)) x = pL l (P.take (s + 1)) (eU l P[s]))
section
variable {n : Nat} {l : List (Int × Int × Int)} {P : List Nat} {par : Nat → Int} {rt : Nat → Nat}
theorem Rc.start (n : Nat) (l : List (Int × Int × Int)) : Rc n l [] (fun _ => -1) fun i => i :=
  ⟨fun x h => by simpa [pL_nil] using h, fun x _ => rfl, fun x _ => by rw [pL_nil]; exact Anc.refl _ _, fun x y _ _ h => h, fun x z h => by omega, fun x => .inl rfl, fun s h => by simp at h⟩
theorem Rc.top (h : Rc n l P par rt) {x : Nat} (hx : n + P.length ≤ x) : par x = -1 := by
  rcases h.mn x with e | ⟨z, e⟩
  · exact e
  · have := h.up x z e; omega
theorem Rc.anc_lt (h : Rc n l P par rt) {x y : Nat} (hx : x < n) (ha : Anc par x y) : y < n + P.length := by
  refine Anc.ind (C := fun y => y < n + P.length) (by omega) (fun y z _ _ e => (h.up y z e).2.2) y ha
theorem Rc.anc_leaf (h : Rc n l P par rt) {x y : Nat} (hx : x < n) (ha : Anc par x y) : y = x ∨ n ≤ y := by
  refine Anc.ind (C := fun y => y = x ∨ n ≤ y) (.inl rfl) (fun y z _ _ e => .inr (h.up y z e).2.1) y ha
theorem Rc.step (hok : GOk n l) (h : Rc n l P par rt) {i : Nat} (hi : i < l.length) (hP : ∀ j ∈ P, j < l.length) (hne : pL l P (eU l i) ≠ pL l P (eV l i)) :
    Rc n l (P ++ [i]) (updI (updI par (rt (min (pL l P (eU l i)) (pL l P (eV l i)))) ((n + P.length : Nat) : Int)) (rt (max (pL l P (eU l i)) (pL l P (eV l i)))) ((n + P.length : Nat) : Int))
      (upd rt (min (pL l P (eU l i)) (pL l P (eV l i))) (n + P.length)) := by
  obtain ⟨hu, hv⟩ := hok.lt hi
  have hlab := pL_lab hok P hP
  -- the two labels, and who bears them
  obtain ⟨a, b, xa, xb, hxa, hxb, ea, eb, ha, hb, hab, hm⟩ : ∃ a b xa xb, xa < n ∧ xb < n ∧ pL l P xa = a ∧ pL l P xb = b ∧ a = min (pL l P (eU l i)) (pL l P (eV l i)) ∧ b = max (pL l P (eU l i)) (pL l P (eV l i)) ∧ a < b ∧
      (∀ x, (pL l P x = pL l P (eU l i) ∨ pL l P x = pL l P (eV l i)) ↔ (pL l P x = a ∨ pL l P x = b)) := by
    rcases Nat.lt_or_ge (pL l P (eU l i)) (pL l P (eV l i)) with hlt | hge
    · exact ⟨_, _, eU l i, eV l i, hu, hv, rfl, rfl, by omega, by omega, hlt, fun x => Iff.rfl⟩
    · exact ⟨_, _, eV l i, eU l i, hv, hu, rfl, rfl, by omega, by omega, by omega, fun x => or_comm⟩
  have hL : ∀ x, pL l (P ++ [i]) x = if pL l P x = b then a else pL l P x := fun x => by
    rw [pL_snoc, ha, hb]; rfl
  rw [← ha, ← hb]
  have ra_ := h.rn xa hxa
  have rb_ := h.rn xb hxb
  have la := h.r0 xa hxa
  have lb := h.r0 xb hxb
  have aa := h.ra xa hxa
  have ab := h.ra xb hxb
  rw [ea] at ra_ la aa
  rw [eb] at rb_ lb ab
  have rab : rt a ≠ rt b := fun e => by
    have := h.ri xa xb hxa hxb (by rw [ea, eb]; exact e)
    omega
  have hk := h.top (Nat.le_refl (n + P.length))
  have hA : ∀ x y, Anc (updI (updI par (rt a) ((n + P.length : Nat) : Int)) (rt b) ((n + P.length : Nat) : Int)) x y ↔ Anc par x y ∨ (y = n + P.length ∧ (Anc par x (rt a) ∨ Anc par x (rt b))) := fun x y =>
    anc_join ra_ rb_ hk (by omega) (by omega)
  -- who lies below the two roots
  have hra : ∀ x, x < n → (Anc par x (rt a) ↔ pL l P x = a) := fun x hx => by
    refine ⟨fun e => ?_, fun e => ?_⟩
    · have := e.root2 (h.ra x hx) ra_ (h.rn x hx)
      have := h.ri xa x hxa hx (by rw [ea]; exact this)
      rw [← this, ea]
    · have := h.ra x hx; rwa [e] at this
  have hrb : ∀ x, x < n → (Anc par x (rt b) ↔ pL l P x = b) := fun x hx => by
    refine ⟨fun e => ?_, fun e => ?_⟩
    · have := e.root2 (h.ra x hx) rb_ (h.rn x hx)
      have := h.ri xb x hxb hx (by rw [eb]; exact this)
      rw [← this, eb]
    · have := h.ra x hx; rwa [e] at this
  have hlen : (P ++ [i]).length = P.length + 1 := by simp
  -- the new label, and its root
  have hrt : ∀ x, upd rt a (n + P.length) (pL l (P ++ [i]) x) = if pL l P x = a ∨ pL l P x = b then n + P.length else rt (pL l P x) := fun x => by
    rw [hL]
    by_cases e : pL l P x = b
    · rw [if_pos e, if_pos (.inr e)]; exact upd_same _ _ _
    · rw [if_neg e]
      by_cases e2 : pL l P x = a
      · rw [if_pos (.inl e2), e2]; exact upd_same _ _ _
      · rw [if_neg (by omega)]; exact upd_other _ _ e2
  have hpk : ∀ z, z ≠ rt a → z ≠ rt b → updI (updI par (rt a) ((n + P.length : Nat) : Int)) (rt b) ((n + P.length : Nat) : Int) z = par z := fun z h1 h2 => by
    unfold updI; rw [if_neg h2, if_neg h1]
  have hpi : ∀ z, z = rt a ∨ z = rt b → updI (updI par (rt a) ((n + P.length : Nat) : Int)) (rt b) ((n + P.length : Nat) : Int) z = ((n + P.length : Nat) : Int) := fun z h => by
    unfold updI
    rcases h with rfl | rfl
    · split
      · rfl
      · rw [if_pos rfl]
    · rw [if_pos rfl]
  refine ⟨fun x hx => ?_, fun x hx => ?_, fun x hx => ?_, fun x y hx hy e => ?_, fun x z e => ?_, fun x => ?_, fun s hs x hx => ?_⟩
  · rw [hrt, hlen]
    have := h.r0 x hx
    split <;> omega
  · rw [hrt]
    by_cases e : pL l P x = a ∨ pL l P x = b
    · rw [if_pos e, hpk _ (by omega) (by omega)]; exact hk
    · rw [if_neg e]
      have h1 := not_or.1 e
      rw [hpk _ (fun e2 => h1.1 ?_) (fun e2 => h1.2 ?_)]
      · exact h.rn x hx
      · have := h.ri x xa hx hxa (by rw [ea]; exact e2)
        rw [this, ea]
      · have := h.ri x xb hx hxb (by rw [eb]; exact e2)
        rw [this, eb]
  · rw [hrt, hA]
    by_cases e : pL l P x = a ∨ pL l P x = b
    · rw [if_pos e]
      exact .inr ⟨rfl, e.imp (hra x hx).2 (hrb x hx).2⟩
    · rw [if_neg e]
      exact .inl (h.ra x hx)
  · rw [hrt, hrt] at e
    rw [hL, hL]
    have h1 := h.r0 x hx
    have h2 := h.r0 y hy
    by_cases e1 : pL l P x = a ∨ pL l P x = b
    · by_cases e2 : pL l P y = a ∨ pL l P y = b
      · rcases e1 with e1 | e1 <;> rcases e2 with e2 | e2 <;> simp [e1, e2]
      · rw [if_pos e1, if_neg e2] at e; omega
    · by_cases e2 : pL l P y = a ∨ pL l P y = b
      · rw [if_neg e1, if_pos e2] at e; omega
      · rw [if_neg e1, if_neg e2] at e
        rw [h.ri x y hx hy e]
  · rw [hlen]
    by_cases e1 : x = rt a ∨ x = rt b
    · rw [hpi x e1] at e
      rcases e1 with rfl | rfl <;> omega
    · have h1 := not_or.1 e1
      rw [hpk x h1.1 h1.2] at e
      have := h.up x z e
      omega
  · by_cases e1 : x = rt a ∨ x = rt b
    · exact .inr ⟨_, hpi x e1⟩
    · have h1 := not_or.1 e1
      rw [hpk x h1.1 h1.2]
      exact h.mn x
  · rw [hA]
    rw [hlen] at hs
    by_cases e : s = P.length
    · subst e
      have et : (P ++ [i]).take (P.length + 1) = P ++ [i] := by rw [List.take_of_length_le (by simp)]
      have eg : ∀ hx : P.length < (P ++ [i]).length, (P ++ [i])[P.length] = i := fun _ => by simp
      rw [et, eg]
      have n1 : ¬ Anc par x (n + P.length) := fun e => by have := h.anc_lt hx e; omega
      rw [hL, hL]
      have hU : pL l P (eU l i) = a ∨ pL l P (eU l i) = b := (hm _).1 (.inl rfl)
      rw [hra x hx, hrb x hx]
      constructor
      · rintro (e | ⟨-, e⟩)
        · exact absurd e n1
        · rcases hU with e2 | e2 <;> rcases e with e | e <;> simp [e, e2]
      · intro e
        refine .inr ⟨rfl, ?_⟩
        by_cases e3 : pL l P x = b
        · exact .inr e3
        · rw [if_neg e3] at e
          refine .inl ?_
          rcases hU with e2 | e2
          · rw [e, e2, if_neg (by omega)]
          · rw [e, e2, if_pos rfl]
    · have hs' : s < P.length := by omega
      rw [List.take_append_of_le_length (by omega)]
      rw [List.getElem_append_left hs', ← h.an s hs' x hx]
      constructor
      · rintro (e | ⟨e, -⟩)
        · exact e
        · omega
      · exact fun e => .inl e
/-- Where two leaves meet. -/
def Meets (par : Nat → Int) (u v c : Nat) : Prop := Anc par u c ∧ Anc par v c ∧ ∀ y, Anc par u y → Anc par v y → c ≤ y
theorem Meets.uniq {u v c c' : Nat} (h : Meets par u v c) (h' : Meets par u v c') : c = c' := by
  have := h.2.2 c' h'.1 h'.2.1
  have := h'.2.2 c h.1 h.2.1
  omega
theorem Rc.apart (h : Rc n l P par rt) {u v : Nat} (hu : u < n) (hv : v < n) (hne : pL l P u ≠ pL l P v) (y : Nat) : ¬ (Anc par u y ∧ Anc par v y) := fun ⟨h1, h2⟩ => by
  rcases h.anc_leaf hu h1 with e | e
  · subst e
    rcases h.anc_leaf hv h2 with e | e
    · subst e; exact hne rfl
    · omega
  · have hy := h.anc_lt hu h1
    obtain ⟨s, rfl⟩ : ∃ s, y = n + s := ⟨y - n, by omega⟩
    have hs : s < P.length := by omega
    have e1 := (h.an s hs u hu).1 h1
    have e2 := (h.an s hs v hv).1 h2
    have := pL_mono (l := l) (P := P) (s := s + 1) P.length (by omega) (e1.trans e2.symm)
    rw [List.take_length] at this
    exact hne this
theorem Rc.meet (h : Rc n l P par rt) {u v : Nat} (hu : u < n) (hv : v < n) (huv : u ≠ v) {t : Nat} (ht : t < P.length) (h1 : pL l (P.take t) u ≠ pL l (P.take t) v) (h2 : pL l (P.take (t + 1)) u = pL l (P.take (t + 1)) v) :
    Meets par u v (n + t) := by
  have hc : pL l (P.take (t + 1)) u = pL l (P.take (t + 1)) (eU l P[t]) := by
    have h3 := h2
    rw [pL_take ht, merge_eq] at h3
    rw [pL_take ht, merge_eq]
    omega
  refine ⟨(h.an t ht u hu).2 hc, (h.an t ht v hv).2 (h2.symm.trans hc), fun y a1 a2 => ?_⟩
  rcases h.anc_leaf hu a1 with e | e
  · subst e
    rcases h.anc_leaf hv a2 with e | e
    · exact absurd e huv
    · omega
  · have hy := h.anc_lt hu a1
    obtain ⟨s, rfl⟩ : ∃ s, y = n + s := ⟨y - n, by omega⟩
    have hs : s < P.length := by omega
    have e1 := (h.an s hs u hu).1 a1
    have e2 := (h.an s hs v hv).1 a2
    rcases Nat.lt_or_ge s t with hlt | hge
    · exact absurd (pL_mono (l := l) (P := P) (s := s + 1) t (by omega) (e1.trans e2.symm)) h1
    · omega
end
end Go.Proofs.YtoomcgmbaogjbaaDoor
namespace Go.Proofs.YtoomcgmbaogjbaaDoor
set_option linter.unusedVariables false

/-- Parents stand behind their children. -/
def Tr (N : Nat) (par : Nat → Int) : Prop := ∀ x, x < N → par x = -1 ∨ ∃ z : Nat, par x = (z : Int) ∧ x < z ∧ z < N
theorem Rc.tr {n : Nat} {l : List (Int × Int × Int)} {P : List Nat} {par : Nat → Int} {rt : Nat → Nat} (h : Rc n l P par rt) : Tr (n + P.length) par := fun x _ => by
  rcases h.mn x with e | ⟨z, e⟩
  · exact .inl e
  · have := h.up x z e
    exact .inr ⟨z, e, this.1, this.2.2⟩
def dpF (par : Nat → Int) : Nat → Nat → Nat
  | 0, _ => 0
  | f + 1, x => if par x < 0 then 0 else dpF par f (par x).toNat + 1
/-- How many ancestors. -/
def dp (N : Nat) (par : Nat → Int) (x : Nat) : Nat := dpF par N x
section
variable {N : Nat} {par : Nat → Int}
theorem dpF_st (h : Tr N par) : ∀ f g x, x < N → N - x ≤ f → N - x ≤ g → dpF par f x = dpF par g x := by
  intro f
  induction f with
  | zero => intro g x hx h1; omega
  | succ f ih =>
    intro g x hx h1 h2
    obtain ⟨g, rfl⟩ : ∃ g', g = g' + 1 := ⟨g - 1, by omega⟩
    show (if par x < 0 then 0 else dpF par f (par x).toNat + 1) = if par x < 0 then 0 else dpF par g (par x).toNat + 1
    rcases h x hx with e | ⟨z, e, z1, z2⟩
    · rw [if_pos (by omega), if_pos (by omega)]
    · rw [if_neg (by omega), if_neg (by omega), e]
      show dpF par f z + 1 = dpF par g z + 1
      rw [ih g z z2 (by omega) (by omega)]
theorem dp_root (h : Tr N par) {x : Nat} (hx : x < N) (e : par x = -1) : dp N par x = 0 := by
  unfold dp
  obtain ⟨M, rfl⟩ : ∃ M, N = M + 1 := ⟨N - 1, by omega⟩
  show (if par x < 0 then 0 else dpF par M (par x).toNat + 1) = 0
  rw [if_pos (by omega)]
theorem dp_up (h : Tr N par) {x z : Nat} (hx : x < N) (e : par x = (z : Int)) : dp N par x = dp N par z + 1 := by
  obtain ⟨z1, z2⟩ : x < z ∧ z < N := by
    rcases h x hx with e2 | ⟨z', e2, z1, z2⟩
    · omega
    · obtain rfl : z = z' := by omega
      exact ⟨z1, z2⟩
  have : dpF par N z = dpF par (N - 1) z := dpF_st h N (N - 1) z z2 (by omega) (by omega)
  unfold dp
  rw [this]
  obtain ⟨M, rfl⟩ : ∃ M, N = M + 1 := ⟨N - 1, by omega⟩
  show (if par x < 0 then 0 else dpF par M (par x).toNat + 1) = dpF par (M + 1 - 1) z + 1
  rw [if_neg (by omega), e]; rfl
theorem dp_lt (h : Tr N par) : ∀ k x, x < N → N - x ≤ k → dp N par x + x < N := by
  intro k
  induction k with
  | zero => intro x hx h1; omega
  | succ k ih =>
    intro x hx h1
    rcases h x hx with e | ⟨z, e, z1, z2⟩
    · rw [dp_root h hx e]; omega
    · rw [dp_up h hx e]
      have := ih z z2 (by omega)
      omega
theorem dp_le (h : Tr N par) {x : Nat} (hx : x < N) : dp N par x < N := by have := dp_lt h N x hx (by omega); omega
theorem anI_le (h : Tr N par) {x : Nat} (hx : x < N) : ∀ k, k ≤ dp N par x → ∃ y : Nat, anI par k (x : Int) = (y : Int) ∧ y < N ∧ x ≤ y ∧ dp N par y + k = dp N par x := by
  intro k
  induction k with
  | zero => intro _; exact ⟨x, rfl, hx, Nat.le_refl _, rfl⟩
  | succ k ih =>
    intro hk
    obtain ⟨y, h1, h2, h3, h4⟩ := ih (by omega)
    rcases h y h2 with e | ⟨z, e, z1, z2⟩
    · have := dp_root h h2 e; omega
    · refine ⟨z, ?_, z2, by omega, ?_⟩
      · show up1 par _ = _; rw [h1, up1_nat, e]
      · have := dp_up h h2 e; omega
theorem anI_gt (h : Tr N par) {x : Nat} (hx : x < N) {k : Nat} (hk : dp N par x < k) : anI par k (x : Int) = -1 := by
  obtain ⟨y, h1, h2, h3, h4⟩ := anI_le h hx (dp N par x) (Nat.le_refl _)
  have e : par y = -1 := by
    rcases h y h2 with e | ⟨z, e, z1, z2⟩
    · exact e
    · have := dp_up h h2 e; omega
  obtain ⟨j, rfl⟩ : ∃ j, k = j + (1 + dp N par x) := ⟨k - 1 - dp N par x, by omega⟩
  rw [anI_add, anI_add, h1]
  have : anI par 1 (y : Int) = -1 := by show up1 par (y : Int) = -1; rw [up1_nat, e]
  rw [this, anI_neg]
theorem anc_at (h : Tr N par) {x y : Nat} (hx : x < N) (ha : Anc par x y) : ∃ k, k ≤ dp N par x ∧ anI par k (x : Int) = (y : Int) ∧ y < N ∧ x ≤ y ∧ dp N par y + k = dp N par x := by
  obtain ⟨k, hk⟩ := ha
  rcases Nat.lt_or_ge (dp N par x) k with hlt | hge
  · rw [anI_gt h hx hlt] at hk; omega
  · obtain ⟨y', h1, h2, h3, h4⟩ := anI_le h hx k hge
    obtain rfl : y = y' := by omega
    exact ⟨k, hge, hk, h2, h3, h4⟩

/-! ### The queue -/
def rtsQ (par : Nat → Int) (k : Nat) : List Nat := (List.range k).filter fun v => decide (par v < 0)
def chsQ (par : Nat → Int) (p k : Nat) : List Nat := (List.range k).filter fun v => decide (par v = (p : Int))
theorem rtsQ_in {k : Nat} (h : par k < 0) : rtsQ par (k + 1) = rtsQ par k ++ [k] := by simp [rtsQ, List.range_succ, List.filter_append, h]
theorem rtsQ_out {k : Nat} (h : ¬ par k < 0) : rtsQ par (k + 1) = rtsQ par k := by simp [rtsQ, List.range_succ, List.filter_append, h]
theorem chsQ_in {p k : Nat} (h : par k = (p : Int)) : chsQ par p (k + 1) = chsQ par p k ++ [k] := by simp [chsQ, List.range_succ, List.filter_append, h]
theorem chsQ_out {p k : Nat} (h : par k ≠ (p : Int)) : chsQ par p (k + 1) = chsQ par p k := by simp [chsQ, List.range_succ, List.filter_append, h]
theorem rtsQ_mem {k x : Nat} : x ∈ rtsQ par k ↔ x < k ∧ par x < 0 := by simp [rtsQ]
theorem chsQ_mem {p k x : Nat} : x ∈ chsQ par p k ↔ x < k ∧ par x = (p : Int) := by simp [chsQ]
theorem nodup_sub : ∀ (l m : List Nat), l.Nodup → (∀ x ∈ l, x ∈ m) → l.length ≤ m.length := by
  intro l
  induction l with
  | nil => intro m _ _; simp
  | cons a t ih =>
    intro m hn hm
    have h1 := List.nodup_cons.1 hn
    have ha := hm a (by simp)
    have := ih (m.erase a) h1.2 fun x hx => (List.mem_erase_of_ne (fun e => h1.1 (by rw [← e]; exact hx))).2 (hm x (by simp [hx]))
    rw [List.length_erase_of_mem ha] at this
    have := List.length_pos_of_mem ha
    simp; omega
theorem count_flat {x p : Nat} {f : Nat → List Nat} (h : ∀ y, (f y).count x ≤ if y = p then 1 else 0) : ∀ l : List Nat, (l.flatMap f).count x ≤ l.count p := by
  intro l
  induction l with
  | nil => simp
  | cons y l ih =>
    rw [List.flatMap_cons, List.count_append, List.count_cons]
    have := h y
    by_cases e : y = p
    · simp [e] at this ⊢; subst e; omega
    · simp [e] at this ⊢; omega
theorem count_one_of_nodup {x : Nat} {l : List Nat} (h : l.Nodup) : l.count x ≤ 1 := List.nodup_iff_count.1 h x
/-- A queue of nodes: roots, then children of what stands in it. -/
def Qu (N : Nat) (par : Nat → Int) (q : List Nat) : Prop := ∀ x, q.count x ≤ (rtsQ par N ++ q.flatMap fun v => chsQ par v N).count x
theorem rtsQ_nd (k : Nat) : (rtsQ par k).Nodup := List.nodup_range.filter _
theorem chsQ_nd (p k : Nat) : (chsQ par p k).Nodup := List.nodup_range.filter _
theorem Qu.lt {q : List Nat} (h : Qu N par q) {x : Nat} (hx : x ∈ q) : x < N := by
  have h1 := h x
  have h2 : 0 < q.count x := List.count_pos_iff.2 hx
  have h3 : x ∈ rtsQ par N ++ q.flatMap fun v => chsQ par v N := List.count_pos_iff.1 (by omega)
  rcases List.mem_append.1 h3 with h3 | h3
  · exact (rtsQ_mem.1 h3).1
  · obtain ⟨v, -, h4⟩ := List.mem_flatMap.1 h3
    exact (chsQ_mem.1 h4).1
theorem Qu.one (ht : Tr N par) {q : List Nat} (h : Qu N par q) : ∀ k x, x < N → N - x ≤ k → q.count x ≤ 1 := by
  intro k
  induction k with
  | zero => intro x hx h1; omega
  | succ k ih =>
    intro x hx h1
    have h2 := h x
    rw [List.count_append] at h2
    rcases ht x hx with e | ⟨z, e, z1, z2⟩
    · have h3 : (q.flatMap fun v => chsQ par v N).count x = 0 := List.count_eq_zero.2 fun hm => by
        obtain ⟨v, -, h4⟩ := List.mem_flatMap.1 hm
        have := (chsQ_mem.1 h4).2
        omega
      have := count_one_of_nodup (x := x) (rtsQ_nd (par := par) N)
      omega
    · have h3 : (rtsQ par N).count x = 0 := List.count_eq_zero.2 fun hm => by
        have := (rtsQ_mem.1 hm).2
        omega
      have h4 := count_flat (x := x) (p := z) (f := fun v => chsQ par v N) (fun y => by
        by_cases ey : y = z
        · rw [if_pos ey]; exact count_one_of_nodup (chsQ_nd _ _)
        · rw [if_neg ey]
          exact Nat.le_of_eq (List.count_eq_zero.2 fun hm => ey (by have := (chsQ_mem.1 hm).2; omega))) q
      have := ih z z2 (by omega)
      omega
theorem Qu.nd (ht : Tr N par) {q : List Nat} (h : Qu N par q) : q.Nodup := List.nodup_iff_count.2 fun x => by
  by_cases hx : x ∈ q
  · exact h.one ht N x (h.lt hx) (by omega)
  · rw [List.count_eq_zero.2 hx]; omega
theorem Qu.len (ht : Tr N par) {q : List Nat} (h : Qu N par q) : q.length ≤ N := by
  have := nodup_sub q (List.range N) (h.nd ht) fun x hx => List.mem_range.2 (h.lt hx)
  simpa using this
/-- The queue when a of its nodes are done, and c children of the next. -/
def Qm (N : Nat) (par : Nat → Int) (a c : Nat) (q : List Nat) : Prop := ∃ e : List Nat, q = rtsQ par N ++ (q.take a).flatMap (fun v => chsQ par v N) ++ e ∧ (c = 0 → e = []) ∧ (∀ h : a < q.length, e = (chsQ par q[a] N).take c)
theorem Qm.qu {a c : Nat} {q : List Nat} (h : Qm N par a c q) (hc : c = 0 ∨ a < q.length) : Qu N par q := fun x => by
  obtain ⟨e, h1, h2, h3⟩ := h
  have key : ((q.take a).flatMap (fun v => chsQ par v N) ++ e).count x ≤ (q.flatMap fun v => chsQ par v N).count x := by
    have hs : ((q.take a).flatMap (fun v => chsQ par v N) ++ e).Sublist (q.flatMap fun v => chsQ par v N) := by
      rcases hc with hc | hc
      · rw [h2 hc, List.append_nil]
        conv => rhs; rw [← List.take_append_drop a q, List.flatMap_append]
        exact List.sublist_append_left _ _
      · conv => rhs; rw [← List.take_append_drop a q, List.flatMap_append, List.drop_eq_getElem_cons hc, List.flatMap_cons]
        refine List.Sublist.append (List.Sublist.refl _) ?_
        rw [h3 hc]
        exact (List.take_sublist _ _).trans (List.sublist_append_left _ _)
    exact hs.count_le x
  have e2 : q.count x = (rtsQ par N ++ (q.take a).flatMap (fun v => chsQ par v N) ++ e).count x := by rw [← h1]
  rw [e2]
  simp only [List.count_append] at key ⊢
  omega
theorem Qm.start : Qm N par 0 0 (rtsQ par N) := ⟨[], by simp, fun _ => rfl, fun _ => by simp⟩
theorem Qm.child {a c : Nat} {q : List Nat} (h : Qm N par a c q) (ha : a < q.length) {x : Nat} (hx : (chsQ par q[a] N)[c]? = some x) : Qm N par a (c + 1) (q ++ [x]) := by
  obtain ⟨e, h1, h2, h3⟩ := h
  refine ⟨e ++ [x], ?_, fun h => by omega, fun h => ?_⟩
  · rw [List.take_append_of_le_length (Nat.le_of_lt ha), ← List.append_assoc, ← h1]
  · rw [List.getElem_append_left ha, h3 ha, List.take_add_one, hx]; rfl
theorem Qm.next {a c : Nat} {q : List Nat} (h : Qm N par a c q) (ha : a < q.length) (hc : (chsQ par q[a] N).length ≤ c) : Qm N par (a + 1) 0 q := by
  obtain ⟨e, h1, h2, h3⟩ := h
  refine ⟨[], ?_, fun _ => rfl, fun _ => by simp⟩
  rw [List.take_succ_eq_append_getElem ha, List.flatMap_append, List.append_nil, ← List.append_assoc]
  have e2 : [q[a]].flatMap (fun v => chsQ par v N) = e := by
    rw [h3 ha, List.take_of_length_le hc]; simp
  rw [e2]; exact h1
theorem Qm.full (ht : Tr N par) {q : List Nat} (h : Qm N par q.length 0 q) : q.length = N := by
  have hq := h.qu (.inl rfl)
  obtain ⟨e, h1, h2, h3⟩ := h
  rw [h2 rfl, List.append_nil, List.take_length] at h1
  have key : ∀ k x, x < N → N - x ≤ k → x ∈ q := by
    intro k
    induction k with
    | zero => intro x hx h1; omega
    | succ k ih =>
      intro x hx hk
      rw [h1]
      rcases ht x hx with e | ⟨z, e, z1, z2⟩
      · exact List.mem_append.2 (.inl (rtsQ_mem.2 ⟨hx, by omega⟩))
      · exact List.mem_append.2 (.inr (List.mem_flatMap.2 ⟨z, ih z z2 (by omega), chsQ_mem.2 ⟨hx, e⟩⟩))
  have h4 := hq.len ht
  have h5 := nodup_sub (List.range N) q List.nodup_range fun x hx => key N x (List.mem_range.1 hx) (by omega)
  simp at h5
  omega
theorem Qm.all (ht : Tr N par) {q : List Nat} (h : Qm N par q.length 0 q) {x : Nat} (hx : x < N) : x ∈ q := by
  have hq := h.qu (.inl rfl)
  obtain ⟨e, h1, h2, h3⟩ := h
  rw [h2 rfl, List.append_nil, List.take_length] at h1
  have key : ∀ k x, x < N → N - x ≤ k → x ∈ q := by
    intro k
    induction k with
    | zero => intro x hx h1; omega
    | succ k ih =>
      intro x hx hk
      rw [h1]
      rcases ht x hx with e | ⟨z, e, z1, z2⟩
      · exact List.mem_append.2 (.inl (rtsQ_mem.2 ⟨hx, by omega⟩))
      · exact List.mem_append.2 (.inr (List.mem_flatMap.2 ⟨z, ih z z2 (by omega), chsQ_mem.2 ⟨hx, e⟩⟩))
  exact key N x hx (by omega)

/-! ### The lowest common ancestor -/
theorem anI_eq {a b k : Nat} (h : anI par k (a : Int) = anI par k (b : Int)) (j : Nat) (hj : k ≤ j) : anI par j (a : Int) = anI par j (b : Int) := by
  obtain ⟨i, rfl⟩ : ∃ i, j = i + k := ⟨j - k, by omega⟩
  rw [anI_add, anI_add, h]
/-- a and b stand for u and v; they meet at most B above. -/
structure Cm (N : Nat) (par : Nat → Int) (u v a b B : Nat) : Prop where
  aN : a < N
  bN : b < N
  ne : a ≠ b
  dd : dp N par a = dp N par b
  ca : ∀ y, (Anc par u y ∧ Anc par v y) ↔ (Anc par a y ∧ Anc par b y)
  mt : ∃ D, 1 ≤ D ∧ D ≤ B ∧ anI par D (a : Int) = anI par D (b : Int)
theorem lvl_ca (h : Tr N par) {u v a b i j : Nat} (hu : u < N) (hv : v < N) (hi : i ≤ dp N par u) (hj : j ≤ dp N par v) (ha : anI par i (u : Int) = (a : Int)) (hb : anI par j (v : Int) = (b : Int)) (hd : dp N par a = dp N par b)
    (hl : dp N par a = min (dp N par u) (dp N par v)) (y : Nat) : (Anc par u y ∧ Anc par v y) ↔ (Anc par a y ∧ Anc par b y) := by
  obtain ⟨a', a1, a2, a3, a4⟩ := anI_le h hu i hi
  obtain rfl : a = a' := by omega
  obtain ⟨b', b1, b2, b3, b4⟩ := anI_le h hv j hj
  obtain rfl : b = b' := by omega
  constructor
  · rintro ⟨h1, h2⟩
    obtain ⟨k, k1, k2, k3, k4, k5⟩ := anc_at h hu h1
    obtain ⟨m, m1, m2, m3, m4, m5⟩ := anc_at h hv h2
    refine ⟨⟨k - i, ?_⟩, ⟨m - j, ?_⟩⟩
    · rw [← ha, ← anI_add, show k - i + i = k by omega, k2]
    · rw [← hb, ← anI_add, show m - j + j = m by omega, m2]
  · rintro ⟨h1, h2⟩
    exact ⟨Anc.trans ⟨i, ha⟩ h1, Anc.trans ⟨j, hb⟩ h2⟩
theorem Cm.start (h : Tr N par) {u v a b i j : Nat} (hu : u < N) (hv : v < N) (hi : i + min (dp N par u) (dp N par v) = dp N par u) (hj : j + min (dp N par u) (dp N par v) = dp N par v) (ha : anI par i (u : Int) = (a : Int)) (hb : anI par j (v : Int) = (b : Int)) {B : Nat} (hB : N ≤ B) :
    (a = b ∧ Meets par u v a) ∨ Cm N par u v a b B := by
  obtain ⟨a', a1, a2, a3, a4⟩ := anI_le h hu i (by omega)
  obtain rfl : a = a' := by omega
  obtain ⟨b', b1, b2, b3, b4⟩ := anI_le h hv j (by omega)
  obtain rfl : b = b' := by omega
  have hca := lvl_ca h hu hv (i := i) (j := j) (by omega) (by omega) ha hb (by omega) (by omega)
  by_cases e : a = b
  · refine .inl ⟨e, ((hca a).2 ⟨Anc.refl _ _, e ▸ Anc.refl _ _⟩).1, ((hca a).2 ⟨Anc.refl _ _, e ▸ Anc.refl _ _⟩).2, fun y h1 h2 => ?_⟩
    obtain ⟨k, k1, k2, k3, k4, k5⟩ := anc_at h a2 ((hca y).1 ⟨h1, h2⟩).1
    exact k4
  · refine .inr ⟨a2, b2, e, by omega, hca, dp N par a + 1, by omega, ?_, ?_⟩
    · have := dp_le h a2; omega
    · rw [anI_gt h a2 (by omega), anI_gt h b2 (by omega)]
theorem Cm.same {u v a b j : Nat} (h : Cm N par u v a b (2 ^ (j + 1))) (e : anI par (2 ^ j) (a : Int) = anI par (2 ^ j) (b : Int)) : Cm N par u v a b (2 ^ j) :=
  ⟨h.aN, h.bN, h.ne, h.dd, h.ca, 2 ^ j, Nat.two_pow_pos _, Nat.le_refl _, e⟩
theorem Cm.move (ht : Tr N par) {u v a b j : Nat} (h : Cm N par u v a b (2 ^ (j + 1))) (e : anI par (2 ^ j) (a : Int) ≠ anI par (2 ^ j) (b : Int)) :
    ∃ x y : Nat, anI par (2 ^ j) (a : Int) = (x : Int) ∧ anI par (2 ^ j) (b : Int) = (y : Int) ∧ Cm N par u v x y (2 ^ j) := by
  have hd := h.dd
  have hj : 2 ^ j ≤ dp N par a := by
    rcases Nat.lt_or_ge (dp N par a) (2 ^ j) with hlt | hge
    · rw [anI_gt ht h.aN hlt, anI_gt ht h.bN (by omega)] at e
      exact absurd rfl e
    · exact hge
  obtain ⟨x, x1, x2, x3, x4⟩ := anI_le ht h.aN (2 ^ j) hj
  obtain ⟨y, y1, y2, y3, y4⟩ := anI_le ht h.bN (2 ^ j) (by omega)
  refine ⟨x, y, x1, y1, x2, y2, fun e2 => e (by rw [x1, y1, e2]), by omega, fun z => ?_, ?_⟩
  · rw [h.ca]
    constructor
    · rintro ⟨h1, h2⟩
      obtain ⟨k, k1, k2, k3, k4, k5⟩ := anc_at ht h.aN h1
      obtain ⟨m, m1, m2, m3, m4, m5⟩ := anc_at ht h.bN h2
      obtain rfl : k = m := by omega
      have hk : 2 ^ j ≤ k := by
        rcases Nat.lt_or_ge k (2 ^ j) with hlt | hge
        · exact absurd (anI_eq (k2.trans m2.symm) (2 ^ j) (by omega)) e
        · exact hge
      refine ⟨⟨k - 2 ^ j, ?_⟩, ⟨k - 2 ^ j, ?_⟩⟩
      · rw [← x1, ← anI_add, show k - 2 ^ j + 2 ^ j = k by omega, k2]
      · rw [← y1, ← anI_add, show k - 2 ^ j + 2 ^ j = k by omega, m2]
    · rintro ⟨h1, h2⟩
      exact ⟨Anc.trans ⟨_, x1⟩ h1, Anc.trans ⟨_, y1⟩ h2⟩
  · obtain ⟨D, d1, d2, d3⟩ := h.mt
    have hD : 2 ^ j < D := by
      rcases Nat.lt_or_ge (2 ^ j) D with hlt | hge
      · exact hlt
      · exact absurd (anI_eq d3 _ hge) e
    refine ⟨D - 2 ^ j, by omega, by rw [Nat.pow_succ] at d2; omega, ?_⟩
    rw [← x1, ← y1, ← anI_add, ← anI_add, show D - 2 ^ j + 2 ^ j = D by omega, d3]
theorem Cm.fin (ht : Tr N par) {u v a b : Nat} (h : Cm N par u v a b 1) : (par a = -1 ∧ ∀ y, ¬ (Anc par u y ∧ Anc par v y)) ∨ ∃ c : Nat, par a = (c : Int) ∧ Meets par u v c := by
  obtain ⟨D, d1, d2, d3⟩ := h.mt
  obtain rfl : D = 1 := by omega
  change up1 par (a : Int) = up1 par (b : Int) at d3
  rw [up1_nat, up1_nat] at d3
  have key : ∀ y, Anc par u y → Anc par v y → ∃ k, anI par (k + 1) (a : Int) = (y : Int) := fun y h1 h2 => by
    obtain ⟨h3, h4⟩ := (h.ca y).1 ⟨h1, h2⟩
    obtain ⟨k, k1, k2, k3, k4, k5⟩ := anc_at ht h.aN h3
    obtain ⟨m, m1, m2, m3, m4, m5⟩ := anc_at ht h.bN h4
    have hd := h.dd
    obtain rfl : k = m := by omega
    cases k with
    | zero =>
      change (a : Int) = (y : Int) at k2
      change (b : Int) = (y : Int) at m2
      exact absurd (by omega : a = b) h.ne
    | succ k => exact ⟨k, k2⟩
  rcases ht a h.aN with e | ⟨c, e, c1, c2⟩
  · refine .inl ⟨e, fun y ⟨h1, h2⟩ => ?_⟩
    obtain ⟨k, hk⟩ := key y h1 h2
    rw [anI_add (j := k) (k := 1)] at hk
    have : anI par 1 (a : Int) = -1 := by show up1 par (a : Int) = -1; rw [up1_nat, e]
    rw [this, anI_neg] at hk
    omega
  · have hc := (h.ca c).2 ⟨(Anc.refl par a).up e, (Anc.refl par b).up (by rw [← d3]; exact e)⟩
    refine .inr ⟨c, e, hc.1, hc.2, fun y h1 h2 => ?_⟩
    obtain ⟨k, hk⟩ := key y h1 h2
    rw [anI_add (j := k) (k := 1)] at hk
    have : anI par 1 (a : Int) = (c : Int) := by show up1 par (a : Int) = _; rw [up1_nat, e]
    rw [this] at hk
    obtain ⟨k, k1, k2, k3, k4, k5⟩ := anc_at ht c2 ⟨k, hk⟩
    exact k4
/-- A jump of 2^(j+1). -/
theorem anI_two (par : Nat → Int) (j : Nat) (x : Int) : anI par (2 ^ (j + 1)) x = anI par (2 ^ j) (anI par (2 ^ j) x) := by
  rw [← anI_add, Nat.pow_succ, Nat.mul_two]
end
end Go.Proofs.YtoomcgmbaogjbaaDoor
