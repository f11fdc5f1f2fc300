/- plain: the nodes of a link-cut forest, and what they stand for. -/
import Derived.Test.YtoomcgmbaogjbaaDoorMem
namespace Go.Proofs.YtoomcgmbaogjbaaDoor
set_option linter.unusedVariables false

/-- The nodes: kids by side, the one above, pending reversal, key, first of the subtree. -/
structure LM where
  k : Nat → Nat → Nat
  up : Nat → Nat
  fl : Nat → Bool
  key : Nat → Int
  fi : Nat → Nat
/-- i comes ahead of j. -/
def bef (key : Nat → Int) (i j : Nat) : Bool := decide (key i < key j ∨ (key i = key j ∧ i < j))
/-- a is the first one of l. -/
def Fst (key : Nat → Int) (a : Nat) (l : List Nat) : Prop := a ∈ l ∧ ∀ y ∈ l, bef key y a = false
def rv (b : Bool) (l : List Nat) : List Nat := if b then l.reverse else l
theorem mem_rv {b : Bool} {l : List Nat} {y : Nat} : y ∈ rv b l ↔ y ∈ l := by cases b <;> simp [rv]
theorem len_rv {b : Bool} {l : List Nat} : (rv b l).length = l.length := by cases b <;> simp [rv]
theorem nodup_rv {b : Bool} {l : List Nat} : (rv b l).Nodup ↔ l.Nodup := by
  cases b
  · exact Iff.rfl
  · exact (List.reverse_perm l).nodup_iff
/-- x is a kid of the one above it. -/
def Kid (M : LM) (x : Nat) : Prop := M.up x ≠ 0 ∧ (M.k 0 (M.up x) = x ∨ M.k 1 (M.up x) = x)
/-- The list goes down from a. -/
def Chn (par : Nat → Nat) : Nat → List Nat → Prop
  | _, [] => True
  | a, x :: l => par x = a ∧ Chn par x l
/-- The subtrees' sequences. -/
structure Sq (N : Nat) (M : LM) (sq : Nat → List Nat) : Prop where
  s0 : sq 0 = []
  sx : ∀ x, 1 ≤ x → x ≤ N → sq x = rv (M.fl x) (sq (M.k 0 x) ++ x :: sq (M.k 1 x))
  up_ : ∀ x s, 1 ≤ x → x ≤ N → s < 2 → M.k s x ≠ 0 → M.up (M.k s x) = x
  kN : ∀ x s, 1 ≤ x → x ≤ N → s < 2 → M.k s x ≤ N
  uN : ∀ x, 1 ≤ x → x ≤ N → M.up x ≤ N
  fi_ : ∀ x, 1 ≤ x → x ≤ N → Fst M.key (M.fi x) (sq x)
  nd : ∀ x, 1 ≤ x → x ≤ N → (sq x).Nodup
theorem nodup_le {n : Nat} {L : List Nat} (hn : L.Nodup) (h : ∀ i ∈ L, 1 ≤ i ∧ i ≤ n) : L.length ≤ n := by
  induction n generalizing L with
  | zero =>
    cases L with
    | nil => simp
    | cons a l => have := h a (by simp); omega
  | succ n ih =>
    have h1 : (L.filter (· ≠ n + 1)).length ≤ n := ih (hn.sublist List.filter_sublist) fun i hi => by
      have hm := List.mem_filter.1 hi
      have := h i hm.1
      have h2 : i ≠ n + 1 := by simpa using hm.2
      omega
    have h2 : L.length ≤ (L.filter (· ≠ n + 1)).length + 1 := by
      clear ih h h1
      induction L with
      | nil => simp
      | cons a l ih =>
        have hn' := List.nodup_cons.1 hn
        by_cases ha : a = n + 1
        · subst ha
          have h3 : l.filter (· ≠ n + 1) = l := List.filter_eq_self.2 fun i hi => by
            have : i ≠ n + 1 := fun e => hn'.1 (e ▸ hi)
            simpa using this
          rw [List.filter_cons_of_neg (by simp), h3]
          simp
        · have := ih hn'.2
          rw [List.filter_cons_of_pos (by simpa using ha)]
          simp only [List.length_cons]; omega
    omega
section
variable {N : Nat} {M : LM} {sq : Nat → List Nat}
theorem Sq.mem_iff (h : Sq N M sq) {x : Nat} (h1 : 1 ≤ x) (h2 : x ≤ N) (y : Nat) : y ∈ sq x ↔ y = x ∨ y ∈ sq (M.k 0 x) ∨ y ∈ sq (M.k 1 x) := by
  rw [h.sx x h1 h2, mem_rv]
  simp [or_left_comm]
theorem Sq.self (h : Sq N M sq) {x : Nat} (h1 : 1 ≤ x) (h2 : x ≤ N) : x ∈ sq x := (h.mem_iff h1 h2 x).2 (.inl rfl)
theorem Sq.len (h : Sq N M sq) {x : Nat} (h1 : 1 ≤ x) (h2 : x ≤ N) : (sq x).length = (sq (M.k 0 x)).length + 1 + (sq (M.k 1 x)).length := by
  rw [h.sx x h1 h2, len_rv]; simp; omega
theorem Sq.kid_len (h : Sq N M sq) {x s : Nat} (h1 : 1 ≤ x) (h2 : x ≤ N) (hs : s < 2) : (sq (M.k s x)).length < (sq x).length := by
  have := h.len h1 h2
  obtain rfl | rfl : s = 0 ∨ s = 1 := by omega
  · omega
  · omega
theorem Sq.kid_sub (h : Sq N M sq) {x s : Nat} (h1 : 1 ≤ x) (h2 : x ≤ N) (hs : s < 2) {y : Nat} (hy : y ∈ sq (M.k s x)) : y ∈ sq x := by
  obtain rfl | rfl : s = 0 ∨ s = 1 := by omega
  · exact (h.mem_iff h1 h2 y).2 (.inr (.inl hy))
  · exact (h.mem_iff h1 h2 y).2 (.inr (.inr hy))
theorem Sq.cases (h : Sq N M sq) {x : Nat} (h1 : 1 ≤ x) (h2 : x ≤ N) {y : Nat} (hy : y ∈ sq x) : y = x ∨ ∃ s, s < 2 ∧ M.k s x ≠ 0 ∧ y ∈ sq (M.k s x) := by
  rcases (h.mem_iff h1 h2 y).1 hy with e | e | e
  · exact .inl e
  · exact .inr ⟨0, by omega, (fun e0 => by rw [e0, h.s0] at e; cases e), e⟩
  · exact .inr ⟨1, by omega, (fun e0 => by rw [e0, h.s0] at e; cases e), e⟩
/-- Induction on the subtree. -/
theorem Sq.ind (h : Sq N M sq) (P : Nat → Prop) (hP : ∀ x, 1 ≤ x → x ≤ N → (∀ s, s < 2 → M.k s x ≠ 0 → P (M.k s x)) → P x) : ∀ x, 1 ≤ x → x ≤ N → P x := by
  have key : ∀ n x, (sq x).length ≤ n → 1 ≤ x → x ≤ N → P x := by
    intro n
    induction n with
    | zero => intro x hl h1 h2; have := h.len h1 h2; omega
    | succ n ih =>
      intro x hl h1 h2
      refine hP x h1 h2 fun s hs hk => ih _ ?_ (by omega) (h.kN x s h1 h2 hs)
      have := h.kid_len h1 h2 hs
      omega
  exact fun x => key _ x (Nat.le_refl _)
theorem Sq.rng (h : Sq N M sq) : ∀ x, 1 ≤ x → x ≤ N → ∀ y ∈ sq x, 1 ≤ y ∧ y ≤ N :=
  h.ind _ fun x h1 h2 ih y hy => by
    rcases h.cases h1 h2 hy with rfl | ⟨s, hs, hk, e⟩
    · exact ⟨h1, h2⟩
    · exact ih s hs hk y e
theorem Sq.lenN (h : Sq N M sq) {x : Nat} (h1 : 1 ≤ x) (h2 : x ≤ N) : (sq x).length ≤ N := nodup_le (h.nd x h1 h2) (h.rng x h1 h2)
/-- What lies in a subtree is its root, or a kid of one in it. -/
theorem Sq.gen (h : Sq N M sq) : ∀ a, 1 ≤ a → a ≤ N → ∀ y ∈ sq a, y = a ∨ (Kid M y ∧ M.up y ∈ sq a) :=
  h.ind _ fun a h1 h2 ih y hy => by
    rcases h.cases h1 h2 hy with e | ⟨s, hs, hk, e⟩
    · exact .inl e
    · refine .inr ?_
      rcases ih s hs hk y e with rfl | ⟨k1, k2⟩
      · have hu := h.up_ a s h1 h2 hs hk
        refine ⟨⟨by rw [hu]; omega, ?_⟩, by rw [hu]; exact h.self h1 h2⟩
        rw [hu]
        obtain rfl | rfl : s = 0 ∨ s = 1 := by omega
        · exact .inl rfl
        · exact .inr rfl
      · exact ⟨k1, h.kid_sub h1 h2 hs k2⟩
theorem Sq.sub (h : Sq N M sq) : ∀ a, 1 ≤ a → a ≤ N → ∀ y ∈ sq a, (∀ z ∈ sq y, z ∈ sq a) ∧ (sq y).length ≤ (sq a).length ∧ (y ≠ a → (sq y).length < (sq a).length) :=
  h.ind _ fun a h1 h2 ih y hy => by
    rcases h.cases h1 h2 hy with rfl | ⟨s, hs, hk, e⟩
    · exact ⟨fun z hz => hz, Nat.le_refl _, fun e => absurd rfl e⟩
    · obtain ⟨i1, i2, -⟩ := ih s hs hk y e
      have := h.kid_len h1 h2 hs
      exact ⟨fun z hz => h.kid_sub h1 h2 hs (i1 z hz), by omega, fun _ => by omega⟩
theorem Sq.kid_at (h : Sq N M sq) {x : Nat} (h1 : 1 ≤ x) (h2 : x ≤ N) (hk : Kid M x) : ∃ s, s < 2 ∧ M.k s (M.up x) = x ∧ 1 ≤ M.up x ∧ M.up x ≤ N := by
  have := h.uN x h1 h2
  rcases hk.2 with e | e
  · exact ⟨0, by omega, e, by have := hk.1; omega, this⟩
  · exact ⟨1, by omega, e, by have := hk.1; omega, this⟩
theorem Sq.kid_in (h : Sq N M sq) {x : Nat} (h1 : 1 ≤ x) (h2 : x ≤ N) (hk : Kid M x) : x ∈ sq (M.up x) ∧ (sq x).length < (sq (M.up x)).length := by
  obtain ⟨s, hs, e, u1, u2⟩ := h.kid_at h1 h2 hk
  have a := h.kid_sub u1 u2 hs (y := x) (by rw [e]; exact h.self h1 h2)
  have b := h.kid_len u1 u2 hs
  rw [e] at b
  exact ⟨a, b⟩
/-- Two roots over one node are one. -/
theorem Sq.root_eq (h : Sq N M sq) {a b : Nat} (a1 : 1 ≤ a) (a2 : a ≤ N) (b1 : 1 ≤ b) (b2 : b ≤ N) (ha : ¬ Kid M a) (hb : ¬ Kid M b) : ∀ y, y ∈ sq a → y ∈ sq b → a = b := by
  have key : ∀ n y, (sq a).length - (sq y).length ≤ n → y ∈ sq a → y ∈ sq b → a = b := by
    intro n
    induction n with
    | zero =>
      intro y hn ya yb
      obtain ⟨-, -, s⟩ := h.sub a a1 a2 y ya
      by_cases e : y = a
      · subst e
        rcases h.gen b b1 b2 y yb with e | ⟨k, -⟩
        · exact e
        · exact absurd k ha
      · have := s e; omega
    | succ n ih =>
      intro y hn ya yb
      rcases h.gen a a1 a2 y ya with rfl | ⟨k, ua⟩
      · rcases h.gen b b1 b2 y yb with e | ⟨k, -⟩
        · exact e
        · exact absurd k ha
      · rcases h.gen b b1 b2 y yb with rfl | ⟨-, ub⟩
        · exact absurd k hb
        · obtain ⟨y1, y2⟩ := h.rng a a1 a2 y ya
          have := (h.kid_in y1 y2 k).2
          exact ih _ (by omega) ua ub
  exact fun y => key _ y (Nat.le_refl _)
/-- Every node lies below a root. -/
theorem Sq.root (h : Sq N M sq) : ∀ x, 1 ≤ x → x ≤ N → ∃ r, 1 ≤ r ∧ r ≤ N ∧ ¬ Kid M r ∧ x ∈ sq r := by
  have key : ∀ n x, N - (sq x).length ≤ n → 1 ≤ x → x ≤ N → ∃ r, 1 ≤ r ∧ r ≤ N ∧ ¬ Kid M r ∧ x ∈ sq r := by
    intro n
    induction n with
    | zero =>
      intro x hn h1 h2
      by_cases hk : Kid M x
      · obtain ⟨s, hs, e, u1, u2⟩ := h.kid_at h1 h2 hk
        have := h.lenN u1 u2
        have := (h.kid_in h1 h2 hk).2
        omega
      · exact ⟨x, h1, h2, hk, h.self h1 h2⟩
    | succ n ih =>
      intro x hn h1 h2
      by_cases hk : Kid M x
      · obtain ⟨s, hs, e, u1, u2⟩ := h.kid_at h1 h2 hk
        have l1 := h.lenN u1 u2
        obtain ⟨m1, m2⟩ := h.kid_in h1 h2 hk
        obtain ⟨r, r1, r2, r3, r4⟩ := ih (M.up x) (by omega) u1 u2
        exact ⟨r, r1, r2, r3, (h.sub r r1 r2 _ r4).1 x m1⟩
      · exact ⟨x, h1, h2, hk, h.self h1 h2⟩
  exact fun x => key _ x (Nat.le_refl _)
theorem Sq.kids_ne (h : Sq N M sq) {x : Nat} (h1 : 1 ≤ x) (h2 : x ≤ N) (k0 : M.k 0 x ≠ 0) : M.k 0 x ≠ M.k 1 x := fun e => by
  have hn := h.nd x h1 h2
  rw [h.sx x h1 h2, nodup_rv] at hn
  have a := h.self (x := M.k 0 x) (by omega) (h.kN x 0 h1 h2 (by omega))
  have := (List.nodup_append.1 hn).2.2 _ a (M.k 0 x) (by rw [← e]; exact List.mem_cons_of_mem _ a)
  exact this rfl
theorem Sq.kid_ne (h : Sq N M sq) {x s : Nat} (h1 : 1 ≤ x) (h2 : x ≤ N) (hs : s < 2) : M.k s x ≠ x := fun e => by
  have := h.kid_len h1 h2 hs
  rw [e] at this
  omega
end
end Go.Proofs.YtoomcgmbaogjbaaDoor
