/- Arguments that are slices, opened to lists: pairs of ints, ints, edges. Nothing of the program. -/
import Derived.Test.YtoomcgmbaogjbaaDoorKit
import Derived.Deep.Slices
import Derived.OpenShut
import Derived.ProofKit
import Derived.Lib.SmallJoins
namespace Go.Proofs.YtoomcgmbaogjbaaDoor
open Go.RowKit Go.ChangeShapes Go.WideShapes Go.Deep
set_option linter.unusedVariables false

theorem flatMap_get {α : Type} (f : α → List Value) (sz : Nat) (hf : ∀ a, (f a).length = sz) (l : List α) (j : Nat) (u : Value) (h : (l.flatMap f)[j]? = some u) :
    ∃ (i r : Nat) (hi : i < l.length), j = i * sz + r ∧ r < sz ∧ (f l[i])[r]? = some u := by
  induction l generalizing j with
  | nil => simp at h
  | cons a l ih =>
    rw [List.flatMap_cons] at h
    by_cases hj : j < sz
    · rw [List.getElem?_append_left (by rw [hf]; exact hj)] at h
      exact ⟨0, j, by simp, by simp, hj, h⟩
    · rw [List.getElem?_append_right (by rw [hf]; omega), hf] at h
      obtain ⟨i, r, hi, e, hr, hu⟩ := ih (j - sz) h
      refine ⟨i + 1, r, by simpa using hi, ?_, hr, by simpa using hu⟩
      rw [Nat.succ_mul]; omega
theorem flatMap_len {α : Type} (f : α → List Value) (sz : Nat) (hf : ∀ a, (f a).length = sz) (l : List α) : (l.flatMap f).length = l.length * sz := by
  induction l with
  | nil => simp
  | cons a l ih => rw [List.flatMap_cons, List.length_append, ih, hf, List.length_cons, Nat.succ_mul]; omega

section
variable {H : Type} {enc : TypeId × Value → H} {P : Program} {W : World} {base : Nat} {spare : Nat → Bool} {held : Bool}

/-- A slice whose elements are 'sz' cells each, every element the cells 'f a' of a good a. -/
theorem open_list {α : Type} [Inhabited α] {t e : TypeId} {v : Value} {d : DataW H} {p : List MemPlace} (f : α → List Value) (G : α → Prop) (sz : Nat) (hf : ∀ a, (f a).length = sz) (hsz : 0 < sz)
    (ht : P.underlying t = some (.slice e)) (hc : P.cellsOf e = sz)
    (hR : ∀ n cs y, DataW.trod enc P W base spare held n e cs = some y → ∃ a, cs = f a ∧ G a)
    (hv : ∃ a l c, v = .slice a l c) (h : DataW.Trod enc P W base spare held t v d p) :
    ∃ (A : Option Addr) (n c : Nat) (l : List α), v = .slice A n c ∧ n ≤ maxLen ∧ l.length = n ∧ (∀ a ∈ l, G a) ∧ Rd W A n sz (l.flatMap f) := by
  obtain ⟨a0, n0, c0, rfl⟩ := hv
  obtain ⟨fuel, hfu⟩ := h
  rcases open_slice ht hfu with ⟨hcs, _⟩ | ⟨a, len, cap, m, n, D, Pl, hcs, hb, hl, hm, hmm, hx, hi⟩
  · simp [Value.cells] at hcs
    obtain ⟨rfl, rfl, rfl⟩ := hcs
    exact ⟨none, 0, 0, [], rfl, Nat.zero_le _, rfl, by simp, Rd.nil⟩
  · simp [Value.cells] at hcs
    obtain ⟨rfl, rfl, rfl⟩ := hcs
    have hlm : n0 ≤ m := by rw [hmm]; split <;> omega
    have hall : ∀ i, i < n0 → ∃ x : α, (W.cells? base (a.add (i * sz)) sz = some (f x)) ∧ G x := by
      intro i hin
      obtain ⟨cs', h1, h2⟩ := hi i (by omega)
      obtain ⟨x, hx1, hx2⟩ := hR _ _ _ h2
      subst hx1
      rw [hc] at h1
      exact ⟨x, h1, hx2⟩
    obtain ⟨g, hg⟩ := choose_lt hall
    refine ⟨some a, n0, c0, (List.range n0).map g, rfl, by omega, by simp, ?_, ?_, ?_⟩
    · intro x hx
      obtain ⟨i, hi', rfl⟩ := List.mem_map.1 hx
      exact (hg i (by simpa using hi')).2
    · rw [flatMap_len f sz hf]; simp
    · intro hn
      obtain ⟨_, hcl, hat⟩ := World.cells?_some (hg 0 hn).1
      have h0 : W.cell? (a.add (0 * sz)) = some ((f (g 0))[0]'(by rw [hf]; exact hsz)) := by
        have := hat 0 (by omega)
        rw [List.getElem?_eq_getElem (by rw [hf]; exact hsz)] at this
        simpa [Addr.add] using this
      have hspot : a.spot = none := by
        have := World.cell?_spot h0
        simpa [Addr.add] using this
      obtain ⟨b, o, s⟩ := a
      simp only at hspot
      subst hspot
      refine ⟨b, o, rfl, ?_, ?_⟩
      · have := World.block_lt_of_cell? W _ h0
        simpa [Addr.add] using this
      · intro j u hu
        obtain ⟨i, r, hi', e, hr, hu'⟩ := flatMap_get f sz hf _ j u hu
        have hin : i < n0 := by simpa using hi'
        obtain ⟨_, hcl', hat'⟩ := World.cells?_some (hg i hin).1
        have h1 := hat' r (by omega)
        rw [Go.Deep.add_add, Addr.add_lit] at h1
        rw [e, h1]
        have : ((List.range n0).map g)[i]'hi' = g i := by simp
        rw [this] at hu'
        exact hu'
end

/-! ### Pairs of ints -/
def pc (e : Int × Int) : List Value := [.int .i64 e.1, .int .i64 e.2]
def pcs (l : List (Int × Int)) : List Value := l.flatMap pc
def inI64 (x : Int) : Prop := -9223372036854775808 ≤ x ∧ x ≤ 9223372036854775807
def PairOk (e : Int × Int) : Prop := inI64 e.1 ∧ inI64 e.2
theorem Rd.pair {w : World} {A : Option Addr} {n : Nat} {l : List (Int × Int)} (h : Rd w A n 2 (pcs l)) (j : Nat) (hj : j < l.length) (hn : l.length = n) :
    ∃ b o, A = some ⟨b, o, none⟩ ∧ b < w.heap.size ∧ w.cell? ⟨b, o + j * 2, none⟩ = some (.int .i64 l[j].1) ∧ w.cell? ⟨b, o + j * 2 + 1, none⟩ = some (.int .i64 l[j].2) := by
  obtain ⟨b, o, e, hb, hc⟩ := h.2 (by omega)
  have key : ∀ (l : List (Int × Int)) (j : Nat) (hj : j < l.length), (pcs l)[j * 2]? = some (.int .i64 l[j].1) ∧ (pcs l)[j * 2 + 1]? = some (.int .i64 l[j].2) := by
    intro l
    induction l with
    | nil => intro j hj; simp at hj
    | cons e l ih =>
      intro j hj
      cases j with
      | zero => simp [pcs, pc]
      | succ j =>
        have e1 : pcs (e :: l) = [.int .i64 e.1, .int .i64 e.2] ++ pcs l := rfl
        obtain ⟨a, b⟩ := ih j (by simpa using hj)
        rw [e1]
        refine ⟨?_, ?_⟩
        · rw [List.getElem?_append_right (by simp; omega)]; simpa [show (j + 1) * 2 - 2 = j * 2 by omega] using a
        · rw [List.getElem?_append_right (by simp; omega)]; simpa [show (j + 1) * 2 + 1 - 2 = j * 2 + 1 by omega] using b
  obtain ⟨x, y⟩ := key l j hj
  exact ⟨b, o, e, hb, hc _ _ x, by have := hc _ _ y; rwa [← Nat.add_assoc] at this⟩

/-- What a walk is told of a slice of pairs of ints that came in. -/
def IsPairs (W : World) (v : Value) (l : List (Int × Int)) : Prop := ∃ (A : Option Addr) (n c : Nat), v = .slice A n c ∧ n ≤ maxLen ∧ l.length = n ∧ (∀ a ∈ l, PairOk a) ∧ Rd W A n 2 (pcs l)

theorem open_pairs {H : Type} {enc : TypeId × Value → H} {P : Program} {W : World} {base b0 : Nat} {r : Reach} {spare : Nat → Bool} {held : Bool} {t e i : TypeId} {v : Value} {d : DataW H} {p : List MemPlace}
    (ht : P.underlying t = some (.slice e)) (he : P.underlying e = some (.array 2 i)) (hi : P.underlying i = some (.int .i64)) (hc : P.cellsOf e = 2) (hci : P.cellsOf i = 1)
    (hv : Value.okWide P W r b0 t v) (h : DataW.Trod enc P W base spare held t v d p) : ∃ l, IsPairs W v l := by
  obtain ⟨A, n, c, l, h1, h2, h3, h4, h5⟩ := open_list pc PairOk 2 (fun _ => rfl) (by decide) ht hc (fun n cs y hy => by
    obtain ⟨xs, m, hm, hx, hcl, hxl, hg⟩ := DataW.trod_array he hy
    have g0 := hg 0 (by decide)
    have g1 := hg 1 (by decide)
    rw [hc] at hcl
    match cs, hcl with
    | [c0, c1], _ =>
      match xs, hxl with
      | [y0, y1], _ =>
        rw [hci] at g0 g1
        simp at g0 g1
        obtain ⟨x0, e0, _, w0⟩ := DataW.trod_int hi g0
        obtain ⟨x1, e1, _, w1⟩ := DataW.trod_int hi g1
        simp at e0 e1
        subst e0; subst e1
        exact ⟨(x0, x1), rfl, bounds_i64 w0, bounds_i64 w1⟩) (okWide_slice ht hv) h
  exact ⟨l, A, n, c, h1, h2, h3, h4, h5⟩

/-! ### Ints -/
/-- What a walk is told of a slice of ints of a kind that came in. -/
def IsInts (k : IntKind) (W : World) (v : Value) (l : List Int) : Prop := ∃ (A : Option Addr) (n c : Nat), v = .slice A n c ∧ n ≤ maxLen ∧ l.length = n ∧ (∀ a ∈ l, (Lit.int k a).wf = true) ∧ Rd W A n 1 (l.map (Value.int k))
theorem open_intsl {H : Type} {enc : TypeId × Value → H} {P : Program} {W : World} {base b0 : Nat} {r : Reach} {spare : Nat → Bool} {held : Bool} {t e : TypeId} {k : IntKind} {v : Value} {d : DataW H} {p : List MemPlace}
    (ht : P.underlying t = some (.slice e)) (he : P.underlying e = some (.int k)) (hc : P.cellsOf e = 1)
    (hv : Value.okWide P W r b0 t v) (h : DataW.Trod enc P W base spare held t v d p) : ∃ l, IsInts k W v l := by
  obtain ⟨A, n, c, l, h1, h2, h3, h4, h5⟩ := open_list (fun a : Int => [Value.int k a]) (fun a => (Lit.int k a).wf = true) 1 (fun _ => rfl) (by decide) ht hc (fun n cs y hy => by
    obtain ⟨x, e0, _, w0⟩ := DataW.trod_int he hy
    exact ⟨x, e0, w0⟩) (okWide_slice ht hv) h
  refine ⟨l, A, n, c, h1, h2, h3, h4, ?_⟩
  have key : ∀ l : List Int, l.flatMap (fun a : Int => [Value.int k a]) = l.map (Value.int k) := by
    intro l
    induction l with
    | nil => rfl
    | cons a l ih => rw [List.flatMap_cons, ih]; rfl
  rwa [key] at h5

/-! ### An array of two ints by value -/
def IsPair (W : World) (v : Value) (e : Int × Int) : Prop := v = .agg #[.int .i64 e.1, .int .i64 e.2] ∧ PairOk e
theorem open_pair2 {H : Type} {enc : TypeId × Value → H} {P : Program} {W : World} {base b0 : Nat} {r : Reach} {spare : Nat → Bool} {held : Bool} {e i : TypeId} {v : Value} {d : DataW H} {p : List MemPlace}
    (he : P.underlying e = some (.array 2 i)) (hi : P.underlying i = some (.int .i64)) (hc : P.cellsOf e = 2) (hci : P.cellsOf i = 1)
    (hv : Value.okWide P W r b0 e v) (h : DataW.Trod enc P W base spare held e v d p) : ∃ x, IsPair W v x := by
  simp only [Value.okWide, he] at hv
  obtain ⟨cs, rfl, h2, _⟩ := hv
  obtain ⟨l⟩ := cs
  rw [hc] at h2
  match l, h2 with
  | [c0, c1], _ =>
    obtain ⟨fuel, hf⟩ := h
    obtain ⟨xs, m, hm, hx, hcl, hxl, hg⟩ := DataW.trod_array he hf
    have g0 := hg 0 (by decide)
    have g1 := hg 1 (by decide)
    match xs, hxl with
    | [y0, y1], _ =>
      rw [hci] at g0 g1
      simp [Value.cells] at g0 g1
      obtain ⟨x0, e0, _, w0⟩ := DataW.trod_int hi g0
      obtain ⟨x1, e1, _, w1⟩ := DataW.trod_int hi g1
      simp at e0 e1
      subst e0; subst e1
      exact ⟨(x0, x1), rfl, bounds_i64 w0, bounds_i64 w1⟩
end Go.Proofs.YtoomcgmbaogjbaaDoor
