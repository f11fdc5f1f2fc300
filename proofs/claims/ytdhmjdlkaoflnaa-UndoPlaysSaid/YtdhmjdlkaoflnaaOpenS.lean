/- A slice of structs of three ints and a slice of pairs, that came in. Nothing of the program. -/
import Derived.Test.YtdhmjdlkaoflnaaOpen
namespace Go.Proofs.Ytdhmjdlkaoflnaa
open Go.RowKit Go.ChangeShapes Go.WideShapes Go.Deep
set_option linter.unusedVariables false

theorem open_pairsS {H : Type} {enc : TypeId × Value → H} {P : Program} {W : World} {base : Nat} {spare : Nat → Bool} {held : Bool} {t e i : TypeId} {v : Value} {d : DataW H} {p : List MemPlace}
    (ht : P.underlying t = some (.slice e)) (he : P.underlying e = some (.array 2 i)) (hi : P.underlying i = some (.int .i64)) (hc : P.cellsOf e = 2) (hci : P.cellsOf i = 1)
    (hv : ∃ a l c, v = .slice a l c) (h : DataW.Trod enc P W base spare held t v d p) : ∃ l, IsPairs W v l := by
  obtain ⟨A, n, c, l, h1, h2, h3, h4, h5⟩ := open_list pc PairOk 2 (fun _ => rfl) (by decide) ht hc (fun n cs y hy => by
    obtain ⟨xs, m, hm, hx, hcl, hxl, hg⟩ := DataW.trod_array he hy
    have g0 := hg 0 (by decide)
    have g1 := hg 1 (by decide)
    rw [hc] at hcl
    match cs, hcl with
    | [c0, c1], _ =>
      match xs, hxl with
      | [y0, y1], _ =>
        rw [hci] at g0 g1
        simp at g0 g1
        obtain ⟨x0, e0, _, w0⟩ := DataW.trod_int hi g0
        obtain ⟨x1, e1, _, w1⟩ := DataW.trod_int hi g1
        simp at e0 e1
        subst e0; subst e1
        exact ⟨(x0, x1), rfl, bounds_i64 w0, bounds_i64 w1⟩) hv h
  exact ⟨l, A, n, c, h1, h2, h3, h4, h5⟩

/-- A step: three numbers, the slice as it lies, its pairs. -/
abbrev Stp := Int × Int × Int × Value × List (Int × Int)
def sc (s : Stp) : List Value := [.int .i64 s.1, .int .i64 s.2.1, .int .i64 s.2.2.1, s.2.2.2.1]
def scs (l : List Stp) : List Value := l.flatMap sc
def StpOk (W : World) (s : Stp) : Prop := inI64 s.1 ∧ inI64 s.2.1 ∧ inI64 s.2.2.1 ∧ IsPairs W s.2.2.2.1 s.2.2.2.2
instance : Inhabited Stp := ⟨(0, 0, 0, .slice none 0 0, [])⟩
def IsSteps (W : World) (v : Value) (l : List Stp) : Prop := ∃ (A : Option Addr) (n c : Nat), v = .slice A n c ∧ n ≤ maxLen ∧ l.length = n ∧ (∀ a ∈ l, StpOk W a) ∧ Rd W A n 4 (scs l)

theorem open_steps {H : Type} {enc : TypeId × Value → H} {P : Program} {W : World} {base b0 : Nat} {r : Reach} {spare : Nat → Bool} {held : Bool} {t e q a i : TypeId} {f0 f1 f2 f3 : Field} {v : Value} {d : DataW H} {p : List MemPlace}
    (ht : P.underlying t = some (.slice e)) (he : P.underlying e = some (.struct #[f0, f1, f2, f3])) (hf0 : f0.offset = 0 ∧ f0.type = i) (hf1 : f1.offset = 1 ∧ f1.type = i) (hf2 : f2.offset = 2 ∧ f2.type = i) (hf3 : f3.offset = 3 ∧ f3.type = q)
    (hq : P.underlying q = some (.slice a)) (ha : P.underlying a = some (.array 2 i)) (hi : P.underlying i = some (.int .i64)) (hc : P.cellsOf e = 4) (hcq : P.cellsOf q = 1) (hca : P.cellsOf a = 2) (hci : P.cellsOf i = 1)
    (hv : Value.okWide P W r b0 t v) (h : DataW.Trod enc P W base spare held t v d p) : ∃ l, IsSteps W v l := by
  obtain ⟨A, n, c, l, h1, h2, h3, h4, h5⟩ := open_list sc (StpOk W) 4 (fun _ => rfl) (by decide) ht hc (fun n cs y hy => by
    obtain ⟨xs, m, _, rfl, hl, hlen, hf⟩ := DataW.trod_struct he hy
    rw [hc] at hl
    match cs, hl with
    | [c0, c1, c2, c3], _ =>
      match xs, hlen with
      | [y0, y1, y2, y3], _ =>
        have g0 := hf 0 f0 rfl
        have g1 := hf 1 f1 rfl
        have g2 := hf 2 f2 rfl
        have g3 := hf 3 f3 rfl
        rw [hf0.1, hf0.2, hci] at g0
        rw [hf1.1, hf1.2, hci] at g1
        rw [hf2.1, hf2.2, hci] at g2
        rw [hf3.1, hf3.2, hcq] at g3
        simp at g0 g1 g2 g3
        obtain ⟨x0, e0, _, w0⟩ := DataW.trod_int hi g0
        obtain ⟨x1, e1, _, w1⟩ := DataW.trod_int hi g1
        obtain ⟨x2, e2, _, w2⟩ := DataW.trod_int hi g2
        simp at e0 e1 e2
        subst e0; subst e1; subst e2
        have hs : ∃ A l c, c3 = .slice A l c := by
          rcases open_slice hq g3 with ⟨hcs, _⟩ | ⟨ad, len, cap, m', n', D, Pl, hcs, _⟩
          · simp at hcs; exact ⟨_, _, _, hcs⟩
          · simp at hcs; exact ⟨_, _, _, hcs⟩
        have hT : DataW.Trod enc P W base spare held q c3 y3.1 y3.2 := by
          obtain ⟨A, l, c, rfl⟩ := hs
          exact ⟨m, by simpa [Value.cells] using g3⟩
        obtain ⟨l3, hl3⟩ := open_pairsS hq ha hi hca hci hs hT
        exact ⟨(x0, x1, x2, c3, l3), rfl, bounds_i64 w0, bounds_i64 w1, bounds_i64 w2, hl3⟩) (okWide_slice ht hv) h
  exact ⟨l, A, n, c, h1, h2, h3, h4, h5⟩
theorem scs_get (l : List Stp) (j : Nat) (hj : j < l.length) (r : Nat) (hr : r < 4) : (scs l)[j * 4 + r]? = (sc l[j])[r]? := by
  induction l generalizing j with
  | nil => simp at hj
  | cons s l ih =>
    have e : scs (s :: l) = sc s ++ scs l := rfl
    have hs : (sc s).length = 4 := rfl
    cases j with
    | zero => rw [e, List.getElem?_append_left (by omega), Nat.zero_mul, Nat.zero_add]; rfl
    | succ j =>
      rw [e, List.getElem?_append_right (by omega), hs, show (j + 1) * 4 + r - 4 = j * 4 + r by omega, ih j (by simpa using hj)]
      rfl
theorem Rd.step {w : World} {A : Option Addr} {n : Nat} {l : List Stp} (h : Rd w A n 4 (scs l)) (j : Nat) (hj : j < l.length) (hn : l.length = n) :
    ∃ b o, A = some ⟨b, o, none⟩ ∧ b < w.heap.size ∧ w.cell? ⟨b, o + j * 4, none⟩ = some (.int .i64 l[j].1) ∧ w.cell? ⟨b, o + j * 4 + 1, none⟩ = some (.int .i64 l[j].2.1) ∧
      w.cell? ⟨b, o + j * 4 + 2, none⟩ = some (.int .i64 l[j].2.2.1) ∧ w.cell? ⟨b, o + j * 4 + 3, none⟩ = some l[j].2.2.2.1 := by
  obtain ⟨b, o, e, hb, hc⟩ := h.2 (by omega)
  have k := fun r hr => scs_get l j hj r hr
  refine ⟨b, o, e, hb, ?_, ?_, ?_, ?_⟩
  · have := hc _ _ (k 0 (by decide)); simpa using this
  · have := hc _ _ (k 1 (by decide)); rwa [← Nat.add_assoc] at this
  · have := hc _ _ (k 2 (by decide)); rwa [← Nat.add_assoc] at this
  · have := hc _ _ (k 3 (by decide)); rwa [← Nat.add_assoc] at this
end Go.Proofs.Ytdhmjdlkaoflnaa
