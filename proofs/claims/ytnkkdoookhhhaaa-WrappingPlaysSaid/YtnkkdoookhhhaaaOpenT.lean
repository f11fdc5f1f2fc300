/- Slices of structs of three ints that come in. -/
import Derived.Test.YtnkkdoookhhhaaaOpen
import Derived.Deep.Strs
namespace Go.Proofs.Ytnkkdoookhhhaaa
open Go.RowKit Go.ChangeShapes Go.WideShapes Go.Deep
set_option linter.unusedVariables false

/-! ### Slices of edges that come in -/
def IsEdges (W : World) (v : Value) (l : List (Int × Int × Int)) : Prop := ∃ (A : Option Addr) (n c : Nat), v = .slice A n c ∧ n ≤ maxLen ∧ l.length = n ∧ (∀ a ∈ l, inI64 a.1 ∧ inI64 a.2.1 ∧ inI64 a.2.2) ∧ Rd W A n 3 (ecs l)
theorem open_edges {H : Type} {enc : TypeId × Value → H} {P : Program} {W : World} {base b0 : Nat} {r : Reach} {spare : Nat → Bool} {held : Bool} {t e : TypeId} {f0 f1 f2 : Field} {v : Value} {d : DataW H} {p : List MemPlace}
    (ht : P.underlying t = some (.slice e)) (he : P.underlying e = some (.struct #[f0, f1, f2])) (h0 : P.underlying f0.type = some (.int .i64)) (h1 : P.underlying f1.type = some (.int .i64)) (h2 : P.underlying f2.type = some (.int .i64))
    (hc : P.cellsOf e = 3) (hc0 : P.cellsOf f0.type = 1) (hc1 : P.cellsOf f1.type = 1) (hc2 : P.cellsOf f2.type = 1) (o0 : f0.offset = 0) (o1 : f1.offset = 1) (o2 : f2.offset = 2)
    (hv : Value.okWide P W r b0 t v) (h : DataW.Trod enc P W base spare held t v d p) : ∃ l, IsEdges W v l := by
  obtain ⟨A, n, c, l, a1, a2, a3, a4, a5⟩ := open_list ec (fun a => inI64 a.1 ∧ inI64 a.2.1 ∧ inI64 a.2.2) 3 (fun _ => rfl) (by decide) ht hc (fun n cs y hy => by
    obtain ⟨y0, y1, y2, m, hx, hcl, g0, g1, g2⟩ := trod_struct3 he hy
    rw [hc] at hcl
    match cs, hcl with
    | [c0, c1, c2], _ =>
      rw [hc0, o0] at g0
      rw [hc1, o1] at g1
      rw [hc2, o2] at g2
      simp at g0 g1 g2
      obtain ⟨x0, e0, _, w0⟩ := DataW.trod_int h0 g0
      obtain ⟨x1, e1, _, w1⟩ := DataW.trod_int h1 g1
      obtain ⟨x2, e2, _, w2⟩ := DataW.trod_int h2 g2
      simp at e0 e1 e2
      subst e0; subst e1; subst e2
      exact ⟨(x0, x1, x2), rfl, bounds_i64 w0, bounds_i64 w1, bounds_i64 w2⟩) (okWide_slice ht hv) h
  exact ⟨l, A, n, c, a1, a2, a3, a4, a5⟩
end Go.Proofs.Ytnkkdoookhhhaaa
