/- Rows written in place; slices of edges that come in; rows of int64 of the call's own. -/
import Derived.Test.YtoomcgmbaogjbaaDoorOpen
import Derived.Test.YtoomcgmbaogjbaaDoorEdge0
import Derived.Deep.Strs
namespace Go.Proofs.YtoomcgmbaogjbaaDoor
open Go.RowKit Go.ChangeShapes Go.WideShapes Go.Deep
set_option linter.unusedVariables false

/-- A store into a row that the call owns. -/
theorem own_set {w : World} {B g n cap sz : Nat} {E : TypeId} {xs : List Value} (h : w.ownsRow B E sz (.slice (some ⟨g, 0, none⟩) n cap) n xs) (j : Nat) (u : Value) (hj : j < n * sz) :
    (w.setCell ⟨g, j, none⟩ u).ownsRow B E sz (.slice (some ⟨g, 0, none⟩) n cap) n (xs.set j u) := by
  refine ⟨by rw [List.length_set]; exact h.1, ?_⟩
  rcases h.2 with ⟨e, _⟩ | ⟨g', cap', cur, e, hb, hh, hc, hm, hs, ht⟩
  · cases e
  · injection e with e1 e2 e3
    injection e1 with e1
    injection e1 with e1 _ _
    subst e1; subst e3
    refine .inr ⟨g, cap, cur.setIfInBounds j u, rfl, hb, ?_, hc, hm, by simpa using hs, ?_⟩
    · simp [World.setCell, Array.getElem?_modify, hh]
    · rw [Array.toList_setIfInBounds, ← ht, List.take_set]
theorem own_cell {w : World} {B g n cap sz : Nat} {E : TypeId} {xs : List Value} (h : w.ownsRow B E sz (.slice (some ⟨g, 0, none⟩) n cap) n xs) (j : Nat) (u : Value) (hu : xs[j]? = some u) :
    w.cell? ⟨g, j, none⟩ = some u := by
  have := h.cells (g := g) rfl j u hu
  simpa [Addr.add_lit] using this
theorem own_frozen {w : World} {B g n cap sz : Nat} {E : TypeId} {xs : List Value} (h : w.ownsRow B E sz (.slice (some ⟨g, 0, none⟩) n cap) n xs) (j : Nat) : w.frozen? ⟨g, j, none⟩ = false := by
  rcases h.2 with ⟨e, _⟩ | ⟨g', cap', cur, e, hb, hh, hc, hm, hs, ht⟩
  · cases e
  · injection e with e1 e2 e3
    injection e1 with e1
    injection e1 with e1 _ _
    subst e1
    simp [World.frozen?, hh]

theorem run_append_of_nil2 {P : Program} (w : World) (base : Nat) (t ty e : TypeId) (i : TypeInfo) (size : Nat) (ht : P.underlying t = some (.slice e)) (hi : P.info? e = some i)
    (v : Value) (n : Nat) (xs : List Value) (hown : w.ownsRow base e size v n xs) (c : Nat) : (Builtin.append_ #[t, t] ty #[v, .slice none 0 c]).run P w = .ok v w := by
  rcases hown.2 with ⟨rfl, rfl⟩ | ⟨g, cap, cur, rfl, _, _, hnc, _⟩
  · simp [Builtin.append_, run_underlying ht, sizeOf, typeInfo, hi, Builtin.lenOf, Builtin.firstCells]
  · simp [Builtin.append_, run_underlying ht, sizeOf, typeInfo, hi, Builtin.lenOf, Builtin.firstCells, hnc, storeCells]

/-- append of a slice that reads (nil, empty or not), onto a slice that the call itself owns. -/
theorem app_any2 {P : Program} (T E : TypeId) {i : TypeInfo} {z : Value} {size bytes : Nat} (ht : P.underlying T = some (.slice E)) (hi : P.info? E = some i) (hz : i.zero = some z)
    (hsize : i.size = size) (hby : i.bytes = bytes) (hzs : z.cells.size = size) (hsz : 0 < size)
    {ops : Array Oper} {rest : List Oper} {o : Oper} {a : Act} {Q : Exit → Act → World → Prop} (w : World) (A : Option Addr) (m c : Nat) (news : List Value) (hr : Rd w A m size news) (h1 : ∀ u ∈ news, u.oneCell' = true)
    (hgd : o.guard = none) (s x : Operand) (ho : o.op = .call { callee := .builtin .append, args := #[s, x], argTypes := #[T, T] })
    (B : Nat) (V : Value) (n : Nat) (xs : List Value) (hs : a.eval s = V) (hown : w.ownsRow B E size V n xs) (hx : a.eval x = .slice A m c)
    (h63 : n + m ≤ maxLen) (hbytes : (n + m) * bytes ≤ 140737488355328) (hB : B ≤ w.heap.size)
    (h : ∀ v' w', w'.ownsRow B E size v' (n + m) (xs ++ news) → w.grownBy w' V.ownBlock → (v'.ownBlock = V.ownBlock ∨ v'.ownBlock = some w.heap.size) → (v' = .slice none 0 0 → V = .slice none 0 0) → Below B w w' → wpList P ops Q rest (a.put o.dst v') w') :
    wpList P ops Q (o :: rest) a w := by
  have key : ∃ v' w', (Builtin.append_ #[T, T] o.type #[V, .slice A m c]).run P w = .ok v' w' ∧ w'.ownsRow B E size v' (n + m) (xs ++ news) ∧ w.grownBy w' V.ownBlock ∧
      (v'.ownBlock = V.ownBlock ∨ v'.ownBlock = some w.heap.size) ∧ (v' = .slice none 0 0 → V = .slice none 0 0) := by
    rcases A with _ | ad
    · have hm : m = 0 := by
        rcases Nat.eq_zero_or_pos m with h0 | h0
        · exact h0
        · obtain ⟨_, _, h, _⟩ := hr.2 h0
          cases h
      subst hm
      have hn : news = [] := List.eq_nil_of_length_eq_zero (by simpa using hr.1)
      subst hn
      exact ⟨V, w, run_append_of_nil2 w B T o.type E i size ht hi V n xs hown c, by simpa using hown, World.grownBy.refl w _, .inl rfl, id⟩
    · have hcells : ∀ j u, news[j]? = some u → w.cell? (ad.add j) = some u := by
        intro j u hu
        rcases Nat.eq_zero_or_pos m with h0 | h0
        · subst h0
          have hn : news = [] := List.eq_nil_of_length_eq_zero (by simpa using hr.1)
          subst hn
          simp at hu
        · obtain ⟨b, q, h, _, hc⟩ := hr.2 h0
          injection h with h
          subst h
          rw [Addr.add_lit]
          exact hc j u hu
      obtain ⟨v', w', hrun, h2, h3, h4, h5⟩ := run_append_own_at (P := P) w B T o.type E i z size bytes ht hi hz hsize hby hzs hsz V n xs hown ad m c news hr.1 hcells h1 h63 hbytes hB
      exact ⟨v', w', hrun, h2, h3, h5, fun e => (h4.1 e).1⟩
  obtain ⟨v', w', hrun, h2, h3, h5, h6⟩ := key
  refine wpList_plain hgd fun K hK => ?_
  unfold Oper.wp execOp
  simp only [ho, resolve, invoke, builtin, Sem.run_bind, Sem.run_pure, Result.andThen_ok, List.map_toArray, List.map_cons, List.map_nil, hs, hx, hrun]
  exact hK _ _ (h v' w' h2 h3 h5 h6 ((Below.refl _ _).grown h3 hB (fun k hk => (hown.lt k hk).1)))


/-! ### Slices of edges that come in -/
def IsEdges (W : World) (v : Value) (l : List (Int × Int × Int)) : Prop := ∃ (A : Option Addr) (n c : Nat), v = .slice A n c ∧ n ≤ maxLen ∧ l.length = n ∧ (∀ a ∈ l, inI64 a.1 ∧ inI64 a.2.1 ∧ inI64 a.2.2) ∧ Rd W A n 3 (ecs l)
theorem open_edges {H : Type} {enc : TypeId × Value → H} {P : Program} {W : World} {base b0 : Nat} {r : Reach} {spare : Nat → Bool} {held : Bool} {t e : TypeId} {f0 f1 f2 : Field} {v : Value} {d : DataW H} {p : List MemPlace}
    (ht : P.underlying t = some (.slice e)) (he : P.underlying e = some (.struct #[f0, f1, f2])) (h0 : P.underlying f0.type = some (.int .i64)) (h1 : P.underlying f1.type = some (.int .i64)) (h2 : P.underlying f2.type = some (.int .i64))
    (hc : P.cellsOf e = 3) (hc0 : P.cellsOf f0.type = 1) (hc1 : P.cellsOf f1.type = 1) (hc2 : P.cellsOf f2.type = 1) (o0 : f0.offset = 0) (o1 : f1.offset = 1) (o2 : f2.offset = 2)
    (hv : Value.okWide P W r b0 t v) (h : DataW.Trod enc P W base spare held t v d p) : ∃ l, IsEdges W v l := by
  obtain ⟨A, n, c, l, a1, a2, a3, a4, a5⟩ := open_list ec (fun a => inI64 a.1 ∧ inI64 a.2.1 ∧ inI64 a.2.2) 3 (fun _ => rfl) (by decide) ht hc (fun n cs y hy => by
    obtain ⟨y0, y1, y2, m, hx, hcl, g0, g1, g2⟩ := trod_struct3 he hy
    rw [hc] at hcl
    match cs, hcl with
    | [c0, c1, c2], _ =>
      rw [hc0, o0] at g0
      rw [hc1, o1] at g1
      rw [hc2, o2] at g2
      simp at g0 g1 g2
      obtain ⟨x0, e0, _, w0⟩ := DataW.trod_int h0 g0
      obtain ⟨x1, e1, _, w1⟩ := DataW.trod_int h1 g1
      obtain ⟨x2, e2, _, w2⟩ := DataW.trod_int h2 g2
      simp at e0 e1 e2
      subst e0; subst e1; subst e2
      exact ⟨(x0, x1, x2), rfl, bounds_i64 w0, bounds_i64 w1, bounds_i64 w2⟩) (okWide_slice ht hv) h
  exact ⟨l, A, n, c, a1, a2, a3, a4, a5⟩
end Go.Proofs.YtoomcgmbaogjbaaDoor
