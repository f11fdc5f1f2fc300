/- append of an edge to a slice of edges that the call itself made. -/
import Derived.Test.YtoomcgmbaogjbaaDoorRows
import Derived.Test.YtoomcgmbaogjbaaDoorKit
namespace Go.Proofs.YtoomcgmbaogjbaaDoor
open Go.RowKit
set_option linter.unusedVariables false

theorem edge_info : (Tryd.prog.info? 29).map (fun i => (i.zero, i.size, i.bytes)) = some (some (.agg #[.int .i64 0, .int .i64 0, .int .i64 0]), 3, 24) := by kernel_rfl

/-- The slice value v is the call's own (blocks from B on) and holds the edges l. -/
def OwnE (w : World) (B : Nat) (v : Value) (l : List (Int × Int × Int)) : Prop := w.ownsRow B 29 3 v l.length (ecs l)

theorem OwnE.nil (w : World) (B : Nat) : OwnE w B (.slice none 0 0) [] := World.ownsRow_nil _ _ _ _
theorem OwnE.below {w : World} {B : Nat} {v : Value} {l : List (Int × Int × Int)} (h : OwnE w B v l) : ∀ k, v.ownBlock = some k → B ≤ k := fun k hk => (h.lt k hk).1
theorem OwnE.kept {w w' : World} {B : Nat} {v : Value} {l : List (Int × Int × Int)} (h : OwnE w B v l) (hb : Below w.heap.size w w') : OwnE w' B v l :=
  World.ownsRow.kept h (row := none) ⟨hb.os, hb.tape, hb.output, hb.size, fun k hk _ => hb.block k hk⟩ (by cases hv : v.ownBlock <;> simp)
theorem OwnE.base {w : World} {B B' : Nat} {v : Value} {l : List (Int × Int × Int)} (h : OwnE w B v l) (hB : B' ≤ B) : OwnE w B' v l :=
  ⟨h.1, h.2.imp id fun ⟨g, cap, cur, e, hb, r⟩ => ⟨g, cap, cur, e, Nat.le_trans hB hb, r⟩⟩
theorem OwnE.form {w : World} {B : Nat} {v : Value} {l : List (Int × Int × Int)} (h : OwnE w B v l) : ∃ A c, v = .slice A l.length c ∧ Rd w A l.length 3 (ecs l) := by
  rcases h.2 with ⟨rfl, hn⟩ | ⟨g, cap, cur, rfl, hb, hh, hc, hm, hs, ht⟩
  · rw [hn]
    have : l = [] := List.eq_nil_of_length_eq_zero hn
    subst this
    exact ⟨none, 0, rfl, Rd.nil⟩
  · refine ⟨some ⟨g, 0, none⟩, cap, rfl, ecs_length l, fun hn => ⟨g, 0, rfl, (Array.getElem?_eq_some_iff.1 hh).1, fun j u hu => ?_⟩⟩
    have := h.cells (g := g) rfl j u hu
    simpa [Addr.add_lit] using this

theorem app_edge' {ops : Array Oper} {rest : List Oper} {o : Oper} {a : Act} {Q : Exit → Act → World → Prop} (w : World) (u v t : Int) (hgd : o.guard = none) (s x : Operand)
    (ho : o.op = .call { callee := .builtin .append, args := #[s, x], argTypes := #[22, 22] })
    (B : Nat) (V : Value) (l : List (Int × Int × Int)) (hs : a.eval s = V) (hown : OwnE w B V l) (hx : a.eval x = .slice (some ⟨w.heap.size, 0, none⟩) 1 1)
    (hb : l.length ≤ 1000000) (hB : B ≤ w.heap.size)
    (h : ∀ v' w', OwnE w' B v' (l ++ [(u, v, t)]) → w.grownBy w' V.ownBlock → (v'.ownBlock = V.ownBlock ∨ v'.ownBlock = some (w.heap.size + 1)) → Below B w w' → wpList Tryd.prog ops Q rest (a.put o.dst v') w') :
    wpList Tryd.prog ops Q (o :: rest) a (w.alloc (.cells #[.int .i64 u, .int .i64 v, .int .i64 t] 29)) := by
  obtain ⟨i0, hi, hz0, hz1, hz2⟩ := info_parts edge_info
  refine app_one 22 29 Tryd.underlying22 hi hz0 hz1 hz2 rfl (by decide) w #[.int .i64 u, .int .i64 v, .int .i64 t] rfl ?_ hgd s x ho B V l.length (ecs l) hs hown hx (by unfold maxLen; omega) (by omega) hB ?_
  · intro x hx'; simp at hx'; rcases hx' with rfl | rfl | rfl <;> rfl
  · intro v' w' h2 h3 h4 h5
    refine h v' w' ?_ h3 h4 h5
    show w'.ownsRow B 29 3 v' (l ++ [(u, v, t)]).length _
    rw [List.length_append, ecs_append]; exact h2
theorem app_edge {ops : Array Oper} {rest : List Oper} {o : Oper} {a : Act} {Q : Exit → Act → World → Prop} (w : World) (u v t : Int) (hgd : o.guard = none) (s x : Operand)
    (ho : o.op = .call { callee := .builtin .append, args := #[s, x], argTypes := #[22, 22] })
    (B : Nat) (V : Value) (l : List (Int × Int × Int)) (hs : a.eval s = V) (hown : OwnE w B V l) (hx : a.eval x = .slice (some ⟨w.heap.size, 0, none⟩) 1 1)
    (hb : l.length ≤ 1000000) (hB : B ≤ w.heap.size)
    (h : ∀ v' w', OwnE w' B v' (l ++ [(u, v, t)]) → w.grownBy w' V.ownBlock → Below B w w' → wpList Tryd.prog ops Q rest (a.put o.dst v') w') :
    wpList Tryd.prog ops Q (o :: rest) a (w.alloc (.cells #[.int .i64 u, .int .i64 v, .int .i64 t] 29)) :=
  app_edge' w u v t hgd s x ho B V l hs hown hx hb hB fun v' w' h1 h2 _ h4 => h v' w' h1 h2 h4

end Go.Proofs.YtoomcgmbaogjbaaDoor
