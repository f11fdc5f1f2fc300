/- append of an int to a slice of ints that the call itself made. -/
import Derived.Test.YtploneadcknkjaaRows
import Derived.Test.YtploneadcknkjaaKit
namespace Go.Proofs.Ytploneadcknkjaa
open Go.RowKit
set_option linter.unusedVariables false

theorem int_info : (Try.prog.info? 3).map (fun i => (i.zero, i.size, i.bytes)) = some (some (.int .i64 0), 1, 8) := by kernel_rfl

/-- The slice value v is the call's own (blocks from B on) and holds the ints l. -/
def OwnI (w : World) (B : Nat) (v : Value) (l : List Int) : Prop := w.ownsRow B 3 1 v l.length (is l)
theorem OwnI.nil (w : World) (B : Nat) : OwnI w B (.slice none 0 0) [] := World.ownsRow_nil _ _ _ _
theorem OwnI.kept {w w' : World} {B : Nat} {v : Value} {l : List Int} (h : OwnI w B v l) (hb : Below w.heap.size w w') : OwnI w' B v l := own_below h hb
theorem OwnI.base {w : World} {B B' : Nat} {v : Value} {l : List Int} (h : OwnI w B v l) (hB : B' ≤ B) : OwnI w B' v l := own_base h hB
theorem OwnI.form {w : World} {B : Nat} {v : Value} {l : List Int} (h : OwnI w B v l) : ∃ A c, v = .slice A l.length c ∧ Rd w A l.length 1 (is l) := by
  obtain ⟨A, c, e, hr, _⟩ := own_form h
  exact ⟨A, c, e, hr⟩

theorem app_int {ops : Array Oper} {rest : List Oper} {o : Oper} {a : Act} {Q : Exit → Act → World → Prop} (w : World) (u : Int) (hgd : o.guard = none) (s x : Operand)
    (ho : o.op = .call { callee := .builtin .append, args := #[s, x], argTypes := #[35, 35] })
    (B : Nat) (V : Value) (l : List Int) (hs : a.eval s = V) (hown : OwnI w B V l) (hx : a.eval x = .slice (some ⟨w.heap.size, 0, none⟩) 1 1)
    (hb : l.length ≤ 1000000) (hB : B ≤ w.heap.size)
    (h : ∀ v' w', OwnI w' B v' (l ++ [u]) → w.grownBy w' V.ownBlock → (v'.ownBlock = V.ownBlock ∨ v'.ownBlock = some (w.heap.size + 1)) → Below B w w' → wpList Try.prog ops Q rest (a.put o.dst v') w') :
    wpList Try.prog ops Q (o :: rest) a (w.alloc (.cells #[.int .i64 u] 3)) := by
  obtain ⟨i0, hi, hz0, hz1, hz2⟩ := info_parts int_info
  refine app_one 35 3 Try.underlying35 hi hz0 hz1 hz2 rfl (by decide) w #[.int .i64 u] rfl ?_ hgd s x ho B V l.length (is l) hs hown hx (by unfold maxLen; omega) (by omega) hB ?_
  · intro x hx'; simp at hx'; subst hx'; rfl
  · intro v' w' h2 h3 h4 h5
    refine h v' w' ?_ h3 h4 h5
    show w'.ownsRow B 3 1 v' (l ++ [u]).length _
    rw [List.length_append]
    simpa [is] using h2
end Go.Proofs.Ytploneadcknkjaa
