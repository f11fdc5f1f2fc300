/- An append of one element, in a region that draws. -/
import Derived.Test.YtpgkhmjlbaoagaaInfo
import Derived.Deep.AppendLies
import Derived.Deep.RegionLaw
namespace Go.Proofs.Ytpgkhmjlbaoagaa
open Go.RowKit
set_option linter.unusedVariables false

/-- An append of one element that lies in a block of its own, in a region that draws. -/
theorem step_app (T E : TypeId) {i0 : TypeInfo} {z : Value} {sz by_ : Nat} (ht : Try.prog.underlying T = some (.slice E)) (hi : Try.prog.info? E = some i0) (hz : i0.zero = some z) (h1 : i0.size = sz) (h8 : i0.bytes = by_) (hzs : z.cells.size = sz) (hsz : 0 < sz)
    {ops : Array Oper} {o : Oper} {a : Act} {w : World} {K : Act → World → Prop} {Q : Exit → Act → World → Prop} {F : Prop} (cs : Array Value) (hcs : cs.size = sz) (hone : ∀ c ∈ cs.toList, c.oneCell' = true) (hgd : o.guard = none) (s x : Operand)
    (ho : o.op = .call { callee := .builtin .append, args := #[s, x], argTypes := #[T, T] })
    (B : Nat) (V : Value) (n : Nat) (xs : List Value) (hs : a.eval s = V) (hown : w.ownsRow B E sz V n xs) (hx : a.eval x = .slice (some ⟨w.heap.size, 0, none⟩) 1 1)
    (hm : n + 1 ≤ maxLen) (hb : (n + 1) * by_ ≤ 140737488355328) (hB : B ≤ w.heap.size)
    (h : ∀ v' w', w'.ownsRow B E sz v' (n + 1) (xs ++ cs.toList) → Below B w w' → w.grownBy w' V.ownBlock → K (a.put o.dst v') w') :
    if Region.wanted o (yielded ops a.tmps) = true then Oper.wp Try.prog o a (w.alloc (.cells cs E)) K Q else F := by
  refine step_append_lies (w := w.alloc (.cells cs E)) hgd s x T ho B E i0 z sz by_ ht hi hz h1 h8 hzs hsz V n xs hs (World.ownsRow.alloc hown _)
    ⟨w.heap.size, 0, none⟩ 1 1 cs.toList hx (by simpa using hcs) (fun j c hj => by rw [Addr.add_lit, Nat.zero_add, World.cell?_alloc_new]; simpa using hj) hone (by decide) hm hb (by simp; omega) _ rfl ?_
  intro g cap w' h2 h3 h4 h5
  have g2 := grown_trans2 (World.grownBy_alloc w _ none) h3
  exact h _ w' h2 ((Below.refl _ _).grown g2 hB (fun k hk => (hown.lt k hk).1)) g2

end Go.Proofs.Ytpgkhmjlbaoagaa
