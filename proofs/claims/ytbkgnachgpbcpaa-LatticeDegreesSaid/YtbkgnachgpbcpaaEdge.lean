/- append of an edge to a slice of edges that the call itself made; same: two lists of edges are equal. -/
import Derived.Test.YtbkgnachgpbcpaaRows
import Derived.Test.YtbkgnachgpbcpaaKit
namespace Go.Proofs.Ytbkgnachgpbcpaa
open Go.RowKit
set_option linter.unusedVariables false

theorem edge_info : (Try.prog.info? 37).map (fun i => (i.zero, i.size, i.bytes)) = some (some (.agg #[.int .i64 0, .int .i64 0, .int .i64 0]), 3, 24) := by kernel_rfl

/-- The slice value v is the call's own (blocks from B on) and holds the edges l. -/
def OwnE (w : World) (B : Nat) (v : Value) (l : List (Int × Int × Int)) : Prop := w.ownsRow B 37 3 v l.length (ecs l)

theorem OwnE.nil (w : World) (B : Nat) : OwnE w B (.slice none 0 0) [] := World.ownsRow_nil _ _ _ _
theorem OwnE.below {w : World} {B : Nat} {v : Value} {l : List (Int × Int × Int)} (h : OwnE w B v l) : ∀ k, v.ownBlock = some k → B ≤ k := fun k hk => (h.lt k hk).1
theorem OwnE.kept {w w' : World} {B : Nat} {v : Value} {l : List (Int × Int × Int)} (h : OwnE w B v l) (hb : Below w.heap.size w w') : OwnE w' B v l :=
  World.ownsRow.kept h (row := none) ⟨hb.os, hb.tape, hb.output, hb.size, fun k hk _ => hb.block k hk⟩ (by cases hv : v.ownBlock <;> simp)
theorem OwnE.base {w : World} {B B' : Nat} {v : Value} {l : List (Int × Int × Int)} (h : OwnE w B v l) (hB : B' ≤ B) : OwnE w B' v l :=
  ⟨h.1, h.2.imp id fun ⟨g, cap, cur, e, hb, r⟩ => ⟨g, cap, cur, e, Nat.le_trans hB hb, r⟩⟩
theorem OwnE.form {w : World} {B : Nat} {v : Value} {l : List (Int × Int × Int)} (h : OwnE w B v l) : ∃ A c, v = .slice A l.length c ∧ Rd w A l.length 3 (ecs l) := by
  rcases h.2 with ⟨rfl, hn⟩ | ⟨g, cap, cur, rfl, hb, hh, hc, hm, hs, ht⟩
  · rw [hn]
    have : l = [] := List.eq_nil_of_length_eq_zero hn
    subst this
    exact ⟨none, 0, rfl, Rd.nil⟩
  · refine ⟨some ⟨g, 0, none⟩, cap, rfl, ecs_length l, fun hn => ⟨g, 0, rfl, (Array.getElem?_eq_some_iff.1 hh).1, fun j u hu => ?_⟩⟩
    have := h.cells (g := g) rfl j u hu
    simpa [Addr.add_lit] using this

theorem app_edge' {ops : Array Oper} {rest : List Oper} {o : Oper} {a : Act} {Q : Exit → Act → World → Prop} (w : World) (u v t : Int) (hgd : o.guard = none) (s x : Operand)
    (ho : o.op = .call { callee := .builtin .append, args := #[s, x], argTypes := #[22, 22] })
    (B : Nat) (V : Value) (l : List (Int × Int × Int)) (hs : a.eval s = V) (hown : OwnE w B V l) (hx : a.eval x = .slice (some ⟨w.heap.size, 0, none⟩) 1 1)
    (hb : l.length ≤ 1000000) (hB : B ≤ w.heap.size)
    (h : ∀ v' w', OwnE w' B v' (l ++ [(u, v, t)]) → w.grownBy w' V.ownBlock → (v'.ownBlock = V.ownBlock ∨ v'.ownBlock = some (w.heap.size + 1)) → Below B w w' → wpList Try.prog ops Q rest (a.put o.dst v') w') :
    wpList Try.prog ops Q (o :: rest) a (w.alloc (.cells #[.int .i64 u, .int .i64 v, .int .i64 t] 37)) := by
  obtain ⟨i0, hi, hz0, hz1, hz2⟩ := info_parts edge_info
  refine app_one 22 37 Try.underlying22 hi hz0 hz1 hz2 rfl (by decide) w #[.int .i64 u, .int .i64 v, .int .i64 t] rfl ?_ hgd s x ho B V l.length (ecs l) hs hown hx (by unfold maxLen; omega) (by omega) hB ?_
  · intro x hx'; simp at hx'; rcases hx' with rfl | rfl | rfl <;> rfl
  · intro v' w' h2 h3 h4 h5
    refine h v' w' ?_ h3 h4 h5
    show w'.ownsRow B 37 3 v' (l ++ [(u, v, t)]).length _
    rw [List.length_append, ecs_append]; exact h2
theorem app_edge {ops : Array Oper} {rest : List Oper} {o : Oper} {a : Act} {Q : Exit → Act → World → Prop} (w : World) (u v t : Int) (hgd : o.guard = none) (s x : Operand)
    (ho : o.op = .call { callee := .builtin .append, args := #[s, x], argTypes := #[22, 22] })
    (B : Nat) (V : Value) (l : List (Int × Int × Int)) (hs : a.eval s = V) (hown : OwnE w B V l) (hx : a.eval x = .slice (some ⟨w.heap.size, 0, none⟩) 1 1)
    (hb : l.length ≤ 1000000) (hB : B ≤ w.heap.size)
    (h : ∀ v' w', OwnE w' B v' (l ++ [(u, v, t)]) → w.grownBy w' V.ownBlock → Below B w w' → wpList Try.prog ops Q rest (a.put o.dst v') w') :
    wpList Try.prog ops Q (o :: rest) a (w.alloc (.cells #[.int .i64 u, .int .i64 v, .int .i64 t] 37)) :=
  app_edge' w u v t hgd s x ho B V l hs hown hx hb hB fun v' w' h1 h2 _ h4 => h v' w' h1 h2 h4

theorem same_any (A A' : Option Addr) (n m c c' : Nat) (xs ys : List (Int × Int × Int)) (W : World) (hA : Rd W A n 3 (ecs xs)) (hB : Rd W A' m 3 (ecs ys)) (hn : xs.length = n) (hm : ys.length = m)
    (bn : n ≤ 1000000000) (bm : m ≤ 1000000000) :
    Calls Try.prog 15 #[.slice A n c, .slice A' m c'] W fun e W' => e = .returned (.bool (decide (xs = ys))) ∧ ∃ k, W' = W.drewN k := by
  by_cases hnm : n = m
  · subst hnm
    have HA := hide hA
    have HB := hide hB
    have HN := hide hn
    have HM := hide hm
    clear hA hB hn hm
    go_enter Try.func15, Try.ntmps15
    go_wp2
    go_loopg [5] n (fun k i wr => ∃ j : Nat, j + k = n ∧ i = .int .i64 j ∧ xs.take j = ys.take j ∧ ∃ d, wr = W.drewN d)
    case atStart => exact ⟨0, by omega, rfl, rfl, 0, rfl⟩
    case round =>
      obtain ⟨j, hj, rfl, ht, d, rfl⟩ := hrel
      have HT := hide ht
      have HJ := hide hj
      clear ht hj
      by_cases hlt : j < n
      · obtain ⟨b, o, rfl, hb, c0, c1, c2⟩ := HA.out.edge j (by have := HN.out; omega) HN.out
        obtain ⟨b', o', rfl, hb', c0', c1', c2'⟩ := HB.out.edge j (by have := HM.out; omega) HM.out
        generalize hx : xs[j]'(by have := HN.out; omega) = x at *
        generalize hy : ys[j]'(by have := HM.out; omega) = y at *
        have HX := hide hx
        have HY := hide hy
        clear hx hy
        obtain ⟨x0, x1, x2⟩ := x
        obtain ⟨y0, y1, y2⟩ := y
        simp only at c0 c1 c2 c0' c1' c2'
        by_cases e0 : x0 = y0
        · by_cases e1 : x1 = y1
          · by_cases e2 : x2 = y2
            · subst e0; subst e1; subst e2
              go_wp2_with fail
              go_quiet (fail)
              go_wp2_with fail
              go_roundg (n - (j + 1))
              case measure => have := HJ.out; omega
              case rel => exact ⟨j + 1, by omega, by go_num, take_eq_succ HT.out _ _ (HX.out.trans HY.out.symm), _, rfl⟩
            · have f2 : (x2 == y2) = false := by simpa using e2
              subst e0; subst e1; clear e2
              go_wp2_with fail
              go_quiet (fail)
              go_wp2_with fail
              go_ret
              exact ⟨ret_bool (by symm; rw [decide_eq_false_iff_not]; intro h; subst h; have := HX.out.symm.trans HY.out; simp at this; simp [this] at f2), _, World.drewN_drewN _ _ _⟩
          · have f1 : (x1 == y1) = false := by simpa using e1
            subst e0; clear e1
            go_wp2_with fail
            go_quiet (fail)
            go_wp2_with fail
            go_ret
            exact ⟨ret_bool (by symm; rw [decide_eq_false_iff_not]; intro h; subst h; have := HX.out.symm.trans HY.out; simp at this; simp [this] at f1), _, World.drewN_drewN _ _ _⟩
        · have f0 : (x0 == y0) = false := by simpa using e0
          clear e0
          go_wp2_with fail
          go_quiet (fail)
          go_wp2_with fail
          go_ret
          exact ⟨ret_bool (by symm; rw [decide_eq_false_iff_not]; intro h; subst h; have := HX.out.symm.trans HY.out; simp at this; simp [this] at f0), _, World.drewN_drewN _ _ _⟩
      · go_wp2_with fail
        go_ret
        exact ⟨ret_bool (by symm; rw [decide_eq_true_eq]; have := HT.out; rwa [List.take_of_length_le (by have := HN.out; omega), List.take_of_length_le (by have := HM.out; omega)] at this), _, rfl⟩
  · have f : ((n : Int) == (m : Int)) = false := by simp; omega
    have HNM : Hid (¬ n = m) := hnm
    clear hnm
    go_enter Try.func15, Try.ntmps15
    go_wp2
    go_ret
    exact ⟨ret_bool (by symm; rw [decide_eq_false_iff_not]; intro h; subst h; exact HNM.out (hn.symm.trans hm)), 0, rfl⟩

theorem same_true (A A' : Option Addr) (n c c' : Nat) (xs : List (Int × Int × Int)) (W : World) (hA : Rd W A n 3 (ecs xs)) (hB : Rd W A' n 3 (ecs xs)) (hn : xs.length = n) (bn : n ≤ 1000000000) :
    Calls Try.prog 15 #[.slice A n c, .slice A' n c'] W fun e W' => e = .returned (.bool true) ∧ ∃ k, W' = W.drewN k :=
  (same_any A A' n n c c' xs xs W hA hB hn hn bn bn).mono fun _ _ h => ⟨by simpa using h.1, h.2⟩
end Go.Proofs.Ytbkgnachgpbcpaa
