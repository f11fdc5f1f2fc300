/- Plain lemmas on memory: hiding of facts, frames, slices that read as lists. Nothing of the program. -/
import Derived.WalkKit
import Derived.WalkSpells
import Derived.Deep.QuietTactic
import Derived.BigQuiet
import Derived.Deep.LoopGhost
import Derived.Maps.AppendAt
namespace Go.Proofs.YtoomcgmbaogjbaaDoor
open Go.RowKit
set_option linter.unusedVariables false

theorem hide {p : Prop} (h : p) : Hid p := h

theorem ret_bool {a b : Bool} (h : a = b) : Ending.returned (.bool a) = .returned (.bool b) := by rw [h]
theorem ret_int {k : IntKind} {a b : Int} (h : a = b) : Ending.returned (.int k a) = .returned (.int k b) := by rw [h]

theorem _root_.Go.RowKit.Below.drewN {B : Nat} {a w : World} (h : Below B a w) (n : Nat) : Below B a (w.drewN n) := ⟨h.os, h.tape, h.output, h.size, h.block⟩

theorem quiet_add_same {P : Program} {f : FuncId} {args : Array Value} {w : World} {a n : Nat} {v : Value}
    (h : Calls P f args (w.drewN (a + n)) fun e w' => e = .returned v ∧ w' = w.drewN (a + n)) :
    Calls P f args (w.drewN (a + n)) fun e w'' => e = .returned v ∧ ∃ m, w'' = w.drewN (a + m) :=
  h.mono fun _ _ ⟨he, hm⟩ => ⟨he, n, hm⟩

/-- A value that is a slice at 'A' of n elements of 'sz' cells each reads as the cells xs. -/
def Rd (w : World) (A : Option Addr) (n sz : Nat) (xs : List Value) : Prop :=
  xs.length = n * sz ∧ (0 < n → ∃ b o, A = some ⟨b, o, none⟩ ∧ b < w.heap.size ∧ ∀ j u, xs[j]? = some u → w.cell? ⟨b, o + j, none⟩ = some u)

theorem Rd.keep {w w' : World} {A : Option Addr} {n sz : Nat} {xs : List Value} {B : Nat} (h : Rd w A n sz xs) (hB : w.heap.size ≤ B) (hb : Below B w w') : Rd w' A n sz xs :=
  ⟨h.1, fun hn => by
    obtain ⟨b, o, e, hlt, hc⟩ := h.2 hn
    exact ⟨b, o, e, Nat.lt_of_lt_of_le hlt hb.size, fun j u hu => (hb.cell (p := ⟨b, o + j, none⟩) (by show b < B; omega)).trans (hc j u hu)⟩⟩

theorem Rd.lit (w : World) (cs : Array Value) (t : TypeId) (n sz : Nat) (h : cs.size = n * sz) : Rd (w.alloc (.cells cs t)) (some ⟨w.heap.size, 0, none⟩) n sz cs.toList :=
  ⟨by simpa using h, fun _ => ⟨w.heap.size, 0, rfl, by simp, fun j u hu => by rw [Nat.zero_add, World.cell?_alloc_new]; simpa using hu⟩⟩
theorem Rd.lit' (w : World) (cs : Array Value) (t : TypeId) (n sz b : Nat) (hb : w.heap.size = b) (h : cs.size = n * sz) : Rd (w.alloc (.cells cs t)) (some ⟨b, 0, none⟩) n sz cs.toList := by
  subst hb; exact Rd.lit w cs t n sz h
theorem Rd.alloc {w : World} {A : Option Addr} {n sz : Nat} {xs : List Value} (h : Rd w A n sz xs) (o : Obj) : Rd (w.alloc o) A n sz xs := h.keep (Nat.le_refl _) ((Below.refl _ _).alloc (Nat.le_refl _) o)
theorem Rd.drewN {w : World} {A : Option Addr} {n sz : Nat} {xs : List Value} (h : Rd w A n sz xs) (k : Nat) : Rd (w.drewN k) A n sz xs := h
theorem Rd.below {w w' : World} {A : Option Addr} {n sz : Nat} {xs : List Value} (h : Rd w A n sz xs) (hb : Below w.heap.size w w') : Rd w' A n sz xs := h.keep (Nat.le_refl _) hb
theorem Rd.nil {w : World} {A : Option Addr} {sz : Nat} : Rd w A 0 sz [] := ⟨by simp, fun h => absurd h (by omega)⟩

theorem grown_trans2 {a b c : World} {row : Option Nat} (h : a.grownBy b none) (k : b.grownBy c row) : a.grownBy c row :=
  ⟨k.os.trans h.os, k.tape.trans h.tape, k.output.trans h.output, Nat.le_trans h.size k.size, fun i hi hne => (k.block i (Nat.lt_of_lt_of_le hi h.size) hne).trans (h.block i hi (by simp))⟩

/-- append of one element that has just been laid into a block of its own, onto a slice that the call itself owns. -/
theorem app_one {P : Program} (T E : TypeId) {i : TypeInfo} {z : Value} {size bytes : Nat} (ht : P.underlying T = some (.slice E)) (hi : P.info? E = some i) (hz : i.zero = some z)
    (hsize : i.size = size) (hby : i.bytes = bytes) (hzs : z.cells.size = size) (hsz : 0 < size)
    {ops : Array Oper} {rest : List Oper} {o : Oper} {a : Act} {Q : Exit → Act → World → Prop} (w : World) (cs : Array Value) (hcs : cs.size = size) (h1 : ∀ u ∈ cs.toList, u.oneCell' = true)
    (hgd : o.guard = none) (s x : Operand) (ho : o.op = .call { callee := .builtin .append, args := #[s, x], argTypes := #[T, T] })
    (B : Nat) (V : Value) (n : Nat) (xs : List Value) (hs : a.eval s = V) (hown : w.ownsRow B E size V n xs) (hx : a.eval x = .slice (some ⟨w.heap.size, 0, none⟩) 1 1)
    (h63 : n + 1 ≤ maxLen) (hbytes : (n + 1) * bytes ≤ 140737488355328) (hB : B ≤ w.heap.size)
    (h : ∀ v' w', w'.ownsRow B E size v' (n + 1) (xs ++ cs.toList) → w.grownBy w' V.ownBlock → (v'.ownBlock = V.ownBlock ∨ v'.ownBlock = some (w.heap.size + 1)) → Below B w w' → wpList P ops Q rest (a.put o.dst v') w') :
    wpList P ops Q (o :: rest) a (w.alloc (.cells cs E)) := by
  obtain ⟨v', w', hrun, h2, h3, _, h5⟩ := run_append_own_at (P := P) (w.alloc (.cells cs E)) B T o.type E i z size bytes ht hi hz hsize hby hzs hsz V n xs (World.ownsRow.alloc hown _)
    ⟨w.heap.size, 0, none⟩ 1 1 cs.toList (by simpa using hcs) (fun j u hj => by rw [Addr.add_lit, Nat.zero_add, World.cell?_alloc_new]; simpa using hj) h1 h63 hbytes (by simp; omega)
  have g2 := grown_trans2 (World.grownBy_alloc w _ none) h3
  refine wpList_plain hgd fun K hK => ?_
  unfold Oper.wp execOp
  simp only [ho, resolve, invoke, builtin, Sem.run_bind, Sem.run_pure, Result.andThen_ok, List.map_toArray, List.map_cons, List.map_nil, hs, hx, hrun]
  exact hK _ _ (h v' w' h2 g2 (by simpa using h5) ((Below.refl _ _).grown g2 hB (fun k hk => (hown.lt k hk).1)))

theorem run_append_of_nil {P : Program} (w : World) (base : Nat) (t ty e : TypeId) (i : TypeInfo) (size : Nat) (ht : P.underlying t = some (.slice e)) (hi : P.info? e = some i)
    (v : Value) (n : Nat) (xs : List Value) (hown : w.ownsRow base e size v n xs) (c : Nat) : (Builtin.append_ #[t, t] ty #[v, .slice none 0 c]).run P w = .ok v w := by
  rcases hown.2 with ⟨rfl, rfl⟩ | ⟨g, cap, cur, rfl, _, _, hnc, _⟩
  · simp [Builtin.append_, run_underlying ht, sizeOf, typeInfo, hi, Builtin.lenOf, Builtin.firstCells]
  · simp [Builtin.append_, run_underlying ht, sizeOf, typeInfo, hi, Builtin.lenOf, Builtin.firstCells, hnc, storeCells]

/-- append of a slice that reads (nil, empty or not), onto a slice that the call itself owns. -/
theorem app_any {P : Program} (T E : TypeId) {i : TypeInfo} {z : Value} {size bytes : Nat} (ht : P.underlying T = some (.slice E)) (hi : P.info? E = some i) (hz : i.zero = some z)
    (hsize : i.size = size) (hby : i.bytes = bytes) (hzs : z.cells.size = size) (hsz : 0 < size)
    {ops : Array Oper} {rest : List Oper} {o : Oper} {a : Act} {Q : Exit → Act → World → Prop} (w : World) (A : Option Addr) (m c : Nat) (news : List Value) (hr : Rd w A m size news) (h1 : ∀ u ∈ news, u.oneCell' = true)
    (hgd : o.guard = none) (s x : Operand) (ho : o.op = .call { callee := .builtin .append, args := #[s, x], argTypes := #[T, T] })
    (B : Nat) (V : Value) (n : Nat) (xs : List Value) (hs : a.eval s = V) (hown : w.ownsRow B E size V n xs) (hx : a.eval x = .slice A m c)
    (h63 : n + m ≤ maxLen) (hbytes : (n + m) * bytes ≤ 140737488355328) (hB : B ≤ w.heap.size)
    (h : ∀ v' w', w'.ownsRow B E size v' (n + m) (xs ++ news) → w.grownBy w' V.ownBlock → (v'.ownBlock = V.ownBlock ∨ v'.ownBlock = some w.heap.size) → (v' = .slice none 0 0 → V = .slice none 0 0) → Below B w w' → wpList P ops Q rest (a.put o.dst v') w') :
    wpList P ops Q (o :: rest) a w := by
  have key : ∃ v' w', (Builtin.append_ #[T, T] o.type #[V, .slice A m c]).run P w = .ok v' w' ∧ w'.ownsRow B E size v' (n + m) (xs ++ news) ∧ w.grownBy w' V.ownBlock ∧
      (v'.ownBlock = V.ownBlock ∨ v'.ownBlock = some w.heap.size) ∧ (v' = .slice none 0 0 → V = .slice none 0 0) := by
    rcases A with _ | ad
    · have hm : m = 0 := by
        rcases Nat.eq_zero_or_pos m with h0 | h0
        · exact h0
        · obtain ⟨_, _, h, _⟩ := hr.2 h0
          cases h
      subst hm
      have hn : news = [] := List.eq_nil_of_length_eq_zero (by simpa using hr.1)
      subst hn
      exact ⟨V, w, run_append_of_nil w B T o.type E i size ht hi V n xs hown c, by simpa using hown, World.grownBy.refl w _, .inl rfl, id⟩
    · have hcells : ∀ j u, news[j]? = some u → w.cell? (ad.add j) = some u := by
        intro j u hu
        rcases Nat.eq_zero_or_pos m with h0 | h0
        · subst h0
          have hn : news = [] := List.eq_nil_of_length_eq_zero (by simpa using hr.1)
          subst hn
          simp at hu
        · obtain ⟨b, q, h, _, hc⟩ := hr.2 h0
          injection h with h
          subst h
          rw [Addr.add_lit]
          exact hc j u hu
      obtain ⟨v', w', hrun, h2, h3, h4, h5⟩ := run_append_own_at (P := P) w B T o.type E i z size bytes ht hi hz hsize hby hzs hsz V n xs hown ad m c news hr.1 hcells h1 h63 hbytes hB
      exact ⟨v', w', hrun, h2, h3, h5, fun e => (h4.1 e).1⟩
  obtain ⟨v', w', hrun, h2, h3, h5, h6⟩ := key
  refine wpList_plain hgd fun K hK => ?_
  unfold Oper.wp execOp
  simp only [ho, resolve, invoke, builtin, Sem.run_bind, Sem.run_pure, Result.andThen_ok, List.map_toArray, List.map_cons, List.map_nil, hs, hx, hrun]
  exact hK _ _ (h v' w' h2 h3 h5 h6 ((Below.refl _ _).grown h3 hB (fun k hk => (hown.lt k hk).1)))

/-- Two rows whose element types differ lie in different blocks. -/
theorem own_ne {w : World} {B B' : Nat} {E E' : TypeId} {sz sz' n n' : Nat} {v v' : Value} {xs xs' : List Value} (h : w.ownsRow B E sz v n xs) (h' : w.ownsRow B' E' sz' v' n' xs') (hE : E ≠ E') :
    v.ownBlock = none ∨ v.ownBlock ≠ v'.ownBlock := by
  rcases h.2 with ⟨rfl, _⟩ | ⟨g, cap, cur, rfl, _, hh, _⟩
  · exact .inl rfl
  · right
    rcases h'.2 with ⟨rfl, _⟩ | ⟨g', cap', cur', rfl, _, hh', _⟩
    · simp [Value.ownBlock]
    · intro e
      have : g = g' := by simpa [Value.ownBlock] using e
      subst this
      rw [hh] at hh'
      injection hh' with hh'
      injection hh' with _ hE'
      exact hE hE'

/-- An owned row reads. -/
theorem own_form {w : World} {B : Nat} {E : TypeId} {sz n : Nat} {v : Value} {xs : List Value} (h : w.ownsRow B E sz v n xs) :
    ∃ A c, v = .slice A n c ∧ Rd w A n sz xs ∧ (∀ ad, A = some ad → ad.block < w.heap.size ∧ B ≤ ad.block ∧ ad = ⟨ad.block, 0, none⟩) ∧ n ≤ c ∧ c ≤ maxLen := by
  rcases h.2 with ⟨rfl, hn⟩ | ⟨g, cap, cur, rfl, hb, hh, hc, hm, hs, ht⟩
  · subst hn
    have : xs = [] := List.eq_nil_of_length_eq_zero (by simpa using h.1)
    subst this
    exact ⟨none, 0, rfl, Rd.nil, fun ad e => (by cases e), Nat.le_refl _, by simp [maxLen]⟩
  · have hg := (Array.getElem?_eq_some_iff.1 hh).1
    refine ⟨some ⟨g, 0, none⟩, cap, rfl, ⟨h.1, fun _ => ⟨g, 0, rfl, hg, fun j u hu => ?_⟩⟩, fun ad e => ?_, hc, hm⟩
    · have := h.cells (g := g) rfl j u hu
      simpa [Addr.add_lit] using this
    · injection e with e; subst e; exact ⟨hg, hb, rfl⟩

theorem own_base {w : World} {B B' : Nat} {E : TypeId} {sz n : Nat} {v : Value} {xs : List Value} (h : w.ownsRow B E sz v n xs) (hB : B' ≤ B) : w.ownsRow B' E sz v n xs :=
  ⟨h.1, h.2.imp id fun ⟨g, cap, cur, e, hb, r⟩ => ⟨g, cap, cur, e, Nat.le_trans hB hb, r⟩⟩
theorem own_rebase {w : World} {B B' : Nat} {E : TypeId} {sz n : Nat} {v : Value} {xs : List Value} (h : w.ownsRow B E sz v n xs) (hB : ∀ k, v.ownBlock = some k → B' ≤ k) : w.ownsRow B' E sz v n xs :=
  ⟨h.1, h.2.imp id fun ⟨g, cap, cur, e, hb, r⟩ => ⟨g, cap, cur, e, by subst e; exact hB g rfl, r⟩⟩
theorem own_below {w w' : World} {B : Nat} {E : TypeId} {sz n : Nat} {v : Value} {xs : List Value} (h : w.ownsRow B E sz v n xs) (hb : Below w.heap.size w w') : w'.ownsRow B E sz v n xs :=
  World.ownsRow.kept h (row := none) ⟨hb.os, hb.tape, hb.output, hb.size, fun k hk _ => hb.block k hk⟩ (by cases hv : v.ownBlock <;> simp)

/-! ### Lists of ints -/
def is (l : List Int) : List Value := l.map (Value.int .i64)
theorem is_get (l : List Int) (i : Nat) (h : i < l.length) : (is l)[i]? = some (.int .i64 l[i]) := by simp [is, h]
theorem Rd.int {w : World} {A : Option Addr} {n : Nat} {l : List Int} (h : Rd w A n 1 (is l)) (j : Nat) (hj : j < l.length) (hn : l.length = n) :
    ∃ b o, A = some ⟨b, o, none⟩ ∧ b < w.heap.size ∧ w.cell? ⟨b, o + j, none⟩ = some (.int .i64 l[j]) := by
  obtain ⟨b, o, e, hb, hc⟩ := h.2 (by omega)
  exact ⟨b, o, e, hb, hc _ _ (is_get l j hj)⟩

/-! ### Edges: three cells each -/
def ec (e : Int × Int × Int) : List Value := [.int .i64 e.1, .int .i64 e.2.1, .int .i64 e.2.2]
def ecs (l : List (Int × Int × Int)) : List Value := l.flatMap ec

theorem ecs_length (l : List (Int × Int × Int)) : (ecs l).length = l.length * 3 := by
  induction l with
  | nil => rfl
  | cons e l ih => simp only [ecs, List.flatMap_cons, List.length_append, List.length_cons] at *; rw [ih]; simp [ec]; omega
theorem ecs_append (l m : List (Int × Int × Int)) : ecs (l ++ m) = ecs l ++ ecs m := by simp [ecs]
theorem ecs_get (l : List (Int × Int × Int)) (i : Nat) (h : i < l.length) :
    (ecs l)[i * 3]? = some (.int .i64 l[i].1) ∧ (ecs l)[i * 3 + 1]? = some (.int .i64 l[i].2.1) ∧ (ecs l)[i * 3 + 2]? = some (.int .i64 l[i].2.2) := by
  induction l generalizing i with
  | nil => simp at h
  | cons e l ih =>
    cases i with
    | zero => simp [ecs, ec]
    | succ i =>
      have e1 : ecs (e :: l) = [.int .i64 e.1, .int .i64 e.2.1, .int .i64 e.2.2] ++ ecs l := rfl
      have h' : i < l.length := by simpa using h
      obtain ⟨a, b, c⟩ := ih i h'
      rw [e1]
      refine ⟨?_, ?_, ?_⟩
      · rw [List.getElem?_append_right (by simp; omega)]; simpa [show (i + 1) * 3 - 3 = i * 3 by omega] using a
      · rw [List.getElem?_append_right (by simp; omega)]; simpa [show (i + 1) * 3 + 1 - 3 = i * 3 + 1 by omega] using b
      · rw [List.getElem?_append_right (by simp; omega)]; simpa [show (i + 1) * 3 + 2 - 3 = i * 3 + 2 by omega] using c
theorem ecs_oneCell (l : List (Int × Int × Int)) : ∀ u ∈ ecs l, u.oneCell' = true := by
  intro u hu
  simp only [ecs, List.mem_flatMap, ec, List.mem_cons, List.not_mem_nil, or_false] at hu
  obtain ⟨_, _, h⟩ := hu
  rcases h with rfl | rfl | rfl <;> rfl

/-- The three cells of an edge, read in a slice. -/
theorem Rd.edge {w : World} {A : Option Addr} {n : Nat} {l : List (Int × Int × Int)} (h : Rd w A n 3 (ecs l)) (j : Nat) (hj : j < l.length) (hn : l.length = n) :
    ∃ b o, A = some ⟨b, o, none⟩ ∧ b < w.heap.size ∧ w.cell? ⟨b, o + j * 3, none⟩ = some (.int .i64 l[j].1) ∧ w.cell? ⟨b, o + j * 3 + 1, none⟩ = some (.int .i64 l[j].2.1) ∧ w.cell? ⟨b, o + j * 3 + 2, none⟩ = some (.int .i64 l[j].2.2) := by
  obtain ⟨b, o, e, hb, hc⟩ := h.2 (by omega)
  obtain ⟨x, y, z⟩ := ecs_get l j hj
  exact ⟨b, o, e, hb, hc _ _ x, by have := hc _ _ y; rwa [← Nat.add_assoc] at this, by have := hc _ _ z; rwa [← Nat.add_assoc] at this⟩

theorem take_eq_succ {α : Type} {xs ys : List α} {j : Nat} (h : xs.take j = ys.take j) (hx : j < xs.length) (hy : j < ys.length) (he : xs[j] = ys[j]) : xs.take (j + 1) = ys.take (j + 1) := by
  rw [List.take_succ_eq_append_getElem hx, List.take_succ_eq_append_getElem hy, h, he]

theorem quiet_eq {P : Program} {f : FuncId} {args : Array Value} {w : World} {v : Value} (h : Calls P f args w fun e w' => e = .returned v ∧ w = w') :
    Calls P f args w fun e w' => e = .returned v ∧ ∃ k, w' = w.drewN k := h.mono fun _ _ ⟨he, h⟩ => ⟨he, 0, h.symm⟩
theorem quiet_any1 {P : Program} {f : FuncId} {args : Array Value} {w : World} {n : Nat} {v : Value}
    (h : Calls P f args (w.drewN n) fun e w' => e = .returned v ∧ ∃ k, w' = (w.drewN n).drewN k) :
    Calls P f args (w.drewN n) fun e w'' => e = .returned v ∧ ∃ m, w'' = w.drewN m :=
  h.mono fun _ _ ⟨he, k, hk⟩ => ⟨he, n + k, by rw [hk, World.drewN_drewN]⟩
theorem quiet_any2 {P : Program} {f : FuncId} {args : Array Value} {w : World} {a n : Nat} {v : Value}
    (h : Calls P f args (w.drewN (a + n)) fun e w' => e = .returned v ∧ ∃ k, w' = (w.drewN (a + n)).drewN k) :
    Calls P f args (w.drewN (a + n)) fun e w'' => e = .returned v ∧ ∃ m, w'' = w.drewN (a + m) :=
  h.mono fun _ _ ⟨he, k, hk⟩ => ⟨he, n + k, by rw [hk, World.drewN_drewN, Nat.add_assoc]⟩
end Go.Proofs.YtoomcgmbaogjbaaDoor
