/- Memory: ints as a function; a queue of ints (a slice that moves on in its block); marks of loops over iterators; a loop with a ghost, within a fence. Nothing of the program. -/
import Derived.RangeFuncBox
import Derived.RangeFuncNested
import Derived.ArgAppend
import Derived.LoopNIn
import Derived.OwnWalkIn
import Derived.Test.YtoomcgmbaogjbaaDoorGraD
import Derived.Test.YtoomcgmbaogjbaaDoorMem
namespace Go.Proofs.YtoomcgmbaogjbaaDoor
open Go.RowKit
set_option linter.unusedVariables false

def ari (n : Nat) (f : Nat → Int) : Array Value := ((List.range n).map fun i => Value.int .i64 (f i)).toArray
theorem ari_size (n : Nat) (f : Nat → Int) : (ari n f).size = n := by simp [ari]
theorem ari_get {n i : Nat} (f : Nat → Int) (h : i < n) : (ari n f)[i]? = some (.int .i64 (f i)) := by simp [ari, h]
theorem ari_set (n : Nat) (f : Nat → Int) (i : Nat) (v : Int) : (ari n f).setIfInBounds i (.int .i64 v) = ari n (updi f i v) := by
  apply Array.ext_getElem?
  intro j
  rw [Array.getElem?_setIfInBounds]
  by_cases hj : j < n
  · rw [ari_get _ hj, ari_get _ hj, ari_size]
    by_cases he : i = j
    · subst he; simp [hj, updi_same]
    · rw [if_neg he, updi_other _ _ (fun e => he e.symm)]
  · have e1 : (ari n f)[j]? = none := by simp [ari]; omega
    have e2 : (ari n (updi f i v))[j]? = none := by simp [ari]; omega
    rw [e1, e2, ari_size]
    split
    · rw [if_neg (by omega)]
    · rfl
theorem ari_congr {n : Nat} {f h : Nat → Int} (e : ∀ i, i < n → f i = h i) : ari n f = ari n h := by
  unfold ari
  congr 1
  exact List.map_congr_left fun i hi => by rw [e i (by simpa using hi)]
theorem arr_ari (n : Nat) (f : Nat → Nat) : arr n f = ari n fun i => (f i : Int) := rfl
theorem Blk.inti {w : World} {g t n : Nat} {f : Nat → Int} (h : Blk w g t (ari n f)) {i : Nat} (hi : i < n) : w.cell? ⟨g, i, none⟩ = some (.int .i64 (f i)) := by
  rw [h.cell, ari_get f hi]
theorem Blk.setInti {w : World} {g t n : Nat} {f : Nat → Int} (h : Blk w g t (ari n f)) (i : Nat) (v : Int) : Blk (w.setCell ⟨g, i, none⟩ (.int .i64 v)) g t (ari n (updi f i v)) := by
  have := h.set_ i (.int .i64 v)
  rwa [ari_set] at this

theorem Boxed_far {W : World} {B : Nat} {t : TypeId} {v : Value} (h : Boxed W B t v) {p : Addr} (hne : B ≠ p.block) (u : Value) : Boxed (W.setCell p u) B t v := (Below.heap_setCell W p u B hne).trans h
/-- A queue: the ints xs lie in block g, which is the call's own; V shows them. -/
def QB (E : TypeId) (W : World) (n₀ g : Nat) (V : Value) (xs : List Nat) : Prop :=
  ∃ (o c : Nat) (cur : Array Value), V = .slice (some ⟨g, o, none⟩) xs.length c ∧ n₀ ≤ g ∧ W.heap[g]? = some (.cells cur E (0, 0)) ∧ xs.length ≤ c ∧ c ≤ maxLen ∧ o + c ≤ cur.size ∧ ∀ (j : Nat) (x : Nat), xs[j]? = some x → cur[o + j]? = some (.int .i64 (x : Int))
section
variable {E : TypeId} {W W' : World} {n₀ g : Nat} {V : Value} {xs : List Nat}
theorem QB.lt (h : QB E W n₀ g V xs) : g < W.heap.size := by
  obtain ⟨o, c, cur, _, _, hh, _⟩ := h
  exact (Array.getElem?_eq_some_iff.1 hh).1
theorem QB.kept (h : QB E W n₀ g V xs) (k : W'.heap[g]? = W.heap[g]?) : QB E W' n₀ g V xs := by
  obtain ⟨o, c, cur, h1, h2, h3, h4⟩ := h
  exact ⟨o, c, cur, h1, h2, k.trans h3, h4⟩
theorem QB.far (h : QB E W n₀ g V xs) {p : Addr} (hp : g ≠ p.block) (u : Value) : QB E (W.setCell p u) n₀ g V xs := h.kept (Below.heap_setCell W p u g hp)
theorem QB.alloc (h : QB E W n₀ g V xs) (o : Obj) : QB E (W.alloc o) n₀ g V xs := h.kept (Below.heap_alloc _ _ _ h.lt)
theorem QB.drewN (h : QB E W n₀ g V xs) (k : Nat) : QB E (W.drewN k) n₀ g V xs := h.kept rfl
theorem QB.ne_ (h : QB E W n₀ g V xs) {B : Nat} {t : TypeId} {v : Value} (hb : Boxed W B t v) (hne : E ≠ t) : g ≠ B := by
  obtain ⟨o, c, cur, _, _, hh, _⟩ := h
  rintro rfl
  rw [show W.heap[g]? = _ from hb] at hh
  injection hh with hh
  injection hh with _ he
  exact hne he.symm
theorem QB.cells (h : QB E W n₀ g V xs) : ∃ o : Obj, W.heap[g]? = some o ∧ o.isCells = true := by
  obtain ⟨o, c, cur, _, _, hh, _⟩ := h
  exact ⟨_, hh, rfl⟩
theorem QB.one (W : World) (x : Nat) (h : n₀ ≤ W.heap.size) : QB E (W.alloc (.cells #[.int .i64 (x : Int)] E)) n₀ W.heap.size (.slice (some ⟨W.heap.size, 0, none⟩) 1 1) [x] :=
  ⟨0, 1, _, rfl, h, World.alloc_heap_new W _, Nat.le_refl _, by decide, by simp, fun j y hy => by
    cases j with
    | zero => simp at hy; subst hy; simp
    | succ j => simp at hy⟩
/-- The first element, and what is behind it. -/
theorem QB.head (h : QB E W n₀ g V xs) {x : Nat} {ys : List Nat} (hx : xs = x :: ys) : ∃ o c, V = .slice (some ⟨g, o, none⟩) (ys.length + 1) c ∧ ys.length + 1 ≤ c ∧ c ≤ maxLen ∧ W.cell? ⟨g, o, none⟩ = some (.int .i64 (x : Int)) ∧
    (c = 1 → ys = [] ∧ QB E W n₀ g (.slice (some ⟨g, o, none⟩) 0 0) ys) ∧ (1 < c → QB E W n₀ g (.slice (some ⟨g, o + 1, none⟩) ys.length (c - 1)) ys) := by
  subst hx
  obtain ⟨o, c, cur, rfl, h2, h3, h4, h5, h6, h7⟩ := h
  refine ⟨o, c, rfl, h4, h5, ?_, fun hc => ?_, fun hc => ?_⟩
  · rw [cell_of_row W g o cur E (0, 0) h3]
    simpa using h7 0 x rfl
  · subst hc
    have hy : ys = [] := by simpa using h4
    subst hy
    exact ⟨rfl, o, 0, cur, rfl, h2, h3, Nat.le_refl _, Nat.zero_le _, by omega, fun j y hy => by simp at hy⟩
  · simp only [List.length_cons] at h4
    refine ⟨o + 1, c - 1, cur, rfl, h2, h3, by omega, by omega, by omega, fun j y hy => ?_⟩
    have := h7 (j + 1) y (by simpa using hy)
    rwa [show o + 1 + j = o + (j + 1) by omega]
variable {P : Program}
/-- One element more, at the end. -/
theorem QB.push {T : TypeId} {i : TypeInfo} (ht : P.underlying T = some (.slice E)) (hi : P.info? E = some i) (hz : i.zero = some (.int .i64 0)) (h1 : i.size = 1) (h8 : i.bytes = 8) (ty : TypeId)
    (h : QB E W n₀ g V xs) (x : Nat) (hn : n₀ ≤ W.heap.size) (hl : xs.length < 1000000) :
    ∃ v' w' g', (Builtin.append_ #[T, T] ty #[V, .slice (some ⟨W.heap.size, 0, none⟩) 1 1]).run P (W.alloc (.cells #[.int .i64 (x : Int)] E)) = .ok v' w' ∧ QB E w' n₀ g' v' (xs ++ [x]) ∧ (W.alloc (.cells #[.int .i64 (x : Int)] E)).grownBy w' (some g) ∧ (g' = g ∨ W.heap.size < g') ∧ g' ≠ W.heap.size := by
  have hg := h.lt
  have hq := h.alloc (.cells #[.int .i64 (x : Int)] E)
  obtain ⟨o, c, cur, rfl, h2, h3, h4, h5, h6, h7⟩ := hq
  have hnew : ∀ j u, [Value.int .i64 (x : Int)][j]? = some u → (W.alloc (.cells #[.int .i64 (x : Int)] E)).cell? ((⟨W.heap.size, 0, none⟩ : Addr).add j) = some u := by
    intro j u hu
    rw [Addr.add_lit, Nat.zero_add, World.cell?_alloc_new]; simpa using hu
  have hM : maxLen = 9223372036854775807 := rfl
  by_cases hr : xs.length + 1 ≤ c
  · have hc : ∀ j, j < [Value.int .i64 (x : Int)].length → ((W.alloc (.cells #[.int .i64 (x : Int)] E)).cell? ⟨g, o + xs.length * i.size + j, none⟩).isSome = true := fun j hj => by
      rw [cell_of_row _ g _ cur E (0, 0) h3, h1]
      simp at hj
      subst hj
      rw [Array.getElem?_eq_getElem (by omega)]; rfl
    have hrun := run_append_room_cells (P := P) (W.alloc (.cells #[.int .i64 (x : Int)] E)) T ty E i ht hi g o xs.length c ⟨W.heap.size, 0, none⟩ 1 1 [.int .i64 (x : Int)] (by simp [h1]) hnew (by simp [Value.oneCell']) hr hc
      (fun j hj => by simp [World.frozen?, h3])
    refine ⟨_, _, g, hrun, ⟨o, c, cur.setIfInBounds (o + xs.length * i.size) (.int .i64 (x : Int)), by simp, h2, ?_, by simpa using hr, h5, by simpa using h6, fun j y hy => ?_⟩, ?_, .inl rfl, by omega⟩
    · show ((W.alloc (.cells #[.int .i64 (x : Int)] E)).setCell ⟨g, o + xs.length * i.size, none⟩ (.int .i64 (x : Int))).heap[g]? = _
      simp [World.setCell, Array.getElem?_modify, h3]
    · rw [h1, Nat.mul_one, Array.getElem?_setIfInBounds]
      by_cases hj : j < xs.length
      · rw [if_neg (by omega)]
        rw [List.getElem?_append_left hj] at hy
        exact h7 j y hy
      · rw [List.getElem?_append_right (by omega)] at hy
        have hj0 : j - xs.length = 0 := by
          rcases Nat.eq_zero_or_pos (j - xs.length) with h0 | h0
          · exact h0
          · rw [List.getElem?_eq_none (by simp; omega)] at hy; cases hy
        rw [hj0] at hy
        simp at hy
        subst hy
        rw [if_pos (by omega), if_pos (by omega)]
    · exact ⟨rfl, rfl, rfl, (KeepsWalks.setCell _ _ _).size, fun k _ hk => Below.heap_setCell _ _ _ k (fun e => hk (by rw [e]))⟩
  · obtain ⟨v', w', hrun, r1, r2⟩ := run_append_arg_grows (P := P) (W.alloc (.cells #[.int .i64 (x : Int)] E)) T ty E i (.int .i64 0) 1 8 ht hi hz h1 h8 rfl (by decide) ⟨g, o, none⟩ xs.length c (xs.map fun (y : Nat) => Value.int .i64 (y : Int)) (by simp)
      (fun j u hu => by
        rw [Addr.add_lit, cell_of_row _ g _ cur E (0, 0) h3]
        rw [List.getElem?_map, Option.map_eq_some_iff] at hu
        obtain ⟨y, hy, rfl⟩ := hu
        exact h7 j y hy) ⟨W.heap.size, 0, none⟩ 1 1 [.int .i64 (x : Int)] (by simp) hnew (by omega) (by omega) (by omega)
    rcases r1.2 with ⟨_, h0⟩ | ⟨g', cap, cur', rfl, hb, hh, hnc, hcm, hs, htk⟩
    · omega
    · have hb' : W.heap.size < g' := by have : (W.alloc (.cells #[.int .i64 (x : Int)] E)).heap.size = W.heap.size + 1 := by simp
                                        omega
      refine ⟨_, w', g', hrun, ⟨0, cap, cur', by simp, by omega, hh, by simpa using hnc, hcm, by omega, fun j y hy => ?_⟩, ⟨r2.os, r2.tape, r2.output, r2.size, fun k hk _ => r2.block k hk (by simp)⟩, .inr hb', by omega⟩
      have : (xs.map (fun (y : Nat) => Value.int .i64 (y : Int)) ++ [.int .i64 (x : Int)])[j]? = some (.int .i64 (y : Int)) := by
        have : (xs ++ [x]).map (fun (y : Nat) => Value.int .i64 (y : Int)) = xs.map (fun (y : Nat) => Value.int .i64 (y : Int)) ++ [.int .i64 (x : Int)] := by simp
        rw [← this, List.getElem?_map, hy]; rfl
      rw [← htk, List.getElem?_take] at this
      split at this
      · rw [Nat.zero_add]; simpa using this
      · cases this
end
theorem wpListIn_push {F : Fence} {nF : Nat} {P : Program} {E T : TypeId} {i : TypeInfo} {W : World} {n₀ g : Nat} {V : Value} {xs : List Nat} {ops : Array Oper} {rest : List Oper} {o : Oper} {a : Act} {Q : Exit → Act → World → Prop}
    (ht : P.underlying T = some (.slice E)) (hi : P.info? E = some i) (hz : i.zero = some (.int .i64 0)) (h1 : i.size = 1) (h8 : i.bytes = 8)
    (hg : o.guard = none) (s y : Operand) (hop : o.op = Op.call { callee := Callee.builtin Builtin.append, args := #[s, y], argTypes := #[T, T] })
    (hq : QB E W n₀ g V xs) (x : Nat) (hn : n₀ ≤ W.heap.size) (hl : xs.length < 1000000) (hs : a.eval s = V) (hx : a.eval y = .slice (some ⟨W.heap.size, 0, none⟩) 1 1)
    (hK : ∀ v' w' g', QB E w' n₀ g' v' (xs ++ [x]) → (W.alloc (.cells #[.int .i64 (x : Int)] E)).grownBy w' (some g) → (g' = g ∨ W.heap.size < g') → g' ≠ W.heap.size → wpListIn F nF P ops Q rest (a.put o.dst v') w') :
    wpListIn F nF P ops Q (o :: rest) a (W.alloc (.cells #[.int .i64 (x : Int)] E)) := by
  refine wpListIn_plain hg fun K hK' => ?_
  obtain ⟨v', w', g', hrun, r1, r2, r3, r4⟩ := hq.push ht hi hz h1 h8 o.type x hn hl
  unfold Oper.wpIn
  refine ⟨?_, ?_⟩
  · simp [Oper.about, hop, resolve, Target.leads, Sem.run_pure]
  · rw [Oper.semAt_plain F _ _ (by rw [hop]; intro c hc'; cases hc')]
    simp [execOp, hop, resolve, invoke, builtin, hs, hx, hrun, Result.andThen]
    exact hK' _ _ (hK v' w' g' r1 r2 r3 r4)
/-! ### Marks -/
def mks (Ds : List Nat) : List Deferred := Ds.map fun D => { target := .collected D, args := #[] }
/-- The marks of loops that are over. -/
structure Mk (W : World) (n₀ : Nat) (Ds : List Nat) : Prop where
  nd : Ds.Nodup
  at_ : ∀ D ∈ Ds, n₀ ≤ D ∧ W.heap[D]? = some (.deferred (some []))
theorem Mk.nil (W : World) (n₀ : Nat) : Mk W n₀ [] := ⟨by simp, by simp⟩
theorem Mk.lt {W : World} {n₀ : Nat} {Ds : List Nat} (h : Mk W n₀ Ds) : ∀ D ∈ Ds, D < W.heap.size := fun D hD => (Array.getElem?_eq_some_iff.1 (h.at_ D hD).2).1
theorem Mk.kept {W W' : World} {n₀ : Nat} {Ds : List Nat} (h : Mk W n₀ Ds) (k : KeepsOthers W W') : Mk W' n₀ Ds := ⟨h.nd, fun D hD => ⟨(h.at_ D hD).1, k.same D _ (h.at_ D hD).2 rfl⟩⟩
theorem Mk.cons {W : World} {n₀ D : Nat} {Ds : List Nat} (h : Mk W n₀ Ds) (hn : D ∉ Ds) (h0 : n₀ ≤ D) (hD : W.heap[D]? = some (.deferred (some []))) : Mk W n₀ (D :: Ds) :=
  ⟨List.nodup_cons.2 ⟨hn, h.nd⟩, fun E hE => by
    rcases List.mem_cons.1 hE with rfl | hE
    · exact ⟨h0, hD⟩
    · exact h.at_ E hE⟩
theorem Mk.own {β : Type} (n₀ B : Nat) (Ds : List Nat) (hB : ∀ D ∈ Ds, D < B) : OwnFrom B (fun (_ : β) W => Mk W n₀ Ds) := fun _ X Y row hs hg hr =>
  ⟨hs.nd, fun D hD => ⟨(hs.at_ D hD).1, (hg.block D (hs.lt D hD) (fun e => by have := (hr D e.symm).1; have := hB D hD; omega)).trans (hs.at_ D hD).2⟩⟩
/-- Cells lie on. -/
def CellsOn (n₀ : Nat) (W W' : World) : Prop := (∀ b : Nat, (∃ o : Obj, W.heap[b]? = some o ∧ o.isCells = true) → W'.heap[b]? = W.heap[b]?) ∧ Below n₀ W W'
theorem Mk.leave {F : Fence} {n : Nat} {P : Program} {fn : Func} {tmps : Array Value} {R : Ending → World → Prop} {n₀ : Nat} : ∀ (Ds : List Nat) (W : World), Mk W n₀ Ds → n₀ ≤ W.heap.size → (∀ W', CellsOn n₀ W W' → LeavesIn F n P fn tmps R [] .returning W') →
    LeavesInM F n P fn tmps R (mks Ds) .returning W := by
  intro Ds
  induction Ds with
  | nil => intro W _ _ h; exact h W ⟨fun _ _ => rfl, Below.refl _ _⟩
  | cons D Ds ih =>
    intro W hM hn h
    have hD := hM.at_ D (by simp)
    have hnd := List.nodup_cons.1 hM.nd
    refine ⟨by simp, .inl ⟨D, _, rfl, run_takeDeferred hD.2, ih _ ⟨hnd.2, fun E hE => ⟨(hM.at_ E (by simp [hE])).1, (World.putObj_heap_other (fun e => by subst e; exact hnd.1 hE)).trans (hM.at_ E (by simp [hE])).2⟩⟩ (by simpa using hn) fun W' hW' => ?_⟩⟩
    have hb : Below n₀ W (W.putObj D (.deferred none)) := ⟨rfl, rfl, rfl, by simp, fun k hk => World.putObj_heap_other (by omega)⟩
    refine h W' ⟨fun b hb' => ?_, hb.trans hW'.2⟩
    obtain ⟨o, ho, hc⟩ := hb'
    have hne : b ≠ D := by rintro rfl; rw [hD.2] at ho; cases ho; cases hc
    have e : (W.putObj D (.deferred none)).heap[b]? = W.heap[b]? := World.putObj_heap_other hne
    exact (hW'.1 b ⟨o, e.trans ho, hc⟩).trans e
/-- A loop within a fence, with a ghost that counts down. -/
theorem wpIn_loop_ghost {F : Fence} {n : Nat} {P : Program} {Q : Exit → Act → World → Prop} {a : Act} {w : World} {c : Code} (inv : Nat → Act → World → Prop) (m : Nat) (h0 : inv m a w)
    (h : ∀ m a w, inv m a w → c.wpIn F n P (Exit.then (fun a' w' => ∃ m', m = m' + 1 ∧ inv m' a' w') Q) a w) : (Code.loop c).wpIn F n P Q a w := by
  refine wpIn_loop_rounds (m + 1) ?_
  induction m generalizing a w with
  | zero =>
    refine wpIn_mono (h 0 a w h0) ?_
    intro e a' w' hq
    cases e with
    | normal => obtain ⟨m', e, _⟩ := hq; omega
    | _ => exact hq
  | succ m ih =>
    refine wpIn_mono (h (m + 1) a w h0) ?_
    intro e a' w' hq
    cases e with
    | normal =>
      obtain ⟨m', e, hi⟩ := hq
      obtain rfl : m' = m := by omega
      exact ih hi
    | _ => exact hq
end Go.Proofs.YtoomcgmbaogjbaaDoor
