/- Blocks that are known whole; arrays of ints as functions; frames. Nothing of the program. -/
import Derived.Laws.MakeOwn
import Derived.Test.YtoomcgmbaogjbaaDoorKit
import Derived.Deep.RegionHeld3
import Derived.BigRegion
namespace Go.Proofs.YtoomcgmbaogjbaaDoor
open Go.RowKit
set_option linter.unusedVariables false

/-- Block g is just the cells cs of element type t, none frozen. -/
def Blk (w : World) (g : Nat) (t : TypeId) (cs : Array Value) : Prop := w.heap[g]? = some (.cells cs t (0, 0))
section
variable {w w' : World} {g : Nat} {t : TypeId} {cs : Array Value}
theorem Blk.lt (h : Blk w g t cs) : g < w.heap.size := by
  rcases Nat.lt_or_ge g w.heap.size with hlt | hge
  · exact hlt
  · unfold Blk at h; rw [Array.getElem?_eq_none hge] at h; cases h
theorem Blk.cell (h : Blk w g t cs) (i : Nat) : w.cell? ⟨g, i, none⟩ = cs[i]? := cell_of_row w g i cs t (0, 0) h
theorem Blk.frozen (h : Blk w g t cs) (i : Nat) : w.frozen? ⟨g, i, none⟩ = false := by
  unfold Blk at h
  simp [World.frozen?, h]
theorem Blk.new (w : World) (t : TypeId) (cs : Array Value) : Blk (w.alloc (.cells cs t)) w.heap.size t cs := heap_alloc_new w _
theorem Blk.drew (h : Blk w g t cs) : Blk w.drew g t cs := h
theorem Blk.drewN (h : Blk w g t cs) (n : Nat) : Blk (w.drewN n) g t cs := h
theorem Blk.alloc (h : Blk w g t cs) (o : Obj) : Blk (w.alloc o) g t cs := (Below.heap_alloc w o g h.lt).trans h
theorem Blk.set_ (h : Blk w g t cs) (i : Nat) (u : Value) : Blk (w.setCell ⟨g, i, none⟩ u) g t (cs.setIfInBounds i u) := by
  unfold Blk at h ⊢
  simp [World.setCell, Array.getElem?_modify, h]
theorem Blk.far (h : Blk w g t cs) {p : Addr} (hp : g ≠ p.block) (u : Value) : Blk (w.setCell p u) g t cs := (Below.heap_setCell w p u g hp).trans h
theorem Blk.ne_ {g' : Nat} {t' : TypeId} {cs' : Array Value} (h : Blk w g t cs) (h' : Blk w g' t' cs') (hne : t ≠ t') : g ≠ g' := by
  rintro rfl
  unfold Blk at h h'
  rw [h] at h'
  injection h' with h'
  injection h' with _ ht
  exact hne ht
end

theorem Blk.get {w : World} {g t : Nat} {cs : Array Value} (h : Blk w g t cs) (i : Nat) (v : Value) (e : cs[i]? = some v) : w.cell? ⟨g, i, none⟩ = some v := (h.cell i).trans e

/-- n ints as the cells of a block. -/
def arr (n : Nat) (f : Nat → Nat) : Array Value := ((List.range n).map fun i => Value.int .i64 (f i : Int)).toArray
theorem arr_size (n : Nat) (f : Nat → Nat) : (arr n f).size = n := by simp [arr]
theorem arr_get {n i : Nat} (f : Nat → Nat) (h : i < n) : (arr n f)[i]? = some (.int .i64 (f i : Int)) := by simp [arr, h]
def upd (f : Nat → Nat) (i v : Nat) : Nat → Nat := fun j => if j = i then v else f j
theorem upd_same (f : Nat → Nat) (i v : Nat) : upd f i v i = v := if_pos rfl
theorem upd_other (f : Nat → Nat) {i j : Nat} (v : Nat) (h : j ≠ i) : upd f i v j = f j := if_neg h
theorem arr_set (n : Nat) (f : Nat → Nat) (i v : Nat) : (arr n f).setIfInBounds i (.int .i64 (v : Int)) = arr n (upd f i v) := by
  apply Array.ext_getElem?
  intro j
  rw [Array.getElem?_setIfInBounds]
  by_cases hj : j < n
  · rw [arr_get _ hj, arr_get _ hj, arr_size]
    by_cases he : i = j
    · subst he; simp [hj, upd_same]
    · rw [if_neg he, upd_other _ _ (fun e => he e.symm)]
  · have e1 : (arr n f)[j]? = none := by simp [arr]; omega
    have e2 : (arr n (upd f i v))[j]? = none := by simp [arr]; omega
    rw [e1, e2, arr_size]
    split
    · rw [if_neg (by omega)]
    · rfl
theorem Blk.int {w : World} {g t n : Nat} {f : Nat → Nat} (h : Blk w g t (arr n f)) {i : Nat} (hi : i < n) : w.cell? ⟨g, i, none⟩ = some (.int .i64 (f i : Int)) := by
  rw [h.cell, arr_get f hi]
theorem Blk.setInt {w : World} {g t n : Nat} {f : Nat → Nat} (h : Blk w g t (arr n f)) (i v : Nat) : Blk (w.setCell ⟨g, i, none⟩ (.int .i64 (v : Int))) g t (arr n (upd f i v)) := by
  have := h.set_ i (.int .i64 (v : Int))
  rwa [arr_set] at this

theorem cell_far (w : World) {p q : Addr} (u : Value) (h : q.block ≠ p.block) : (w.setCell p u).cell? q = w.cell? q := World.cell?_of_block (Below.heap_setCell w p u q.block h)

/-- n ints, and a rest that nobody reads. -/
def arx (n : Nat) (f : Nat → Nat) (r : Array Value) : Array Value := arr n f ++ r
theorem arx_nil (n : Nat) (f : Nat → Nat) : arx n f #[] = arr n f := by simp [arx]
theorem arx_get {n i : Nat} (f : Nat → Nat) (r : Array Value) (h : i < n) : (arx n f r)[i]? = some (.int .i64 (f i : Int)) := by
  unfold arx
  rw [Array.getElem?_append_left (by rw [arr_size]; exact h), arr_get f h]
theorem arx_set {n i : Nat} (f : Nat → Nat) (r : Array Value) (v : Nat) (h : i < n) : (arx n f r).setIfInBounds i (.int .i64 (v : Int)) = arx n (upd f i v) r := by
  unfold arx
  rw [← arr_set]
  apply Array.ext_getElem?
  intro j
  by_cases hj : j < n
  · have e3 : j < ((arr n f).setIfInBounds i (.int .i64 (v : Int))).size := by simp [arr_size]; exact hj
    have e4 : j < (arr n f).size := by rw [arr_size]; exact hj
    have e1 : i < (arr n f ++ r).size := by rw [Array.size_append, arr_size]; omega
    have e2 : i < (arr n f).size := by rw [arr_size]; exact h
    rw [Array.getElem?_append_left e3, Array.getElem?_setIfInBounds, Array.getElem?_setIfInBounds, Array.getElem?_append_left e4]
    simp only [e1, e2]
  · have hij : i ≠ j := by omega
    rw [Array.getElem?_setIfInBounds_ne hij, Array.getElem?_append_right (by rw [arr_size]; omega), Array.getElem?_append_right (by simp [arr_size]; omega)]
    simp [arr_size]
theorem arx_congr {n : Nat} {f h : Nat → Nat} (r : Array Value) (e : ∀ i, i < n → f i = h i) : arx n f r = arx n h r := by
  have : arr n f = arr n h := by
    unfold arr
    congr 1
    exact List.map_congr_left fun i hi => by rw [e i (by simpa using hi)]
  unfold arx; rw [this]
theorem Blk.intx {w : World} {g t n : Nat} {f : Nat → Nat} {r : Array Value} (h : Blk w g t (arx n f r)) {i : Nat} (hi : i < n) : w.cell? ⟨g, i, none⟩ = some (.int .i64 (f i : Int)) := by
  rw [h.cell, arx_get f r hi]
theorem Blk.setIntx {w : World} {g t n : Nat} {f : Nat → Nat} {r : Array Value} (h : Blk w g t (arx n f r)) {i : Nat} (v : Nat) (hi : i < n) : Blk (w.setCell ⟨g, i, none⟩ (.int .i64 (v : Int))) g t (arx n (upd f i v) r) := by
  have := h.set_ i (.int .i64 (v : Int))
  rwa [arx_set f r v hi] at this

theorem arr_toList_one (n : Nat) (f : Nat → Nat) : ∀ u ∈ (arr n f).toList, u.oneCell' = true := by
  intro u hu
  simp only [arr, List.mem_map] at hu
  obtain ⟨_, _, rfl⟩ := hu
  rfl
theorem arx_rd {w : World} {g t n : Nat} {f : Nat → Nat} {r : Array Value} (h : Blk w g t (arx n f r)) : Rd w (some ⟨g, 0, none⟩) n 1 (arr n f).toList :=
  ⟨by simp [arr], fun _ => ⟨g, 0, rfl, h.lt, fun j u hu => by
    rw [Nat.zero_add, h.cell]
    have hj : j < n := by
      have := (List.getElem?_eq_some_iff.1 hu).1
      simpa [arr] using this
    rw [arx_get f r hj]
    rw [Array.getElem?_toList, arr_get f hj] at hu
    exact hu⟩⟩
/-- An owned row of ints is a block of ints with a rest. -/
theorem own_arx {w : World} {B g n cap : Nat} {t : TypeId} {f : Nat → Nat} (h : w.ownsRow B t 1 (.slice (some ⟨g, 0, none⟩) n cap) n (arr n f).toList) : ∃ r, Blk w g t (arx n f r) ∧ B ≤ g := by
  rcases h.2 with ⟨e, _⟩ | ⟨g', cap', cur, e, hb, hh, hc, hm, hs, ht⟩
  · cases e
  · injection e with e1 e2 e3
    injection e1 with e1
    injection e1 with e1 _ _
    subst e1
    refine ⟨(cur.toList.drop n).toArray, ?_, hb⟩
    have : cur = arx n f (cur.toList.drop n).toArray := by
      apply Array.toList_inj.1
      unfold arx
      rw [Array.toList_append, ← ht, Nat.mul_one]
      simp
    unfold Blk
    rw [← this]; exact hh

/-- Of the blocks that were there only those of S may have turned. -/
structure Fr (S : List Nat) (w w' : World) : Prop where
  os : w'.os = w.os
  tape : w'.tape = w.tape
  output : w'.output = w.output
  size : w.heap.size ≤ w'.heap.size
  block : ∀ k, k < w.heap.size → k ∉ S → w'.heap[k]? = w.heap[k]?
section
variable {S : List Nat} {w w' w2 : World}
theorem Fr.refl (S : List Nat) (w : World) : Fr S w w := ⟨rfl, rfl, rfl, Nat.le_refl _, fun _ _ _ => rfl⟩
theorem Fr.trans (h : Fr S w w') (k : Fr S w' w2) : Fr S w w2 :=
  ⟨k.os.trans h.os, k.tape.trans h.tape, k.output.trans h.output, Nat.le_trans h.size k.size, fun i hi hS => (k.block i (Nat.lt_of_lt_of_le hi h.size) hS).trans (h.block i hi hS)⟩
theorem Fr.mono {S' : List Nat} (h : Fr S w w') (hS : ∀ k ∈ S, k ∈ S') : Fr S' w w' := ⟨h.os, h.tape, h.output, h.size, fun k hk hn => h.block k hk (fun hm => hn (hS k hm))⟩
theorem Fr.drew (h : Fr S w w') : Fr S w w'.drew := ⟨h.os, h.tape, h.output, h.size, h.block⟩
theorem Fr.drewN (h : Fr S w w') (n : Nat) : Fr S w (w'.drewN n) := ⟨h.os, h.tape, h.output, h.size, h.block⟩
theorem Fr.alloc (h : Fr S w w') (o : Obj) : Fr S w (w'.alloc o) :=
  h.trans ⟨rfl, rfl, rfl, by simp, fun k hk _ => Below.heap_alloc _ _ _ hk⟩
theorem Fr.setCell (h : Fr S w w') {p : Addr} (hp : p.block ∈ S ∨ w.heap.size ≤ p.block) (u : Value) : Fr S w (w'.setCell p u) :=
  ⟨h.os, h.tape, h.output, by simpa [World.setCell] using h.size, fun k hk hn => (Below.heap_setCell w' p u k (by
    rintro rfl
    rcases hp with hp | hp
    · exact hn hp
    · omega)).trans (h.block k hk hn)⟩
theorem Fr.of_below (S : List Nat) (h : Below w.heap.size w w') : Fr S w w' := ⟨h.os, h.tape, h.output, h.size, fun k hk _ => h.block k hk⟩
theorem Fr.below {B : Nat} (h : Fr S w w') (hS : ∀ k ∈ S, B ≤ k) (hB : B ≤ w.heap.size) : Below B w w' :=
  ⟨h.os, h.tape, h.output, h.size, fun k hk => h.block k (by omega) (fun hm => by have := hS k hm; omega)⟩
theorem Fr.grown {row : Option Nat} (h : w.grownBy w' row) (hr : ∀ k, row = some k → k ∈ S) : Fr S w w' :=
  ⟨h.os, h.tape, h.output, h.size, fun k hk hn => h.block k hk (fun e => hn (hr k e.symm))⟩
theorem Fr.lift {B : Nat} {w0 : World} (h : Below B w0 w) (k : Fr S w w') (hS : ∀ k ∈ S, B ≤ k) (hB : B ≤ w.heap.size) : Below B w0 w' := h.trans (k.below hS hB)
theorem Blk.fr {g : Nat} {t : TypeId} {cs : Array Value} (h : Blk w g t cs) (k : Fr S w w') (hg : g ∉ S) : Blk w' g t cs := (k.block g h.lt hg).trans h
theorem Blk.below {B g : Nat} {t : TypeId} {cs : Array Value} (h : Blk w g t cs) (k : Below B w w') (hg : g < B) : Blk w' g t cs := (k.block g hg).trans h
theorem own_fr {B : Nat} {E : TypeId} {sz n : Nat} {v : Value} {xs : List Value} (h : w.ownsRow B E sz v n xs) (k : Fr S w w') (hv : ∀ b, v.ownBlock = some b → b ∉ S) : w'.ownsRow B E sz v n xs := by
  refine ⟨h.1, ?_⟩
  rcases h.2 with hn | ⟨g, cap, cur, rfl, hb, hh, r⟩
  · exact .inl hn
  · exact .inr ⟨g, cap, cur, rfl, hb, (k.block g (Array.getElem?_eq_some_iff.1 hh).1 (hv g rfl)).trans hh, r⟩
theorem Rd.fr {A : Option Addr} {n sz : Nat} {xs : List Value} (h : Rd w A n sz xs) (k : Fr S w w') (hA : ∀ ad, A = some ad → ad.block ∉ S) : Rd w' A n sz xs :=
  ⟨h.1, fun hn => by
    obtain ⟨b, o, e, hlt, hc⟩ := h.2 hn
    exact ⟨b, o, e, Nat.lt_of_lt_of_le hlt k.size, fun j u hu => (World.cell?_of_block (k.block b hlt (hA _ e))).trans (hc j u hu)⟩⟩
theorem Blk.rd {g : Nat} {t : TypeId} {cs : Array Value} (h : Blk w g t cs) (n sz : Nat) (hs : cs.size = n * sz) : Rd w (some ⟨g, 0, none⟩) n sz cs.toList :=
  ⟨by simpa using hs, fun _ => ⟨g, 0, rfl, h.lt, fun j u hu => by rw [Nat.zero_add, h.cell]; simpa using hu⟩⟩
end
theorem run_make_ints (T E : TypeId) (i : TypeInfo) {P : Program} (ht : P.underlying T = some (.slice E)) (hi : P.info? E = some i) (hz : i.zero = some (.int .i64 0)) (h1 : i.size = 1) (h8 : i.bytes = 8)
    (n : Nat) (hn : n ≤ 1000000) (w : World) :
    (Instr.makeSlice T (.int .i64 (n : Int)) (.int .i64 (n : Int))).run P w = .ok (.slice (some ⟨w.heap.size, 0, none⟩) n n) (w.alloc (.cells (arr n fun _ => 0) E)) := by
  have hr := run_make (P := P) w T E i (.int .i64 0) ht hi hz .i64 .i64 n n (by omega) (by omega) (by rw [h8]; omega) (by omega)
  simp only [Int.toNat_natCast] at hr
  rw [hr, h1]
  have e : madeCells (Value.int .i64 0).cells (n * 1) = arr n fun _ => 0 := by
    rw [Nat.mul_one]
    apply Array.toList_inj.1
    have := toList_madeCells_one (.int .i64 0) n
    show (madeCells #[.int .i64 0] n).toList = _
    rw [this]
    simp [arr, List.map_const']
  rw [e]
theorem arr_congr {n : Nat} {f h : Nat → Nat} (e : ∀ i, i < n → f i = h i) : arr n f = arr n h := by
  have := arx_congr #[] e
  rwa [arx_nil, arx_nil] at this
theorem arr_is (n : Nat) (f : Nat → Nat) : (arr n f).toList = is ((List.range n).map fun i => ((f i : Nat) : Int)) := by simp [arr, is]
theorem Blk.isr {w : World} {g t n : Nat} {f : Nat → Nat} (h : Blk w g t (arr n f)) : Rd w (some ⟨g, 0, none⟩) n 1 (is ((List.range n).map fun i => ((f i : Nat) : Int))) := by
  rw [← arr_is]; exact h.rd n 1 (by simp [arr_size])
def arb (n : Nat) (f : Nat → Bool) : Array Value := ((List.range n).map fun i => Value.bool (f i)).toArray
theorem arb_size (n : Nat) (f : Nat → Bool) : (arb n f).size = n := by simp [arb]
theorem arb_get {n i : Nat} (f : Nat → Bool) (h : i < n) : (arb n f)[i]? = some (.bool (f i)) := by simp [arb, h]
def updb (f : Nat → Bool) (i : Nat) (v : Bool) : Nat → Bool := fun j => if j = i then v else f j
theorem arb_set (n : Nat) (f : Nat → Bool) (i : Nat) (v : Bool) : (arb n f).setIfInBounds i (.bool v) = arb n (updb f i v) := by
  apply Array.ext_getElem?
  intro j
  rw [Array.getElem?_setIfInBounds]
  by_cases hj : j < n
  · rw [arb_get _ hj, arb_get _ hj, arb_size]
    by_cases he : i = j
    · subst he; simp [hj, updb]
    · rw [if_neg he]; unfold updb; rw [if_neg (fun e => he e.symm)]
  · have e1 : (arb n f)[j]? = none := by simp [arb]; omega
    have e2 : (arb n (updb f i v))[j]? = none := by simp [arb]; omega
    rw [e1, e2, arb_size]
    split
    · rw [if_neg (by omega)]
    · rfl
theorem Blk.bool {w : World} {g t n : Nat} {f : Nat → Bool} (h : Blk w g t (arb n f)) {i : Nat} (hi : i < n) : w.cell? ⟨g, i, none⟩ = some (.bool (f i)) := by
  rw [h.cell, arb_get f hi]
theorem Blk.setBool {w : World} {g t n : Nat} {f : Nat → Bool} (h : Blk w g t (arb n f)) (i : Nat) (v : Bool) : Blk (w.setCell ⟨g, i, none⟩ (.bool v)) g t (arb n (updb f i v)) := by
  have := h.set_ i (.bool v)
  rwa [arb_set] at this
theorem run_make_bools (T E : TypeId) (i : TypeInfo) {P : Program} (ht : P.underlying T = some (.slice E)) (hi : P.info? E = some i) (hz : i.zero = some (.bool false)) (h1 : i.size = 1) (h8 : i.bytes = 1)
    (n : Nat) (hn : n ≤ 1000000) (w : World) :
    (Instr.makeSlice T (.int .i64 (n : Int)) (.int .i64 (n : Int))).run P w = .ok (.slice (some ⟨w.heap.size, 0, none⟩) n n) (w.alloc (.cells (arb n fun _ => false) E)) := by
  have hr := run_make (P := P) w T E i (.bool false) ht hi hz .i64 .i64 n n (by omega) (by omega) (by rw [h8]; omega) (by omega)
  simp only [Int.toNat_natCast] at hr
  rw [hr, h1]
  have e : madeCells (Value.bool false).cells (n * 1) = arb n fun _ => false := by
    rw [Nat.mul_one]
    apply Array.toList_inj.1
    have := toList_madeCells_one (.bool false) n
    show (madeCells #[.bool false] n).toList = _
    rw [this]
    simp [arb, List.map_const']
  rw [e]
theorem arr_snoc (k : Nat) (f : Nat → Nat) : (arr (k + 1) f).toList = (arr k f).toList ++ (#[Value.int .i64 (f k : Int)] : Array Value).toList := by simp [arr, List.range_succ]
theorem arr_nil (f : Nat → Nat) : (arr 0 f).toList = [] := by simp [arr]
theorem beq_nat_true {a b : Nat} (h : a = b) : ((a : Int) == (b : Int)) = true := by simp [h]
theorem beq_nat_false {a b : Nat} (h : a ≠ b) : ((a : Int) == (b : Int)) = false := by
  simpa using fun e : (a : Int) = (b : Int) => h (by omega)
theorem own_nil (w : World) (B : Nat) (E : TypeId) (sz : Nat) : w.ownsRow B E sz (.slice none 0 0) 0 [] := ⟨by simp, .inl ⟨rfl, rfl⟩⟩
theorem own_some {w : World} {B : Nat} {E : TypeId} {sz n : Nat} {v : Value} {xs : List Value} (h : w.ownsRow B E sz v n xs) (hv : v ≠ .slice none 0 0) : ∃ g cap, v = .slice (some ⟨g, 0, none⟩) n cap := by
  rcases h.2 with ⟨e, _⟩ | ⟨g, cap, cur, e, _⟩
  · exact absurd e hv
  · exact ⟨g, cap, e⟩
theorem is_append (a b : List Int) : is (a ++ b) = is a ++ is b := by simp [is]
theorem own_notBlk {w : World} {B g n sz : Nat} {E t : TypeId} {V : Value} {xs : List Value} {cs : Array Value} (h : w.ownsRow B E sz V n xs) (hb : Blk w g t cs) (hne : E ≠ t) : V.ownBlock ≠ some g := by
  rcases h.2 with ⟨rfl, _⟩ | ⟨g', cap, cur, rfl, _, hh, _⟩
  · simp [Value.ownBlock]
  · intro e
    have : g' = g := by simpa [Value.ownBlock] using e
    subst this
    unfold Blk at hb
    rw [hh] at hb
    injection hb with hb
    injection hb with _ hE
    exact hne hE
theorem Blk.grown {w w' : World} {g : Nat} {t : TypeId} {cs : Array Value} {row : Option Nat} (hb : Blk w g t cs) (h : w.grownBy w' row) (hne : row ≠ some g) : Blk w' g t cs :=
  (h.block g hb.lt (fun e => hne e.symm)).trans hb
theorem Fr.grow {S : List Nat} {w0 w w' : World} {row : Option Nat} (h : Fr S w0 w) (k : w.grownBy w' row) (hr : ∀ b, row = some b → w0.heap.size ≤ b) : Fr S w0 w' :=
  ⟨k.os.trans h.os, k.tape.trans h.tape, k.output.trans h.output, Nat.le_trans h.size k.size, fun i hi hS => (k.block i (Nat.lt_of_lt_of_le hi h.size) (fun e => by have := hr i e.symm; omega)).trans (h.block i hi hS)⟩
end Go.Proofs.YtoomcgmbaogjbaaDoor
