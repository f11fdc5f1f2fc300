/- A map of slices of pairs, of which nothing is told but that it is one. minimax.New: the two regions that append to a slice in a map, in whatever order. -/
import Derived.Test.YtoomcgmbaogjbaaDoorInfo
import Derived.Maps.OwnRows
import Derived.Test.YtoomcgmbaogjbaaDoorRecB
namespace Go.Proofs.YtoomcgmbaogjbaaDoor
open Go.RowKit
open Go.ChangeMaps Go.MapKept
open Go.WideElems (Fit rd rg pl rd_val)
open Go.Maps (Keyed)
set_option linter.unusedVariables false

theorem arm_info : (Tryd.prog.info? 57).map (fun i => (i.zero, i.size, i.bytes)) = some (some (.agg #[.int .i64 0, .int .i64 0]), 2, 16) := by kernel_rfl
def R0 (_ : Value) : Option (DataW Unit × List MemPlace) := some (.nil, [])
theorem kint : Keyed Tryd.prog 3 := Maps.int_keyed Tryd.underlying3
theorem zarm (w : World) : (zeroValue 55).run Tryd.prog w = .ok (.slice none 0 0) w := by kernel_rfl
/-- Block b is a map of at most n slices of pairs; no two of them lie in one block. -/
def GM (w : World) (B b n : Nat) : Prop := ∃ es clock, w.heap[b]? = some (.map es clock) ∧ Fit Tryd.prog 3 R0 es clock ∧ es.size ≤ n ∧ b < B ∧
  (∀ x ∈ es.toList, ∃ m xs, m ≤ n ∧ w.ownsRow B 57 2 x.val m xs) ∧
  ∀ x ∈ es.toList, ∀ y ∈ es.toList, x.key ≠ y.key → x.val.ownBlock = none ∨ x.val.ownBlock ≠ y.val.ownBlock
/-- A store at this key is possible once its row alone has been turned. -/
def GBack (w : World) (B b n : Nat) (u : Nat) (v : Value) : Prop := ∀ (w1 : World) (v' : Value) (m' : Nat) (xs' : List Value), w.grownBy w1 v.ownBlock → w1.ownsRow B 57 2 v' m' xs' → m' ≤ n + 1 → (v'.ownBlock = v.ownBlock ∨ ∃ g, v'.ownBlock = some g ∧ w.heap.size ≤ g) →
  ∃ w2, (Instr.mapUpdate 52 (.map (some b)) (.int .i64 (u : Int)) v').run Tryd.prog w1 = .ok () w2 ∧ GM w2 B b (n + 1) ∧ w1.grownBy w2 (some b)
theorem GM.made (w : World) {B : Nat} (hB : w.heap.size < B) : GM (w.alloc (.map #[] 0)) B w.heap.size 0 :=
  ⟨#[], 0, (MapKept.heap_alloc w _).1, ⟨by simp, stamped_empty 0, by simp⟩, Nat.le_refl _, hB, by simp, by simp⟩
section
variable {w w' : World} {B b n : Nat}
theorem GM.lt (h : GM w B b n) : b < w.heap.size := by
  obtain ⟨es, clock, hb, -⟩ := h
  exact (Array.getElem?_eq_some_iff.1 hb).1
theorem GM.mono (h : GM w B b n) {n' : Nat} (hn : n ≤ n') : GM w B b n' := by
  obtain ⟨es, clock, hb, F, hs, hbB, hr, hd⟩ := h
  exact ⟨es, clock, hb, F, by omega, hbB, fun x hx => by
    obtain ⟨m, xs, h1, h2⟩ := hr x hx
    exact ⟨m, xs, by omega, h2⟩, hd⟩
/-- New blocks alone. -/
theorem GM.kept (h : GM w B b n) (k : w.grownBy w' none) : GM w' B b n := by
  have hlt := h.lt
  obtain ⟨es, clock, hb, F, hs, hbB, hr, hd⟩ := h
  exact ⟨es, clock, (k.block b hlt (by simp)).trans hb, F, hs, hbB, fun x hx => by
    obtain ⟨m, xs, h1, h2⟩ := hr x hx
    exact ⟨m, xs, h1, h2.kept k (by cases x.val.ownBlock <;> simp)⟩, hd⟩
theorem GBack.kept {u : Nat} {v : Value} (h : GBack w B b n u v) (k : w.grownBy w' none) : GBack w' B b n u v := fun w1 v' m' xs' hg ho hm hl =>
  h w1 v' m' xs' ⟨hg.os.trans k.os, hg.tape.trans k.tape, hg.output.trans k.output, Nat.le_trans k.size hg.size, fun i hi hne => (hg.block i (Nat.lt_of_lt_of_le hi k.size) hne).trans (k.block i hi (by simp))⟩ ho hm
    (hl.imp id fun ⟨g, h1, h2⟩ => ⟨g, h1, Nat.le_trans k.size h2⟩)
theorem key_u (u : Nat) (hu : u < 1000000) : keyOf Tryd.prog 3 (.int .i64 (u : Int)) = some (.int .i64 (u : Int)) := by
  refine Maps.keyOf_int_mk Tryd.underlying3 ?_
  simp [Lit.wf, IntKind.min, IntKind.max, IntKind.signed, IntKind.bits]
  omega
theorem gm_back {es : Array MapEntry} {clock : Nat} {u : Nat} {v : Value} (hu : u < 1000000) (hb : w.heap[b]? = some (.map es clock)) (F : Fit Tryd.prog 3 R0 es clock) (hs : es.size ≤ n) (hn : n < 1000000) (hbb : b < B)
    (hr : ∀ x ∈ es.toList, ∃ m xs, m ≤ n ∧ w.ownsRow B 57 2 x.val m xs)
    (hap : ∀ x ∈ es.toList, ∀ y ∈ es.toList, x.key ≠ y.key → x.val.ownBlock = none ∨ x.val.ownBlock ≠ y.val.ownBlock)
    (hv : ∀ x ∈ es.toList, x.key ≠ .int .i64 (u : Int) → x.val.ownBlock = none ∨ x.val.ownBlock ≠ v.ownBlock) (hvb : v.ownBlock ≠ some b) : GBack w B b n u v := by
  intro w1 v' m' xs' hg hown' hl' hloc
  have hblt : b < w.heap.size := (Array.getElem?_eq_some_iff.1 hb).1
  have hb1 : w1.heap[b]? = some (.map es clock) := (hg.block b hblt (fun e1 => hvb e1.symm)).trans hb
  obtain ⟨es', clock', hrun, F', hput, _, _, hwho⟩ := Maps.fit_store (R' := R0) kint Tryd.underlying52 hb1 F (by unfold maxLen; omega) (fun _ _ _ _ h => h) (key_u u hu) (val := v') rfl
  have hg2 : w1.grownBy (setBlock w1 b (.map es' clock')) (some b) := ⟨rfl, rfl, rfl, by simp [setBlock], fun i _ hi => heap_setBlock_other hb1 _ (fun e1 => hi (by rw [e1]))⟩
  have own_ne : ∀ {x : Value} {m : Nat} {ys : List Value}, w1.ownsRow B 57 2 x m ys → x.ownBlock = none ∨ x.ownBlock ≠ some b := fun {x m ys} ho => by
    cases hx : x.ownBlock with
    | none => exact .inl rfl
    | some g =>
      refine .inr fun e1 => ?_
      have := (ho.lt g hx).1
      cases e1
      omega
  have old_new : ∀ x ∈ es.toList, x.key ≠ .int .i64 (u : Int) → x.val.ownBlock = none ∨ x.val.ownBlock ≠ v'.ownBlock := by
    intro x hx hne
    rcases hloc with h1 | ⟨g, h1, h2⟩
    · rw [h1]; exact hv x hx hne
    · cases hx' : x.val.ownBlock with
      | none => exact .inl rfl
      | some gx =>
        obtain ⟨m, ys, -, ho⟩ := hr x hx
        have := (ho.lt gx hx').2
        refine .inr fun e1 => ?_
        rw [h1] at e1
        cases e1
        omega
  refine ⟨_, hrun, ⟨es', clock', heap_setBlock_same hb1 _, F', ?_, hbb, ?_, ?_⟩, hg2⟩
  · have e1 : es'.size = ((es'.toList.map (rg Tryd.prog 3 R0)).foldr DataW.insert []).length := by rw [length_sorted]; simp
    rw [e1, hput]
    unfold putKey
    rw [length_insert]
    have e2 := List.length_filter_le (notKey (.int .i64 (u : Int))) ((es.toList.map (rg Tryd.prog 3 R0)).foldr DataW.insert [])
    rw [length_sorted] at e2
    simp at e2
    omega
  · intro x hx
    rcases hwho x hx with ⟨hx0, hne⟩ | ⟨_, hval⟩
    · obtain ⟨m, ys, h1, ho⟩ := hr x hx0
      have ho1 := ho.kept hg (hv x hx0 hne)
      exact ⟨m, ys, by omega, ho1.kept hg2 (own_ne ho1)⟩
    · rw [hval]
      exact ⟨m', xs', hl', hown'.kept hg2 (own_ne hown')⟩
  · intro x hx y hy hne
    rcases hwho x hx with ⟨hx0, hxk⟩ | ⟨hxk, hxv⟩ <;> rcases hwho y hy with ⟨hy0, hyk⟩ | ⟨hyk, hyv⟩
    · exact hap x hx0 y hy0 hne
    · rw [hyv]; exact old_new x hx0 hxk
    · rw [hxv]
      cases hv' : v'.ownBlock with
      | none => exact .inl rfl
      | some g =>
        refine .inr fun e1 => ?_
        rcases old_new y hy0 hyk with h | h
        · rw [h] at e1; cases e1
        · exact h (by rw [hv', e1])
    · exact absurd (hxk.trans hyk.symm) hne
/-- A look-up, and the way back. -/
theorem GM.at_ (h : GM w B b n) {u : Nat} (hu : u < 1000000) (hn : n < 1000000) :
    ∃ v m xs, (Instr.lookup 52 (.map (some b)) (.int .i64 (u : Int)) false).run Tryd.prog w = .ok v w ∧ w.ownsRow B 57 2 v m xs ∧ m ≤ n ∧ GBack w B b n u v := by
  obtain ⟨es, clock, hb, F, hs, hbb, hr, hap⟩ := h
  rcases Maps.fit_look false kint Tryd.underlying52 (zarm w) hb F (key_u u hu) with ⟨hrun, -, -⟩ | ⟨e0, y, hm0, h3, hrun, -, -, -⟩
  · refine ⟨.slice none 0 0, 0, [], hrun, World.ownsRow_nil _ _ _ _, Nat.zero_le _, gm_back hu hb F hs hn hbb hr hap (fun x _ _ => ?_) (by simp [Value.ownBlock])⟩
    cases x.val.ownBlock <;> simp [Value.ownBlock]
  · obtain ⟨m, xs, h1, ho⟩ := hr e0 hm0
    refine ⟨e0.val, m, xs, hrun, ho, h1, gm_back hu hb F hs hn hbb hr hap (fun x hx hne => hap x hx e0 hm0 (by rw [h3]; exact hne)) (fun e1 => ?_)⟩
    have := (ho.lt b e1).1
    omega
end
end Go.Proofs.YtoomcgmbaogjbaaDoor
namespace Go.Proofs.YtoomcgmbaogjbaaDoor
open Go.RowKit
set_option linter.unusedVariables false

def slM (s0 s : Nat) : Option Nat := if s0 ≤ s ∧ s < s0 + 16 then some (s - s0) else none
def mmM (s0 : Nat) (L : Array Bool) (V : Nat → Value) (s : Nat) : Option Value := (slM s0 s).bind fun j => if gd L j then some (V j) else none
theorem slM_iff {s0 i : Nat} (h : i < 16) (s : Nat) : slM s0 s = some i ↔ s = s0 + i := by
  unfold slM
  split
  · simp; omega
  · simp; omega
theorem mmM_put {s0 : Nat} {L : Array Bool} {V : Nat → Value} {i : Nat} (v : Value) (hi : i < L.size) (h16 : i < 16) (s : Nat) : (if s = s0 + i then some v else mmM s0 L V s) = mmM s0 (L.setIfInBounds i true) (updV V i v) s := by
  unfold mmM
  by_cases e : s = s0 + i
  · rw [if_pos e, (slM_iff h16 s).2 e]
    show some v = if gd (L.setIfInBounds i true) i then some (updV V i v i) else none
    rw [gd_set hi, if_pos rfl, if_pos rfl]
    unfold updV; rw [if_pos rfl]
  · rw [if_neg e]
    cases hs : slM s0 s with
    | none => rfl
    | some j =>
      have hj : j ≠ i := fun e2 => e ((slM_iff h16 s).1 (by rw [hs, e2]))
      show (if gd L j then some (V j) else none) = if gd (L.setIfInBounds i true) j then some (updV V i v j) else none
      rw [gd_set hi, if_neg hj]
      unfold updV; rw [if_neg hj]
/-- What is fixed. -/
def cstM (tr b ky ed en : Nat) (j : Nat) : Value :=
  if j = 0 ∨ j = 1 ∨ j = 5 ∨ j = 6 then .pointer (some ⟨tr, 0, none⟩) else if j = 2 ∨ j = 7 then .pointer (some ⟨tr, 8, none⟩) else if j = 3 ∨ j = 8 then .map (some b)
  else if j = 4 ∨ j = 9 then .int .i64 (ky : Int) else if j = 11 then .int .i64 (ed : Int) else if j = 12 then .int .i64 (en : Int) else .agg #[.int .i64 (ed : Int), .int .i64 (en : Int)]
/-- Below B nothing but block b has turned. -/
structure Kp (B b : Nat) (w w' : World) : Prop where
  os : w'.os = w.os
  tape : w'.tape = w.tape
  output : w'.output = w.output
  size : w.heap.size ≤ w'.heap.size
  block : ∀ k, k < B → k ≠ b → w'.heap[k]? = w.heap[k]?
theorem Kp.refl (B b : Nat) (w : World) : Kp B b w w := ⟨rfl, rfl, rfl, Nat.le_refl _, fun _ _ _ => rfl⟩
theorem Kp.drewN {B b : Nat} {w w' : World} (h : Kp B b w w') (n : Nat) : Kp B b w (w'.drewN n) := ⟨h.os, h.tape, h.output, h.size, h.block⟩
theorem Kp.trans {B b : Nat} {w w' w2 : World} (h : Kp B b w w') (k : Kp B b w' w2) : Kp B b w w2 := ⟨k.os.trans h.os, k.tape.trans h.tape, k.output.trans h.output, Nat.le_trans h.size k.size, fun i hi hne => (k.block i hi hne).trans (h.block i hi hne)⟩
theorem Kp.grown {B b : Nat} {w w' w2 : World} {row : Option Nat} (h : Kp B b w w') (k : w'.grownBy w2 row) (hB : B ≤ w.heap.size) (hr : ∀ j, row = some j → B ≤ j ∨ j = b) : Kp B b w w2 :=
  ⟨k.os.trans h.os, k.tape.trans h.tape, k.output.trans h.output, Nat.le_trans h.size k.size, fun i hi hne => (k.block i (by have := h.size; omega) (fun e => by
    rcases hr i e.symm with h1 | h1
    · omega
    · exact hne h1)).trans (h.block i hi hne)⟩
theorem Kp.bel {B b : Nat} {w w' : World} (h : Kp B b w w') (hb : b ≤ B) : Below b w w' := ⟨h.os, h.tape, h.output, h.size, fun k hk => h.block k (by omega) (by omega)⟩
theorem Kp.cell {B b : Nat} {w w' : World} (h : Kp B b w w') {p : Addr} (h1 : p.block < B) (h2 : p.block ≠ b) : w'.cell? p = w.cell? p := World.cell?_of_block (h.block _ h1 h2)
/-- The region on its way. -/
structure MS (a0 : Act) (w0 : World) (s0 tr b B n ky ed en : Nat) (L : Array Bool) (a : Act) (w : World) (V : Nat → Value) : Prop where
  ls : L.size = 17
  ov : Ov a0 a (mmM s0 L V)
  fx : ∀ j, j < 14 → j ≠ 10 → gd L j = true → V j = cstM tr b ky ed en j
  kp : Kp B b w0 w
  p1 : gd L 15 = false → gd L 10 = false → GM w B b n
  p2 : gd L 15 = false → gd L 10 = true → ∃ m xs, w.ownsRow B 57 2 (V 10) m xs ∧ m ≤ n ∧ GBack w B b n ky (V 10)
  p3 : gd L 15 = false → gd L 14 = true → ∃ g, V 14 = .slice (some ⟨g, 0, none⟩) 1 1 ∧ Blk w g 57 #[.int .i64 (ed : Int), .int .i64 (en : Int)]
  p4 : gd L 15 = true → gd L 16 = false → ∃ w2, (Instr.mapUpdate 52 (.map (some b)) (.int .i64 (ky : Int)) (V 15)).run Tryd.prog w = .ok () w2 ∧ GM w2 B b (n + 1) ∧ w.grownBy w2 (some b)
  p5 : gd L 16 = true → GM w B b (n + 1)
  p6 : gd L 15 = true → gd L 10 = true ∧ gd L 14 = true
  p7 : gd L 16 = true → gd L 15 = true
section
variable {a0 a : Act} {w0 w : World} {s0 tr b B n ky ed en : Nat} {L : Array Bool} {V : Nat → Value}
theorem MS.cst (h : MS a0 w0 s0 tr b B n ky ed en L a w V) {i : Nat} (hi : i < 14) (h10 : i ≠ 10) : MS a0 w0 s0 tr b B n ky ed en (L.setIfInBounds i true) (a.put (some (s0 + i)) (cstM tr b ky ed en i)) w (updV V i (cstM tr b ky ed en i)) := by
  have hs := h.ls
  have G := fun j => gd_set (L := L) (i := i) (by omega) j
  have G' : ∀ j, j ≠ i → gd (L.setIfInBounds i true) j = gd L j := fun j hj => by rw [G, if_neg hj]
  refine ⟨by simpa using hs, (h.ov.put _ _).congr fun s _ => by rw [mmM_put _ (by omega) (by omega)], fun j h1 h2 h3 => ?_, h.kp, ?_, ?_, ?_, ?_, ?_, ?_, ?_⟩
  · by_cases e : j = i
    · rw [e]; exact updV_eq
    · rw [updV_ne e]; rw [G' j e] at h3; exact h.fx j h1 h2 h3
  · rw [G' 15 (by omega), G' 10 (by omega)]; exact h.p1
  · rw [G' 15 (by omega), G' 10 (by omega), updV_ne (by omega)]; exact h.p2
  · rw [G' 15 (by omega), G' 14 (by omega), updV_ne (by omega)]; exact h.p3
  · rw [G' 15 (by omega), G' 16 (by omega), updV_ne (by omega)]; exact h.p4
  · rw [G' 16 (by omega)]; exact h.p5
  · rw [G' 15 (by omega), G' 10 (by omega), G' 14 (by omega)]; exact h.p6
  · rw [G' 16 (by omega), G' 15 (by omega)]; exact h.p7
theorem MS.n15 (h : MS a0 w0 s0 tr b B n ky ed en L a w V) {i : Nat} (hi : i = 10 ∨ i = 14) (hL : gd L i = false) : gd L 15 = false := by
  cases e : gd L 15 with
  | false => rfl
  | true =>
    have := h.p6 e
    rcases hi with rfl | rfl
    · rw [this.1] at hL; cases hL
    · rw [this.2] at hL; cases hL
theorem MS.n16 (h : MS a0 w0 s0 tr b B n ky ed en L a w V) (hL : gd L 15 = false) : gd L 16 = false := by
  cases e : gd L 16 with
  | false => rfl
  | true => rw [h.p7 e] at hL; cases hL
/-- The look-up. -/
theorem MS.look (h : MS a0 w0 s0 tr b B n ky ed en L a w V) (hL : gd L 10 = false) (hk : ky < 1000000) (hn : n < 1000000) : ∃ v, (Instr.lookup 52 (.map (some b)) (.int .i64 (ky : Int)) false).run Tryd.prog w = .ok v w ∧ MS a0 w0 s0 tr b B n ky ed en (L.setIfInBounds 10 true) (a.put (some (s0 + 10)) v) w (updV V 10 v) := by
  have hs := h.ls
  have G := fun j => gd_set (L := L) (i := 10) (by omega) j
  have G' : ∀ j, j ≠ 10 → gd (L.setIfInBounds 10 true) j = gd L j := fun j hj => by rw [G, if_neg hj]
  have n15 := h.n15 (.inl rfl) hL
  have n16 := h.n16 n15
  obtain ⟨v, m, xs, hrun, ho, hm, hback⟩ := (h.p1 n15 hL).at_ hk hn
  refine ⟨v, hrun, by simpa using hs, (h.ov.put _ _).congr fun s _ => by rw [mmM_put _ (by omega) (by omega)], fun j h1 h2 h3 => ?_, h.kp, ?_, ?_, ?_, ?_, ?_, ?_, ?_⟩
  · rw [updV_ne h2]; rw [G' j h2] at h3; exact h.fx j h1 h2 h3
  · intro _ e; rw [G, if_pos rfl] at e; cases e
  · intro _ _; rw [updV_eq]; exact ⟨m, xs, ho, hm, hback⟩
  · rw [G' 15 (by omega), G' 14 (by omega), updV_ne (by omega)]; exact h.p3
  · intro e; rw [G' 15 (by omega), n15] at e; cases e
  · intro e; rw [G' 16 (by omega), n16] at e; cases e
  · intro e; rw [G' 15 (by omega), n15] at e; cases e
  · intro e; rw [G' 16 (by omega), n16] at e; cases e
/-- The pair is laid. -/
theorem MS.lay (h : MS a0 w0 s0 tr b B n ky ed en L a w V) (hL : gd L 14 = false) (hB : B ≤ w0.heap.size) : MS a0 w0 s0 tr b B n ky ed en (L.setIfInBounds 14 true) (a.put (some (s0 + 14)) (.slice (some ⟨w.heap.size, 0, none⟩) 1 1)) (w.alloc (.cells #[.int .i64 (ed : Int), .int .i64 (en : Int)] 57)) (updV V 14 (.slice (some ⟨w.heap.size, 0, none⟩) 1 1)) := by
  have hs := h.ls
  have G := fun j => gd_set (L := L) (i := 14) (by omega) j
  have G' : ∀ j, j ≠ 14 → gd (L.setIfInBounds 14 true) j = gd L j := fun j hj => by rw [G, if_neg hj]
  have n15 := h.n15 (.inr rfl) hL
  have n16 := h.n16 n15
  have hg := World.grownBy_alloc w (.cells #[.int .i64 (ed : Int), .int .i64 (en : Int)] 57) none
  refine ⟨by simpa using hs, (h.ov.put _ _).congr fun s _ => by rw [mmM_put _ (by omega) (by omega)], fun j h1 h2 h3 => ?_, h.kp.grown hg hB (fun j e => by cases e), ?_, ?_, ?_, ?_, ?_, ?_, ?_⟩
  · rw [updV_ne (by omega)]; rw [G' j (by omega)] at h3; exact h.fx j h1 h2 h3
  · rw [G' 15 (by omega), G' 10 (by omega)]; exact fun e1 e2 => (h.p1 e1 e2).kept hg
  · rw [G' 15 (by omega), G' 10 (by omega), updV_ne (by omega)]
    intro e1 e2
    obtain ⟨m, xs, ho, hm, hback⟩ := h.p2 e1 e2
    exact ⟨m, xs, ho.alloc _, hm, hback.kept hg⟩
  · intro _ _; rw [updV_eq]; exact ⟨_, rfl, Blk.new _ _ _⟩
  · intro e; rw [G' 15 (by omega), n15] at e; cases e
  · intro e; rw [G' 16 (by omega), n16] at e; cases e
  · intro e; rw [G' 15 (by omega), n15] at e; cases e
  · intro e; rw [G' 16 (by omega), n16] at e; cases e
/-- The append. -/
theorem MS.app (h : MS a0 w0 s0 tr b B n ky ed en L a w V) (hL : gd L 15 = false) (h10 : gd L 10 = true) (h14 : gd L 14 = true) (hn : n < 1000000) (hB : B ≤ w0.heap.size) (ty : TypeId) : ∃ v w', (Builtin.append_ #[55, 55] ty #[V 10, V 14]).run Tryd.prog w = .ok v w' ∧ MS a0 w0 s0 tr b B n ky ed en (L.setIfInBounds 15 true) (a.put (some (s0 + 15)) v) w' (updV V 15 v) := by
  have hs := h.ls
  have G := fun j => gd_set (L := L) (i := 15) (by omega) j
  have G' : ∀ j, j ≠ 15 → gd (L.setIfInBounds 15 true) j = gd L j := fun j hj => by rw [G, if_neg hj]
  have n16 := h.n16 hL
  obtain ⟨m, xs, ho, hm, hback⟩ := h.p2 hL h10
  obtain ⟨g, e14, hblk⟩ := h.p3 hL h14
  obtain ⟨i0, hi, hz0, hz1, hz2⟩ := info_parts arm_info
  obtain ⟨v, w', hrun, o1, o2, -, o4⟩ := run_append_own_at (P := Tryd.prog) w B 55 ty 57 i0 _ 2 16 Tryd.underlying55 hi hz0 hz1 hz2 rfl (by decide) (V 10) m xs ho ⟨g, 0, none⟩ 1 1 [.int .i64 (ed : Int), .int .i64 (en : Int)] rfl
    (fun j u hu => by rw [Addr.add_lit, Nat.zero_add, hblk.cell]; simpa using hu) (by simp [Value.oneCell']) (by have : maxLen = 9223372036854775807 := rfl; omega) (by omega) (Nat.le_trans hB h.kp.size)
  rw [← e14] at hrun
  obtain ⟨w2, u1, u2, u3⟩ := hback w' v (m + 1) _ o2 o1 (by omega) (o4.imp id fun e => ⟨_, e, Nat.le_refl _⟩)
  refine ⟨v, w', hrun, by simpa using hs, (h.ov.put _ _).congr fun s _ => by rw [mmM_put _ (by omega) (by omega)], fun j h1 h2 h3 => ?_, h.kp.grown o2 hB (fun j e => .inl (ho.lt j e).1), ?_, ?_, ?_, ?_, ?_, ?_, ?_⟩
  · rw [updV_ne (by omega)]; rw [G' j (by omega)] at h3; exact h.fx j h1 h2 h3
  · intro e; rw [G, if_pos rfl] at e; cases e
  · intro e; rw [G, if_pos rfl] at e; cases e
  · intro e; rw [G, if_pos rfl] at e; cases e
  · intro _ _; rw [updV_eq]; exact ⟨w2, u1, u2, u3⟩
  · intro e; rw [G' 16 (by omega), n16] at e; cases e
  · intro _; rw [G' 10 (by omega), G' 14 (by omega)]; exact ⟨h10, h14⟩
  · intro e; rw [G' 16 (by omega), n16] at e; cases e
/-- The store. -/
theorem MS.sto (h : MS a0 w0 s0 tr b B n ky ed en L a w V) (h15 : gd L 15 = true) (hL : gd L 16 = false) (hB : B ≤ w0.heap.size) : ∃ w', (Instr.mapUpdate 52 (.map (some b)) (.int .i64 (ky : Int)) (V 15)).run Tryd.prog w = .ok () w' ∧ MS a0 w0 s0 tr b B n ky ed en (L.setIfInBounds 16 true) (a.put none undef) w' V := by
  have hs := h.ls
  have G := fun j => gd_set (L := L) (i := 16) (by omega) j
  have G' : ∀ j, j ≠ 16 → gd (L.setIfInBounds 16 true) j = gd L j := fun j hj => by rw [G, if_neg hj]
  obtain ⟨w2, u1, u2, u3⟩ := h.p4 h15 hL
  have hmm : ∀ s, mmM s0 L V s = mmM s0 (L.setIfInBounds 16 true) V s := fun s => by
    unfold mmM
    cases hs2 : slM s0 s with
    | none => rfl
    | some j =>
      have hj : j ≠ 16 := fun e => by
        subst e
        unfold slM at hs2
        split at hs2
        · simp at hs2; omega
        · simp at hs2
      show (if gd L j then some (V j) else none) = if gd (L.setIfInBounds 16 true) j then some (V j) else none
      rw [G' j hj]
  refine ⟨w2, u1, by simpa using hs, h.ov.congr fun s _ => by rw [hmm], fun j h1 h2 h3 => ?_, h.kp.grown u3 hB (fun j e => .inr (Option.some.inj e).symm), ?_, ?_, ?_, ?_, ?_, ?_, ?_⟩
  · rw [G' j (by omega)] at h3; exact h.fx j h1 h2 h3
  · intro e; rw [G' 15 (by omega), h15] at e; cases e
  · intro e; rw [G' 15 (by omega), h15] at e; cases e
  · intro e; rw [G' 15 (by omega), h15] at e; cases e
  · intro _ e; rw [G, if_pos rfl] at e; cases e
  · intro _; exact u2
  · rw [G' 15 (by omega), G' 10 (by omega), G' 14 (by omega)]; exact h.p6
  · intro _; rw [G' 15 (by omega)]; exact h15
theorem MS.start (a0 : Act) (w0 : World) (s0 tr b B n ky ed en : Nat) (h : GM w0 B b n) : MS a0 w0 s0 tr b B n ky ed en (Array.replicate 17 false) a0 w0.drew (fun _ => undef) := by
  have hg : ∀ j, gd (Array.replicate 17 false) j ≠ true := fun j => by
    unfold gd
    rw [Array.getD_eq_getD_getElem?, Array.getElem?_replicate]
    split <;> simp
  refine ⟨by simp, (Ov.start a0).congr fun s _ => ?_, fun j _ _ h => absurd h (hg _), (Kp.refl B b w0).drewN 1, fun _ _ => h.kept ⟨rfl, rfl, rfl, Nat.le_refl _, fun _ _ _ => rfl⟩, fun _ h => absurd h (hg _), fun _ h => absurd h (hg _), fun h => absurd h (hg _), fun h => absurd h (hg _), fun h => absurd h (hg _), fun h => absurd h (hg _)⟩
  have : mmM s0 (Array.replicate 17 false) (fun _ => undef) s = none := by
    unfold mmM
    cases slM s0 s with
    | none => rfl
    | some j => show (if gd (Array.replicate 17 false) j then _ else none) = none; rw [if_neg (hg j)]
  rw [this]
theorem MS.val (h : MS a0 w0 s0 tr b B n ky ed en L a w V) {s i : Nat} (hs : s < a0.tmps.size) (e : s = s0 + i) (hi : i < 16) (hL : gd L i = true) : a.eval (.tmp s) = V i := by
  rw [h.ov.eval hs]
  unfold mmM
  rw [(slM_iff hi s).2 e]
  show ((if gd L i then some (V i) else none).getD _) = V i
  rw [if_pos hL]; rfl
theorem MS.cv (h : MS a0 w0 s0 tr b B n ky ed en L a w V) {s i : Nat} (hs : s < a0.tmps.size) (e : s = s0 + i) (hi : i < 14) (h10 : i ≠ 10) (hL : gd L i = true) : a.eval (.tmp s) = cstM tr b ky ed en i :=
  (h.val hs e (by omega) hL).trans (h.fx i hi h10 hL)
theorem MS.old (h : MS a0 w0 s0 tr b B n ky ed en L a w V) {s : Nat} (hs : s < a0.tmps.size) (hlt : s < s0) : a.eval (.tmp s) = a0.eval (.tmp s) := h.ov.old hs (by
  unfold mmM slM
  rw [if_neg (by omega)]; rfl)
end

theorem MS.frame15 {a0 a : Act} {w0 w : World} {tr b B n ky ed en : Nat} {L : Array Bool} {V : Nat → Value} (h : MS a0 w0 64 tr b B n ky ed en L a w V) (hall : ∀ j, j < 17 → gd L j = true) :
    a = ((((((((((((((((a0.put (some 64) (V 0)).put (some 65) (V 1)).put (some 66) (V 2)).put (some 67) (V 3)).put (some 68) (V 4)).put (some 69) (V 5)).put (some 70) (V 6)).put (some 71) (V 7)).put (some 72) (V 8)).put (some 73) (V 9)).put (some 74) (V 10)).put (some 75) (V 11)).put (some 76) (V 12)).put (some 77) (V 13)).put (some 78) (V 14)).put (some 79) (V 15)) := by
  refine h.ov.eq (Ov.congr (((((((((((((((((Ov.start a0).put 64 (V 0)).put 65 (V 1)).put 66 (V 2)).put 67 (V 3)).put 68 (V 4)).put 69 (V 5)).put 70 (V 6)).put 71 (V 7)).put 72 (V 8)).put 73 (V 9)).put 74 (V 10)).put 75 (V 11)).put 76 (V 12)).put 77 (V 13)).put 78 (V 14)).put 79 (V 15)) fun s _ => ?_)
  congr 1
  unfold mmM slM
  by_cases h1 : 64 ≤ s ∧ s < 64 + 16
  · rw [if_pos h1]
    show _ = if gd L (s - 64) then some (V (s - 64)) else none
    rw [if_pos (hall _ (by omega))]
    rcases (show s = 64 ∨ s = 65 ∨ s = 66 ∨ s = 67 ∨ s = 68 ∨ s = 69 ∨ s = 70 ∨ s = 71 ∨ s = 72 ∨ s = 73 ∨ s = 74 ∨ s = 75 ∨ s = 76 ∨ s = 77 ∨ s = 78 ∨ s = 79 by omega) with rfl | rfl | rfl | rfl | rfl | rfl | rfl | rfl | rfl | rfl | rfl | rfl | rfl | rfl | rfl | rfl <;> rfl
  · rw [if_neg h1]
    rw [if_neg (by omega), if_neg (by omega), if_neg (by omega), if_neg (by omega), if_neg (by omega), if_neg (by omega), if_neg (by omega), if_neg (by omega), if_neg (by omega), if_neg (by omega), if_neg (by omega), if_neg (by omega), if_neg (by omega), if_neg (by omega), if_neg (by omega), if_neg (by omega)]
    rfl
noncomputable def mapOps15 : Option (Array Oper) := Tryd.f4.body.bind (regOps 15)
set_option maxRecDepth 100000 in
set_option maxHeartbeats 4000000 in
theorem mapReg15 (id : Nat) (ops : Array Oper) (hops : mapOps15 = some ops) (Q : Exit → Act → World → Prop) (a0 : Act) (w0 : World) (tr b B n ky ed en : Nat) (h100 : a0.tmps.size = 100)
    (e10 : a0.eval (.tmp 10) = .pointer (some ⟨tr, 0, none⟩)) (e12 : a0.eval (.tmp 12) = .int .i64 (ed : Int)) (ek : a0.eval (.tmp 13) = .int .i64 (ky : Int)) (ee : a0.eval (.tmp 14) = .int .i64 (en : Int))
    (hgm : GM w0 B b n) (hB : B ≤ w0.heap.size) (ht : w0.cell? ⟨tr, 8, none⟩ = some (.map (some b))) (htB : tr < B) (htb : tr ≠ b) (hk : ky < 1000000) (hn : n < 1000000)
    (hQ : ∀ (w : World) (V : Nat → Value), GM w B b (n + 1) → Kp B b w0 w → Q .normal ((((((((((((((((a0.put (some 64) (V 0)).put (some 65) (V 1)).put (some 66) (V 2)).put (some 67) (V 3)).put (some 68) (V 4)).put (some 69) (V 5)).put (some 70) (V 6)).put (some 71) (V 7)).put (some 72) (V 8)).put (some 73) (V 9)).put (some 74) (V 10)).put (some 75) (V 11)).put (some 76) (V 12)).put (some 77) (V 13)).put (some 78) (V 14)).put (some 79) (V 15)) w) : (Code.region id ops true).wp Tryd.prog Q a0 w0 := by
  obtain rfl := Option.some.inj hops
  clear hops
  refine wp_region_any (by kernel_rfl) (wpAny_inv (fun L a w => ∃ V, MS a0 w0 64 tr b B n ky ed en L a w V) ?_ ?_ _ _ _ _ ⟨_, MS.start a0 w0 64 tr b B n ky ed en hgm⟩ (by decide))
  · rintro L a w ⟨V, h⟩ i hi
    have hlt := (ready_false hi).1
    have E10 : a.eval (.tmp 10) = .pointer (some ⟨tr, 0, none⟩) := (h.old (by omega) (by omega)).trans e10
    have E12 : a.eval (.tmp 12) = .int .i64 (ed : Int) := (h.old (by omega) (by omega)).trans e12
    have EK : a.eval (.tmp 13) = .int .i64 (ky : Int) := (h.old (by omega) (by omega)).trans ek
    have EE : a.eval (.tmp 14) = .int .i64 (en : Int) := (h.old (by omega) (by omega)).trans ee
    have hc : w.cell? ⟨tr, 8, none⟩ = some (.map (some b)) := (h.kp.cell (p := ⟨tr, 8, none⟩) htB htb).trans ht
    change i < 17 at hlt
    rcases (show i = 0 ∨ i = 1 ∨ i = 2 ∨ i = 3 ∨ i = 4 ∨ i = 5 ∨ i = 6 ∨ i = 7 ∨ i = 8 ∨ i = 9 ∨ i = 10 ∨ i = 11 ∨ i = 12 ∨ i = 13 ∨ i = 14 ∨ i = 15 ∨ i = 16 by omega) with rfl | rfl | rfl | rfl | rfl | rfl | rfl | rfl | rfl | rfl | rfl | rfl | rfl | rfl | rfl | rfl | rfl
    all_goals have hd := ready_dep hi rfl
    · exact wpOp_at rfl rfl _ _ ((ex_move _ _ _ _ rfl _).trans (by rw [E10]; rfl)) ⟨_, h.cst (i := 0) (by omega) (by omega)⟩
    · have h1 : gd L 0 = true := by simpa [Region.binds, and_assoc] using hd.1
      have F0 : a.eval (.tmp 64) = cstM tr b ky ed en 0 := h.cv (i := 0) (by omega) rfl (by omega) (by omega) h1
      refine wpOp_at rfl rfl _ _ ?_ ⟨_, h.cst (i := 1) (by omega) (by omega)⟩
      simp only [cstM] at *
      generalize a.eval = ρ at *
      clear hd hi h h1 hQ
      unfold execOp
      go_simp
    · have h1 : gd L 1 = true := by simpa [Region.binds, and_assoc] using hd.1
      have F1 : a.eval (.tmp 65) = cstM tr b ky ed en 1 := h.cv (i := 1) (by omega) rfl (by omega) (by omega) h1
      refine wpOp_at rfl rfl _ _ ?_ ⟨_, h.cst (i := 2) (by omega) (by omega)⟩
      simp only [cstM] at *
      generalize a.eval = ρ at *
      clear hd hi h h1 hQ
      unfold execOp
      go_simp
    · have h1 : gd L 2 = true := by simpa [Region.binds, and_assoc] using hd.1
      have F2 : a.eval (.tmp 66) = cstM tr b ky ed en 2 := h.cv (i := 2) (by omega) rfl (by omega) (by omega) h1
      refine wpOp_at rfl rfl _ _ ?_ ⟨_, h.cst (i := 3) (by omega) (by omega)⟩
      simp only [cstM] at *
      generalize a.eval = ρ at *
      clear hd hi h h1 hQ
      unfold execOp
      go_simp
    · exact wpOp_at rfl rfl _ _ ((ex_move _ _ _ _ rfl _).trans (by rw [EK]; rfl)) ⟨_, h.cst (i := 4) (by omega) (by omega)⟩
    · exact wpOp_at rfl rfl _ _ ((ex_move _ _ _ _ rfl _).trans (by rw [E10]; rfl)) ⟨_, h.cst (i := 5) (by omega) (by omega)⟩
    · have h1 : gd L 5 = true := by simpa [Region.binds, and_assoc] using hd.1
      have F5 : a.eval (.tmp 69) = cstM tr b ky ed en 5 := h.cv (i := 5) (by omega) rfl (by omega) (by omega) h1
      refine wpOp_at rfl rfl _ _ ?_ ⟨_, h.cst (i := 6) (by omega) (by omega)⟩
      simp only [cstM] at *
      generalize a.eval = ρ at *
      clear hd hi h h1 hQ
      unfold execOp
      go_simp
    · have h1 : gd L 6 = true := by simpa [Region.binds, and_assoc] using hd.1
      have F6 : a.eval (.tmp 70) = cstM tr b ky ed en 6 := h.cv (i := 6) (by omega) rfl (by omega) (by omega) h1
      refine wpOp_at rfl rfl _ _ ?_ ⟨_, h.cst (i := 7) (by omega) (by omega)⟩
      simp only [cstM] at *
      generalize a.eval = ρ at *
      clear hd hi h h1 hQ
      unfold execOp
      go_simp
    · have h1 : gd L 7 = true := by simpa [Region.binds, and_assoc] using hd.1
      have F7 : a.eval (.tmp 71) = cstM tr b ky ed en 7 := h.cv (i := 7) (by omega) rfl (by omega) (by omega) h1
      refine wpOp_at rfl rfl _ _ ?_ ⟨_, h.cst (i := 8) (by omega) (by omega)⟩
      simp only [cstM] at *
      generalize a.eval = ρ at *
      clear hd hi h h1 hQ
      unfold execOp
      go_simp
    · exact wpOp_at rfl rfl _ _ ((ex_move _ _ _ _ rfl _).trans (by rw [EK]; rfl)) ⟨_, h.cst (i := 9) (by omega) (by omega)⟩
    · have h1 : gd L 8 = true ∧ gd L 9 = true := by simpa [Region.binds, and_assoc] using hd.1
      have F8 : a.eval (.tmp 72) = cstM tr b ky ed en 8 := h.cv (i := 8) (by omega) rfl (by omega) (by omega) h1.1
      have F9 : a.eval (.tmp 73) = cstM tr b ky ed en 9 := h.cv (i := 9) (by omega) rfl (by omega) (by omega) h1.2
      obtain ⟨v, hrun, hms⟩ := h.look hd.2 hk hn
      refine wpOp_at rfl rfl v w ?_ ⟨_, hms⟩
      simp only [cstM] at F8 F9
      generalize a.eval = ρ at *
      clear hd hi h h1 hQ hms hgm
      unfold execOp
      simp [F8, F9, hrun, Result.andThen]
    · exact wpOp_at rfl rfl _ _ ((ex_move _ _ _ _ rfl _).trans (by rw [E12]; rfl)) ⟨_, h.cst (i := 11) (by omega) (by omega)⟩
    · exact wpOp_at rfl rfl _ _ ((ex_move _ _ _ _ rfl _).trans (by rw [EE]; rfl)) ⟨_, h.cst (i := 12) (by omega) (by omega)⟩
    · have h1 : gd L 11 = true ∧ gd L 12 = true := by simpa [Region.binds, and_assoc] using hd.1
      have F11 : a.eval (.tmp 75) = cstM tr b ky ed en 11 := h.cv (i := 11) (by omega) rfl (by omega) (by omega) h1.1
      have F12 : a.eval (.tmp 76) = cstM tr b ky ed en 12 := h.cv (i := 12) (by omega) rfl (by omega) (by omega) h1.2
      refine wpOp_at rfl rfl _ _ ?_ ⟨_, h.cst (i := 13) (by omega) (by omega)⟩
      simp only [cstM] at *
      generalize a.eval = ρ at *
      clear hd hi h h1 hQ
      unfold execOp
      go_simp
    · have h1 : gd L 13 = true := by simpa [Region.binds, and_assoc] using hd.1
      have F13 : a.eval (.tmp 77) = cstM tr b ky ed en 13 := h.cv (i := 13) (by omega) rfl (by omega) (by omega) h1
      refine wpOp_at rfl rfl _ _ ?_ ⟨_, h.lay hd.2 hB⟩
      simp only [cstM] at F13
      generalize a.eval = ρ at *
      clear hd hi h h1 hQ hgm
      unfold execOp
      go_simp
    · have h1 : gd L 10 = true ∧ gd L 14 = true := by simpa [Region.binds, and_assoc] using hd.1
      have F10 : a.eval (.tmp 74) = V 10 := h.val (i := 10) (by omega) rfl (by omega) h1.1
      have F14 : a.eval (.tmp 78) = V 14 := h.val (i := 14) (by omega) rfl (by omega) h1.2
      obtain ⟨v, w', hrun, hms⟩ := h.app hd.2 h1.1 h1.2 hn hB 55
      refine wpOp_at rfl rfl v w' ?_ ⟨_, hms⟩
      generalize a.eval = ρ at *
      clear hd hi h h1 hQ hms hgm
      unfold execOp
      simp [resolve, invoke, builtin, F10, F14, hrun, Result.andThen]
    · have h1 := hd.1
      simp [Region.binds] at h1
      have h3 : gd L 3 = true := by simp only [h1]
      have h4 : gd L 4 = true := by simp only [h1]
      have h15 : gd L 15 = true := by simp only [h1]
      have F3 : a.eval (.tmp 67) = cstM tr b ky ed en 3 := h.cv (i := 3) (by omega) rfl (by omega) (by omega) h3
      have F4 : a.eval (.tmp 68) = cstM tr b ky ed en 4 := h.cv (i := 4) (by omega) rfl (by omega) (by omega) h4
      have F15 : a.eval (.tmp 79) = V 15 := h.val (i := 15) (by omega) rfl (by omega) h15
      obtain ⟨w', hrun, hms⟩ := h.sto h15 hd.2 hB
      refine wpOp_skip rfl rfl w' ?_ ⟨_, hms⟩
      simp only [cstM] at F3 F4
      generalize a.eval = ρ at *
      clear hd hi h h1 hQ hms hgm
      unfold execOp
      simp [F3, F4, F15, hrun, Result.andThen]
  · rintro L a w ⟨V, h⟩ hr
    have hs : ∀ {i : Nat} {o : Oper}, _ := fun {i o} => ready_none (i := i) (o := o) hr h.ls
    have g0 : gd L 0 = true := hs rfl (by simp)
    have g4 : gd L 4 = true := hs rfl (by simp)
    have g5 : gd L 5 = true := hs rfl (by simp)
    have g9 : gd L 9 = true := hs rfl (by simp)
    have g11 : gd L 11 = true := hs rfl (by simp)
    have g12 : gd L 12 = true := hs rfl (by simp)
    have g1 : gd L 1 = true := hs rfl (by simp [g0])
    have g2 : gd L 2 = true := hs rfl (by simp [g1])
    have g3 : gd L 3 = true := hs rfl (by simp [g2])
    have g6 : gd L 6 = true := hs rfl (by simp [g5])
    have g7 : gd L 7 = true := hs rfl (by simp [g6])
    have g8 : gd L 8 = true := hs rfl (by simp [g7])
    have g10 : gd L 10 = true := hs rfl (by simp [g8, g9])
    have g13 : gd L 13 = true := hs rfl (by simp [g11, g12])
    have g14 : gd L 14 = true := hs rfl (by simp [g13])
    have g15 : gd L 15 = true := hs rfl (by simp [g10, g14])
    have g16 : gd L 16 = true := hs rfl (by simp [g0, g1, g2, g3, g4, g5, g6, g7, g8, g9, g10, g11, g12, g13, g14, g15])
    have hall : ∀ j, j < 17 → gd L j = true := fun j hj => by
      rcases (show j = 0 ∨ j = 1 ∨ j = 2 ∨ j = 3 ∨ j = 4 ∨ j = 5 ∨ j = 6 ∨ j = 7 ∨ j = 8 ∨ j = 9 ∨ j = 10 ∨ j = 11 ∨ j = 12 ∨ j = 13 ∨ j = 14 ∨ j = 15 ∨ j = 16 by omega) with rfl | rfl | rfl | rfl | rfl | rfl | rfl | rfl | rfl | rfl | rfl | rfl | rfl | rfl | rfl | rfl | rfl <;> assumption
    rw [h.frame15 hall]
    exact hQ w V (h.p5 g16) h.kp

theorem MS.frame16 {a0 a : Act} {w0 w : World} {tr b B n ky ed en : Nat} {L : Array Bool} {V : Nat → Value} (h : MS a0 w0 80 tr b B n ky ed en L a w V) (hall : ∀ j, j < 17 → gd L j = true) :
    a = ((((((((((((((((a0.put (some 80) (V 0)).put (some 81) (V 1)).put (some 82) (V 2)).put (some 83) (V 3)).put (some 84) (V 4)).put (some 85) (V 5)).put (some 86) (V 6)).put (some 87) (V 7)).put (some 88) (V 8)).put (some 89) (V 9)).put (some 90) (V 10)).put (some 91) (V 11)).put (some 92) (V 12)).put (some 93) (V 13)).put (some 94) (V 14)).put (some 95) (V 15)) := by
  refine h.ov.eq (Ov.congr (((((((((((((((((Ov.start a0).put 80 (V 0)).put 81 (V 1)).put 82 (V 2)).put 83 (V 3)).put 84 (V 4)).put 85 (V 5)).put 86 (V 6)).put 87 (V 7)).put 88 (V 8)).put 89 (V 9)).put 90 (V 10)).put 91 (V 11)).put 92 (V 12)).put 93 (V 13)).put 94 (V 14)).put 95 (V 15)) fun s _ => ?_)
  congr 1
  unfold mmM slM
  by_cases h1 : 80 ≤ s ∧ s < 80 + 16
  · rw [if_pos h1]
    show _ = if gd L (s - 80) then some (V (s - 80)) else none
    rw [if_pos (hall _ (by omega))]
    rcases (show s = 80 ∨ s = 81 ∨ s = 82 ∨ s = 83 ∨ s = 84 ∨ s = 85 ∨ s = 86 ∨ s = 87 ∨ s = 88 ∨ s = 89 ∨ s = 90 ∨ s = 91 ∨ s = 92 ∨ s = 93 ∨ s = 94 ∨ s = 95 by omega) with rfl | rfl | rfl | rfl | rfl | rfl | rfl | rfl | rfl | rfl | rfl | rfl | rfl | rfl | rfl | rfl <;> rfl
  · rw [if_neg h1]
    rw [if_neg (by omega), if_neg (by omega), if_neg (by omega), if_neg (by omega), if_neg (by omega), if_neg (by omega), if_neg (by omega), if_neg (by omega), if_neg (by omega), if_neg (by omega), if_neg (by omega), if_neg (by omega), if_neg (by omega), if_neg (by omega), if_neg (by omega), if_neg (by omega)]
    rfl
noncomputable def mapOps16 : Option (Array Oper) := Tryd.f4.body.bind (regOps 16)
set_option maxRecDepth 100000 in
set_option maxHeartbeats 4000000 in
theorem mapReg16 (id : Nat) (ops : Array Oper) (hops : mapOps16 = some ops) (Q : Exit → Act → World → Prop) (a0 : Act) (w0 : World) (tr b B n ky ed en : Nat) (h100 : a0.tmps.size = 100)
    (e10 : a0.eval (.tmp 10) = .pointer (some ⟨tr, 0, none⟩)) (e12 : a0.eval (.tmp 12) = .int .i64 (ed : Int)) (ek : a0.eval (.tmp 14) = .int .i64 (ky : Int)) (ee : a0.eval (.tmp 13) = .int .i64 (en : Int))
    (hgm : GM w0 B b n) (hB : B ≤ w0.heap.size) (ht : w0.cell? ⟨tr, 8, none⟩ = some (.map (some b))) (htB : tr < B) (htb : tr ≠ b) (hk : ky < 1000000) (hn : n < 1000000)
    (hQ : ∀ (w : World) (V : Nat → Value), GM w B b (n + 1) → Kp B b w0 w → Q .normal ((((((((((((((((a0.put (some 80) (V 0)).put (some 81) (V 1)).put (some 82) (V 2)).put (some 83) (V 3)).put (some 84) (V 4)).put (some 85) (V 5)).put (some 86) (V 6)).put (some 87) (V 7)).put (some 88) (V 8)).put (some 89) (V 9)).put (some 90) (V 10)).put (some 91) (V 11)).put (some 92) (V 12)).put (some 93) (V 13)).put (some 94) (V 14)).put (some 95) (V 15)) w) : (Code.region id ops true).wp Tryd.prog Q a0 w0 := by
  obtain rfl := Option.some.inj hops
  clear hops
  refine wp_region_any (by kernel_rfl) (wpAny_inv (fun L a w => ∃ V, MS a0 w0 80 tr b B n ky ed en L a w V) ?_ ?_ _ _ _ _ ⟨_, MS.start a0 w0 80 tr b B n ky ed en hgm⟩ (by decide))
  · rintro L a w ⟨V, h⟩ i hi
    have hlt := (ready_false hi).1
    have E10 : a.eval (.tmp 10) = .pointer (some ⟨tr, 0, none⟩) := (h.old (by omega) (by omega)).trans e10
    have E12 : a.eval (.tmp 12) = .int .i64 (ed : Int) := (h.old (by omega) (by omega)).trans e12
    have EK : a.eval (.tmp 14) = .int .i64 (ky : Int) := (h.old (by omega) (by omega)).trans ek
    have EE : a.eval (.tmp 13) = .int .i64 (en : Int) := (h.old (by omega) (by omega)).trans ee
    have hc : w.cell? ⟨tr, 8, none⟩ = some (.map (some b)) := (h.kp.cell (p := ⟨tr, 8, none⟩) htB htb).trans ht
    change i < 17 at hlt
    rcases (show i = 0 ∨ i = 1 ∨ i = 2 ∨ i = 3 ∨ i = 4 ∨ i = 5 ∨ i = 6 ∨ i = 7 ∨ i = 8 ∨ i = 9 ∨ i = 10 ∨ i = 11 ∨ i = 12 ∨ i = 13 ∨ i = 14 ∨ i = 15 ∨ i = 16 by omega) with rfl | rfl | rfl | rfl | rfl | rfl | rfl | rfl | rfl | rfl | rfl | rfl | rfl | rfl | rfl | rfl | rfl
    all_goals have hd := ready_dep hi rfl
    · exact wpOp_at rfl rfl _ _ ((ex_move _ _ _ _ rfl _).trans (by rw [E10]; rfl)) ⟨_, h.cst (i := 0) (by omega) (by omega)⟩
    · have h1 : gd L 0 = true := by simpa [Region.binds, and_assoc] using hd.1
      have F0 : a.eval (.tmp 80) = cstM tr b ky ed en 0 := h.cv (i := 0) (by omega) rfl (by omega) (by omega) h1
      refine wpOp_at rfl rfl _ _ ?_ ⟨_, h.cst (i := 1) (by omega) (by omega)⟩
      simp only [cstM] at *
      generalize a.eval = ρ at *
      clear hd hi h h1 hQ
      unfold execOp
      go_simp
    · have h1 : gd L 1 = true := by simpa [Region.binds, and_assoc] using hd.1
      have F1 : a.eval (.tmp 81) = cstM tr b ky ed en 1 := h.cv (i := 1) (by omega) rfl (by omega) (by omega) h1
      refine wpOp_at rfl rfl _ _ ?_ ⟨_, h.cst (i := 2) (by omega) (by omega)⟩
      simp only [cstM] at *
      generalize a.eval = ρ at *
      clear hd hi h h1 hQ
      unfold execOp
      go_simp
    · have h1 : gd L 2 = true := by simpa [Region.binds, and_assoc] using hd.1
      have F2 : a.eval (.tmp 82) = cstM tr b ky ed en 2 := h.cv (i := 2) (by omega) rfl (by omega) (by omega) h1
      refine wpOp_at rfl rfl _ _ ?_ ⟨_, h.cst (i := 3) (by omega) (by omega)⟩
      simp only [cstM] at *
      generalize a.eval = ρ at *
      clear hd hi h h1 hQ
      unfold execOp
      go_simp
    · exact wpOp_at rfl rfl _ _ ((ex_move _ _ _ _ rfl _).trans (by rw [EK]; rfl)) ⟨_, h.cst (i := 4) (by omega) (by omega)⟩
    · exact wpOp_at rfl rfl _ _ ((ex_move _ _ _ _ rfl _).trans (by rw [E10]; rfl)) ⟨_, h.cst (i := 5) (by omega) (by omega)⟩
    · have h1 : gd L 5 = true := by simpa [Region.binds, and_assoc] using hd.1
      have F5 : a.eval (.tmp 85) = cstM tr b ky ed en 5 := h.cv (i := 5) (by omega) rfl (by omega) (by omega) h1
      refine wpOp_at rfl rfl _ _ ?_ ⟨_, h.cst (i := 6) (by omega) (by omega)⟩
      simp only [cstM] at *
      generalize a.eval = ρ at *
      clear hd hi h h1 hQ
      unfold execOp
      go_simp
    · have h1 : gd L 6 = true := by simpa [Region.binds, and_assoc] using hd.1
      have F6 : a.eval (.tmp 86) = cstM tr b ky ed en 6 := h.cv (i := 6) (by omega) rfl (by omega) (by omega) h1
      refine wpOp_at rfl rfl _ _ ?_ ⟨_, h.cst (i := 7) (by omega) (by omega)⟩
      simp only [cstM] at *
      generalize a.eval = ρ at *
      clear hd hi h h1 hQ
      unfold execOp
      go_simp
    · have h1 : gd L 7 = true := by simpa [Region.binds, and_assoc] using hd.1
      have F7 : a.eval (.tmp 87) = cstM tr b ky ed en 7 := h.cv (i := 7) (by omega) rfl (by omega) (by omega) h1
      refine wpOp_at rfl rfl _ _ ?_ ⟨_, h.cst (i := 8) (by omega) (by omega)⟩
      simp only [cstM] at *
      generalize a.eval = ρ at *
      clear hd hi h h1 hQ
      unfold execOp
      go_simp
    · exact wpOp_at rfl rfl _ _ ((ex_move _ _ _ _ rfl _).trans (by rw [EK]; rfl)) ⟨_, h.cst (i := 9) (by omega) (by omega)⟩
    · have h1 : gd L 8 = true ∧ gd L 9 = true := by simpa [Region.binds, and_assoc] using hd.1
      have F8 : a.eval (.tmp 88) = cstM tr b ky ed en 8 := h.cv (i := 8) (by omega) rfl (by omega) (by omega) h1.1
      have F9 : a.eval (.tmp 89) = cstM tr b ky ed en 9 := h.cv (i := 9) (by omega) rfl (by omega) (by omega) h1.2
      obtain ⟨v, hrun, hms⟩ := h.look hd.2 hk hn
      refine wpOp_at rfl rfl v w ?_ ⟨_, hms⟩
      simp only [cstM] at F8 F9
      generalize a.eval = ρ at *
      clear hd hi h h1 hQ hms hgm
      unfold execOp
      simp [F8, F9, hrun, Result.andThen]
    · exact wpOp_at rfl rfl _ _ ((ex_move _ _ _ _ rfl _).trans (by rw [E12]; rfl)) ⟨_, h.cst (i := 11) (by omega) (by omega)⟩
    · exact wpOp_at rfl rfl _ _ ((ex_move _ _ _ _ rfl _).trans (by rw [EE]; rfl)) ⟨_, h.cst (i := 12) (by omega) (by omega)⟩
    · have h1 : gd L 11 = true ∧ gd L 12 = true := by simpa [Region.binds, and_assoc] using hd.1
      have F11 : a.eval (.tmp 91) = cstM tr b ky ed en 11 := h.cv (i := 11) (by omega) rfl (by omega) (by omega) h1.1
      have F12 : a.eval (.tmp 92) = cstM tr b ky ed en 12 := h.cv (i := 12) (by omega) rfl (by omega) (by omega) h1.2
      refine wpOp_at rfl rfl _ _ ?_ ⟨_, h.cst (i := 13) (by omega) (by omega)⟩
      simp only [cstM] at *
      generalize a.eval = ρ at *
      clear hd hi h h1 hQ
      unfold execOp
      go_simp
    · have h1 : gd L 13 = true := by simpa [Region.binds, and_assoc] using hd.1
      have F13 : a.eval (.tmp 93) = cstM tr b ky ed en 13 := h.cv (i := 13) (by omega) rfl (by omega) (by omega) h1
      refine wpOp_at rfl rfl _ _ ?_ ⟨_, h.lay hd.2 hB⟩
      simp only [cstM] at F13
      generalize a.eval = ρ at *
      clear hd hi h h1 hQ hgm
      unfold execOp
      go_simp
    · have h1 : gd L 10 = true ∧ gd L 14 = true := by simpa [Region.binds, and_assoc] using hd.1
      have F10 : a.eval (.tmp 90) = V 10 := h.val (i := 10) (by omega) rfl (by omega) h1.1
      have F14 : a.eval (.tmp 94) = V 14 := h.val (i := 14) (by omega) rfl (by omega) h1.2
      obtain ⟨v, w', hrun, hms⟩ := h.app hd.2 h1.1 h1.2 hn hB 55
      refine wpOp_at rfl rfl v w' ?_ ⟨_, hms⟩
      generalize a.eval = ρ at *
      clear hd hi h h1 hQ hms hgm
      unfold execOp
      simp [resolve, invoke, builtin, F10, F14, hrun, Result.andThen]
    · have h1 := hd.1
      simp [Region.binds] at h1
      have h3 : gd L 3 = true := by simp only [h1]
      have h4 : gd L 4 = true := by simp only [h1]
      have h15 : gd L 15 = true := by simp only [h1]
      have F3 : a.eval (.tmp 83) = cstM tr b ky ed en 3 := h.cv (i := 3) (by omega) rfl (by omega) (by omega) h3
      have F4 : a.eval (.tmp 84) = cstM tr b ky ed en 4 := h.cv (i := 4) (by omega) rfl (by omega) (by omega) h4
      have F15 : a.eval (.tmp 95) = V 15 := h.val (i := 15) (by omega) rfl (by omega) h15
      obtain ⟨w', hrun, hms⟩ := h.sto h15 hd.2 hB
      refine wpOp_skip rfl rfl w' ?_ ⟨_, hms⟩
      simp only [cstM] at F3 F4
      generalize a.eval = ρ at *
      clear hd hi h h1 hQ hms hgm
      unfold execOp
      simp [F3, F4, F15, hrun, Result.andThen]
  · rintro L a w ⟨V, h⟩ hr
    have hs : ∀ {i : Nat} {o : Oper}, _ := fun {i o} => ready_none (i := i) (o := o) hr h.ls
    have g0 : gd L 0 = true := hs rfl (by simp)
    have g4 : gd L 4 = true := hs rfl (by simp)
    have g5 : gd L 5 = true := hs rfl (by simp)
    have g9 : gd L 9 = true := hs rfl (by simp)
    have g11 : gd L 11 = true := hs rfl (by simp)
    have g12 : gd L 12 = true := hs rfl (by simp)
    have g1 : gd L 1 = true := hs rfl (by simp [g0])
    have g2 : gd L 2 = true := hs rfl (by simp [g1])
    have g3 : gd L 3 = true := hs rfl (by simp [g2])
    have g6 : gd L 6 = true := hs rfl (by simp [g5])
    have g7 : gd L 7 = true := hs rfl (by simp [g6])
    have g8 : gd L 8 = true := hs rfl (by simp [g7])
    have g10 : gd L 10 = true := hs rfl (by simp [g8, g9])
    have g13 : gd L 13 = true := hs rfl (by simp [g11, g12])
    have g14 : gd L 14 = true := hs rfl (by simp [g13])
    have g15 : gd L 15 = true := hs rfl (by simp [g10, g14])
    have g16 : gd L 16 = true := hs rfl (by simp [g0, g1, g2, g3, g4, g5, g6, g7, g8, g9, g10, g11, g12, g13, g14, g15])
    have hall : ∀ j, j < 17 → gd L j = true := fun j hj => by
      rcases (show j = 0 ∨ j = 1 ∨ j = 2 ∨ j = 3 ∨ j = 4 ∨ j = 5 ∨ j = 6 ∨ j = 7 ∨ j = 8 ∨ j = 9 ∨ j = 10 ∨ j = 11 ∨ j = 12 ∨ j = 13 ∨ j = 14 ∨ j = 15 ∨ j = 16 by omega) with rfl | rfl | rfl | rfl | rfl | rfl | rfl | rfl | rfl | rfl | rfl | rfl | rfl | rfl | rfl | rfl | rfl <;> assumption
    rw [h.frame16 hall]
    exact hQ w V (h.p5 g16) h.kp
end Go.Proofs.YtoomcgmbaogjbaaDoor
