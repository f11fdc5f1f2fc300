/- sweep: the statement of collect's loop. -/
import Derived.RangeFuncBox
import Derived.RangeFuncCalls
import Derived.Shelf.RegionOpen
import Derived.Test.YtoomcgmbaogjbaaSwpB
import Derived.Test.YtoomcgmbaogjbaaFst
namespace Go.Proofs.Ytoomcgmbaogjbaa
open Go.RowKit Go.Shelf
attribute [local go_sem] Oper.semAt_some
set_option linter.unusedVariables false
def rowC (n : Nat) (L : Nat → Nat) : List Value := [.int .i64 (lrg n L : Int), .int .i64 (sets n L : Int), .int .i64 (sq n L : Int)]
theorem row_info : (Try.prog.info? 37).map (fun i => (i.zero, i.size, i.bytes)) = some (some (.agg #[.int .i64 0, .int .i64 0, .int .i64 0]), 3, 24) := by kernel_rfl
theorem rowC_one (n : Nat) (L : Nat → Nat) : ∀ u ∈ rowC n L, u.oneCell' = true := by
  intro u hu
  simp only [rowC, List.mem_cons, List.not_mem_nil, or_false] at hu
  rcases hu with rfl | rfl | rfl <;> rfl
theorem cell_three_new (w : World) (u v x : Value) (e : TypeId) : ∀ (j : Nat) (z : Value), [u, v, x][j]? = some z → (w.alloc (.cells #[u, v, x] e)).cell? ((⟨w.heap.size, 0, none⟩ : Addr).add j) = some z := by
  intro j z h
  rw [Addr.add_lit, Nat.zero_add, World.cell?_alloc_new]
  simpa using h
theorem col_fin {w w5 w6 : World} {V v' : Value} {br B k : Nat} {ys : List Value} {o : Obj} (hOB : ∀ b, V.ownBlock = some b → b ≠ br ∧ b < w.heap.size) (hF : Fr [] w w5) (cR : Blk w br 25 #[V]) (hB : B ≤ w.heap.size)
    (hg : (w5.alloc o).grownBy w6 V.ownBlock) (ho : w6.ownsRow B 37 3 v' (k + 1) ys) :
    w6.cell? ⟨br, 0, none⟩ = some V ∧ w6.frozen? ⟨br, 0, none⟩ = false ∧ (∃ S : List Nat, (w6.setCell ⟨br, 0, none⟩ v').ownsRow B 37 3 v' (k + 1) ys ∧ Blk (w6.setCell ⟨br, 0, none⟩ v') br 25 #[v'] ∧ Fr S w (w6.setCell ⟨br, 0, none⟩ v') ∧ (∀ b ∈ S, b = br ∨ V.ownBlock = some b)) := by
  have hb5 : Blk (w5.alloc o) br 25 #[V] := (cR.fr hF (by simp)).alloc _
  have hb6 : Blk w6 br 25 #[V] := hb5.grown hg (fun e => (hOB br e).1 rfl)
  have hS : Fr (br :: V.ownBlock.toList) w w6 := ((hF.mono (by simp)).alloc o).trans (Fr.grown hg (by intro k e; simp [e]))
  have ho' : ∀ b, v'.ownBlock = some b → b ≠ br := fun b hb e => by
    rcases ho.2 with ⟨e1, _⟩ | ⟨g, cap, cur, e1, hb2, hh, r⟩
    · rw [e1] at hb; cases hb
    · rw [e1] at hb
      injection hb with hb
      subst hb
      subst e
      have := hb6
      unfold Blk at this
      rw [hh] at this
      injection this with this
      injection this with _ h1 _
      revert h1; decide
  refine ⟨(hb6.cell 0).trans rfl, hb6.frozen 0, br :: V.ownBlock.toList, own_fr ho ((Fr.refl [br] w6).setCell (p := ⟨br, 0, none⟩) (.inl (by simp)) v') (fun b hb => by simpa using ho' b hb), hb6.set_ 0 v', hS.setCell (p := ⟨br, 0, none⟩) (.inl (by simp)) v', ?_⟩
  intro b hb
  simp at hb
  exact hb

/-- An append of one element that lies in a block of its own, in a region that draws, inside a fence. -/
theorem step_appIn (T E : TypeId) {i0 : TypeInfo} {z : Value} {sz by_ : Nat} (ht : Try.prog.underlying T = some (.slice E)) (hi : Try.prog.info? E = some i0) (hz : i0.zero = some z) (h1 : i0.size = sz) (h8 : i0.bytes = by_) (hzs : z.cells.size = sz) (hsz : 0 < sz)
    {F : Fence} {nF : Nat} {ops : Array Oper} {o : Oper} {a : Act} {w : World} {K : Act → World → Prop} {Q : Exit → Act → World → Prop} {G : Prop} (cs : Array Value) (hcs : cs.size = sz) (hone : ∀ c ∈ cs.toList, c.oneCell' = true) (hgd : o.guard = none) (s x : Operand)
    (ho : o.op = .call { callee := .builtin .append, args := #[s, x], argTypes := #[T, T] })
    (B : Nat) (V : Value) (n : Nat) (xs : List Value) (hs : a.eval s = V) (hown : w.ownsRow B E sz V n xs) (hx : a.eval x = .slice (some ⟨w.heap.size, 0, none⟩) 1 1)
    (hm : n + 1 ≤ maxLen) (hb : (n + 1) * by_ ≤ 140737488355328) (hB : B ≤ w.heap.size)
    (h : ∀ v' w', w'.ownsRow B E sz v' (n + 1) (xs ++ cs.toList) → (w.alloc (.cells cs E)).grownBy w' V.ownBlock → K (a.put o.dst v') w') :
    if Region.wanted o (yielded ops a.tmps) = true then Oper.wpIn F nF Try.prog o a (w.alloc (.cells cs E)) K Q else G := by
  obtain ⟨v', w', hrun, h2, h3, _, h5⟩ := run_append_own_at (P := Try.prog) (w.alloc (.cells cs E)) B T o.type E i0 z sz by_ ht hi hz h1 h8 hzs hsz V n xs (World.ownsRow.alloc hown _)
    ⟨w.heap.size, 0, none⟩ 1 1 cs.toList (by simpa using hcs) (fun j u hj => by rw [Addr.add_lit, Nat.zero_add, World.cell?_alloc_new]; simpa using hj) hone hm hb (by simp; omega)
  have hw : Region.wanted o (yielded ops a.tmps) = true := by simp [Region.wanted, hgd]
  rw [if_pos hw]
  unfold Oper.wpIn
  refine ⟨?_, ?_⟩
  · simp [Oper.about, ho, resolve, Target.leads, Sem.run_pure]
  · rw [Oper.semAt_plain F _ _ (by rw [ho]; intro c hc'; cases hc')]
    simp [execOp, ho, resolve, invoke, builtin, hs, hx, hrun, Result.andThen]
    exact h v' w' h2 h3

set_option maxRecDepth 100000 in
set_option maxHeartbeats 8000000 in
theorem colStep (c : Code) (hc : (Try.f18.body.bind fstDraw) = some c) (L N : Nat) (w : World) (q : TL) (t : BT) (n : Nat) (Lb f : Nat → Nat) (ht : Tly w q t n Lb f) (br b4 b7 k : Nat) (V : Value) (B : Nat) (xs : List Value)
    (cR : Blk w br 25 #[V]) (c4 : Blk w b4 51 #[.pointer (some ⟨q.g, 0, none⟩)]) (c7 : Blk w b7 55 #[.func (.func 19) #[] #[]])
    (hown : w.ownsRow B 37 3 V k xs) (hk : k ≤ 1000) (hB : B ≤ w.heap.size)
    (u0 u1 u2 u3 u5 u6 u8 u10 u11 u12 u13 u14 u15 u16 u17 u18 u19 u20 u21 u22 u23 u24 u25 : Value) (Q : Exit → Act → World → Prop)
    (h : ∀ a V', (∃ (v' : Value) (S : List Nat), V'.ownsRow B 37 3 v' (k + 1) (xs ++ rowC n Lb) ∧ Blk V' br 25 #[v'] ∧ Fr S w V' ∧ (∀ b ∈ S, b = br ∨ V.ownBlock = some b)) → Q .normal a V') :
    c.wpIn (Fence.wide.inRound L) N Try.prog Q { tmps := #[u0, u1, u2, u3, .pointer (some ⟨b4, 0, none⟩), u5, u6, .pointer (some ⟨b7, 0, none⟩), u8, .pointer (some ⟨br, 0, none⟩), u10, u11, u12, u13, u14, u15, u16, u17, u18, u19, u20, u21, u22, u23, u24, u25], defers := [] } w := by
  obtain rfl := Option.some.inj hc
  clear hc
  have hmx : Try.prog.follows .mixedOrders = true := by kernel_rfl
  have H := hide h
  have HT := hide ht
  have HO := hide hown
  have r0 : w.cell? ⟨br, 0, none⟩ = some V := (cR.cell 0).trans rfl
  have r4 : w.cell? ⟨b4, 0, none⟩ = some (.pointer (some ⟨q.g, 0, none⟩)) := (c4.cell 0).trans rfl
  have r7 : w.cell? ⟨b7, 0, none⟩ = some (.func (.func 19) #[] #[]) := (c7.cell 0).trans rfl
  have CR := hide cR
  have C4 := hide c4
  have C7 := hide c7
  obtain ⟨AV, cV, rfl, -⟩ := own_form hown
  have hP := fun (W : World) (hW : Tly W q t n Lb f) => CallsIn.inRound L (callsIn_wide (n := N - 1).2 (swPlain W q t n Lb f hW))
  unfold gRow at hP
  have HP := hide hP
  have hOB : ∀ b, (Value.slice AV k cV).ownBlock = some b → b ≠ br ∧ b < w.heap.size := fun b hb => by
    rcases hown.2 with ⟨e, _⟩ | ⟨g, cap, cur, e, hb2, hh, r⟩
    · rw [e] at hb; cases hb
    · rw [e] at hb
      injection hb with hb
      subst hb
      refine ⟨fun he => ?_, (Array.getElem?_eq_some_iff.1 hh).1⟩
      subst he
      have := cR
      unfold Blk at this
      rw [hh] at this
      injection this with this
      injection this with _ h1 _
      revert h1; decide
  have HOB := hide hOB
  obtain ⟨i0, hi, hz0, hz1, hz2⟩ := info_parts row_info
  have hzf : (w.frozen? ⟨br, 0, none⟩) = false := cR.frozen 0
  clear h ht hown cR c4 c7 hP hOB
  have hfn : Fence.wide.fn 19 := trivial
  have hdp : (Fence.wide.depth.isSome = true) = False := by simp [Fence.wide]
  refine wpIn_region_any hmx ?_
  change wpAnyIn _ _ _ _ _ _ _ _ _ (World.drew _)
  refine wpAnyIn_ready (rs := [0, 1, 2]) (by kernel_rfl) (by simp) ?_
  refine AllReadyIn.cons rfl (fun K hK => ?_) ?_
  · skip
    go_simp
    refine hK _ _ ?_
    clear hK K
    refine wpAnyIn_ready (rs := [1, 2]) (by kernel_rfl) (by simp) ?_
    refine AllReadyIn.cons rfl (fun K hK => ?_) ?_
    · skip
      go_simp
      refine hK _ _ ?_
      clear hK K
      refine wpAnyIn_ready (rs := [2]) (by kernel_rfl) (by simp) ?_
      refine AllReadyIn.cons rfl (fun K hK => ?_) ?_
      · skip
        go_simp
        refine hK _ _ ?_
        clear hK K
        refine wpAnyIn_ready (rs := [3]) (by kernel_rfl) (by simp) ?_
        refine AllReadyIn.cons rfl (fun K hK => ?_) ?_
        · skip
          go_simp
          gi_wp2_with (gi_at_call 19; refine (HP.out _ (HT.out.fr ((Fr.refl [] w).drew) (by simp))).mono ?_; rintro e w5 ⟨rfl, hf5⟩; have hf5' := (Fr.refl [] w).drew.trans hf5; have HF5 := hide hf5'; have r50 : w5.cell? ⟨br, 0, none⟩ = some (.slice AV k cV) := ((CR.out.fr hf5' (by simp)).cell 0).trans rfl; have r51 : (w5.alloc (.cells #[.int .i64 (lrg n Lb : Int), .int .i64 (sets n Lb : Int), .int .i64 (sq n Lb : Int)] 37)).cell? ⟨br, 0, none⟩ = some (.slice AV k cV) := (((CR.out.fr hf5' (by simp)).alloc _).cell 0).trans rfl; clear hf5 hf5')
          refine wpAnyIn_ready (rs := [4]) (by kernel_rfl) (by simp) ?_
          refine AllReadyIn.cons rfl (fun K hK => ?_) ?_
          · skip
            go_simp
            refine hK _ _ ?_
            clear hK K
            refine wpAnyIn_ready (rs := [5]) (by kernel_rfl) (by simp) ?_
            refine AllReadyIn.cons rfl (fun K hK => ?_) ?_
            · skip
              refine step_appIn 25 37 Try.underlying25 hi hz0 hz1 hz2 rfl (by decide) #[.int .i64 (lrg n Lb : Int), .int .i64 (sets n Lb : Int), .int .i64 (sq n Lb : Int)] rfl (rowC_one n Lb) rfl _ _ rfl B (.slice AV k cV) k xs rfl (own_fr HO.out HF5.out (by simp)) rfl (by have : maxLen = 9223372036854775807 := rfl; omega) (by omega) (by have := HF5.out.size; omega) ?_
              intro v' w6 hown' hgrow
              have H6 := hide (col_fin HOB.out HF5.out CR.out hB hgrow hown')
              obtain ⟨g', cap', rfl⟩ := ownsRow_succ hown'
              have r60 := H6.out.1
              have z60 := H6.out.2.1
              clear hown' hgrow
              refine hK _ _ ?_
              clear hK K
              refine wpAnyIn_ready (rs := [6]) (by kernel_rfl) (by simp) ?_
              refine AllReadyIn.cons rfl (fun K hK => ?_) ?_
              · skip
                go_simp
                refine hK _ _ ?_
                clear hK K
                refine wpAnyIn_done (by kernel_rfl) ?_ _
                exact H.out _ _ ⟨_, H6.out.2.2⟩
              exact AllReadyIn.nil
            exact AllReadyIn.nil
          exact AllReadyIn.nil
        exact AllReadyIn.nil
      exact AllReadyIn.nil
    refine AllReadyIn.cons rfl (fun K hK => ?_) ?_
    · skip
      go_simp
      refine hK _ _ ?_
      clear hK K
      refine wpAnyIn_ready (rs := [1]) (by kernel_rfl) (by simp) ?_
      refine AllReadyIn.cons rfl (fun K hK => ?_) ?_
      · skip
        go_simp
        refine hK _ _ ?_
        clear hK K
        refine wpAnyIn_ready (rs := [3]) (by kernel_rfl) (by simp) ?_
        refine AllReadyIn.cons rfl (fun K hK => ?_) ?_
        · skip
          go_simp
          gi_wp2_with (gi_at_call 19; refine (HP.out _ (HT.out.fr ((Fr.refl [] w).drew) (by simp))).mono ?_; rintro e w5 ⟨rfl, hf5⟩; have hf5' := (Fr.refl [] w).drew.trans hf5; have HF5 := hide hf5'; have r50 : w5.cell? ⟨br, 0, none⟩ = some (.slice AV k cV) := ((CR.out.fr hf5' (by simp)).cell 0).trans rfl; have r51 : (w5.alloc (.cells #[.int .i64 (lrg n Lb : Int), .int .i64 (sets n Lb : Int), .int .i64 (sq n Lb : Int)] 37)).cell? ⟨br, 0, none⟩ = some (.slice AV k cV) := (((CR.out.fr hf5' (by simp)).alloc _).cell 0).trans rfl; clear hf5 hf5')
          refine wpAnyIn_ready (rs := [4]) (by kernel_rfl) (by simp) ?_
          refine AllReadyIn.cons rfl (fun K hK => ?_) ?_
          · skip
            go_simp
            refine hK _ _ ?_
            clear hK K
            refine wpAnyIn_ready (rs := [5]) (by kernel_rfl) (by simp) ?_
            refine AllReadyIn.cons rfl (fun K hK => ?_) ?_
            · skip
              refine step_appIn 25 37 Try.underlying25 hi hz0 hz1 hz2 rfl (by decide) #[.int .i64 (lrg n Lb : Int), .int .i64 (sets n Lb : Int), .int .i64 (sq n Lb : Int)] rfl (rowC_one n Lb) rfl _ _ rfl B (.slice AV k cV) k xs rfl (own_fr HO.out HF5.out (by simp)) rfl (by have : maxLen = 9223372036854775807 := rfl; omega) (by omega) (by have := HF5.out.size; omega) ?_
              intro v' w6 hown' hgrow
              have H6 := hide (col_fin HOB.out HF5.out CR.out hB hgrow hown')
              obtain ⟨g', cap', rfl⟩ := ownsRow_succ hown'
              have r60 := H6.out.1
              have z60 := H6.out.2.1
              clear hown' hgrow
              refine hK _ _ ?_
              clear hK K
              refine wpAnyIn_ready (rs := [6]) (by kernel_rfl) (by simp) ?_
              refine AllReadyIn.cons rfl (fun K hK => ?_) ?_
              · skip
                go_simp
                refine hK _ _ ?_
                clear hK K
                refine wpAnyIn_done (by kernel_rfl) ?_ _
                exact H.out _ _ ⟨_, H6.out.2.2⟩
              exact AllReadyIn.nil
            exact AllReadyIn.nil
          exact AllReadyIn.nil
        exact AllReadyIn.nil
      exact AllReadyIn.nil
    exact AllReadyIn.nil
  refine AllReadyIn.cons rfl (fun K hK => ?_) ?_
  · skip
    go_simp
    refine hK _ _ ?_
    clear hK K
    refine wpAnyIn_ready (rs := [0, 2]) (by kernel_rfl) (by simp) ?_
    refine AllReadyIn.cons rfl (fun K hK => ?_) ?_
    · skip
      go_simp
      refine hK _ _ ?_
      clear hK K
      refine wpAnyIn_ready (rs := [2]) (by kernel_rfl) (by simp) ?_
      refine AllReadyIn.cons rfl (fun K hK => ?_) ?_
      · skip
        go_simp
        refine hK _ _ ?_
        clear hK K
        refine wpAnyIn_ready (rs := [3]) (by kernel_rfl) (by simp) ?_
        refine AllReadyIn.cons rfl (fun K hK => ?_) ?_
        · skip
          go_simp
          gi_wp2_with (gi_at_call 19; refine (HP.out _ (HT.out.fr ((Fr.refl [] w).drew) (by simp))).mono ?_; rintro e w5 ⟨rfl, hf5⟩; have hf5' := (Fr.refl [] w).drew.trans hf5; have HF5 := hide hf5'; have r50 : w5.cell? ⟨br, 0, none⟩ = some (.slice AV k cV) := ((CR.out.fr hf5' (by simp)).cell 0).trans rfl; have r51 : (w5.alloc (.cells #[.int .i64 (lrg n Lb : Int), .int .i64 (sets n Lb : Int), .int .i64 (sq n Lb : Int)] 37)).cell? ⟨br, 0, none⟩ = some (.slice AV k cV) := (((CR.out.fr hf5' (by simp)).alloc _).cell 0).trans rfl; clear hf5 hf5')
          refine wpAnyIn_ready (rs := [4]) (by kernel_rfl) (by simp) ?_
          refine AllReadyIn.cons rfl (fun K hK => ?_) ?_
          · skip
            go_simp
            refine hK _ _ ?_
            clear hK K
            refine wpAnyIn_ready (rs := [5]) (by kernel_rfl) (by simp) ?_
            refine AllReadyIn.cons rfl (fun K hK => ?_) ?_
            · skip
              refine step_appIn 25 37 Try.underlying25 hi hz0 hz1 hz2 rfl (by decide) #[.int .i64 (lrg n Lb : Int), .int .i64 (sets n Lb : Int), .int .i64 (sq n Lb : Int)] rfl (rowC_one n Lb) rfl _ _ rfl B (.slice AV k cV) k xs rfl (own_fr HO.out HF5.out (by simp)) rfl (by have : maxLen = 9223372036854775807 := rfl; omega) (by omega) (by have := HF5.out.size; omega) ?_
              intro v' w6 hown' hgrow
              have H6 := hide (col_fin HOB.out HF5.out CR.out hB hgrow hown')
              obtain ⟨g', cap', rfl⟩ := ownsRow_succ hown'
              have r60 := H6.out.1
              have z60 := H6.out.2.1
              clear hown' hgrow
              refine hK _ _ ?_
              clear hK K
              refine wpAnyIn_ready (rs := [6]) (by kernel_rfl) (by simp) ?_
              refine AllReadyIn.cons rfl (fun K hK => ?_) ?_
              · skip
                go_simp
                refine hK _ _ ?_
                clear hK K
                refine wpAnyIn_done (by kernel_rfl) ?_ _
                exact H.out _ _ ⟨_, H6.out.2.2⟩
              exact AllReadyIn.nil
            exact AllReadyIn.nil
          exact AllReadyIn.nil
        exact AllReadyIn.nil
      exact AllReadyIn.nil
    refine AllReadyIn.cons rfl (fun K hK => ?_) ?_
    · skip
      go_simp
      refine hK _ _ ?_
      clear hK K
      refine wpAnyIn_ready (rs := [0, 3]) (by kernel_rfl) (by simp) ?_
      refine AllReadyIn.cons rfl (fun K hK => ?_) ?_
      · skip
        go_simp
        refine hK _ _ ?_
        clear hK K
        refine wpAnyIn_ready (rs := [3]) (by kernel_rfl) (by simp) ?_
        refine AllReadyIn.cons rfl (fun K hK => ?_) ?_
        · skip
          go_simp
          gi_wp2_with (gi_at_call 19; refine (HP.out _ (HT.out.fr ((Fr.refl [] w).drew) (by simp))).mono ?_; rintro e w5 ⟨rfl, hf5⟩; have hf5' := (Fr.refl [] w).drew.trans hf5; have HF5 := hide hf5'; have r50 : w5.cell? ⟨br, 0, none⟩ = some (.slice AV k cV) := ((CR.out.fr hf5' (by simp)).cell 0).trans rfl; have r51 : (w5.alloc (.cells #[.int .i64 (lrg n Lb : Int), .int .i64 (sets n Lb : Int), .int .i64 (sq n Lb : Int)] 37)).cell? ⟨br, 0, none⟩ = some (.slice AV k cV) := (((CR.out.fr hf5' (by simp)).alloc _).cell 0).trans rfl; clear hf5 hf5')
          refine wpAnyIn_ready (rs := [4]) (by kernel_rfl) (by simp) ?_
          refine AllReadyIn.cons rfl (fun K hK => ?_) ?_
          · skip
            go_simp
            refine hK _ _ ?_
            clear hK K
            refine wpAnyIn_ready (rs := [5]) (by kernel_rfl) (by simp) ?_
            refine AllReadyIn.cons rfl (fun K hK => ?_) ?_
            · skip
              refine step_appIn 25 37 Try.underlying25 hi hz0 hz1 hz2 rfl (by decide) #[.int .i64 (lrg n Lb : Int), .int .i64 (sets n Lb : Int), .int .i64 (sq n Lb : Int)] rfl (rowC_one n Lb) rfl _ _ rfl B (.slice AV k cV) k xs rfl (own_fr HO.out HF5.out (by simp)) rfl (by have : maxLen = 9223372036854775807 := rfl; omega) (by omega) (by have := HF5.out.size; omega) ?_
              intro v' w6 hown' hgrow
              have H6 := hide (col_fin HOB.out HF5.out CR.out hB hgrow hown')
              obtain ⟨g', cap', rfl⟩ := ownsRow_succ hown'
              have r60 := H6.out.1
              have z60 := H6.out.2.1
              clear hown' hgrow
              refine hK _ _ ?_
              clear hK K
              refine wpAnyIn_ready (rs := [6]) (by kernel_rfl) (by simp) ?_
              refine AllReadyIn.cons rfl (fun K hK => ?_) ?_
              · skip
                go_simp
                refine hK _ _ ?_
                clear hK K
                refine wpAnyIn_done (by kernel_rfl) ?_ _
                exact H.out _ _ ⟨_, H6.out.2.2⟩
              exact AllReadyIn.nil
            exact AllReadyIn.nil
          exact AllReadyIn.nil
        exact AllReadyIn.nil
      refine AllReadyIn.cons rfl (fun K hK => ?_) ?_
      · skip
        go_simp
        gi_wp2_with (gi_at_call 19; refine (HP.out _ (HT.out.fr ((Fr.refl [] w).drew) (by simp))).mono ?_; rintro e w5 ⟨rfl, hf5⟩; have hf5' := (Fr.refl [] w).drew.trans hf5; have HF5 := hide hf5'; have r50 : w5.cell? ⟨br, 0, none⟩ = some (.slice AV k cV) := ((CR.out.fr hf5' (by simp)).cell 0).trans rfl; have r51 : (w5.alloc (.cells #[.int .i64 (lrg n Lb : Int), .int .i64 (sets n Lb : Int), .int .i64 (sq n Lb : Int)] 37)).cell? ⟨br, 0, none⟩ = some (.slice AV k cV) := (((CR.out.fr hf5' (by simp)).alloc _).cell 0).trans rfl; clear hf5 hf5')
        refine wpAnyIn_ready (rs := [0, 4]) (by kernel_rfl) (by simp) ?_
        refine AllReadyIn.cons rfl (fun K hK => ?_) ?_
        · skip
          go_simp
          refine hK _ _ ?_
          clear hK K
          refine wpAnyIn_ready (rs := [4]) (by kernel_rfl) (by simp) ?_
          refine AllReadyIn.cons rfl (fun K hK => ?_) ?_
          · skip
            go_simp
            refine hK _ _ ?_
            clear hK K
            refine wpAnyIn_ready (rs := [5]) (by kernel_rfl) (by simp) ?_
            refine AllReadyIn.cons rfl (fun K hK => ?_) ?_
            · skip
              refine step_appIn 25 37 Try.underlying25 hi hz0 hz1 hz2 rfl (by decide) #[.int .i64 (lrg n Lb : Int), .int .i64 (sets n Lb : Int), .int .i64 (sq n Lb : Int)] rfl (rowC_one n Lb) rfl _ _ rfl B (.slice AV k cV) k xs rfl (own_fr HO.out HF5.out (by simp)) rfl (by have : maxLen = 9223372036854775807 := rfl; omega) (by omega) (by have := HF5.out.size; omega) ?_
              intro v' w6 hown' hgrow
              have H6 := hide (col_fin HOB.out HF5.out CR.out hB hgrow hown')
              obtain ⟨g', cap', rfl⟩ := ownsRow_succ hown'
              have r60 := H6.out.1
              have z60 := H6.out.2.1
              clear hown' hgrow
              refine hK _ _ ?_
              clear hK K
              refine wpAnyIn_ready (rs := [6]) (by kernel_rfl) (by simp) ?_
              refine AllReadyIn.cons rfl (fun K hK => ?_) ?_
              · skip
                go_simp
                refine hK _ _ ?_
                clear hK K
                refine wpAnyIn_done (by kernel_rfl) ?_ _
                exact H.out _ _ ⟨_, H6.out.2.2⟩
              exact AllReadyIn.nil
            exact AllReadyIn.nil
          exact AllReadyIn.nil
        refine AllReadyIn.cons rfl (fun K hK => ?_) ?_
        · skip
          go_simp
          refine hK _ _ ?_
          clear hK K
          refine wpAnyIn_ready (rs := [0]) (by kernel_rfl) (by simp) ?_
          refine AllReadyIn.cons rfl (fun K hK => ?_) ?_
          · skip
            go_simp
            refine hK _ _ ?_
            clear hK K
            refine wpAnyIn_ready (rs := [5]) (by kernel_rfl) (by simp) ?_
            refine AllReadyIn.cons rfl (fun K hK => ?_) ?_
            · skip
              refine step_appIn 25 37 Try.underlying25 hi hz0 hz1 hz2 rfl (by decide) #[.int .i64 (lrg n Lb : Int), .int .i64 (sets n Lb : Int), .int .i64 (sq n Lb : Int)] rfl (rowC_one n Lb) rfl _ _ rfl B (.slice AV k cV) k xs rfl (own_fr HO.out HF5.out (by simp)) rfl (by have : maxLen = 9223372036854775807 := rfl; omega) (by omega) (by have := HF5.out.size; omega) ?_
              intro v' w6 hown' hgrow
              have H6 := hide (col_fin HOB.out HF5.out CR.out hB hgrow hown')
              obtain ⟨g', cap', rfl⟩ := ownsRow_succ hown'
              have r60 := H6.out.1
              have z60 := H6.out.2.1
              clear hown' hgrow
              refine hK _ _ ?_
              clear hK K
              refine wpAnyIn_ready (rs := [6]) (by kernel_rfl) (by simp) ?_
              refine AllReadyIn.cons rfl (fun K hK => ?_) ?_
              · skip
                go_simp
                refine hK _ _ ?_
                clear hK K
                refine wpAnyIn_done (by kernel_rfl) ?_ _
                exact H.out _ _ ⟨_, H6.out.2.2⟩
              exact AllReadyIn.nil
            exact AllReadyIn.nil
          exact AllReadyIn.nil
        exact AllReadyIn.nil
      exact AllReadyIn.nil
    exact AllReadyIn.nil
  refine AllReadyIn.cons rfl (fun K hK => ?_) ?_
  · skip
    go_simp
    refine hK _ _ ?_
    clear hK K
    refine wpAnyIn_ready (rs := [0, 1]) (by kernel_rfl) (by simp) ?_
    refine AllReadyIn.cons rfl (fun K hK => ?_) ?_
    · skip
      go_simp
      refine hK _ _ ?_
      clear hK K
      refine wpAnyIn_ready (rs := [1]) (by kernel_rfl) (by simp) ?_
      refine AllReadyIn.cons rfl (fun K hK => ?_) ?_
      · skip
        go_simp
        refine hK _ _ ?_
        clear hK K
        refine wpAnyIn_ready (rs := [3]) (by kernel_rfl) (by simp) ?_
        refine AllReadyIn.cons rfl (fun K hK => ?_) ?_
        · skip
          go_simp
          gi_wp2_with (gi_at_call 19; refine (HP.out _ (HT.out.fr ((Fr.refl [] w).drew) (by simp))).mono ?_; rintro e w5 ⟨rfl, hf5⟩; have hf5' := (Fr.refl [] w).drew.trans hf5; have HF5 := hide hf5'; have r50 : w5.cell? ⟨br, 0, none⟩ = some (.slice AV k cV) := ((CR.out.fr hf5' (by simp)).cell 0).trans rfl; have r51 : (w5.alloc (.cells #[.int .i64 (lrg n Lb : Int), .int .i64 (sets n Lb : Int), .int .i64 (sq n Lb : Int)] 37)).cell? ⟨br, 0, none⟩ = some (.slice AV k cV) := (((CR.out.fr hf5' (by simp)).alloc _).cell 0).trans rfl; clear hf5 hf5')
          refine wpAnyIn_ready (rs := [4]) (by kernel_rfl) (by simp) ?_
          refine AllReadyIn.cons rfl (fun K hK => ?_) ?_
          · skip
            go_simp
            refine hK _ _ ?_
            clear hK K
            refine wpAnyIn_ready (rs := [5]) (by kernel_rfl) (by simp) ?_
            refine AllReadyIn.cons rfl (fun K hK => ?_) ?_
            · skip
              refine step_appIn 25 37 Try.underlying25 hi hz0 hz1 hz2 rfl (by decide) #[.int .i64 (lrg n Lb : Int), .int .i64 (sets n Lb : Int), .int .i64 (sq n Lb : Int)] rfl (rowC_one n Lb) rfl _ _ rfl B (.slice AV k cV) k xs rfl (own_fr HO.out HF5.out (by simp)) rfl (by have : maxLen = 9223372036854775807 := rfl; omega) (by omega) (by have := HF5.out.size; omega) ?_
              intro v' w6 hown' hgrow
              have H6 := hide (col_fin HOB.out HF5.out CR.out hB hgrow hown')
              obtain ⟨g', cap', rfl⟩ := ownsRow_succ hown'
              have r60 := H6.out.1
              have z60 := H6.out.2.1
              clear hown' hgrow
              refine hK _ _ ?_
              clear hK K
              refine wpAnyIn_ready (rs := [6]) (by kernel_rfl) (by simp) ?_
              refine AllReadyIn.cons rfl (fun K hK => ?_) ?_
              · skip
                go_simp
                refine hK _ _ ?_
                clear hK K
                refine wpAnyIn_done (by kernel_rfl) ?_ _
                exact H.out _ _ ⟨_, H6.out.2.2⟩
              exact AllReadyIn.nil
            exact AllReadyIn.nil
          exact AllReadyIn.nil
        exact AllReadyIn.nil
      exact AllReadyIn.nil
    refine AllReadyIn.cons rfl (fun K hK => ?_) ?_
    · skip
      go_simp
      refine hK _ _ ?_
      clear hK K
      refine wpAnyIn_ready (rs := [0, 3]) (by kernel_rfl) (by simp) ?_
      refine AllReadyIn.cons rfl (fun K hK => ?_) ?_
      · skip
        go_simp
        refine hK _ _ ?_
        clear hK K
        refine wpAnyIn_ready (rs := [3]) (by kernel_rfl) (by simp) ?_
        refine AllReadyIn.cons rfl (fun K hK => ?_) ?_
        · skip
          go_simp
          gi_wp2_with (gi_at_call 19; refine (HP.out _ (HT.out.fr ((Fr.refl [] w).drew) (by simp))).mono ?_; rintro e w5 ⟨rfl, hf5⟩; have hf5' := (Fr.refl [] w).drew.trans hf5; have HF5 := hide hf5'; have r50 : w5.cell? ⟨br, 0, none⟩ = some (.slice AV k cV) := ((CR.out.fr hf5' (by simp)).cell 0).trans rfl; have r51 : (w5.alloc (.cells #[.int .i64 (lrg n Lb : Int), .int .i64 (sets n Lb : Int), .int .i64 (sq n Lb : Int)] 37)).cell? ⟨br, 0, none⟩ = some (.slice AV k cV) := (((CR.out.fr hf5' (by simp)).alloc _).cell 0).trans rfl; clear hf5 hf5')
          refine wpAnyIn_ready (rs := [4]) (by kernel_rfl) (by simp) ?_
          refine AllReadyIn.cons rfl (fun K hK => ?_) ?_
          · skip
            go_simp
            refine hK _ _ ?_
            clear hK K
            refine wpAnyIn_ready (rs := [5]) (by kernel_rfl) (by simp) ?_
            refine AllReadyIn.cons rfl (fun K hK => ?_) ?_
            · skip
              refine step_appIn 25 37 Try.underlying25 hi hz0 hz1 hz2 rfl (by decide) #[.int .i64 (lrg n Lb : Int), .int .i64 (sets n Lb : Int), .int .i64 (sq n Lb : Int)] rfl (rowC_one n Lb) rfl _ _ rfl B (.slice AV k cV) k xs rfl (own_fr HO.out HF5.out (by simp)) rfl (by have : maxLen = 9223372036854775807 := rfl; omega) (by omega) (by have := HF5.out.size; omega) ?_
              intro v' w6 hown' hgrow
              have H6 := hide (col_fin HOB.out HF5.out CR.out hB hgrow hown')
              obtain ⟨g', cap', rfl⟩ := ownsRow_succ hown'
              have r60 := H6.out.1
              have z60 := H6.out.2.1
              clear hown' hgrow
              refine hK _ _ ?_
              clear hK K
              refine wpAnyIn_ready (rs := [6]) (by kernel_rfl) (by simp) ?_
              refine AllReadyIn.cons rfl (fun K hK => ?_) ?_
              · skip
                go_simp
                refine hK _ _ ?_
                clear hK K
                refine wpAnyIn_done (by kernel_rfl) ?_ _
                exact H.out _ _ ⟨_, H6.out.2.2⟩
              exact AllReadyIn.nil
            exact AllReadyIn.nil
          exact AllReadyIn.nil
        exact AllReadyIn.nil
      refine AllReadyIn.cons rfl (fun K hK => ?_) ?_
      · skip
        go_simp
        gi_wp2_with (gi_at_call 19; refine (HP.out _ (HT.out.fr ((Fr.refl [] w).drew) (by simp))).mono ?_; rintro e w5 ⟨rfl, hf5⟩; have hf5' := (Fr.refl [] w).drew.trans hf5; have HF5 := hide hf5'; have r50 : w5.cell? ⟨br, 0, none⟩ = some (.slice AV k cV) := ((CR.out.fr hf5' (by simp)).cell 0).trans rfl; have r51 : (w5.alloc (.cells #[.int .i64 (lrg n Lb : Int), .int .i64 (sets n Lb : Int), .int .i64 (sq n Lb : Int)] 37)).cell? ⟨br, 0, none⟩ = some (.slice AV k cV) := (((CR.out.fr hf5' (by simp)).alloc _).cell 0).trans rfl; clear hf5 hf5')
        refine wpAnyIn_ready (rs := [0, 4]) (by kernel_rfl) (by simp) ?_
        refine AllReadyIn.cons rfl (fun K hK => ?_) ?_
        · skip
          go_simp
          refine hK _ _ ?_
          clear hK K
          refine wpAnyIn_ready (rs := [4]) (by kernel_rfl) (by simp) ?_
          refine AllReadyIn.cons rfl (fun K hK => ?_) ?_
          · skip
            go_simp
            refine hK _ _ ?_
            clear hK K
            refine wpAnyIn_ready (rs := [5]) (by kernel_rfl) (by simp) ?_
            refine AllReadyIn.cons rfl (fun K hK => ?_) ?_
            · skip
              refine step_appIn 25 37 Try.underlying25 hi hz0 hz1 hz2 rfl (by decide) #[.int .i64 (lrg n Lb : Int), .int .i64 (sets n Lb : Int), .int .i64 (sq n Lb : Int)] rfl (rowC_one n Lb) rfl _ _ rfl B (.slice AV k cV) k xs rfl (own_fr HO.out HF5.out (by simp)) rfl (by have : maxLen = 9223372036854775807 := rfl; omega) (by omega) (by have := HF5.out.size; omega) ?_
              intro v' w6 hown' hgrow
              have H6 := hide (col_fin HOB.out HF5.out CR.out hB hgrow hown')
              obtain ⟨g', cap', rfl⟩ := ownsRow_succ hown'
              have r60 := H6.out.1
              have z60 := H6.out.2.1
              clear hown' hgrow
              refine hK _ _ ?_
              clear hK K
              refine wpAnyIn_ready (rs := [6]) (by kernel_rfl) (by simp) ?_
              refine AllReadyIn.cons rfl (fun K hK => ?_) ?_
              · skip
                go_simp
                refine hK _ _ ?_
                clear hK K
                refine wpAnyIn_done (by kernel_rfl) ?_ _
                exact H.out _ _ ⟨_, H6.out.2.2⟩
              exact AllReadyIn.nil
            exact AllReadyIn.nil
          exact AllReadyIn.nil
        refine AllReadyIn.cons rfl (fun K hK => ?_) ?_
        · skip
          go_simp
          refine hK _ _ ?_
          clear hK K
          refine wpAnyIn_ready (rs := [0]) (by kernel_rfl) (by simp) ?_
          refine AllReadyIn.cons rfl (fun K hK => ?_) ?_
          · skip
            go_simp
            refine hK _ _ ?_
            clear hK K
            refine wpAnyIn_ready (rs := [5]) (by kernel_rfl) (by simp) ?_
            refine AllReadyIn.cons rfl (fun K hK => ?_) ?_
            · skip
              refine step_appIn 25 37 Try.underlying25 hi hz0 hz1 hz2 rfl (by decide) #[.int .i64 (lrg n Lb : Int), .int .i64 (sets n Lb : Int), .int .i64 (sq n Lb : Int)] rfl (rowC_one n Lb) rfl _ _ rfl B (.slice AV k cV) k xs rfl (own_fr HO.out HF5.out (by simp)) rfl (by have : maxLen = 9223372036854775807 := rfl; omega) (by omega) (by have := HF5.out.size; omega) ?_
              intro v' w6 hown' hgrow
              have H6 := hide (col_fin HOB.out HF5.out CR.out hB hgrow hown')
              obtain ⟨g', cap', rfl⟩ := ownsRow_succ hown'
              have r60 := H6.out.1
              have z60 := H6.out.2.1
              clear hown' hgrow
              refine hK _ _ ?_
              clear hK K
              refine wpAnyIn_ready (rs := [6]) (by kernel_rfl) (by simp) ?_
              refine AllReadyIn.cons rfl (fun K hK => ?_) ?_
              · skip
                go_simp
                refine hK _ _ ?_
                clear hK K
                refine wpAnyIn_done (by kernel_rfl) ?_ _
                exact H.out _ _ ⟨_, H6.out.2.2⟩
              exact AllReadyIn.nil
            exact AllReadyIn.nil
          exact AllReadyIn.nil
        exact AllReadyIn.nil
      exact AllReadyIn.nil
    exact AllReadyIn.nil
  exact AllReadyIn.nil
end Go.Proofs.Ytoomcgmbaogjbaa
