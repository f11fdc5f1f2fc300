/- A region that draws its order, by a relation that every operation keeps; frames by their slots. Nothing of the program. -/
import Derived.Test.YtoomcgmbaogjbaaDoorMem
import Derived.Orders
namespace Go.Proofs.YtoomcgmbaogjbaaDoor
open Go.RowKit
set_option linter.unusedVariables false

theorem ready_false {md : Region.Mode} {ops : Array Oper} {L : Array Bool} {i : Nat} (h : i ∈ Region.ready md ops L) : i < ops.size ∧ ∃ hi : i < L.size, L[i] = false := by
  unfold Region.ready at h
  obtain ⟨h1, h2⟩ := List.mem_filter.1 h
  refine ⟨List.mem_range.1 h1, ?_⟩
  rw [Bool.and_eq_true, Bool.not_eq_true'] at h2
  by_cases hi : i < L.size
  · refine ⟨hi, ?_⟩
    have := h2.1
    rwa [Array.getD_eq_getD_getElem?, Array.getElem?_eq_getElem hi] at this
  · have := h2.1
    rw [Array.getD_eq_getD_getElem?, Array.getElem?_eq_none (by omega)] at this
    cases this
theorem wpAny_inv {P : Program} {ops : Array Oper} {Q : Exit → Act → World → Prop} {md : Region.Mode} (I : Array Bool → Act → World → Prop)
    (hstep : ∀ L a w, I L a w → ∀ i ∈ Region.ready md ops L, wpOp P ops Q i (I (L.setIfInBounds i true)) a w)
    (hend : ∀ L a w, I L a w → Region.ready md ops L = [] → Q .normal a w) :
    ∀ fuel L a w, I L a w → L.toList.count false ≤ fuel → wpAny P md ops Q fuel L a w := by
  intro fuel
  induction fuel with
  | zero =>
    intro L a w h hf
    have hr : Region.ready md ops L = [] := by
      cases hr : Region.ready md ops L with
      | nil => rfl
      | cons i rs =>
        obtain ⟨-, hi, e⟩ := ready_false (md := md) (ops := ops) (L := L) (i := i) (by rw [hr]; simp)
        have : false ∈ L.toList := by
          rw [← e]; exact Array.mem_toList_iff.2 (Array.getElem_mem hi)
        have := List.count_pos_iff.2 this
        omega
    exact ⟨hr, hend L a w h hr⟩
  | succ fuel ih =>
    intro L a w h hf
    refine ⟨hend L a w h, fun i hi => wpOp_mono (fun a' w' h' => ih _ _ _ h' ?_) (hstep L a w h i hi)⟩
    obtain ⟨-, hL, e⟩ := ready_false hi
    rw [Array.toList_setIfInBounds, List.count_set (by simpa using hL)]
    have e2 : L.toList[i]'(by simpa using hL) = false := e
    rw [e2]
    have : 0 < L.toList.count false := List.count_pos_iff.2 (by rw [← e]; exact Array.mem_toList_iff.2 (Array.getElem_mem hL))
    have e3 : ((false == false) = true) = True := by simp
    have e4 : ((true == false) = true) = False := by simp
    simp only [e3, e4, if_true, if_false]
    omega
/-- A frame that is a0's but for what m tells. -/
def Ov (a0 a : Act) (m : Nat → Option Value) : Prop := a.defers = a0.defers ∧ a.tmps.size = a0.tmps.size ∧ ∀ s, s < a0.tmps.size → a.tmps[s]? = some ((m s).getD ((a0.tmps[s]?).getD undef))
theorem Ov.start (a0 : Act) : Ov a0 a0 fun _ => none := ⟨rfl, rfl, fun s hs => by simp [Array.getElem?_eq_getElem hs]⟩
theorem Ov.put {a0 a : Act} {m : Nat → Option Value} (h : Ov a0 a m) (d : Nat) (v : Value) : Ov a0 (a.put (some d) v) fun s => if s = d then some v else m s := by
  obtain ⟨h1, h2, h3⟩ := h
  refine ⟨h1, by show (a.tmps.setIfInBounds d v).size = _; simpa using h2, fun s hs => ?_⟩
  show (a.tmps.setIfInBounds d v)[s]? = _
  rw [Array.getElem?_setIfInBounds]
  by_cases e : s = d
  · subst e; simp [h2, hs]
  · rw [if_neg (fun e2 => e e2.symm)]
    show _ = some ((if s = d then some v else m s).getD _)
    rw [if_neg e]; exact h3 s hs
theorem Ov.eval {a0 a : Act} {m : Nat → Option Value} (h : Ov a0 a m) {s : Nat} (hs : s < a0.tmps.size) : a.eval (.tmp s) = (m s).getD ((a0.tmps[s]?).getD undef) := by
  show a.tmps.getD s undef = _
  rw [Array.getD_eq_getD_getElem?, h.2.2 s hs]; rfl
theorem Ov.old {a0 a : Act} {m : Nat → Option Value} (h : Ov a0 a m) {s : Nat} (hs : s < a0.tmps.size) (hm : m s = none) : a.eval (.tmp s) = a0.eval (.tmp s) := by
  rw [h.eval hs, hm]
  show _ = a0.tmps.getD s undef
  rw [Array.getD_eq_getD_getElem?]; rfl
theorem Ov.congr {a0 a : Act} {m m' : Nat → Option Value} (h : Ov a0 a m) (e : ∀ s, s < a0.tmps.size → (m s).getD ((a0.tmps[s]?).getD undef) = (m' s).getD ((a0.tmps[s]?).getD undef)) : Ov a0 a m' :=
  ⟨h.1, h.2.1, fun s hs => by rw [h.2.2 s hs, e s hs]⟩
theorem Ov.eq {a0 a a' : Act} {m : Nat → Option Value} (h : Ov a0 a m) (h' : Ov a0 a' m) : a = a' := by
  obtain ⟨t, d⟩ := a
  obtain ⟨t', d'⟩ := a'
  obtain ⟨h1, h2, h3⟩ := h
  obtain ⟨k1, k2, k3⟩ := h'
  change d = _ at h1
  change d' = _ at k1
  have : t = t' := Array.ext_getElem? fun s => by
    by_cases hs : s < a0.tmps.size
    · exact (h3 s hs).trans (k3 s hs).symm
    · change t.size = _ at h2
      change t'.size = _ at k2
      rw [Array.getElem?_eq_none (by omega), Array.getElem?_eq_none (by omega)]
  subst this
  rw [h1, k1]
theorem wpOp_at {P : Program} {ops : Array Oper} {Q : Exit → Act → World → Prop} {i : Nat} {o : Oper} {K : Act → World → Prop} {a : Act} {w : World} (ho : ops[i]? = some o) (hg : o.guard = none) (v : Value) (w' : World)
    (hr : (execOp a.eval o).run P w = .ok (.value v) w') (hK : K (a.put o.dst v) w') : wpOp P ops Q i K a w := by
  unfold wpOp
  rw [ho]
  have hw : Region.wanted o (yielded ops a.tmps) = true := by simp [Region.wanted, hg]
  simp only [hw, if_true]
  refine .inl ?_
  unfold Oper.wp
  rw [hr]; exact hK
theorem wpOp_wp {P : Program} {ops : Array Oper} {Q : Exit → Act → World → Prop} {i : Nat} {o : Oper} {K : Act → World → Prop} {a : Act} {w : World} (ho : ops[i]? = some o) (hg : o.guard = none) (h : o.wp P a w K Q) : wpOp P ops Q i K a w := by
  unfold wpOp
  rw [ho]
  have hw : Region.wanted o (yielded ops a.tmps) = true := by simp [Region.wanted, hg]
  simp only [hw, if_true]
  exact .inl h
/-- The operations of region k. -/
def regOps (k : Nat) : Code → Option (Array Oper)
  | .region id ops _ => if id = k then some ops else none
  | .seq a b => (regOps k a).orElse fun _ => regOps k b
  | .cond _ a b => (regOps k a).orElse fun _ => regOps k b
  | .loop a => regOps k a
  | .block _ a => regOps k a
  | _ => none
theorem wpOp_skip {P : Program} {ops : Array Oper} {Q : Exit → Act → World → Prop} {i : Nat} {o : Oper} {K : Act → World → Prop} {a : Act} {w : World} (ho : ops[i]? = some o) (hg : o.guard = none) (w' : World)
    (hr : (execOp a.eval o).run P w = .ok .skip w') (hK : K (a.put o.dst undef) w') : wpOp P ops Q i K a w := by
  unfold wpOp
  rw [ho]
  have hw : Region.wanted o (yielded ops a.tmps) = true := by simp [Region.wanted, hg]
  simp only [hw, if_true]
  refine .inl ?_
  unfold Oper.wp
  rw [hr]; exact hK
end Go.Proofs.YtoomcgmbaogjbaaDoor
