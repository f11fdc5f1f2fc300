/- lct: splay. lct: slices.Backward over a path, whose elements are pushed. -/
import Derived.Test.YtoomcgmbaogjbaaDoorLctF
import Derived.Test.YtoomcgmbaogjbaaDoorRngM
import Derived.RangeFuncBox
import Derived.RangeFuncCalls
import Derived.LoopIn
import Derived.OwnWalkIn
import Derived.Shelf.RegionOpen
import Derived.Test.YtoomcgmbaogjbaaDoorGraQ
import Derived.RangeFuncBound
namespace Go.Proofs.YtoomcgmbaogjbaaDoor
open Go.RowKit Go.Shelf
attribute [local go_sem] Oper.semAt_some
set_option linter.unusedVariables false

/-- A rotation of a node of S, as a contract. -/
theorem lctRotate (w : World) (l : LLoc) (N : Nat) (M0 M : LM) (sq0 sq : Nat → List Nat) (S : List Nat) (i : Nat) (h : Lf w l N M) (hS : Spl N M0 M sq0 sq S) (hi : i ∈ S) (hk : Kid M i) (hfi : M.fl i = false) (hfp : M.fl (M.up i) = false) :
    Calls Tryd.prog 51 #[.pointer (some ⟨l.g, 0, none⟩), .int .i64 (i : Int)] w fun e w' => e = .returned (.tuple #[]) ∧ ∃ M' s t, Lf w' l N M' ∧ s < 2 ∧ M.k s (M.up i) = i ∧ Rot M M' i (M.up i) (M.up (M.up i)) (M.k t i) s t ∧ ((s = 0 ∧ t = 1) ∨ (s = 1 ∧ t = 0)) ∧ Spl N M0 M' sq0 (sqR M sq i (M.up i) s) S ∧ Fr [l.b] w w' := by
  obtain ⟨i1, i2, -, hpS⟩ := hS.sub hi
  have hq := hS.q
  obtain ⟨p1, p2, -, -⟩ := hS.sub (hpS hk)
  have g2 := hq.uN (M.up i) p1 p2
  have hst : ∃ s t, ((s = 0 ∧ t = 1) ∨ (s = 1 ∧ t = 0)) ∧ M.k s (M.up i) = i ∧ (s = 1 → M.k 0 (M.up i) ≠ i) := by
    rcases hk.2 with e | e
    · exact ⟨0, 1, .inl ⟨rfl, rfl⟩, e, fun h => by cases h⟩
    · refine ⟨1, 0, .inr ⟨rfl, rfl⟩, e, fun _ e0 => ?_⟩
      exact hq.kids_ne p1 p2 (by rw [e0]; omega) (e0.trans e.symm)
  obtain ⟨s, t, st, hks, hs0⟩ := hst
  have ht : t < 2 := by omega
  have hc2 := hq.kN i t i1 i2 ht
  have HS : ∀ W, Lf W l N M → Calls Tryd.prog 48 #[.pointer (some ⟨l.g, 0, none⟩), .int .i64 (i : Int)] W fun e w' => e = .returned (.tuple #[.int .i64 (s : Int), .bool true]) ∧ W = w' := fun W hW => by
    rcases st with ⟨rfl, rfl⟩ | ⟨rfl, rfl⟩
    · exact lctSide_0 W l N M i hW i2 p2 hk.1 hks
    · exact lctSide_1 W l N M i hW i2 p2 hk.1 (hs0 rfl) hks
  have fin : ∀ (o : Option Nat), (match o with | some a => a < 2 ∧ M.up (M.up i) ≠ 0 ∧ M.k a (M.up (M.up i)) = M.up i | none => ¬ Kid M (M.up i)) →
      (RK (rot3 M i (M.up i) (M.up (M.up i)) (M.k t i) s t o) N (M.up i) → RK ((rot3 M i (M.up i) (M.up (M.up i)) (M.k t i) s t o).setFi (M.up i) (rfr (rot3 M i (M.up i) (M.up (M.up i)) (M.k t i) s t o) (M.up i))) N i →
        Calls Tryd.prog 51 #[.pointer (some ⟨l.g, 0, none⟩), .int .i64 (i : Int)] w fun e w' => e = .returned (.tuple #[]) ∧ Lf w' l N (rot5 M i (M.up i) (M.up (M.up i)) (M.k t i) s t o) ∧ Fr [l.b] w w') →
      Calls Tryd.prog 51 #[.pointer (some ⟨l.g, 0, none⟩), .int .i64 (i : Int)] w fun e w' => e = .returned (.tuple #[]) ∧ ∃ M' s t, Lf w' l N M' ∧ s < 2 ∧ M.k s (M.up i) = i ∧ Rot M M' i (M.up i) (M.up (M.up i)) (M.k t i) s t ∧ ((s = 0 ∧ t = 1) ∨ (s = 1 ∧ t = 0)) ∧ Spl N M0 M' sq0 (sqR M sq i (M.up i) s) S ∧ Fr [l.b] w w' := fun o ho hc => by
    obtain ⟨hR, m1, m2⟩ := rot5_law (o := o) hq i1 i2 p1 p2 rfl rfl st hks rfl hfi hfp ho
    have k3 : ∀ u x, u < 2 → (rot3 M i (M.up i) (M.up (M.up i)) (M.k t i) s t o).k u x = if x = i ∧ u = t then M.up i else if x = M.up i ∧ u = s then M.k t i else if x = M.up (M.up i) ∧ M.up (M.up i) ≠ 0 ∧ M.k u (M.up (M.up i)) = M.up i then i else M.k u x := hR.k_
    have f3 : (rot3 M i (M.up i) (M.up (M.up i)) (M.k t i) s t o).fi = M.fi := by
      unfold rot3
      rw [(hang_o _ _ _ _).2.2, (hang_o _ _ _ _).2.2]
      cases o with
      | none => rfl
      | some a => exact (hang_o _ _ _ _).2.2
    obtain ⟨r1, r2⟩ := rot3_ok (g := M.up (M.up i)) hq i1 i2 p1 p2 rfl st hks rfl k3 (fun u hu h0 e => by
      have h1 := hq.kid_len (x := M.up (M.up i)) (by omega) g2 hu
      have h2 := hq.kid_len p1 p2 (s := s) (by omega)
      rw [e] at h1
      rw [hks] at h2
      exact ⟨fun e2 => by rw [e2] at h1; omega, fun e2 => by rw [e2] at h1; omega⟩) f3
    refine (hc r1 r2).mono ?_
    rintro e w' ⟨rfl, hl, hf⟩
    exact ⟨rfl, _, s, t, hl, by omega, hks, hR, st, hS.rot hi hk rfl rfl st hks rfl hfi hfp hR m1 m2, hf⟩
  by_cases hkp : Kid M (M.up i)
  · obtain ⟨a, ha, hak, hg1, -⟩ := hq.kid_at p1 p2 hkp
    have hst2 : ∃ a, a < 2 ∧ M.k a (M.up (M.up i)) = M.up i ∧ (a = 1 → M.k 0 (M.up (M.up i)) ≠ M.up i) := by
      rcases hkp.2 with e | e
      · exact ⟨0, by decide, e, fun h => by cases h⟩
      · refine ⟨1, by decide, e, fun _ e0 => ?_⟩
        exact hq.kids_ne hg1 g2 (by rw [e0]; omega) (e0.trans e.symm)
    clear ha hak
    obtain ⟨a, ha, hak, ha0⟩ := hst2
    refine fin (some a) ⟨ha, hkp.1, hak⟩ fun r1 r2 => lctRot_some w l N M i _ _ _ s t a h i1 i2 p2 g2 rfl rfl st (by omega) rfl hc2 (fun e => ?_) HS (fun W hW => ?_) r1 r2
    · have h1 := hq.kid_len hg1 g2 ha
      rw [hak, ← e.1] at h1
      have h2 := (hq.kid_in i1 i2 hk).2
      omega
    · rcases (show a = 0 ∨ a = 1 by omega) with rfl | rfl
      · exact lctSide_0 W l N M (M.up i) hW p2 g2 hkp.1 hak
      · exact lctSide_1 W l N M (M.up i) hW p2 g2 hkp.1 (ha0 rfl) hak
  · exact fin none hkp fun r1 r2 => lctRot_none w l N M i _ _ _ s t h i1 i2 p2 g2 rfl rfl st rfl hc2 HS (fun W hW => lctSide_no W l N M (M.up i) hW p2 g2 hkp) r1 r2
end Go.Proofs.YtoomcgmbaogjbaaDoor
namespace Go.Proofs.YtoomcgmbaogjbaaDoor
open Go.RowKit Go.Shelf
attribute [local go_sem] Oper.semAt_some
set_option linter.unusedVariables false

def nts (l : List Nat) : List Value := l.map fun (i : Nat) => Value.int .i64 (i : Int)
theorem nts_snoc (l : List Nat) (x : Nat) : nts (l ++ [x]) = nts l ++ (#[Value.int .i64 (x : Int)] : Array Value).toList := by simp [nts]
theorem bkw (W : World) (A : Option Addr) (m c : Nat) : Calls Tryd.prog 49 #[.slice A m c] W fun e w' => e = .returned (.func (.func 64) #[] #[.pointer (some ⟨W.heap.size, 0, none⟩)]) ∧ w' = W.alloc (.cells #[.slice A m c] 30) := by
  go_enter Tryd.func49, Tryd.ntmps49
  go_wp2_with fail
  go_ret
  exact ⟨rfl, rfl⟩

set_option maxRecDepth 100000 in
set_option maxHeartbeats 4000000 in
/-- The closure of slices.Backward: J t: what holds when the elements from t on are done. -/
theorem bkwClo (N : Nat) (hN : 1 ≤ N) (L : Nat) (P : List Nat) (b c bx : Nat) (hm : P.length ≤ 1000000) (J : Nat → World → Prop) (R : World → Prop)
    (hJ : ∀ t U, J t U → U.cell? ⟨bx, 0, none⟩ = some (.slice (some ⟨b, 0, none⟩) P.length c) ∧ ∀ k (h : k < P.length), U.cell? ⟨b, k, none⟩ = some (.int .i64 (P[k] : Int)))
    (hY : ∀ t (h : t < P.length) U, J (t + 1) U → R U → YieldAt Fence.wide (N - 1) Tryd.prog L #[.int .i64 (t : Int), .int .i64 (P[t] : Int)] U fun e V => e = .returned (.bool true) ∧ J t V ∧ R V)
    (W : World) (h0 : J P.length W) (hr : R W) :
    CallsIn Fence.wide N Tryd.prog 64 #[.func (.yield L) #[] #[], .pointer (some ⟨bx, 0, none⟩)] W fun e V => (∃ v, e = .returned v) ∧ J 0 V ∧ R V := by
  have HJ := hide hJ
  have HY := hide hY
  have H0 := hide h0
  have HR := hide hr
  have cB := (hJ _ _ h0).1
  clear hJ hY h0 hr
  have hw1 : IntKind.i64.wrap ((P.length : Int) - 1) = (P.length : Int) - 1 := IntWalk.i64_in _ (by omega)
  refine callsIn_of_wp Tryd.func64 rfl trivial ?_ rfl
  simp only [Tryd.ntmps64, List.size_toArray, List.length_cons, List.length_nil, Nat.reduceAdd, Nat.reduceSub, Array.replicate_succ, Array.replicate_zero, List.push_toArray, List.append_toArray, List.nil_append, List.cons_append]
  gi_wp2_with fail
  gi_loopw [3] (fun i wr => ∃ k : Nat, k ≤ P.length ∧ i = .int .i64 ((k : Int) - 1) ∧ J k wr ∧ R wr) (fun i _ => (intOf i + 1).toNat)
  case atStart => exact ⟨P.length, Nat.le_refl _, rfl, H0.out, HR.out⟩
  case round =>
    obtain ⟨k, hk, rfl, hj, hr⟩ := hrel
    clear H0 HR cB
    cases k with
    | zero =>
      gi_wp2_with fail
      go_end0
      exact ⟨⟨_, rfl⟩, hj, hr⟩
    | succ t =>
      have ht : t < P.length := hk
      obtain ⟨cB, cE⟩ := HJ.out _ _ hj
      have cT := cE t ht
      have HY1 := hide (HY.out t ht wr hj hr)
      have e1 : ((t + 1 : Nat) : Int) - 1 = (t : Int) := by omega
      rw [e1]
      have b1 : (t : Int) < (P.length : Int) := by omega
      have e2 : IntKind.i64.wrap ((t : Int) - 1) = (t : Int) - 1 := IntWalk.i64_in _ (by omega)
      clear cE hj hr
      generalize P[t] = x at *
      obtain ⟨fn, tmps, assign, body, hy, hRn⟩ := HY1.out
      have HRn := hide hRn
      have hy0 : (Instr.yield L #[.int .i64 (t : Int), .int .i64 (x : Int)]).run Tryd.prog wr = .ok (.round L fn tmps assign body) wr := hy
      clear HY1 hRn hy
      gi_wp2_with fail
      refine HRn.out.mono ?_
      rintro e W1 ⟨rfl, hj1, hr1⟩
      have HJ1 := hide hj1
      have HR1 := hide hr1
      clear hj1 hr1 hy0 HRn
      gi_wp2_with fail
      go_roundw
      case rel => exact ⟨t, by omega, rfl, HJ1.out, HR1.out⟩
      case measure => simp [intOf]
end Go.Proofs.YtoomcgmbaogjbaaDoor
