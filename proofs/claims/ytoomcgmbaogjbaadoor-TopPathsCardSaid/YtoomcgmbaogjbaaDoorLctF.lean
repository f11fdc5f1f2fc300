/- lct: side, hang, before. lct: refresh. lct: push. lct: rotate. lct: rotate, walked. -/
import Derived.Test.YtoomcgmbaogjbaaDoorLctM
import Derived.Test.YtoomcgmbaogjbaaDoorLctL
import Derived.LoopN
import Derived.StillTailTactics
import Derived.Deep.DeepCutAuto
namespace Go.Proofs.YtoomcgmbaogjbaaDoor
open Go.RowKit
set_option linter.unusedVariables false

theorem arr_ix0 : ∀ (a b : Int) (W : World), (Instr.index 75 (.agg #[.int .i64 a, .int .i64 b]) (.int .i64 0)).run Tryd.prog W = .ok (.int .i64 a) W := fun a b W => by kernel_rfl
theorem arr_ix1 : ∀ (a b : Int) (W : World), (Instr.index 75 (.agg #[.int .i64 a, .int .i64 b]) (.int .i64 1)).run Tryd.prog W = .ok (.int .i64 b) W := fun a b W => by kernel_rfl
section
variable (w : World) (p : LLoc) (N : Nat) (M : LM) (i : Nat)
set_option maxRecDepth 100000 in
theorem lctSide_no (h : Lf w p N M) (hi : i ≤ N) (hu : M.up i ≤ N) (hk : ¬ Kid M i) : Calls Tryd.prog 48 #[.pointer (some ⟨p.g, 0, none⟩), .int .i64 (i : Int)] w fun e w' => e = .returned (.tuple #[.int .i64 0, .bool false]) ∧ w = w' := by
  have hix0 := arr_ix0
  have hix1 := arr_ix1
  have c1 := h.c1
  have cu := h.up hi
  have k0 := h.k0 hu
  have k1 := h.k1 hu
  have b1 : (i : Int) < ((N + 1 : Nat) : Int) := by omega
  have b2 : (M.up i : Int) < ((N + 1 : Nat) : Int) := by omega
  by_cases h0 : M.up i = 0
  · rw [h0] at cu
    clear h k0 k1 b2 hu hk
    go_enter Tryd.func48, Tryd.ntmps48
    go_wp2_with fail
    go_ret2
    exact ⟨rfl, rfl⟩
  · have e0 : ¬ (M.k 0 (M.up i) : Int) = (i : Int) := fun e => hk ⟨h0, .inl (by omega)⟩
    have e1 : ¬ (M.k 1 (M.up i) : Int) = (i : Int) := fun e => hk ⟨h0, .inr (by omega)⟩
    have e0' : ¬ M.k 0 (M.up i) = i := fun e => hk ⟨h0, .inl e⟩
    have e1' : ¬ M.k 1 (M.up i) = i := fun e => hk ⟨h0, .inr e⟩
    have h0' : ¬ (M.up i : Int) = 0 := by omega
    generalize M.k 0 (M.up i) = x at *
    generalize M.k 1 (M.up i) = y at *
    generalize M.up i = u at *
    clear h hk
    go_enter Tryd.func48, Tryd.ntmps48
    go_wp2_with fail
    refine wp_loop_rounds 3 ?_
    rw [rounds_succ]
    go_wp2_with fail
    rw [rounds_succ]
    go_wp2_with fail
    rw [rounds_succ]
    go_wp2_with fail
    go_ret2
    exact ⟨rfl, rfl⟩
set_option maxRecDepth 100000 in
theorem lctSide_0 (h : Lf w p N M) (hi : i ≤ N) (hu : M.up i ≤ N) (h0 : M.up i ≠ 0) (hk : M.k 0 (M.up i) = i) : Calls Tryd.prog 48 #[.pointer (some ⟨p.g, 0, none⟩), .int .i64 (i : Int)] w fun e w' => e = .returned (.tuple #[.int .i64 0, .bool true]) ∧ w = w' := by
  have hix0 := arr_ix0
  have hix1 := arr_ix1
  have c1 := h.c1
  have cu := h.up hi
  have k0 := h.k0 hu
  have k1 := h.k1 hu
  have b1 : (i : Int) < ((N + 1 : Nat) : Int) := by omega
  have b2 : (M.up i : Int) < ((N + 1 : Nat) : Int) := by omega
  have h0' : ¬ (M.up i : Int) = 0 := by omega
  rw [hk] at k0
  generalize M.k 1 (M.up i) = y at *
  generalize M.up i = u at *
  clear h hk
  go_enter Tryd.func48, Tryd.ntmps48
  go_wp2_with fail
  refine wp_loop_rounds 3 ?_
  rw [rounds_succ]
  go_wp2_with fail
  go_ret2
  exact ⟨rfl, rfl⟩
set_option maxRecDepth 100000 in
theorem lctSide_1 (h : Lf w p N M) (hi : i ≤ N) (hu : M.up i ≤ N) (h0 : M.up i ≠ 0) (hk0 : M.k 0 (M.up i) ≠ i) (hk : M.k 1 (M.up i) = i) : Calls Tryd.prog 48 #[.pointer (some ⟨p.g, 0, none⟩), .int .i64 (i : Int)] w fun e w' => e = .returned (.tuple #[.int .i64 1, .bool true]) ∧ w = w' := by
  have hix0 := arr_ix0
  have hix1 := arr_ix1
  have c1 := h.c1
  have cu := h.up hi
  have k0 := h.k0 hu
  have k1 := h.k1 hu
  have b1 : (i : Int) < ((N + 1 : Nat) : Int) := by omega
  have b2 : (M.up i : Int) < ((N + 1 : Nat) : Int) := by omega
  have h0' : ¬ (M.up i : Int) = 0 := by omega
  have e0 : ¬ (M.k 0 (M.up i) : Int) = (i : Int) := by omega
  rw [hk] at k1
  generalize M.k 0 (M.up i) = y at *
  generalize M.up i = u at *
  clear h hk
  go_enter Tryd.func48, Tryd.ntmps48
  go_wp2_with fail
  refine wp_loop_rounds 3 ?_
  rw [rounds_succ]
  go_wp2_with fail
  rw [rounds_succ]
  go_wp2_with fail
  go_ret2
  exact ⟨rfl, rfl⟩
/-- k hangs below i on a side. -/
def LM.hang (M : LM) (i s k : Nat) : LM := if k = 0 then M.setK s i k else (M.setK s i k).setUp k i
set_option maxRecDepth 100000 in
theorem lctHang (s k : Nat) (h : Lf w p N M) (hi : i ≤ N) (hk : k ≤ N) (hs : s = 0 ∨ s = 1) : Calls Tryd.prog 65 #[.pointer (some ⟨p.g, 0, none⟩), .int .i64 (i : Int), .int .i64 (s : Int), .int .i64 (k : Int)] w
    fun e w' => e = .returned (.tuple #[]) ∧ Lf w' p N (M.hang i s k) ∧ Fr [p.b] w w' := by
  have c1 := h.c1
  have b1 : (i : Int) < ((N + 1 : Nat) : Int) := by omega
  have b2 : (k : Int) < ((N + 1 : Nat) : Int) := by omega
  have HF := hide ((Fr.refl [p.b] w))
  rcases hs with rfl | rfl
  · have k0 := h.k0 hi
    have z0 := h.frz (i * 9)
    have h1 := h.setK0 hi k
    have c2 := h1.c1
    have cu := h1.up hk
    have zu := h1.frz (k * 9 + 2)
    by_cases e : k = 0
    · subst e
      have H1 := hide h1
      clear h h1 c2 cu zu
      go_enter Tryd.func65, Tryd.ntmps65
      go_wp2_with fail
      go_end0
      refine ⟨rfl, ?_, HF.out.setCell (p := ⟨p.b, i * 9, none⟩) (.inl (by simp)) _⟩
      unfold LM.hang
      rw [if_pos rfl]
      exact H1.out
    · have e' : ¬ (k : Int) = 0 := by omega
      have H1 := hide (h1.setUp hk i)
      clear h h1
      go_enter Tryd.func65, Tryd.ntmps65
      go_wp2_with fail
      go_end0
      refine ⟨rfl, ?_, (HF.out.setCell (p := ⟨p.b, i * 9, none⟩) (.inl (by simp)) _).setCell (p := ⟨p.b, k * 9 + 2, none⟩) (.inl (by simp)) _⟩
      unfold LM.hang
      rw [if_neg e]
      exact H1.out
  · have k0 := h.k1 hi
    have z0 := h.frz (i * 9 + 1)
    have h1 := h.setK1 hi k
    have c2 := h1.c1
    have cu := h1.up hk
    have zu := h1.frz (k * 9 + 2)
    by_cases e : k = 0
    · subst e
      have H1 := hide h1
      clear h h1 c2 cu zu
      go_enter Tryd.func65, Tryd.ntmps65
      go_wp2_with fail
      go_end0
      refine ⟨rfl, ?_, HF.out.setCell (p := ⟨p.b, i * 9 + 1, none⟩) (.inl (by simp)) _⟩
      unfold LM.hang
      rw [if_pos rfl]
      exact H1.out
    · have e' : ¬ (k : Int) = 0 := by omega
      have H1 := hide (h1.setUp hk i)
      clear h h1
      go_enter Tryd.func65, Tryd.ntmps65
      go_wp2_with fail
      go_end0
      refine ⟨rfl, ?_, (HF.out.setCell (p := ⟨p.b, i * 9 + 1, none⟩) (.inl (by simp)) _).setCell (p := ⟨p.b, k * 9 + 2, none⟩) (.inl (by simp)) _⟩
      unfold LM.hang
      rw [if_neg e]
      exact H1.out
set_option maxRecDepth 100000 in
theorem lctBefore (j : Nat) (h : Lf w p N M) (hi : i ≤ N) (hj : j ≤ N) : Calls Tryd.prog 38 #[.pointer (some ⟨p.g, 0, none⟩), .int .i64 (i : Int), .int .i64 (j : Int)] w
    fun e w' => e = .returned (.bool (bef M.key i j)) ∧ ∃ k, w' = w.drewN k := by
  have c1 := h.c1
  have b1 : (i : Int) < ((N + 1 : Nat) : Int) := by omega
  have b2 : (j : Int) < ((N + 1 : Nat) : Int) := by omega
  have ki := h.ky hi
  have kj := h.ky hj
  unfold bef
  generalize M.key i = a at *
  generalize M.key j = b at *
  clear h
  by_cases h1 : a < b
  · rw [decide_eq_true (.inl h1)]
    go_enter Tryd.func38, Tryd.ntmps38
    go_wp2_with fail
    go_quiet (fail)
    go_wp2_with fail
    go_ret
    exact ⟨rfl, _, rfl⟩
  · by_cases h2 : a = b
    · subst h2
      by_cases h3 : i < j
      · rw [decide_eq_true (.inr ⟨rfl, h3⟩)]
        have h3' : (i : Int) < (j : Int) := by omega
        go_enter Tryd.func38, Tryd.ntmps38
        go_wp2_with fail
        go_quiet (fail)
        go_wp2_with fail
        go_ret
        exact ⟨rfl, _, rfl⟩
      · rw [decide_eq_false (fun e => e.elim h1 fun e => h3 e.2)]
        have h3' : ¬ (i : Int) < (j : Int) := by omega
        go_enter Tryd.func38, Tryd.ntmps38
        go_wp2_with fail
        go_quiet (fail)
        go_wp2_with fail
        go_ret
        exact ⟨rfl, _, rfl⟩
    · rw [decide_eq_false (fun e => e.elim h1 fun e => h2 e.1)]
      go_enter Tryd.func38, Tryd.ntmps38
      go_wp2_with fail
      go_quiet (fail)
      go_wp2_with fail
      go_ret
      refine ⟨?_, _, rfl⟩
      show Ending.returned (.bool (decide (a < b))) = _
      rw [decide_eq_false (by omega : ¬ a < b)]
end
end Go.Proofs.YtoomcgmbaogjbaaDoor
namespace Go.Proofs.YtoomcgmbaogjbaaDoor
open Go.RowKit
set_option linter.unusedVariables false

/-- The first one so far, and the kid k. -/
def stp (M : LM) (a k : Nat) : Nat := if k ≠ 0 ∧ bef M.key (M.fi k) a = true then M.fi k else a
def stpN (M : LM) (i : Nat) : Nat → Nat
  | 0 => i
  | j + 1 => stp M (stpN M i j) (M.k j i)
/-- The first of i's subtree, out of its kids. -/
def rfr (M : LM) (i : Nat) : Nat := stpN M i 2
theorem setFi_setFi (M : LM) (i a b : Nat) : (M.setFi i a).setFi i b = M.setFi i b := by
  unfold LM.setFi
  congr 1
  funext x
  by_cases e : x = i <;> simp [e]
/-- What refresh asks of the kids. -/
def RK (M : LM) (N i : Nat) : Prop := ∀ s, s < 2 → M.k s i ≤ N ∧ (M.k s i ≠ 0 → M.k s i ≠ i ∧ M.fi (M.k s i) ≤ N)
theorem stpN_le {M : LM} {N i : Nat} (hi : i ≤ N) (hk : RK M N i) : ∀ j, j ≤ 2 → stpN M i j ≤ N
  | 0, _ => hi
  | j + 1, h => by
    show stp M (stpN M i j) (M.k j i) ≤ N
    unfold stp
    split
    · rename_i e; exact ((hk j (by omega)).2 e.1).2
    · exact stpN_le hi hk j (by omega)
theorem Lf.drew1 {w : World} {p : LLoc} {N : Nat} {M : LM} (h : Lf w p N M) : Lf (w.drewN 1) p N M := h.fr ((Fr.refl [] w).drewN 1) (by simp) (by simp)

set_option maxRecDepth 100000 in
set_option maxHeartbeats 4000000 in
theorem lctRefresh (w : World) (p : LLoc) (N : Nat) (M : LM) (i : Nat) (h : Lf w p N M) (hi : i ≤ N) (hk : RK M N i) :
    Calls Tryd.prog 18 #[.pointer (some ⟨p.g, 0, none⟩), .int .i64 (i : Int)] w fun e w' => e = .returned (.tuple #[]) ∧ Lf w' p N (M.setFi i (rfr M i)) ∧ Fr [p.b] w w' := by
  have HF := hide (Fr.refl [p.b] w)
  have c1 := h.c1
  have b1 : (i : Int) < ((N + 1 : Nat) : Int) := by omega
  obtain ⟨l7, c7⟩ := h.ji (c := 7) hi (by omega)
  obtain ⟨l5, c5⟩ := h.ji (c := 5) hi (by omega)
  have c6 := h.fi hi
  have z5 := h.frz (i * 9 + 5)
  have h1 := h.setJ hi (c := 5) (by omega) 1
  have c6' := h1.fi hi
  have z6 := h1.frz (i * 9 + 6)
  have h2 := h1.setFi hi i
  obtain ⟨l8, c8⟩ := h2.ji (c := 8) hi (by omega)
  have z8 := h2.frz (i * 9 + 8)
  have h3 := h2.setJ hi (c := 8) (by omega) (wrap64 (1 + l7))
  have c0' : _ = some (Value.int .i64 (M.k 0 i : Int)) := h3.k0 hi
  have c1' : _ = some (Value.int .i64 (M.k 1 i : Int)) := h3.k1 hi
  have H3 := hide h3
  have HK := hide hk
  clear h h1 h2 h3 hk
  go_enter Tryd.func18, Tryd.ntmps18
  go_wp2_with fail
  have HF3 := hide (((HF.out.setCell (p := ⟨p.b, i * 9 + 5, none⟩) (.inl (by simp)) (.int .i64 1)).setCell (p := ⟨p.b, i * 9 + 6, none⟩) (.inl (by simp)) (.int .i64 (i : Int))).setCell (p := ⟨p.b, i * 9 + 8, none⟩) (.inl (by simp)) (.int .i64 (wrap64 (1 + l7))))
  generalize ((w.setCell ⟨p.b, i * 9 + 5, none⟩ (.int .i64 1)).setCell ⟨p.b, i * 9 + 6, none⟩ (.int .i64 (i : Int))).setCell ⟨p.b, i * 9 + 8, none⟩ (.int .i64 (wrap64 (1 + l7))) = w3 at *
  clear c1 c7 c5 c6 z5 c6' z6 c8 z8 c0' c1' HF
  go_loopg [33] 2 (fun gh s wr => ∃ j : Nat, j + gh = 2 ∧ s = .int .i64 (j : Int) ∧ Lf wr p N (M.setFi i (stpN M i j)) ∧ Fr [p.b] w wr)
  case atStart => exact ⟨0, by omega, rfl, H3.out, HF3.out⟩
  case round =>
    obtain ⟨j, hj, rfl, hl, hf⟩ := hrel
    have HJ := hide hj
    have HL := hide hl
    have HFR := hide hf
    have hj2 : j ≤ 2 := by omega
    clear hj hl hf H3 HF3
    by_cases hlt : j < 2
    · have hix : ∀ (W : World), (Instr.index 75 (.agg #[.int .i64 (M.k 0 i : Int), .int .i64 (M.k 1 i : Int)]) (.int .i64 (j : Int))).run Tryd.prog W = .ok (.int .i64 (M.k j i : Int)) W := fun W => by
        obtain rfl | rfl : j = 0 ∨ j = 1 := by omega
        · exact arr_ix0 _ _ W
        · exact arr_ix1 _ _ W
      have hkj := HK.out j hlt
      have hstp : stpN M i (j + 1) = stp M (stpN M i j) (M.k j i) := rfl
      have c1 := HL.out.c1
      by_cases hk0 : M.k j i = 0
      · have hs2 : stpN M i (j + 1) = stpN M i j := by rw [hstp]; unfold stp; rw [if_neg (fun e => e.1 hk0)]
        have HS2 := hide hs2
        rw [hk0] at hix
        clear hs2 hstp hkj hk0
        go_wp2_with fail
        go_roundg (2 - (j + 1))
        case measure => have := HJ.out; omega
        case rel => exact ⟨j + 1, by omega, by go_num, by rw [HS2.out]; exact HL.out, HFR.out⟩
      · obtain ⟨kN, kne, kfN⟩ : M.k j i ≤ N ∧ M.k j i ≠ i ∧ M.fi (M.k j i) ≤ N := ⟨hkj.1, hkj.2 hk0⟩
        have HST := hide hstp
        clear hstp
        generalize hK : M.k j i = k at *
        have hk0' : ¬ (k : Int) = 0 := by omega
        have b3 : (k : Int) < ((N + 1 : Nat) : Int) := by omega
        obtain ⟨l5', c5⟩ := HL.out.ji (c := 5) hi (by omega)
        obtain ⟨m5, d5⟩ := HL.out.ji (c := 5) kN (by omega)
        clear hK
        go_wp2_with fail
        go_still_tail 11, (by kernel_rfl)
        change wpList _ _ _ _ _ (wr.drewN 1)
        have h4 := HL.out.drew1
        have hf4 := HFR.out.drewN 1
        have c1' := h4.c1
        have c5' : (wr.drewN 1).cell? ⟨p.b, i * 9 + 5, none⟩ = some (.int .i64 l5') := c5
        have d5' : (wr.drewN 1).cell? ⟨p.b, k * 9 + 5, none⟩ = some (.int .i64 m5) := d5
        clear c1 c5 d5
        generalize wr.drewN 1 = w4 at *
        have z5 := h4.frz (i * 9 + 5)
        have h5 := h4.setJ hi (c := 5) (by omega) (wrap64 (l5' + m5))
        have hf5 := hf4.setCell (p := ⟨p.b, i * 9 + 5, none⟩) (.inl (by simp)) (.int .i64 (wrap64 (l5' + m5)))
        clear h4 hf4 HL HFR
        have H5 := hide h5
        have HF5 := hide hf5
        clear h5 hf5
        go_wp2_with fail
        generalize w4.setCell ⟨p.b, i * 9 + 5, none⟩ (.int .i64 (wrap64 (l5' + m5))) = w5 at *
        clear c1' c5' d5' z5
        obtain ⟨l8', c8⟩ := H5.out.ji (c := 8) hi (by omega)
        obtain ⟨m8, d8⟩ := H5.out.ji (c := 8) kN (by omega)
        go_still_tail 11, (by kernel_rfl)
        change wpList _ _ _ _ _ (w5.drewN 1)
        have h6 := H5.out.drew1
        have hf6 := HF5.out.drewN 1
        have c8' : (w5.drewN 1).cell? ⟨p.b, i * 9 + 8, none⟩ = some (.int .i64 l8') := c8
        have d8' : (w5.drewN 1).cell? ⟨p.b, k * 9 + 8, none⟩ = some (.int .i64 m8) := d8
        clear c8 d8
        generalize w5.drewN 1 = w6 at *
        have z8 := h6.frz (i * 9 + 8)
        have h7 := h6.setJ hi (c := 8) (by omega) (wrap64 (l8' + m8))
        have hf7 := hf6.setCell (p := ⟨p.b, i * 9 + 8, none⟩) (.inl (by simp)) (.int .i64 (wrap64 (l8' + m8)))
        clear h6 hf6 H5 HF5
        have H7 := hide h7
        have HF7 := hide hf7
        clear h7 hf7
        go_wp2_with fail
        generalize w6.setCell ⟨p.b, i * 9 + 8, none⟩ (.int .i64 (wrap64 (l8' + m8))) = w7 at *
        clear c8' d8' z8
        have haN : stpN M i j ≤ N := stpN_le hi HK.out j hj2
        have f1 : w7.cell? ⟨p.b, k * 9 + 6, none⟩ = some (.int .i64 (M.fi k : Int)) := by
          have := H7.out.fi kN
          rwa [show (M.setFi i (stpN M i j)).fi k = M.fi k from if_neg kne] at this
        have f2 : w7.cell? ⟨p.b, i * 9 + 6, none⟩ = some (.int .i64 (stpN M i j : Int)) := by
          have := H7.out.fi hi
          rwa [show (M.setFi i (stpN M i j)).fi i = stpN M i j from if_pos rfl] at this
        have HB := hide fun d : Nat => lctBefore (w7.drewN d) p N (M.setFi i (stpN M i j)) (M.fi k) (stpN M i j) (H7.out.fr ((Fr.refl [] w7).drewN d) (by simp) (by simp)) kfN haN
        have zf := H7.out.frz (i * 9 + 6)
        by_cases hb : bef M.key (M.fi k) (stpN M i j) = true
        · have hst : stpN M i (j + 1) = M.fi k := by rw [HST.out]; unfold stp; exact if_pos ⟨hk0, hb⟩
          have hb2 : bef (M.setFi i (stpN M i j)).key (M.fi k) (stpN M i j) = true := hb
          rw [hb2] at HB
          obtain ⟨x, hx⟩ : ∃ x, x = stpN M i (j + 1) := ⟨_, rfl⟩
          have f1x : M.fi k = x := by rw [hx]; exact hst.symm
          have HST2 := hide hx
          clear hst hb hb2 HST zf hx
          rw [f1x] at f1 HB kfN
          generalize ha : stpN M i j = a at *
          go_quiet (first | (go_at_call 38; first | exact quiet_any2 (HB.out _) | exact quiet_any1 (HB.out _)))
          have h8 := H7.out.fr ((Fr.refl [] w7).drewN nq) (by simp) (by simp)
          have hf8 := HF7.out.drewN nq
          have f1' : (w7.drewN nq).cell? ⟨p.b, k * 9 + 6, none⟩ = some (.int .i64 (x : Int)) := f1
          have f2' : (w7.drewN nq).cell? ⟨p.b, i * 9 + 6, none⟩ = some (.int .i64 (a : Int)) := f2
          clear f1 f2 HB
          generalize w7.drewN nq = w8 at *
          have zf := h8.frz (i * 9 + 6)
          have h9 := h8.setFi hi x
          rw [setFi_setFi] at h9
          have hf9 := hf8.setCell (p := ⟨p.b, i * 9 + 6, none⟩) (.inl (by simp)) (.int .i64 (x : Int))
          have H9 := hide h9
          have HF9 := hide hf9
          clear h8 hf8 h9 hf9 H7 HF7 f1x
          go_wp2_with fail
          go_roundg (2 - (j + 1))
          case measure => have := HJ.out; omega
          case rel => exact ⟨j + 1, by omega, by go_num, by rw [← HST2.out]; exact H9.out, HF9.out⟩
        · have hst : stpN M i (j + 1) = stpN M i j := by rw [HST.out]; unfold stp; exact if_neg (fun e => hb e.2)
          have hb2 : bef (M.setFi i (stpN M i j)).key (M.fi k) (stpN M i j) = false := by
            show bef M.key (M.fi k) (stpN M i j) = false
            simpa using hb
          rw [hb2] at HB
          have HST2 := hide hst
          clear hst hb hb2 HST zf
          generalize M.fi k = x at *
          generalize ha : stpN M i j = a at *
          go_quiet (first | (go_at_call 38; first | exact quiet_any2 (HB.out _) | exact quiet_any1 (HB.out _)))
          have H8 := hide (H7.out.fr ((Fr.refl [] w7).drewN nq) (by simp) (by simp))
          have HF8 := hide (HF7.out.drewN nq)
          clear f1 f2 HB H7 HF7
          generalize w7.drewN nq = w8 at *
          go_wp2_with fail
          go_roundg (2 - (j + 1))
          case measure => have := HJ.out; omega
          case rel => exact ⟨j + 1, by omega, by go_num, by rw [HST2.out]; exact H8.out, HF8.out⟩
    · obtain rfl : j = 2 := by omega
      go_wp2_with fail
      go_end0
      exact ⟨rfl, HL.out, HFR.out⟩
end Go.Proofs.YtoomcgmbaogjbaaDoor
namespace Go.Proofs.YtoomcgmbaogjbaaDoor
open Go.RowKit
set_option linter.unusedVariables false

def tgl (M : LM) (k : Nat) : LM := if k = 0 then M else M.setFl k (!M.fl k)
def swpK (M : LM) (i : Nat) : LM := ((M.setFl i false).setK 0 i (M.k 1 i)).setK 1 i (M.k 0 i)
/-- The kids of i whose reversals have turned, after so many. -/
def pshN (M : LM) (i : Nat) : Nat → LM
  | 0 => swpK M i
  | j + 1 => tgl (pshN M i j) (M.k (1 - j) i)
theorem pshN_psh {N : Nat} {M : LM} {sq : Nat → List Nat} {i : Nat} (h : Sq N M sq) (i1 : 1 ≤ i) (i2 : i ≤ N) : Psh M (pshN M i 2) i := by
  have n0 : M.k 0 i ≠ i := h.kid_ne i1 i2 (by decide)
  have n1 : M.k 1 i ≠ i := h.kid_ne i1 i2 (by decide)
  have n2 : M.k 0 i ≠ 0 → M.k 0 i ≠ M.k 1 i := h.kids_ne i1 i2
  have e : pshN M i 2 = tgl (tgl (swpK M i) (M.k 1 i)) (M.k 0 i) := rfl
  have hk : ∀ (M' : LM) (k : Nat), (tgl M' k).k = M'.k ∧ (tgl M' k).up = M'.up ∧ (tgl M' k).key = M'.key ∧ (tgl M' k).fi = M'.fi := fun M' k => by
    unfold tgl
    split
    · exact ⟨rfl, rfl, rfl, rfl⟩
    · exact ⟨rfl, rfl, rfl, rfl⟩
  have hf : ∀ (M' : LM) (k x : Nat), (tgl M' k).fl x = if x = k ∧ k ≠ 0 then !M'.fl x else M'.fl x := fun M' k x => by
    unfold tgl
    by_cases h0 : k = 0
    · rw [if_pos h0, if_neg (fun e => e.2 h0)]
    · rw [if_neg h0]
      show (if x = k then !M'.fl k else M'.fl x) = _
      by_cases e : x = k
      · rw [if_pos e, if_pos ⟨e, h0⟩, e]
      · rw [if_neg e, if_neg (fun e2 => e e2.1)]
  refine ⟨fun u x hu => ?_, ?_, fun x => ?_, ?_, ?_⟩
  · rw [e, (hk _ _).1, (hk _ _).1]
    show (if x = i ∧ u = 1 then M.k 0 i else if x = i ∧ u = 0 then M.k 1 i else M.k u x) = _
    by_cases ex : x = i
    · obtain rfl | rfl : u = 0 ∨ u = 1 := by omega
      · simp [ex]
      · simp [ex]
    · simp [ex]
  · rw [e, (hk _ _).2.1, (hk _ _).2.1]; rfl
  · rw [e, hf, hf]
    have hs : (swpK M i).fl x = if x = i then false else M.fl x := rfl
    rw [hs]
    by_cases ex : x = i
    · subst ex
      rw [if_neg (fun e => n0 e.1.symm), if_neg (fun e => n1 e.1.symm), if_pos rfl, if_pos rfl]
    · rw [if_neg ex, if_neg ex]
      by_cases e0 : x = M.k 0 i ∧ M.k 0 i ≠ 0
      · rw [if_pos e0, if_neg (fun e1 => n2 e0.2 (e0.1.symm.trans e1.1)), if_pos ⟨by rw [e0.1]; exact e0.2, .inl e0.1⟩]
      · rw [if_neg e0]
        by_cases e1 : x = M.k 1 i ∧ M.k 1 i ≠ 0
        · rw [if_pos e1, if_pos ⟨by rw [e1.1]; exact e1.2, .inr e1.1⟩]
        · rw [if_neg e1, if_neg (fun e2 => e2.2.elim (fun e3 => e0 ⟨e3, by rw [← e3]; exact e2.1⟩) (fun e3 => e1 ⟨e3, by rw [← e3]; exact e2.1⟩))]
  · rw [e, (hk _ _).2.2.1, (hk _ _).2.2.1]; rfl
  · rw [e, (hk _ _).2.2.2, (hk _ _).2.2.2]; rfl

set_option maxRecDepth 100000 in
theorem lctPush_no (w : World) (p : LLoc) (N : Nat) (M : LM) (i : Nat) (h : Lf w p N M) (hi : i ≤ N) (hf : M.fl i = false) :
    Calls Tryd.prog 50 #[.pointer (some ⟨p.g, 0, none⟩), .int .i64 (i : Int)] w fun e w' => e = .returned (.tuple #[]) ∧ w = w' := by
  have c1 := h.c1
  have b1 : (i : Int) < ((N + 1 : Nat) : Int) := by omega
  have c3 := h.fl hi
  rw [hf] at c3
  clear h hf
  go_enter Tryd.func50, Tryd.ntmps50
  go_wp2_with fail
  exact bodyPost_ret (results_none rfl _ _ _) rfl ⟨rfl, rfl⟩
set_option maxRecDepth 100000 in
set_option maxHeartbeats 4000000 in
theorem lctPush (w : World) (p : LLoc) (N : Nat) (M : LM) (i : Nat) (h : Lf w p N M) (hi : i ≤ N) (hf : M.fl i = true) (hk : ∀ s, s < 2 → M.k s i ≤ N) :
    Calls Tryd.prog 50 #[.pointer (some ⟨p.g, 0, none⟩), .int .i64 (i : Int)] w fun e w' => e = .returned (.tuple #[]) ∧ Lf w' p N (pshN M i 2) ∧ Fr [p.b] w w' := by
  have HF := hide (Fr.refl [p.b] w)
  have c1 := h.c1
  have b1 : (i : Int) < ((N + 1 : Nat) : Int) := by omega
  have c3 := h.fl hi
  have z3 := h.frz (i * 9 + 3)
  rw [hf] at c3
  have H1 := hide (h.setFl hi false)
  have HF1 := hide (HF.out.setCell (p := ⟨p.b, i * 9 + 3, none⟩) (.inl (by simp)) (.bool false))
  have HK := hide hk
  clear h hk HF hf
  go_enter Tryd.func50, Tryd.ntmps50
  go_upto_region 3 with fail
  generalize w.setCell ⟨p.b, i * 9 + 3, none⟩ (.bool false) = w1 at *
  clear c1 c3 z3
  have k0 : w1.cell? ⟨p.b, i * 9, none⟩ = some (.int .i64 (M.k 0 i : Int)) := H1.out.k0 hi
  have k1 : w1.cell? ⟨p.b, i * 9 + 1, none⟩ = some (.int .i64 (M.k 1 i : Int)) := H1.out.k1 hi
  have z0 := H1.out.frz (i * 9)
  have h2 := H1.out.setK0 hi (M.k 1 i)
  have k1' : (w1.setCell ⟨p.b, i * 9, none⟩ (.int .i64 (M.k 1 i : Int))).cell? ⟨p.b, i * 9 + 1, none⟩ = some (.int .i64 (M.k 1 i : Int)) := by
    have := h2.k1 hi
    rwa [show ((M.setFl i false).setK 0 i (M.k 1 i)).k 1 i = M.k 1 i from if_neg (fun e => by cases e.2)] at this
  have z1' := h2.frz (i * 9 + 1)
  have h3 := (h2.setK1 hi (M.k 0 i)).fr ((Fr.refl [] _).drew) (by simp) (by simp)
  have hf3 := ((HF1.out.setCell (p := ⟨p.b, i * 9, none⟩) (.inl (by simp)) (.int .i64 (M.k 1 i : Int))).setCell (p := ⟨p.b, i * 9 + 1, none⟩) (.inl (by simp)) (.int .i64 (M.k 0 i : Int))).drew
  have H3 := hide h3
  have HF3 := hide hf3
  clear h2 h3 hf3
  go_region
  generalize ((w1.setCell ⟨p.b, i * 9, none⟩ (.int .i64 (M.k 1 i : Int))).setCell ⟨p.b, i * 9 + 1, none⟩ (.int .i64 (M.k 0 i : Int))).drew = w3 at *
  clear k0 k1 z0 k1' z1' H1 HF1
  have k0 : w3.cell? ⟨p.b, i * 9, none⟩ = some (.int .i64 (M.k 1 i : Int)) := by
    have := H3.out.k0 hi
    rwa [show (((M.setFl i false).setK 0 i (M.k 1 i)).setK 1 i (M.k 0 i)).k 0 i = M.k 1 i from (if_neg (fun e => by cases e.2)).trans (if_pos ⟨rfl, rfl⟩)] at this
  have k1 : w3.cell? ⟨p.b, i * 9 + 1, none⟩ = some (.int .i64 (M.k 0 i : Int)) := by
    have := H3.out.k1 hi
    rwa [show (((M.setFl i false).setK 0 i (M.k 1 i)).setK 1 i (M.k 0 i)).k 1 i = M.k 0 i from if_pos ⟨rfl, rfl⟩] at this
  go_wp2_with fail
  clear k0 k1
  go_loopg [43] 2 (fun gh s wr => ∃ j : Nat, j + gh = 2 ∧ s = .int .i64 (j : Int) ∧ Lf wr p N (pshN M i j) ∧ Fr [p.b] w wr)
  case atStart => exact ⟨0, by omega, rfl, H3.out, HF3.out⟩
  case round =>
    obtain ⟨j, hj, rfl, hl, hf⟩ := hrel
    have HJ := hide hj
    have HL := hide hl
    have HFR := hide hf
    have hj2 : j ≤ 2 := by omega
    clear hj hl hf H3 HF3
    by_cases hlt : j < 2
    · have hix : ∀ (W : World), (Instr.index 75 (.agg #[.int .i64 (M.k 1 i : Int), .int .i64 (M.k 0 i : Int)]) (.int .i64 (j : Int))).run Tryd.prog W = .ok (.int .i64 (M.k (1 - j) i : Int)) W := fun W => by
        obtain rfl | rfl : j = 0 ∨ j = 1 := by omega
        · exact arr_ix0 _ _ W
        · exact arr_ix1 _ _ W
      have kN := HK.out (1 - j) (by omega)
      have hst : pshN M i (j + 1) = tgl (pshN M i j) (M.k (1 - j) i) := rfl
      have c1 := HL.out.c1
      by_cases hk0 : M.k (1 - j) i = 0
      · have hs2 : pshN M i (j + 1) = pshN M i j := by rw [hst]; unfold tgl; rw [if_pos hk0]
        have HS2 := hide hs2
        rw [hk0] at hix
        clear hs2 hst kN hk0
        go_wp2_with fail
        go_roundg (2 - (j + 1))
        case measure => have := HJ.out; omega
        case rel => exact ⟨j + 1, by omega, by go_num, by rw [HS2.out]; exact HL.out, HFR.out⟩
      · have hs2 : pshN M i (j + 1) = (pshN M i j).setFl (M.k (1 - j) i) (!(pshN M i j).fl (M.k (1 - j) i)) := by rw [hst]; unfold tgl; rw [if_neg hk0]
        have HS2 := hide hs2
        have c3 := HL.out.fl kN
        generalize (pshN M i j).fl (M.k (1 - j) i) = fb at *
        generalize M.k (1 - j) i = k at *
        have hk0' : ¬ (k : Int) = 0 := by omega
        have b3 : (k : Int) < ((N + 1 : Nat) : Int) := by omega
        have b4 : (0 : Int) ≤ (k : Int) := by omega
        have b5 : (k : Int) < (N : Int) + 1 := by omega
        have b6 : k < N + 1 := by omega
        clear hs2 hst
        cases fb with
        | false =>
          go_wp2_with fail
          go_still_tail 16, (by kernel_rfl)
          change wpList _ _ _ _ _ (wr.drewN 1)
          have h4 := HL.out.drew1
          have hf4 := HFR.out.drewN 1
          have c1' := h4.c1
          have c3' : (wr.drewN 1).cell? ⟨p.b, k * 9 + 3, none⟩ = some (.bool false) := c3
          clear c1 c3
          generalize wr.drewN 1 = w4 at *
          have z3 := h4.frz (k * 9 + 3)
          have H5 := hide (h4.setFl kN true)
          have HF5 := hide (hf4.setCell (p := ⟨p.b, k * 9 + 3, none⟩) (.inl (by simp)) (.bool true))
          clear h4 hf4 HL HFR
          go_wp2_with fail
          go_roundg (2 - (j + 1))
          case measure => have := HJ.out; omega
          case rel => exact ⟨j + 1, by omega, by go_num, by rw [HS2.out]; exact H5.out, HF5.out⟩
        | true =>
          go_wp2_with fail
          go_still_tail 16, (by kernel_rfl)
          change wpList _ _ _ _ _ (wr.drewN 1)
          have h4 := HL.out.drew1
          have hf4 := HFR.out.drewN 1
          have c1' := h4.c1
          have c3' : (wr.drewN 1).cell? ⟨p.b, k * 9 + 3, none⟩ = some (.bool true) := c3
          clear c1 c3
          generalize wr.drewN 1 = w4 at *
          have z3 := h4.frz (k * 9 + 3)
          have H5 := hide (h4.setFl kN false)
          have HF5 := hide (hf4.setCell (p := ⟨p.b, k * 9 + 3, none⟩) (.inl (by simp)) (.bool false))
          clear h4 hf4 HL HFR
          go_wp2_with fail
          go_roundg (2 - (j + 1))
          case measure => have := HJ.out; omega
          case rel => exact ⟨j + 1, by omega, by go_num, by rw [HS2.out]; exact H5.out, HF5.out⟩
    · obtain rfl : j = 2 := by omega
      go_wp2_with fail
      go_end0
      exact ⟨rfl, HL.out, HFR.out⟩
end Go.Proofs.YtoomcgmbaogjbaaDoor
namespace Go.Proofs.YtoomcgmbaogjbaaDoor
open Go.RowKit
set_option linter.unusedVariables false

theorem bef_iff {key : Nat → Int} {x y : Nat} : bef key x y = true ↔ key x < key y ∨ (key x = key y ∧ x < y) := by simp [bef]
theorem bef_niff {key : Nat → Int} {x y : Nat} : bef key x y = false ↔ ¬ (key x < key y ∨ (key x = key y ∧ x < y)) := by simp [bef]
theorem stp_fst {M : LM} {a k : Nat} {l L l' : List Nat} (ha : Fst M.key a l) (h0 : k = 0 → L = []) (hk : k ≠ 0 → Fst M.key (M.fi k) L) (hl : ∀ y, y ∈ l' ↔ y ∈ l ∨ y ∈ L) : Fst M.key (stp M a k) l' := by
  unfold stp
  by_cases e : k ≠ 0 ∧ bef M.key (M.fi k) a = true
  · rw [if_pos e]
    obtain ⟨k1, k2⟩ := hk e.1
    refine ⟨(hl _).2 (.inr k1), fun y hy => ?_⟩
    rcases (hl y).1 hy with h | h
    · have h1 := ha.2 y h
      have h2 := bef_iff.1 e.2
      rw [bef_niff] at h1 ⊢
      omega
    · exact k2 y h
  · rw [if_neg e]
    refine ⟨(hl _).2 (.inl ha.1), fun y hy => ?_⟩
    rcases (hl y).1 hy with h | h
    · exact ha.2 y h
    · by_cases hk0 : k = 0
      · rw [h0 hk0] at h; cases h
      · have h1 := (hk hk0).2 y h
        have h2 : bef M.key (M.fi k) a = false := by
          cases hb : bef M.key (M.fi k) a
          · rfl
          · exact absurd ⟨hk0, hb⟩ e
        rw [bef_niff] at h1 h2 ⊢
        omega
/-- refresh gives the first of a subtree. -/
theorem rfr_fst {M : LM} {i : Nat} {L : Nat → List Nat} {l : List Nat} (h0 : ∀ s, s < 2 → M.k s i = 0 → L s = []) (hk : ∀ s, s < 2 → M.k s i ≠ 0 → Fst M.key (M.fi (M.k s i)) (L s)) (hl : ∀ y, y ∈ l ↔ y = i ∨ y ∈ L 0 ∨ y ∈ L 1) : Fst M.key (rfr M i) l := by
  have a0 : Fst M.key i [i] := ⟨by simp, fun y hy => by
    obtain rfl : y = i := by simpa using hy
    rw [bef_niff]; omega⟩
  have a1 : Fst M.key (stp M i (M.k 0 i)) (i :: L 0) := stp_fst a0 (h0 0 (by decide)) (hk 0 (by decide)) fun y => by simp
  exact stp_fst a1 (h0 1 (by decide)) (hk 1 (by decide)) fun y => by rw [hl]; simp [or_assoc]
/-- A rotation's links. -/
def rot3 (M : LM) (i p g c s t : Nat) (o : Option Nat) : LM := ((match o with | some a => M.hang g a i | none => M.setUp i g).hang p s c).hang i t p
def rot5 (M : LM) (i p g c s t : Nat) (o : Option Nat) : LM :=
  ((rot3 M i p g c s t o).setFi p (rfr (rot3 M i p g c s t o) p)).setFi i (rfr ((rot3 M i p g c s t o).setFi p (rfr (rot3 M i p g c s t o) p)) i)
theorem hang_k (M : LM) (i s k u x : Nat) : (M.hang i s k).k u x = if x = i ∧ u = s then k else M.k u x := by
  unfold LM.hang; split <;> rfl
theorem hang_up (M : LM) (i s k x : Nat) : (M.hang i s k).up x = if x = k ∧ k ≠ 0 then i else M.up x := by
  unfold LM.hang
  split
  · rename_i h
    rw [if_neg (fun e => e.2 h)]; rfl
  · rename_i h
    show (if x = k then i else M.up x) = _
    by_cases e : x = k
    · rw [if_pos e, if_pos ⟨e, h⟩]
    · rw [if_neg e, if_neg (fun e2 => e e2.1)]
theorem hang_o (M : LM) (i s k : Nat) : (M.hang i s k).fl = M.fl ∧ (M.hang i s k).key = M.key ∧ (M.hang i s k).fi = M.fi := by
  unfold LM.hang; split <;> exact ⟨rfl, rfl, rfl⟩
set_option maxHeartbeats 2000000 in
theorem rot5_law {N : Nat} {M : LM} {sq : Nat → List Nat} {i p g c s t : Nat} {o : Option Nat} (h : Sq N M sq) (i1 : 1 ≤ i) (i2 : i ≤ N) (p1 : 1 ≤ p) (p2 : p ≤ N) (hp : M.up i = p) (hg : M.up p = g) (hst : (s = 0 ∧ t = 1) ∨ (s = 1 ∧ t = 0)) (hk : M.k s p = i) (hc : M.k t i = c)
    (hfi : M.fl i = false) (hfp : M.fl p = false) (ho : match o with | some a => a < 2 ∧ g ≠ 0 ∧ M.k a g = p | none => ¬ Kid M p) :
    Rot M (rot5 M i p g c s t o) i p g c s t ∧ Fst M.key ((rot5 M i p g c s t o).fi p) (rsq M sq i p s) ∧ Fst M.key ((rot5 M i p g c s t o).fi i) (sq p) := by
  have hs : s < 2 := by omega
  have ht : t < 2 := by omega
  have hts : t ≠ s := by omega
  have hne : i ≠ p := fun e => h.kid_ne p1 p2 hs (hk.trans e)
  have hci : c ≠ i := fun e => h.kid_ne i1 i2 ht (hc.trans e)
  have hlip : (sq i).length < (sq p).length := by have := h.kid_len p1 p2 hs; rwa [hk] at this
  have hcl : (sq c).length < (sq i).length := by have := h.kid_len i1 i2 ht; rwa [hc] at this
  have hcp : c ≠ p := fun e => by rw [e] at hcl; omega
  have hgN : g ≤ N := by rw [← hg]; exact h.uN p p1 p2
  have gp : ∀ u, u < 2 → g ≠ 0 → M.k u g = p → g ≠ p ∧ g ≠ i := fun u hu h0 e => by
    have := h.kid_len (x := g) (by omega) hgN hu
    rw [e] at this
    exact ⟨fun e2 => by rw [e2] at this; omega, fun e2 => by rw [e2] at this; omega⟩
  -- the links
  have k3 : ∀ u x, u < 2 → (rot3 M i p g c s t o).k u x = if x = i ∧ u = t then p else if x = p ∧ u = s then c else if x = g ∧ g ≠ 0 ∧ M.k u g = p then i else M.k u x := fun u x hu => by
    unfold rot3
    rw [hang_k, hang_k]
    by_cases e1 : x = i ∧ u = t
    · rw [if_pos e1, if_pos e1]
    · rw [if_neg e1, if_neg e1]
      by_cases e2 : x = p ∧ u = s
      · rw [if_pos e2, if_pos e2]
      · rw [if_neg e2, if_neg e2]
        cases o with
        | none =>
          have : ¬ (x = g ∧ g ≠ 0 ∧ M.k u g = p) := fun e => ho ⟨by rw [hg]; exact e.2.1, by rw [hg]; exact at01 (P := fun u => M.k u g = p) hu e.2.2⟩
          rw [if_neg this]; rfl
        | some a =>
          obtain ⟨a2, g0, ea⟩ := ho
          show (M.hang g a i).k u x = _
          rw [hang_k]
          by_cases e3 : x = g ∧ u = a
          · rw [if_pos e3, if_pos ⟨e3.1, g0, by rw [e3.2]; exact ea⟩]
          · rw [if_neg e3]
            by_cases e4 : x = g ∧ g ≠ 0 ∧ M.k u g = p
            · exfalso
              have hua : u ≠ a := fun e => e3 ⟨e4.1, e⟩
              have h00 : M.k 0 g ≠ 0 := by
                rcases (show u = 0 ∨ a = 0 by omega) with e | e
                · rw [← e, e4.2.2]; omega
                · rw [← e, ea]; omega
              have hx := h.kids_ne (by omega) hgN h00
              rcases (show (u = 0 ∧ a = 1) ∨ (u = 1 ∧ a = 0) by omega) with ⟨e, e'⟩ | ⟨e, e'⟩
              · rw [e] at e4; rw [e'] at ea; exact hx (e4.2.2.trans ea.symm)
              · rw [e] at e4; rw [e'] at ea; exact hx (ea.trans e4.2.2.symm)
            · rw [if_neg e4]
  have u3 : ∀ x, (rot3 M i p g c s t o).up x = if x = i then g else if x = p then i else if x = c ∧ c ≠ 0 then p else M.up x := fun x => by
    unfold rot3
    rw [hang_up, hang_up]
    have hb : ∀ x, (match o with | some a => M.hang g a i | none => M.setUp i g).up x = if x = i then g else M.up x := fun x => by
      cases o with
      | none => rfl
      | some a =>
        show (M.hang g a i).up x = _
        rw [hang_up]
        by_cases e : x = i
        · rw [if_pos e, if_pos ⟨e, by omega⟩]
        · rw [if_neg e, if_neg (fun e2 => e e2.1)]
    rw [hb]
    by_cases e1 : x = i
    · rw [if_pos e1, if_neg (fun e => hne (e1.symm.trans e.1)), if_neg (fun e => hci (e.1.symm.trans e1)), if_pos e1]
    · rw [if_neg e1, if_neg e1]
      by_cases e2 : x = p
      · rw [if_pos e2, if_pos ⟨e2, by omega⟩]
      · rw [if_neg e2, if_neg (fun e => e2 e.1)]
  have o3 : (rot3 M i p g c s t o).fl = M.fl ∧ (rot3 M i p g c s t o).key = M.key ∧ (rot3 M i p g c s t o).fi = M.fi := by
    unfold rot3
    rw [(hang_o _ _ _ _).1, (hang_o _ _ _ _).1, (hang_o _ _ _ _).2.1, (hang_o _ _ _ _).2.1, (hang_o _ _ _ _).2.2, (hang_o _ _ _ _).2.2]
    cases o with
    | none => exact ⟨rfl, rfl, rfl⟩
    | some a => exact hang_o _ _ _ _
  have kt_ne : M.k t p ≠ i := fun e => by
    have h0 : M.k 0 p ≠ 0 := by rcases hst with ⟨rfl, rfl⟩ | ⟨rfl, rfl⟩ <;> omega
    have := h.kids_ne p1 p2 h0
    rcases hst with ⟨rfl, rfl⟩ | ⟨rfl, rfl⟩ <;> omega
  have kt_p : M.k t p ≠ p := h.kid_ne p1 p2 ht
  have ks_i : M.k s i ≠ i := h.kid_ne i1 i2 hs
  have ks_p : M.k s i ≠ p := fun e => by have := h.kid_len i1 i2 hs; rw [e] at this; omega
  generalize hM3 : rot3 M i p g c s t o = M3 at *
  have e5 : rot5 M i p g c s t o = (M3.setFi p (rfr M3 p)).setFi i (rfr (M3.setFi p (rfr M3 p)) i) := by unfold rot5; rw [hM3]
  rw [e5]
  have f5p : ((M3.setFi p (rfr M3 p)).setFi i (rfr (M3.setFi p (rfr M3 p)) i)).fi p = rfr M3 p := (if_neg (fun e => hne e.symm)).trans (if_pos rfl)
  have f5i : ((M3.setFi p (rfr M3 p)).setFi i (rfr (M3.setFi p (rfr M3 p)) i)).fi i = rfr (M3.setFi p (rfr M3 p)) i := if_pos rfl
  have fsu : ∀ x, x ≠ 0 → x ≤ N → Fst M.key (M.fi x) (sq x) := fun x x0 xN => h.fi_ x (by omega) xN
  have hkN := fun x u x1 x2 hu => h.kN x u x1 x2 hu
  -- the kids of p
  have m3ps : M3.k s p = c := by rw [k3 s p hs, if_neg (fun e => hne e.1.symm), if_pos ⟨rfl, rfl⟩]
  have m3pt : M3.k t p = M.k t p := by
    rw [k3 t p ht, if_neg (fun e => hne e.1.symm), if_neg (fun e => hts e.2), if_neg (fun e => (gp t ht e.2.1 e.2.2).1 e.1.symm)]
  have m3it : M3.k t i = p := by rw [k3 t i ht, if_pos ⟨rfl, rfl⟩]
  have m3is : M3.k s i = M.k s i := by
    rw [k3 s i hs, if_neg (fun e => hts e.2.symm), if_neg (fun e => hne e.1), if_neg (fun e => (gp s hs e.2.1 e.2.2).2 e.1.symm)]
  have hcN : c ≤ N := by rw [← hc]; exact h.kN i t i1 i2 ht
  have fp : Fst M.key (rfr M3 p) (rsq M sq i p s) := by
    have key := rfr_fst (M := M3) (i := p) (L := fun u => if u = s then sq c else sq (M.k t p)) (l := rsq M sq i p s)
      (fun u hu e => by
        rcases (show u = s ∨ u = t by omega) with rfl | rfl
        · rw [m3ps] at e; simp only [if_true]; rw [e]; exact h.s0
        · rw [m3pt] at e; simp only [if_neg hts]; rw [e]; exact h.s0)
      (fun u hu e => by
        rw [o3.2.1, o3.2.2]
        rcases (show u = s ∨ u = t by omega) with rfl | rfl
        · rw [m3ps] at e ⊢; simp only [if_true]; exact fsu c e hcN
        · rw [m3pt] at e ⊢; simp only [if_neg hts]; exact fsu _ e (hkN p u p1 p2 ht))
      (fun y => by
        unfold rsq
        rcases hst with ⟨rfl, rfl⟩ | ⟨rfl, rfl⟩
        · rw [hc]; simp [or_left_comm]
        · rw [hc]; simp [or_left_comm])
    rwa [o3.2.1] at key
  have fi' : Fst M.key (rfr (M3.setFi p (rfr M3 p)) i) (sq p) := by
    have key := rfr_fst (M := M3.setFi p (rfr M3 p)) (i := i) (L := fun u => if u = s then sq (M.k s i) else rsq M sq i p s) (l := sq p)
      (fun u hu e => by
        rcases (show u = s ∨ u = t by omega) with rfl | rfl
        · change M3.k u i = 0 at e; rw [m3is] at e; simp only [if_true]; rw [e]; exact h.s0
        · change M3.k u i = 0 at e; rw [m3it] at e; omega)
      (fun u hu e => by
        show Fst M3.key (if M3.k u i = p then rfr M3 p else M3.fi (M3.k u i)) _
        change M3.k u i ≠ 0 at e
        rw [o3.2.1, o3.2.2]
        rcases (show u = s ∨ u = t by omega) with rfl | rfl
        · rw [m3is] at e ⊢; simp only [if_true]; rw [if_neg ks_p]; exact fsu _ e (hkN i u i1 i2 hs)
        · rw [m3it]; simp only [if_neg hts, if_true]; exact fp)
      (fun y => by
        rw [h.mem_iff p1 p2 y]
        unfold rsq
        rcases hst with ⟨rfl, rfl⟩ | ⟨rfl, rfl⟩
        · rw [hk, h.mem_iff i1 i2 y]; simp; grind
        · rw [hk, h.mem_iff i1 i2 y]; simp; grind)
    have e : (M3.setFi p (rfr M3 p)).key = M.key := o3.2.1
    rwa [e] at key
  refine ⟨⟨k3, u3, o3.1, o3.2.1, fun x e1 e2 => ?_⟩, by rw [f5p]; exact fp, by rw [f5i]; exact fi'⟩
  show (if x = i then _ else if x = p then _ else M3.fi x) = M.fi x
  rw [if_neg e2, if_neg e1, o3.2.2]
end Go.Proofs.YtoomcgmbaogjbaaDoor
namespace Go.Proofs.YtoomcgmbaogjbaaDoor
open Go.RowKit
set_option linter.unusedVariables false

theorem rot3_ok {N : Nat} {M M3 : LM} {sq : Nat → List Nat} {i p g c s t : Nat} (h : Sq N M sq) (i1 : 1 ≤ i) (i2 : i ≤ N) (p1 : 1 ≤ p) (p2 : p ≤ N) (hp : M.up i = p) (hst : (s = 0 ∧ t = 1) ∨ (s = 1 ∧ t = 0)) (hk : M.k s p = i) (hc : M.k t i = c)
    (k3 : ∀ u x, u < 2 → M3.k u x = if x = i ∧ u = t then p else if x = p ∧ u = s then c else if x = g ∧ g ≠ 0 ∧ M.k u g = p then i else M.k u x) (g1 : ∀ u, u < 2 → g ≠ 0 → M.k u g = p → g ≠ i ∧ g ≠ p) (f3 : M3.fi = M.fi) :
    RK M3 N p ∧ RK (M3.setFi p (rfr M3 p)) N i := by
  have hs : s < 2 := by omega
  have ht : t < 2 := by omega
  have hts : t ≠ s := by omega
  have hne : i ≠ p := fun e => h.kid_ne p1 p2 hs (hk.trans e)
  have hci : c ≠ i := fun e => h.kid_ne i1 i2 ht (hc.trans e)
  have hlip : (sq i).length < (sq p).length := by have := h.kid_len p1 p2 hs; rwa [hk] at this
  have hcl : (sq c).length < (sq i).length := by have := h.kid_len i1 i2 ht; rwa [hc] at this
  have hcp : c ≠ p := fun e => by rw [e] at hcl; omega
  have hcN : c ≤ N := by rw [← hc]; exact h.kN i t i1 i2 ht
  have fN : ∀ x, x ≠ 0 → x ≤ N → M.fi x ≤ N := fun x x0 xN => (h.rng x (by omega) xN _ (h.fi_ x (by omega) xN).1).2
  have m3ps : M3.k s p = c := by rw [k3 s p hs, if_neg (fun e => hne e.1.symm), if_pos ⟨rfl, rfl⟩]
  have m3pt : M3.k t p = M.k t p := by
    rw [k3 t p ht, if_neg (fun e => hne e.1.symm), if_neg (fun e => hts e.2), if_neg (fun e => (g1 t ht e.2.1 e.2.2).2 e.1.symm)]
  have m3it : M3.k t i = p := by rw [k3 t i ht, if_pos ⟨rfl, rfl⟩]
  have m3is : M3.k s i = M.k s i := by
    rw [k3 s i hs, if_neg (fun e => hts e.2.symm), if_neg (fun e => hne e.1), if_neg (fun e => (g1 s hs e.2.1 e.2.2).1 e.1.symm)]
  have rp : RK M3 N p := fun u hu => by
    rcases (show u = s ∨ u = t by omega) with rfl | rfl
    · rw [m3ps, f3]; exact ⟨hcN, fun e => ⟨hcp, fN c e hcN⟩⟩
    · rw [m3pt, f3]; exact ⟨h.kN p u p1 p2 hu, fun e => ⟨h.kid_ne p1 p2 hu, fN _ e (h.kN p u p1 p2 hu)⟩⟩
  refine ⟨rp, fun u hu => ?_⟩
  show M3.k u i ≤ N ∧ (M3.k u i ≠ 0 → M3.k u i ≠ i ∧ (if M3.k u i = p then rfr M3 p else M3.fi (M3.k u i)) ≤ N)
  have ks_p : M.k s i ≠ p := fun e => by have := h.kid_len i1 i2 hs; rw [e] at this; omega
  rcases (show u = s ∨ u = t by omega) with rfl | rfl
  · rw [m3is, if_neg ks_p, f3]; exact ⟨h.kN i u i1 i2 hu, fun e => ⟨h.kid_ne i1 i2 hu, fN _ e (h.kN i u i1 i2 hu)⟩⟩
  · rw [m3it, if_pos rfl]; exact ⟨p2, fun _ => ⟨fun e => hne e.symm, stpN_le p2 rp 2 (Nat.le_refl _)⟩⟩

set_option maxRecDepth 100000 in
set_option maxHeartbeats 4000000 in
/-- rotate, where what is above is a kid on side a. -/
theorem lctRot_some (w : World) (l : LLoc) (N : Nat) (M : LM) (i p g c s t a : Nat) (h : Lf w l N M) (i1 : 1 ≤ i) (i2 : i ≤ N) (p2 : p ≤ N) (g2 : g ≤ N) (hp : M.up i = p) (hg : M.up p = g) (hst : (s = 0 ∧ t = 1) ∨ (s = 1 ∧ t = 0)) (ha : a = 0 ∨ a = 1)
    (hc : M.k t i = c) (hc2 : c ≤ N) (hgi : ¬ (i = g ∧ t = a))
    (HS : ∀ W, Lf W l N M → Calls Tryd.prog 48 #[.pointer (some ⟨l.g, 0, none⟩), .int .i64 (i : Int)] W fun e w' => e = .returned (.tuple #[.int .i64 (s : Int), .bool true]) ∧ W = w')
    (HSP : ∀ W, Lf W l N M → Calls Tryd.prog 48 #[.pointer (some ⟨l.g, 0, none⟩), .int .i64 (p : Int)] W fun e w' => e = .returned (.tuple #[.int .i64 (a : Int), .bool true]) ∧ W = w')
    (r1 : RK (rot3 M i p g c s t (some a)) N p) (r2 : RK ((rot3 M i p g c s t (some a)).setFi p (rfr (rot3 M i p g c s t (some a)) p)) N i) :
    Calls Tryd.prog 51 #[.pointer (some ⟨l.g, 0, none⟩), .int .i64 (i : Int)] w fun e w' => e = .returned (.tuple #[]) ∧ Lf w' l N (rot5 M i p g c s t (some a)) ∧ Fr [l.b] w w' := by
  have H := hide h
  have c1 := h.c1
  have b1 : (i : Int) < ((N + 1 : Nat) : Int) := by omega
  have b2 : (p : Int) < ((N + 1 : Nat) : Int) := by omega
  have cu := h.up i2
  have cp := h.up p2
  rw [hp] at cu
  rw [hg] at cp
  have e1 : IntKind.i64.wrap (1 - (s : Int)) = (t : Int) := by
    rcases hst with ⟨rfl, rfl⟩ | ⟨rfl, rfl⟩ <;> rfl
  have e1' : wrap64 (1 - (s : Int)) = (t : Int) := by
    unfold wrap64; omega
  have hs : s = 0 ∨ s = 1 := by omega
  have ht : t = 0 ∨ t = 1 := by omega
  have t0 : (0 : Int) ≤ (t : Int) := by omega
  have t1 : (t : Int) < 2 := by omega
  have HS1 := hide (HS w h)
  have HP1 := hide (HSP w h)
  have HR1 := hide r1
  have HR2 := hide r2
  have HC := hide hc
  clear h hp hg hc HS HSP r1 r2
  go_enter Tryd.func51, Tryd.ntmps51
  go_wp2_with fail
  refine HS1.out.mono ?_
  rintro e w1 ⟨rfl, rfl⟩
  go_wp2_with fail
  refine HP1.out.mono ?_
  rintro e w1 ⟨rfl, rfl⟩
  go_wp2_with fail
  refine (lctHang w l N M g a i H.out g2 i2 ha).mono ?_
  rintro e w1 ⟨rfl, h1, f1⟩
  have c1 := h1.c1
  have ck : w1.cell? ⟨l.b, i * 9 + t, none⟩ = some (.int .i64 (c : Int)) := by
    have e2 : (M.hang g a i).k t i = c := by rw [hang_k, if_neg hgi]; exact HC.out
    rcases ht with rfl | rfl
    · have := h1.k0 i2; rwa [e2] at this
    · have := h1.k1 i2; rwa [e2] at this
  have H1 := hide h1
  have F1 := hide f1
  clear h1 f1 cu cp
  go_wp2_with fail
  refine (lctHang w1 l N (M.hang g a i) p s c H1.out p2 hc2 hs).mono ?_
  rintro e w2 ⟨rfl, h2, f2⟩
  have c1 := h2.c1
  have H2 := hide h2
  have F2 := hide (F1.out.trans f2)
  clear h2 f2 ck
  go_wp2_with fail
  refine (lctHang w2 l N ((M.hang g a i).hang p s c) i t p H2.out i2 p2 ht).mono ?_
  rintro e w3 ⟨rfl, h3, f3⟩
  have H3 := hide h3
  have F3 := hide (F2.out.trans f3)
  clear h3 f3
  go_wp2_with fail
  refine (lctRefresh w3 l N (rot3 M i p g c s t (some a)) p H3.out p2 HR1.out).mono ?_
  rintro e w4 ⟨rfl, h4, f4⟩
  have H4 := hide h4
  have F4 := hide (F3.out.trans f4)
  clear h4 f4
  go_wp2_with fail
  refine (lctRefresh w4 l N _ i H4.out i2 HR2.out).mono ?_
  rintro e w5 ⟨rfl, h5, f5⟩
  have H5 := hide h5
  have F5 := hide (F4.out.trans f5)
  clear h5 f5
  go_wp2_with fail
  go_end0
  exact ⟨rfl, H5.out, F5.out⟩
set_option maxRecDepth 100000 in
set_option maxHeartbeats 4000000 in
/-- rotate, where what is above is a root. -/
theorem lctRot_none (w : World) (l : LLoc) (N : Nat) (M : LM) (i p g c s t : Nat) (h : Lf w l N M) (i1 : 1 ≤ i) (i2 : i ≤ N) (p2 : p ≤ N) (g2 : g ≤ N) (hp : M.up i = p) (hg : M.up p = g) (hst : (s = 0 ∧ t = 1) ∨ (s = 1 ∧ t = 0))
    (hc : M.k t i = c) (hc2 : c ≤ N)
    (HS : ∀ W, Lf W l N M → Calls Tryd.prog 48 #[.pointer (some ⟨l.g, 0, none⟩), .int .i64 (i : Int)] W fun e w' => e = .returned (.tuple #[.int .i64 (s : Int), .bool true]) ∧ W = w')
    (HSP : ∀ W, Lf W l N M → Calls Tryd.prog 48 #[.pointer (some ⟨l.g, 0, none⟩), .int .i64 (p : Int)] W fun e w' => e = .returned (.tuple #[.int .i64 0, .bool false]) ∧ W = w')
    (r1 : RK (rot3 M i p g c s t none) N p) (r2 : RK ((rot3 M i p g c s t none).setFi p (rfr (rot3 M i p g c s t none) p)) N i) :
    Calls Tryd.prog 51 #[.pointer (some ⟨l.g, 0, none⟩), .int .i64 (i : Int)] w fun e w' => e = .returned (.tuple #[]) ∧ Lf w' l N (rot5 M i p g c s t none) ∧ Fr [l.b] w w' := by
  have H := hide h
  have c1 := h.c1
  have b1 : (i : Int) < ((N + 1 : Nat) : Int) := by omega
  have b2 : (p : Int) < ((N + 1 : Nat) : Int) := by omega
  have cu := h.up i2
  have cp := h.up p2
  have zu := h.frz (i * 9 + 2)
  rw [hp] at cu
  rw [hg] at cp
  have e1 : IntKind.i64.wrap (1 - (s : Int)) = (t : Int) := by
    rcases hst with ⟨rfl, rfl⟩ | ⟨rfl, rfl⟩ <;> rfl
  have e1' : wrap64 (1 - (s : Int)) = (t : Int) := by
    unfold wrap64; omega
  have hs : s = 0 ∨ s = 1 := by omega
  have ht : t = 0 ∨ t = 1 := by omega
  have t0 : (0 : Int) ≤ (t : Int) := by omega
  have t1 : (t : Int) < 2 := by omega
  have h1 := h.setUp i2 g
  have c1' := h1.c1
  have ck : (w.setCell ⟨l.b, i * 9 + 2, none⟩ (.int .i64 (g : Int))).cell? ⟨l.b, i * 9 + t, none⟩ = some (.int .i64 (c : Int)) := by
    have e2 : (M.setUp i g).k t i = c := hc
    rcases ht with rfl | rfl
    · have := h1.k0 i2; rwa [e2] at this
    · have := h1.k1 i2; rwa [e2] at this
  have F1 := hide ((Fr.refl [l.b] w).setCell (p := ⟨l.b, i * 9 + 2, none⟩) (.inl (by simp)) (.int .i64 (g : Int)))
  have H1 := hide h1
  have HS1 := hide (HS w h)
  have HP1 := hide (HSP w h)
  have HR1 := hide r1
  have HR2 := hide r2
  clear h h1 hp hg hc HS HSP r1 r2
  go_enter Tryd.func51, Tryd.ntmps51
  go_wp2_with fail
  refine HS1.out.mono ?_
  rintro e w1 ⟨rfl, rfl⟩
  go_wp2_with fail
  refine HP1.out.mono ?_
  rintro e w1 ⟨rfl, rfl⟩
  go_wp2_with fail
  refine (lctHang _ l N (M.setUp i g) p s c H1.out p2 hc2 hs).mono ?_
  rintro e w2 ⟨rfl, h2, f2⟩
  have c1 := h2.c1
  have H2 := hide h2
  have F2 := hide (F1.out.trans f2)
  clear h2 f2 ck
  go_wp2_with fail
  refine (lctHang w2 l N ((M.setUp i g).hang p s c) i t p H2.out i2 p2 ht).mono ?_
  rintro e w3 ⟨rfl, h3, f3⟩
  have H3 := hide h3
  have F3 := hide (F2.out.trans f3)
  clear h3 f3
  go_wp2_with fail
  refine (lctRefresh w3 l N (rot3 M i p g c s t none) p H3.out p2 HR1.out).mono ?_
  rintro e w4 ⟨rfl, h4, f4⟩
  have H4 := hide h4
  have F4 := hide (F3.out.trans f4)
  clear h4 f4
  go_wp2_with fail
  refine (lctRefresh w4 l N _ i H4.out i2 HR2.out).mono ?_
  rintro e w5 ⟨rfl, h5, f5⟩
  have H5 := hide h5
  have F5 := hide (F4.out.trans f5)
  clear h5 f5
  go_wp2_with fail
  go_end0
  exact ⟨rfl, H5.out, F5.out⟩
end Go.Proofs.YtoomcgmbaogjbaaDoor
