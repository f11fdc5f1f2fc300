/- The walk of WrappingEdges. -/
import Derived.Test.YtnkkdoookhhhaaaWrapEdgeB
namespace Go.Proofs.Ytnkkdoookhhhaaa
open Go.RowKit
set_option linter.unusedVariables false

theorem wrappingEdges_walk (a0 a1 : Int) (v2 : Value) (l2 : List Int) (a3 : Int) (W : World) (w0 : (Lit.int .u8 a0).wf = true) (w1 : (Lit.int .u8 a1).wf = true) (w2 : IsInts .u16 W v2 l2) (w3 : (Lit.int .u16 a3).wf = true) :
    Calls Try.prog 12 #[.int .u8 a0, .int .u8 a1, v2, .int .u16 a3] W fun e W' => e = .returned (.bool true) ∧ Below W.heap.size W W' := by
  obtain ⟨X, Y, n, hX1, hX2, hY1, hY2, hn, -, hn1, hn2, hXY, -, htor, -, SZ⟩ := start30 a0 a1 w0 w1
  obtain ⟨l, hl⟩ := ints_u16 w2
  have b3 := u16_bd w3
  obtain ⟨e, he, re, _⟩ := rem_nat (n := 2 * n) b3.1 (by omega)
  have hE := edg_inE (X := X) (Y := Y) (by omega) false l
  rw [← hn] at hE
  have hEl := edg_in (N := 2 * n) (by omega) false l
  have E1 := fun w h => edges_any w n v2 l false h hn1 (by omega)
  generalize edg (2 * n) false l = E at *
  have N1 := fun w => torNew_ok w X Y htor
  subst hn
  have HEL : Hid ((∀ e ∈ E, e < 2 * (X * Y)) ∧ E.length ≤ 300) := ⟨hEl.1, hEl.2.1⟩
  have hb := tE_in he
  have hEe := hE.snoc hb
  have hp0 : 1 ≤ (X : Int) * (Y : Int) := by omega
  have hp1 : (X : Int) * (Y : Int) ≤ 144 := by omega
  have hq : 2 * (X : Int) * (Y : Int) = 2 * ((X : Int) * (Y : Int)) := Int.mul_assoc _ _ _
  have hq0 : 1 ≤ 2 * (X : Int) * (Y : Int) := by omega
  have hq1 : 2 * (X : Int) * (Y : Int) ≤ 288 := by omega
  have hq2 : ((2 * (X * Y) : Nat) : Int) = 2 * (X : Int) * (Y : Int) := by rw [hq, hXY]; push_cast; rfl
  rw [hq2] at re
  rw [← hXY] at E1
  have rv : (e : Int) / 2 = (tS e : Nat) := by unfold tS; push_cast; rfl
  have r1 : ((tS e : Nat) : Int) % (X : Int) = (tS e % X : Nat) := by push_cast; rfl
  have r2 : ((tS e : Nat) : Int) / (X : Int) = (tS e / X : Nat) := by push_cast; rfl
  have r3 : ((tS e % X : Nat) + 1 : Int) % (X : Int) = ((tS e % X + 1) % X : Nat) := by push_cast; rfl
  have r4 : ((tS e / X : Nat) + 1 : Int) % (Y : Int) = ((tS e / X + 1) % Y : Nat) := by push_cast; rfl
  have r5 : ((tS e / X : Nat) : Int) * (X : Int) + ((tS e % X + 1) % X : Nat) = (tS e / X * X + (tS e % X + 1) % X : Nat) := by push_cast; rfl
  have r6 : (((tS e / X + 1) % Y : Nat) : Int) * (X : Int) + (tS e % X : Nat) = ((tS e / X + 1) % Y * X + tS e % X : Nat) := by push_cast; rfl
  have lt0 : tS e / X * X + (tS e % X + 1) % X < X * Y := mul_add_lt (row_lt hb.1) (Nat.mod_lt _ hX1)
  have lt1 : (tS e / X + 1) % Y * X + tS e % X < X * Y := mul_add_lt (Nat.mod_lt _ hY1) (Nat.mod_lt _ hX1)
  have HO := fun w p h => torOffset w (tS e : Nat) (tT X Y e : Nat) p X Y (X * Y) E h
  have HS := fun w p h => torSame w (tS e : Nat) (tT X Y e : Nat) p X Y (X * Y) E h
  have HC : Hid (∀ w p, Tor w p X Y (X * Y) E → Calls Try.prog 24 #[.pointer (some ⟨p.g, 0, none⟩)] w fun e w' => e = .returned (.int .i64 ((sets (X * Y) (tL X Y E) : Nat) : Int)) ∧ w = w') := fun w p h => torCount w p X Y (X * Y) E h
  have HW : Hid (∀ w p, Tor w p X Y (X * Y) E → Calls Try.prog 22 #[.pointer (some ⟨p.g, 0, none⟩)] w fun e w' => e = .returned (.tuple #[.bool (anyB X Y tX E), .bool (anyB X Y tY E)]) ∧ ∃ k, w' = w.drewN k) := fun w p h => torWraps w p X Y (X * Y) E h
  have HW2 := fun w p h => torWraps w p X Y (X * Y) (E ++ [e]) h
  have HS2 := fun w p h => torSame w (tS e : Nat) (tT X Y e : Nat) p X Y (X * Y) (E ++ [e]) h
  have HC2 := fun w p h => torCount w p X Y (X * Y) (E ++ [e]) h
  have hadd : 2 * (tS e / X * X + tS e % X) + e % 2 = e := by
    have := Nat.div_add_mod (tS e) X
    rw [Nat.mul_comm] at this
    rw [this]; unfold tS; omega
  have HA := fun w p h => torAdd_ok w (tS e % X) (tS e / X) (e % 2) p X Y (X * Y) E h (Nat.mod_lt _ hX1) (row_lt hb.1) (by omega)
  rw [hadd] at HA
  have hc2 : ((sets (X * Y) (tL X Y E) : Nat) : Int) ≤ 144 := by have := sets_le (X * Y) (tL X Y E); omega
  have hc1 : 1 ≤ ((sets (X * Y) (tL X Y E) : Nat) : Int) := by
    have := cnt_pos (p := fun i => tL X Y E i == i) (n := X * Y) (m := 0) (by omega) (by have := (tL_lab X Y E).le 0 (by omega); simp; omega)
    have h2 : sets (X * Y) (tL X Y E) = cnt (fun i => tL X Y E i == i) (X * Y) := rfl
    omega
  by_cases hd : e % 2 = 0
  · have rd : (e : Int) % 2 = 0 := by omega
    have hto : tT X Y e = tS e / X * X + (tS e % X + 1) % X := by unfold tT tS; rw [if_pos hd]
    have ex : tX e = 1 := by unfold tX; rw [if_pos hd]
    have ey : tY e = 0 := by unfold tY; rw [if_pos hd]
    rw [hd] at HA
    rw [show ((0 : Nat) : Int) = 0 from rfl] at HA
    by_cases hL : tL X Y E (tS e) = tL X Y E (tT X Y e)
    · obtain ⟨g1, g2, g3, g4, g5, g6⟩ := edge_same hE he hL
      have hbq : (!(tL X Y E (tS e) == tL X Y E (tT X Y e))) = false := by simpa using hL
      rw [hbq] at HA
      rw [g2] at HS
      rw [g3] at HS2
      rw [g1] at HC2
      cases hok : offOk X Y E (tS e : Nat) (tT X Y e : Nat)
      · rw [hok] at HO
        exact edges_no0 a0 a1 a3 v2 l W X Y (X * Y) e (tS e) (tS e % X) (tS e / X) ((tS e % X + 1) % X) ((tS e / X + 1) % Y) (tS e / X * X + (tS e % X + 1) % X) ((tS e / X + 1) % Y * X + tS e % X) E (offX X Y E (tS e : Nat) (tT X Y e : Nat)) (offY X Y E (tS e : Nat) (tT X Y e : Nat)) (sets (X * Y) (tL X Y E) : Nat) false (anyB X Y tX E) (anyB X Y tY E) (anyB X Y tX (E ++ [e])) (anyB X Y tY (E ++ [e]))
          hX1 hX2 hY1 hY2 hp0 hp1 hq0 hq1 he hn2 b3 re rv rd hb.1 (Nat.mod_lt _ hX1) (row_lt hb.1) (Nat.mod_lt _ hX1) (Nat.mod_lt _ hY1) r1 r2 r3 r4 r5 r6 lt0 lt1 SZ N1 E1 hl HEL (by rw [← hto]; exact HO) (by rw [← hto]; exact HS) HC HW HA HW2 (by rw [← hto]; exact HS2) HC2 hc1 hc2
          (by cases h1 : anyB X Y tX E <;> simp; exact g4 h1) (by cases h1 : anyB X Y tY E <;> simp; exact g5 h1)
      · rw [hok] at HO
        obtain ⟨k1, k2⟩ := g6 hok
        rw [k1, k2] at HW2
        have HW3 : Hid (∀ w p, Tor w p X Y (X * Y) (E ++ [e]) → Calls Try.prog 22 #[.pointer (some ⟨p.g, 0, none⟩)] w fun r w' => r = .returned (.tuple #[.bool (anyB X Y tX E || (offX X Y E (tS e : Nat) (tT X Y e : Nat) != 1)), .bool (anyB X Y tY E || (offY X Y E (tS e : Nat) (tT X Y e : Nat) != 0))]) ∧ ∃ k, w' = w.drewN k) := fun w p h => by
          have := HW2 w p h
          rw [ex, ey] at this
          have q1 : decide (offX X Y E (tS e : Nat) (tT X Y e : Nat) ≠ 1) = (offX X Y E (tS e : Nat) (tT X Y e : Nat) != 1) := by rw [Bool.eq_iff_iff]; simp
          have q2 : decide (offY X Y E (tS e : Nat) (tT X Y e : Nat) ≠ 0) = (offY X Y E (tS e : Nat) (tT X Y e : Nat) != 0) := by rw [Bool.eq_iff_iff]; simp
          rw [q1, q2] at this
          exact this
        exact edges_ok0 a0 a1 a3 v2 l W X Y (X * Y) e (tS e) (tS e % X) (tS e / X) ((tS e % X + 1) % X) ((tS e / X + 1) % Y) (tS e / X * X + (tS e % X + 1) % X) ((tS e / X + 1) % Y * X + tS e % X) E (offX X Y E (tS e : Nat) (tT X Y e : Nat)) (offY X Y E (tS e : Nat) (tT X Y e : Nat)) (sets (X * Y) (tL X Y E) : Nat) true (anyB X Y tX E) (anyB X Y tY E) true true
          hX1 hX2 hY1 hY2 hp0 hp1 hq0 hq1 he hn2 b3 re rv rd hb.1 (Nat.mod_lt _ hX1) (row_lt hb.1) (Nat.mod_lt _ hX1) (Nat.mod_lt _ hY1) r1 r2 r3 r4 r5 r6 lt0 lt1 SZ N1 E1 hl HEL (by rw [← hto]; exact HO) (by rw [← hto]; exact HS) HC HW HA HW3 (by rw [← hto]; exact HS2) HC2 hc1 hc2
    · obtain ⟨g1, g2, g3, g4⟩ := edge_join hE he hL
      have hbq : (!(tL X Y E (tS e) == tL X Y E (tT X Y e))) = true := by simpa using hL
      rw [hbq] at HA
      rw [g3] at HS
      rw [g4] at HS2
      rw [g1 tX, g1 tY] at HW2
      have e2 : ((sets (X * Y) (tL X Y (E ++ [e])) : Nat) : Int) = (sets (X * Y) (tL X Y E) : Nat) - 1 := by omega
      rw [e2] at HC2
      exact edges_join0 a0 a1 a3 v2 l W X Y (X * Y) e (tS e) (tS e % X) (tS e / X) ((tS e % X + 1) % X) ((tS e / X + 1) % Y) (tS e / X * X + (tS e % X + 1) % X) ((tS e / X + 1) % Y * X + tS e % X) E (offX X Y E (tS e : Nat) (tT X Y e : Nat)) (offY X Y E (tS e : Nat) (tT X Y e : Nat)) (sets (X * Y) (tL X Y E) : Nat) (offOk X Y E (tS e : Nat) (tT X Y e : Nat)) (anyB X Y tX E) (anyB X Y tY E) true true
        hX1 hX2 hY1 hY2 hp0 hp1 hq0 hq1 he hn2 b3 re rv rd hb.1 (Nat.mod_lt _ hX1) (row_lt hb.1) (Nat.mod_lt _ hX1) (Nat.mod_lt _ hY1) r1 r2 r3 r4 r5 r6 lt0 lt1 SZ N1 E1 hl HEL (by rw [← hto]; exact HO) (by rw [← hto]; exact HS) HC HW HA HW2 (by rw [← hto]; exact HS2) HC2 hc1 hc2
  · have rd : (e : Int) % 2 = 1 := by omega
    have hto : tT X Y e = (tS e / X + 1) % Y * X + tS e % X := by unfold tT tS; rw [if_neg hd]
    have ex : tX e = 0 := by unfold tX; rw [if_neg hd]
    have ey : tY e = 1 := by unfold tY; rw [if_neg hd]
    rw [show e % 2 = 1 by omega] at HA
    rw [show ((1 : Nat) : Int) = 1 from rfl] at HA
    by_cases hL : tL X Y E (tS e) = tL X Y E (tT X Y e)
    · obtain ⟨g1, g2, g3, g4, g5, g6⟩ := edge_same hE he hL
      have hbq : (!(tL X Y E (tS e) == tL X Y E (tT X Y e))) = false := by simpa using hL
      rw [hbq] at HA
      rw [g2] at HS
      rw [g3] at HS2
      rw [g1] at HC2
      cases hok : offOk X Y E (tS e : Nat) (tT X Y e : Nat)
      · rw [hok] at HO
        exact edges_no1 a0 a1 a3 v2 l W X Y (X * Y) e (tS e) (tS e % X) (tS e / X) ((tS e % X + 1) % X) ((tS e / X + 1) % Y) (tS e / X * X + (tS e % X + 1) % X) ((tS e / X + 1) % Y * X + tS e % X) E (offX X Y E (tS e : Nat) (tT X Y e : Nat)) (offY X Y E (tS e : Nat) (tT X Y e : Nat)) (sets (X * Y) (tL X Y E) : Nat) false (anyB X Y tX E) (anyB X Y tY E) (anyB X Y tX (E ++ [e])) (anyB X Y tY (E ++ [e]))
          hX1 hX2 hY1 hY2 hp0 hp1 hq0 hq1 he hn2 b3 re rv rd hb.1 (Nat.mod_lt _ hX1) (row_lt hb.1) (Nat.mod_lt _ hX1) (Nat.mod_lt _ hY1) r1 r2 r3 r4 r5 r6 lt0 lt1 SZ N1 E1 hl HEL (by rw [← hto]; exact HO) (by rw [← hto]; exact HS) HC HW HA HW2 (by rw [← hto]; exact HS2) HC2 hc1 hc2
          (by cases h1 : anyB X Y tX E <;> simp; exact g4 h1) (by cases h1 : anyB X Y tY E <;> simp; exact g5 h1)
      · rw [hok] at HO
        obtain ⟨k1, k2⟩ := g6 hok
        rw [k1, k2] at HW2
        have HW3 : Hid (∀ w p, Tor w p X Y (X * Y) (E ++ [e]) → Calls Try.prog 22 #[.pointer (some ⟨p.g, 0, none⟩)] w fun r w' => r = .returned (.tuple #[.bool (anyB X Y tX E || (offX X Y E (tS e : Nat) (tT X Y e : Nat) != 0)), .bool (anyB X Y tY E || (offY X Y E (tS e : Nat) (tT X Y e : Nat) != 1))]) ∧ ∃ k, w' = w.drewN k) := fun w p h => by
          have := HW2 w p h
          rw [ex, ey] at this
          have q1 : decide (offX X Y E (tS e : Nat) (tT X Y e : Nat) ≠ 0) = (offX X Y E (tS e : Nat) (tT X Y e : Nat) != 0) := by rw [Bool.eq_iff_iff]; simp
          have q2 : decide (offY X Y E (tS e : Nat) (tT X Y e : Nat) ≠ 1) = (offY X Y E (tS e : Nat) (tT X Y e : Nat) != 1) := by rw [Bool.eq_iff_iff]; simp
          rw [q1, q2] at this
          exact this
        exact edges_ok1 a0 a1 a3 v2 l W X Y (X * Y) e (tS e) (tS e % X) (tS e / X) ((tS e % X + 1) % X) ((tS e / X + 1) % Y) (tS e / X * X + (tS e % X + 1) % X) ((tS e / X + 1) % Y * X + tS e % X) E (offX X Y E (tS e : Nat) (tT X Y e : Nat)) (offY X Y E (tS e : Nat) (tT X Y e : Nat)) (sets (X * Y) (tL X Y E) : Nat) true (anyB X Y tX E) (anyB X Y tY E) true true
          hX1 hX2 hY1 hY2 hp0 hp1 hq0 hq1 he hn2 b3 re rv rd hb.1 (Nat.mod_lt _ hX1) (row_lt hb.1) (Nat.mod_lt _ hX1) (Nat.mod_lt _ hY1) r1 r2 r3 r4 r5 r6 lt0 lt1 SZ N1 E1 hl HEL (by rw [← hto]; exact HO) (by rw [← hto]; exact HS) HC HW HA HW3 (by rw [← hto]; exact HS2) HC2 hc1 hc2
    · obtain ⟨g1, g2, g3, g4⟩ := edge_join hE he hL
      have hbq : (!(tL X Y E (tS e) == tL X Y E (tT X Y e))) = true := by simpa using hL
      rw [hbq] at HA
      rw [g3] at HS
      rw [g4] at HS2
      rw [g1 tX, g1 tY] at HW2
      have e2 : ((sets (X * Y) (tL X Y (E ++ [e])) : Nat) : Int) = (sets (X * Y) (tL X Y E) : Nat) - 1 := by omega
      rw [e2] at HC2
      exact edges_join1 a0 a1 a3 v2 l W X Y (X * Y) e (tS e) (tS e % X) (tS e / X) ((tS e % X + 1) % X) ((tS e / X + 1) % Y) (tS e / X * X + (tS e % X + 1) % X) ((tS e / X + 1) % Y * X + tS e % X) E (offX X Y E (tS e : Nat) (tT X Y e : Nat)) (offY X Y E (tS e : Nat) (tT X Y e : Nat)) (sets (X * Y) (tL X Y E) : Nat) (offOk X Y E (tS e : Nat) (tT X Y e : Nat)) (anyB X Y tX E) (anyB X Y tY E) true true
        hX1 hX2 hY1 hY2 hp0 hp1 hq0 hq1 he hn2 b3 re rv rd hb.1 (Nat.mod_lt _ hX1) (row_lt hb.1) (Nat.mod_lt _ hX1) (Nat.mod_lt _ hY1) r1 r2 r3 r4 r5 r6 lt0 lt1 SZ N1 E1 hl HEL (by rw [← hto]; exact HO) (by rw [← hto]; exact HS) HC HW HA HW2 (by rw [← hto]; exact HS2) HC2 hc1 hc2
end Go.Proofs.Ytnkkdoookhhhaaa
