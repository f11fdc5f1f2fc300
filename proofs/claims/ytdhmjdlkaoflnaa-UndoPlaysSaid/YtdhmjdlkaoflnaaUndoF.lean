/- undo: row. -/
import Derived.Test.YtdhmjdlkaoflnaaUndoE
import Derived.IntWalk
namespace Go.Proofs.Ytdhmjdlkaoflnaa
open Go.RowKit
set_option linter.unusedVariables false

def rowV (n : Nat) (L : Nat → Nat) : Value := .agg #[.int .i64 (lrg n L : Int), .int .i64 (sets n L : Int), .int .i64 (sq n L : Int)]

set_option maxRecDepth 100000 in
set_option maxHeartbeats 4000000 in
theorem undoRow (w : World) (p : ULoc) (n : Nat) (past : List (Nat → Nat)) (L : Nat → Nat) (h : Und w p n past L) :
    Calls Try.prog 41 #[.pointer (some ⟨p.g, 0, none⟩)] w fun e w' => e = .returned (rowV n L) ∧ Below w.heap.size w w' := by
  have nb := h.nb
  have hu0 := hide h
  have hct : sets n L ≤ n := cnt_le _ _
  have K := fun W h => undoCount W p n past L h
  generalize hcs : sets n L = cs at *
  have HCS := hide hcs
  have HK := hide K
  obtain ⟨up, size, log, h, hh⟩ := h
  obtain ⟨least, rep, ρ, M, c, hs, hl, _⟩ := hh.st
  have c1 := h.c1
  have hgl := h.hg.lt
  have H := hide h
  have HS := hide hs
  clear h hh hs hl K hcs
  go_enter Try.func41, Try.ntmps41
  go_wp2_with (go_at_call 15; refine (HK.out _ (hu0.out.fresh ((Below.refl _ _).alloc (Nat.le_refl _) _))).mono ?_; rintro e w' ⟨rfl, k1, rfl⟩)
  have hR0 : Blk (((w.alloc (.cells #[.int .i64 0, .int .i64 0, .int .i64 0] 48)).drewN k1).alloc (.cells #[.int .i64 0, .int .i64 (cs : Int), .int .i64 0] 48)) w.heap.size 48 #[.int .i64 0, .int .i64 0, .int .i64 0] := (Blk.new w _ _).alloc (.cells #[.int .i64 0, .int .i64 (cs : Int), .int .i64 0] 48)
  have hQ0 : Blk (((w.alloc (.cells #[.int .i64 0, .int .i64 0, .int .i64 0] 48)).drewN k1).alloc (.cells #[.int .i64 0, .int .i64 (cs : Int), .int .i64 0] 48)) (w.heap.size + 1) 48 #[.int .i64 0, .int .i64 (cs : Int), .int .i64 0] := by
    have := Blk.new ((w.alloc (.cells #[.int .i64 0, .int .i64 0, .int .i64 0] 48)).drewN k1) 48 #[.int .i64 0, .int .i64 (cs : Int), .int .i64 0]
    have e : ((w.alloc (.cells #[.int .i64 0, .int .i64 0, .int .i64 0] 48)).drewN k1).heap.size = w.heap.size + 1 := by show (w.alloc _).heap.size = _; simp
    rwa [e] at this
  have hB0 : Below w.heap.size w (((w.alloc (.cells #[.int .i64 0, .int .i64 0, .int .i64 0] 48)).drewN k1).alloc (.cells #[.int .i64 0, .int .i64 (cs : Int), .int .i64 0] 48)) :=
    (((Below.refl _ _).alloc (Nat.le_refl _) _).drewN k1).alloc (by show _ ≤ (w.alloc _).heap.size; simp) _
  generalize ((w.alloc (.cells #[.int .i64 0, .int .i64 0, .int .i64 0] 48)).drewN k1).alloc (.cells #[.int .i64 0, .int .i64 (cs : Int), .int .i64 0] 48) = w0 at *
  generalize hq : w.heap.size + 1 = Q at *
  have hne : w.heap.size ≠ Q := by omega
  have hne' := hne.symm
  have hle : w.heap.size ≤ Q := by omega
  generalize hrr : w.heap.size = R at *
  have HRR := hide hrr
  have HR0 := hide hR0
  have HQ0 := hide hQ0
  have HB0 := hide hB0
  clear hR0 hQ0 hB0 hq hrr
  go_loopg [14] n (fun q v wr => ∃ k : Nat, k + q = n ∧ v = .int .i64 (k : Int) ∧ Blk wr R 48 #[.int .i64 0, .int .i64 0, .int .i64 0] ∧ Blk wr Q 48 #[.int .i64 (mx (rootF up size) k : Int), .int .i64 (cs : Int), .int .i64 (sm (rootS up size) k : Int)] ∧ Below R w wr)
  case atStart => exact ⟨0, by omega, rfl, HR0.out, HQ0.out, HB0.out⟩
  case round =>
    obtain ⟨k, hk, rfl, hR, hQ, hb⟩ := hrel
    have HK := hide hk
    have hkn : k ≤ n := by omega
    clear hk HR0 HQ0 HB0
    have q0 : wr.cell? ⟨Q, 0, none⟩ = some (.int .i64 (mx (rootF up size) k : Int)) := (hQ.cell 0).trans rfl
    have q1 : wr.cell? ⟨Q, 1, none⟩ = some (.int .i64 (cs : Int)) := (hQ.cell 1).trans rfl
    have q2 : wr.cell? ⟨Q, 2, none⟩ = some (.int .i64 (sm (rootS up size) k : Int)) := (hQ.cell 2).trans rfl
    have qf0 := hQ.frozen 0
    have qf2 := hQ.frozen 2
    have hU : US wr p n up size log := H.out.fresh (by rw [HRR.out]; exact hb)
    have m1 : mx (rootF up size) (k + 1) = max (mx (rootF up size) k) (rootF up size k) := rfl
    have m2 : sm (rootS up size) (k + 1) = sm (rootS up size) k + rootS up size k := rfl
    have HRB := hide hR
    have HQB := hide hQ
    have HBB := hide hb
    clear hR hQ hb
    by_cases hlt : k < n
    · have ck := hU.hu.intx hlt
      by_cases he : up k = k
      · have hbe := beq_nat_true he
        have hsz : size k ≤ n := by rw [HS.out.rootSize hlt he]; exact cnt_le _ _
        have hsq : sm (rootS up size) k ≤ k * (65536 * 65536) := sm_le fun i hi => by
          unfold rootS
          split
          · rename_i hu
            have : size i ≤ 65536 := by rw [HS.out.rootSize (by omega) hu]; exact Nat.le_trans (cnt_le _ _) nb
            exact Nat.mul_le_mul this this
          · exact Nat.zero_le _
        have hsq2 : sm (rootS up size) k ≤ 281474976710656 := by omega
        have e1 : rootF up size k = size k := by unfold rootF; rw [if_pos he]
        have e2 : rootS up size k = size k * size k := by unfold rootS; rw [if_pos he]
        rw [e1] at m1
        rw [e2] at m2
        have M1 := hide m1
        have M2 := hide m2
        have c2 := hU.c2
        have cz := hU.hz.intx hlt
        have gQ : p.g ≠ Q := by omega
        have hlz : p.bz < R := by rw [← HRR.out]; exact H.out.hz.lt
        have zQ : p.bz ≠ Q := by omega
        clear he hU m1 m2 e1 e2 hsq
        generalize mx (rootF up size) k = mk at *
        generalize sm (rootS up size) k = sk at *
        generalize size k = z at *
        have hz2 : z * z ≤ 65536 * 65536 := Nat.mul_le_mul (by omega) (by omega)
        obtain ⟨q, hqq⟩ : ∃ q : Nat, z * z = q := ⟨_, rfl⟩
        have hzi : (z : Int) * (z : Int) = (q : Int) := by rw [← hqq]; simp
        rw [hqq] at hz2
        have HQQ := hide hqq
        clear hqq
        by_cases hmz : mk < z
        · go_wp2_with fail
          go_region
          go_wp2_with fail
          go_region
          go_wp2_with fail
          go_roundg (n - (k + 1))
          case measure => have := HK.out; omega
          case rel =>
            have e1 : max mk z = z := by omega
            have e2 : ((sk + z * z : Nat) : Int) = (sk : Int) + (q : Int) := by rw [← HQQ.out]; simp
            refine ⟨k + 1, by omega, by go_num, ((HRB.out.far (p := ⟨Q, 0, none⟩) hne _).far (p := ⟨Q, 2, none⟩) hne _), ?_, ((HBB.out.setCell (p := ⟨Q, 0, none⟩) hle _).setCell (p := ⟨Q, 2, none⟩) hle _).drewN 2⟩
            rw [M1.out, M2.out, e1, e2]
            exact (HQB.out.set_ 0 (.int .i64 (z : Int))).set_ 2 (.int .i64 ((sk : Int) + (q : Int)))
        · go_wp2_with fail
          go_region
          go_wp2_with fail
          go_region
          go_wp2_with fail
          go_roundg (n - (k + 1))
          case measure => have := HK.out; omega
          case rel =>
            have e1 : max mk z = mk := by omega
            have e2 : ((sk + z * z : Nat) : Int) = (sk : Int) + (q : Int) := by rw [← HQQ.out]; simp
            refine ⟨k + 1, by omega, by go_num, ((HRB.out.far (p := ⟨Q, 0, none⟩) hne _).far (p := ⟨Q, 2, none⟩) hne _), ?_, ((HBB.out.setCell (p := ⟨Q, 0, none⟩) hle _).setCell (p := ⟨Q, 2, none⟩) hle _).drewN 2⟩
            rw [M1.out, M2.out, e1, e2]
            exact (HQB.out.set_ 0 (.int .i64 (mk : Int))).set_ 2 (.int .i64 ((sk : Int) + (q : Int)))
      · have hbe := beq_nat_false he
        have e1 : rootF up size k = 0 := by unfold rootF; rw [if_neg he]
        have e2 : rootS up size k = 0 := by unfold rootS; rw [if_neg he]
        rw [e1, Nat.max_zero] at m1
        rw [e2, Nat.add_zero] at m2
        have M1 := hide m1
        have M2 := hide m2
        clear he m1 m2 e1 e2 q0 q1 q2
        go_wp2_with fail
        go_roundg (n - (k + 1))
        case measure => have := HK.out; omega
        case rel => exact ⟨k + 1, by omega, by go_num, HRB.out, by rw [M1.out, M2.out]; exact HQB.out, HBB.out⟩
    · have hkk : k = n := by omega
      subst hkk
      have L1 := HS.out.lrg_eq
      have L2 := HS.out.sq_eq
      rw [L1] at q0
      rw [L2] at q2
      have r0 : wr.cell? ⟨R, 0, none⟩ = some (.int .i64 0) := (HRB.out.cell 0).trans rfl
      have r1 : wr.cell? ⟨R, 1, none⟩ = some (.int .i64 0) := (HRB.out.cell 1).trans rfl
      have r2 : wr.cell? ⟨R, 2, none⟩ = some (.int .i64 0) := (HRB.out.cell 2).trans rfl
      have rf0 := HRB.out.frozen 0
      have rf1 := HRB.out.frozen 1
      have rf2 := HRB.out.frozen 2
      clear m1 m2 hU
      have HFB := hide (((HBB.out.setCell (p := ⟨R, 0, none⟩) (Nat.le_refl _) (.int .i64 (lrg k L : Int))).setCell (p := ⟨R, 1, none⟩) (Nat.le_refl _) (.int .i64 (cs : Int))).setCell (p := ⟨R, 2, none⟩) (Nat.le_refl _) (.int .i64 (sq k L : Int)))
      go_wp2_with fail
      refine bodyPost_ret (v := .agg #[.int .i64 (lrg k L : Int), .int .i64 (cs : Int), .int .i64 (sq k L : Int)]) (by simp [results, Try.results41, go_sem, r0, r1, r2]) rfl ⟨by unfold rowV; rw [HCS.out], ?_⟩
      first | exact HFB.out | (rw [HRR.out]; exact HFB.out)
end Go.Proofs.Ytdhmjdlkaoflnaa
