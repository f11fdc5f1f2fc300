/- undo: Trial. -/
import Derived.Test.YtdhmjdlkaoflnaaUndoL
namespace Go.Proofs.Ytdhmjdlkaoflnaa
open Go.RowKit
set_option linter.unusedVariables false

theorem Und.notin {w : World} {p : ULoc} {n R t : Nat} {past : List (Nat → Nat)} {L : Nat → Nat} {cs : Array Value} (h : Und w p n past L) (hb : Blk w R t cs) (h1 : t ≠ 3) (h2 : t ≠ 60) : R ∉ p.bl := by
  obtain ⟨up, size, log, h, _⟩ := h
  intro hm
  rcases ULoc.mem_bl.1 hm with e | e | e | e
  · exact hb.ne_ h.hg h2 e
  · exact hb.ne_ h.hu h1 e
  · exact hb.ne_ h.hz h1 e
  · have := own_notBlk h.ho hb (fun e => h1 e.symm)
    rw [ownBlock_slice] at this
    exact this e

def allIn (n : Nat) (l : List (Int × Int)) : Prop := ∀ e ∈ l, inB n e.1 = true ∧ inB n e.2 = true
def zeroRow : Array Value := #[.int .i64 0, .int .i64 0, .int .i64 0]

set_option maxRecDepth 100000 in
set_option maxHeartbeats 8000000 in
theorem undoTrial_ok (w : World) (p : ULoc) (n : Nat) (s : HS) (v : Value) (l : List (Int × Int)) (h : Und w p n s.past s.L) (hl : IsPairs w v l) (hb : ∀ A m c, v = .slice A m c → 0 < m → ∀ ad, A = some ad → ad.block ∉ p.bl) (ha : allIn n l) :
    Calls Try.prog 24 #[.pointer (some ⟨p.g, 0, none⟩), v] w
      fun e w' => e = .returned (.tuple #[rowV n (foldH n l s).L, .int .i64 0]) ∧ Und1 w w' p n s.past s.L := by
  obtain ⟨A, m, c, rfl, hm, hlen, hok, hr⟩ := hl
  have hm' : m ≤ 9223372036854775807 := by unfold maxLen at hm; omega
  have HBB := hide (hb A m c rfl)
  have HR := hide hr
  have HLn := hide hlen
  have HA := hide ha
  have H := hide h
  have V := undoValid w p n s.past s.L h
  clear hr hok hlen hm h ha hb
  clear V
  go_enter_defers Try.func24, Try.ntmps24
  go_wp2_with fail
  refine (undoValid _ p n s.past s.L (H.out.fresh ((Below.refl _ _).alloc (Nat.le_refl _) _))).mono ?_
  rintro e w' ⟨rfl, rfl⟩
  go_wp2_with fail
  have hR0 : Blk (w.alloc (.cells zeroRow 48)) w.heap.size 48 zeroRow := Blk.new w _ _
  have hB0 : Below w.heap.size w (w.alloc (.cells zeroRow 48)) := (Below.refl _ _).alloc (Nat.le_refl _) _
  have hw0 : w.alloc (.cells #[.int .i64 0, .int .i64 0, .int .i64 0] 48) = w.alloc (.cells zeroRow 48) := rfl
  rw [hw0]
  clear hw0
  generalize w.alloc (.cells zeroRow 48) = w0 at *
  generalize hrr : w.heap.size = R at *
  have HRR := hide hrr
  have HR0 := hide hR0
  have HB0 := hide hB0
  clear hR0 hB0 hrr
  go_loopg [16] m (fun q v wr => ∃ k : Nat, k + q = m ∧ v = .int .i64 (k : Int) ∧ Blk wr R 48 zeroRow ∧ Below R w wr)
  case atStart => exact ⟨0, by omega, rfl, HR0.out, HB0.out⟩
  case round =>
    obtain ⟨k, hk, rfl, hR, hb⟩ := hrel
    have HK := hide hk
    have hkm : k ≤ m := by omega
    have HRB := hide hR
    have HBB2 := hide hb
    have hU : Und wr p n s.past s.L := H.out.fresh (by rw [HRR.out]; exact hb)
    have HU := hide hU
    clear hk hR hb HR0 HB0 hU
    by_cases hlt : k < m
    · have hkl : k < l.length := by have := HLn.out; omega
      obtain ⟨b, o, rfl, hblt, c0, c1⟩ := HR.out.pair k hkl HLn.out
      have hin := HA.out _ (List.getElem_mem hkl)
      generalize l[k] = e at *
      obtain ⟨x, y⟩ := e
      obtain ⟨hx, hy⟩ := hin
      have d0 : wr.cell? ⟨b, o + k * 2, none⟩ = some (.int .i64 x) := (HBB2.out.cell (p := ⟨b, o + k * 2, none⟩) (by rw [← HRR.out]; exact hblt)).trans c0
      have d1 : wr.cell? ⟨b, o + k * 2 + 1, none⟩ = some (.int .i64 y) := (HBB2.out.cell (p := ⟨b, o + k * 2 + 1, none⟩) (by rw [← HRR.out]; exact hblt)).trans c1
      have CX := fun W h => undoHas W x p n s.past s.L h
      have CY := fun W h => undoHas W y p n s.past s.L h
      simp only at hx hy
      rw [hx] at CX
      rw [hy] at CY
      have HCX := hide CX
      have HCY := hide CY
      have hRs : R ≤ wr.heap.size := Nat.le_of_lt HRB.out.lt
      clear c0 c1 CX CY hx hy
      go_wp2_with (first | (go_at_call_of 39 (Value.int .i64 x); refine (HCX.out _ (HU.out.fresh ((Below.refl _ _).alloc (Nat.le_refl _) _))).mono ?_; rintro e w' ⟨rfl, rfl⟩) | (go_at_call_of 39 (Value.int .i64 y); refine (HCY.out _ (HU.out.fresh ((Below.refl _ _).alloc (Nat.le_refl _) _))).mono ?_; rintro e w' ⟨rfl, rfl⟩))
      go_roundg (m - (k + 1))
      case measure => have := HK.out; omega
      case rel => exact ⟨k + 1, by omega, by go_num, HRB.out.alloc _, HBB2.out.alloc hRs _⟩
    · have hkm' : k = m := by omega
      subst hkm'
      have hU := HU.out
      obtain ⟨up, size, log, hus, hh⟩ := hU
      obtain ⟨_, _, _, _, _, _, _, _, hpl, _⟩ := hh.st
      have c3 := hus.c3
      rw [← hpl] at c3
      have hrl : R ≤ wr.heap.size := Nat.le_of_lt HRB.out.lt
      obtain ⟨wo, rfl⟩ : ∃ wo : World, wo = wr := ⟨_, rfl⟩
      clear hus hh hpl
      go_wp2_with fail
      clear c3
      go_loopg [42] k (fun q v wr => ∃ (j : Nat) (p' : ULoc), j + q = k ∧ v = .int .i64 (j : Int) ∧ Und wr p' n (foldH n (l.take j) s).past (foldH n (l.take j) s).L ∧ Moved wo p p' ∧ Fr p.bl wo wr ∧ Blk wr R 48 zeroRow)
      case atStart => exact ⟨0, p, by omega, rfl, HU.out, Moved.refl _ _, Fr.refl _ _, HRB.out⟩
      case round =>
        obtain ⟨j, p', hj, rfl, hd, hmv, hf, hR⟩ := hrel
        have HJ := hide hj
        have hjk : j ≤ k := by omega
        have HD := hide hd
        have HMV := hide hmv
        have HF := hide hf
        have HRB2 := hide hR
        clear hj hd hmv hf hR
        have hpg : p'.g = p.g := HMV.out.g
        by_cases hjl : j < k
        · have hkl : j < l.length := by have := HLn.out; omega
          obtain ⟨b, o, rfl, hblt, c0, c1⟩ := HR.out.pair j hkl HLn.out
          have hbn : b ∉ p.bl := HBB.out (by omega) _ rfl
          have hbo : b < wo.heap.size := by have := HRR.out; omega
          have e0 : wo.cell? ⟨b, o + j * 2, none⟩ = w.cell? ⟨b, o + j * 2, none⟩ := HBB2.out.cell (p := ⟨b, o + j * 2, none⟩) (by rw [← HRR.out]; exact hblt)
          have e1 : wo.cell? ⟨b, o + j * 2 + 1, none⟩ = w.cell? ⟨b, o + j * 2 + 1, none⟩ := HBB2.out.cell (p := ⟨b, o + j * 2 + 1, none⟩) (by rw [← HRR.out]; exact hblt)
          have d0 : wr.cell? ⟨b, o + j * 2, none⟩ = some (.int .i64 l[j].1) := (World.cell?_of_block (HF.out.block b hbo hbn)).trans (e0.trans c0)
          have d1 : wr.cell? ⟨b, o + j * 2 + 1, none⟩ = some (.int .i64 l[j].2) := (World.cell?_of_block (HF.out.block b hbo hbn)).trans (e1.trans c1)
          have hts : l.take (j + 1) = l.take j ++ [l[j]] := List.take_succ_eq_append_getElem hkl
          have hin := HA.out _ (List.getElem_mem hkl)
          generalize l[j] = e at *
          obtain ⟨x, y⟩ := e
          obtain ⟨hx, hy⟩ := hin
          simp only at hx hy d0 d1
          have a1 : 0 ≤ x ∧ x < n := by simpa [inB] using hx
          have a2 : 0 ≤ y ∧ y < n := by simpa [inB] using hy
          obtain ⟨a, rfl⟩ := Int.eq_ofNat_of_zero_le a1.1
          obtain ⟨b', rfl⟩ := Int.eq_ofNat_of_zero_le a2.1
          have han : a < n := by omega
          have hbn' : b' < n := by omega
          have HTS := hide hts
          generalize hs1 : foldH n (l.take j) s = s1 at *
          have HS1 := hide hs1
          have U := fun W h => undoUnite W a b' p' n s1.past s1.L h han hbn'
          rw [hpg] at U
          have hst : stepH n s1 ((a : Int), (b' : Int)) = ⟨pastU s1.past s1.L (s1.L a) (s1.L b'), merge s1.L (s1.L a) (s1.L b')⟩ := by
            simp only [stepH, pastV, unionL, hx, hy, Bool.and_self, if_true, Int.toNat_natCast]
          have HST := hide hst
          have HUU := hide U
          have hrs : R ≠ wr.heap.size := by have := HRB2.out.lt; omega
          clear c0 c1 e0 e1 hts hx hy a1 a2 hs1 U hst
          go_wp2_with (go_at_call 40; refine (HUU.out _ (HD.out.fresh ((Below.refl _ _).alloc (Nat.le_refl _) _))).mono ?_; rintro e w3 ⟨rfl, hu3⟩)
          go_roundg (k - (j + 1))
          case measure => have := HJ.out; omega
          case rel =>
            obtain ⟨p2, hd2, hm2, hf2⟩ := hu3
            have hs1 : wo.heap.size ≤ wr.heap.size := HF.out.size
            have hfa : Fr p'.bl wr w3 := ((Fr.refl _ _).alloc _).trans hf2
            refine ⟨j + 1, p2, by omega, by go_num, ?_, HMV.out.trans ⟨hm2.g, fun q hq => (hm2.bl q hq).imp id (fun h => Nat.le_trans (Nat.le_of_lt (by simp)) h)⟩ hs1, HF.out.trans_new hfa HMV.out.bl, HRB2.out.fr hfa (HD.out.notin HRB2.out (by decide) (by decide))⟩
            rw [HTS.out, foldH_snoc, HS1.out, HST.out]; exact hd2
        · have hjk' : j = k := by omega
          subst hjk'
          have et : l.take j = l := List.take_of_length_le (by have := HLn.out; omega)
          have hd := HD.out
          rw [et] at hd
          have RW := undoRow wr p' n _ _ hd
          rw [hpg] at RW
          have HRW := hide RW
          have HD2 := hide hd
          clear et hd RW
          go_wp2_with fail
          refine HRW.out.mono ?_
          rintro e w4 ⟨rfl, hb4⟩
          have hR4 := HRB2.out.below hb4 HRB2.out.lt
          have hD4 := HD2.out.fresh hb4
          have r0 : w4.cell? ⟨R, 0, none⟩ = some (.int .i64 0) := (hR4.cell 0).trans rfl
          have r1 : w4.cell? ⟨R, 1, none⟩ = some (.int .i64 0) := (hR4.cell 1).trans rfl
          have r2 : w4.cell? ⟨R, 2, none⟩ = some (.int .i64 0) := (hR4.cell 2).trans rfl
          have rf0 := hR4.frozen 0
          have rf1 := hR4.frozen 1
          have rf2 := hR4.frozen 2
          have HR4 := hide hR4
          have HD4 := hide hD4
          have HB4 := hide hb4
          clear hR4 hD4 hb4
          unfold rowV
          go_wp2_with fail
          have hRn : R ∉ p'.bl := HD4.out.notin HR4.out (by decide) (by decide)
          generalize hsg : (foldH n l s) = s2 at *
          have BKL := foldH_back n l s
          rw [hsg] at BKL
          obtain ⟨bk1, bk2, bk3⟩ := BKL
          have fD : Fr [R] w4 (((w4.setCell ⟨R, 0, none⟩ (.int .i64 (lrg n s2.L : Int))).setCell ⟨R, 1, none⟩ (.int .i64 (sets n s2.L : Int))).setCell ⟨R, 2, none⟩ (.int .i64 (sq n s2.L : Int))) :=
            (((Fr.refl _ _).setCell (p := ⟨R, 0, none⟩) (.inl (by simp)) _).setCell (p := ⟨R, 1, none⟩) (.inl (by simp)) _).setCell (p := ⟨R, 2, none⟩) (.inl (by simp)) _
          have bD : Blk (((w4.setCell ⟨R, 0, none⟩ (.int .i64 (lrg n s2.L : Int))).setCell ⟨R, 1, none⟩ (.int .i64 (sets n s2.L : Int))).setCell ⟨R, 2, none⟩ (.int .i64 (sq n s2.L : Int))) R 48 #[.int .i64 (lrg n s2.L : Int), .int .i64 (sets n s2.L : Int), .int .i64 (sq n s2.L : Int)] :=
            ((HR4.out.set_ 0 _).set_ 1 _).set_ 2 _
          have uD := HD4.out.fr fD (fun b hb => by simp; rintro rfl; exact hRn hb)
          have BK := undoBackD _ s.past.length p' n _ _ .returning uD bk3
          rw [hpg, bk1, bk2] at BK
          have fw : Fr p.bl w w4 := by
            have h1 : Below w.heap.size w wo := by rw [HRR.out]; exact HBB2.out
            exact ((Fr.of_below p.bl h1).trans HF.out).trans ((Fr.of_below [] HB4.out).mono (by simp))
          generalize ((w4.setCell ⟨R, 0, none⟩ (.int .i64 (lrg n s2.L : Int))).setCell ⟨R, 1, none⟩ (.int .i64 (sets n s2.L : Int))).setCell ⟨R, 2, none⟩ (.int .i64 (sq n s2.L : Int)) = wD at *
          refine leaves_cons (f := 33) (args := #[.pointer (some ⟨p.g, 0, none⟩), .int .i64 (s.past.length : Int)]) (by simp) (by simp [go_sem]) ?_
          refine BK.mono ?_
          rintro e u' w5 ⟨rfl, rfl, hub, hfb⟩
          have b5 := bD.fr hfb hRn
          have q0 : w5.cell? ⟨R, 0, none⟩ = some (.int .i64 (lrg n s2.L : Int)) := (b5.cell 0).trans rfl
          have q1 : w5.cell? ⟨R, 1, none⟩ = some (.int .i64 (sets n s2.L : Int)) := (b5.cell 1).trans rfl
          have q2 : w5.cell? ⟨R, 2, none⟩ = some (.int .i64 (sq n s2.L : Int)) := (b5.cell 2).trans rfl
          have hRw : w.heap.size ≤ R := by rw [HRR.out]; exact Nat.le_refl _
          have hRo : w.heap.size ≤ wo.heap.size := by omega
          have fwD : Fr p.bl w wD := fw.trans_new fD (fun b hb => by simp at hb; subst hb; exact .inr hRw)
          refine ⟨.tuple #[.agg #[.int .i64 (lrg n s2.L : Int), .int .i64 (sets n s2.L : Int), .int .i64 (sq n s2.L : Int)], .int .i64 0], by simp [results, Try.results24, go_sem, q0, q1, q2], by unfold rowV; rfl, p', hub, ⟨hpg, fun q hq => (HMV.out.bl q hq).imp id (fun h => by omega)⟩, fwD.trans_new hfb (fun b hb => (HMV.out.bl b hb).imp id (fun h => by omega))⟩
end Go.Proofs.Ytdhmjdlkaoflnaa
