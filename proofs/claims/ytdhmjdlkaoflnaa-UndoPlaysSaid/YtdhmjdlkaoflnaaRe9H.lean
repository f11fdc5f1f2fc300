/- seepageref09: Trial. -/
import Derived.Test.YtdhmjdlkaoflnaaRe9G
import Derived.Test.YtdhmjdlkaoflnaaUndoKnownWalk
namespace Go.Proofs.Ytdhmjdlkaoflnaa
open Go.RowKit
set_option linter.unusedVariables false

set_option maxRecDepth 100000 in
set_option maxHeartbeats 8000000 in
theorem r9Trial_ok (w : World) (g n : Nat) (past : List (Nat → Nat)) (L : Nat → Nat) (P : Nat → Prop) (v : Value) (l : List (Int × Int)) (h : Ref9Q w g n past L P) (hl : IsPairs w v l) (hlab : Lab n L) (ha : allIn n l) :
    Calls Try.prog 28 #[.pointer (some ⟨g, 0, none⟩), v] w
      fun e w' => e = .returned (.tuple #[rowV n (foldU n l L), .int .i64 0]) ∧ Below w.heap.size w w' := by
  obtain ⟨A, m, c, rfl, hm, hlen, hok, hr⟩ := hl
  have hm' : m ≤ 9223372036854775807 := by unfold maxLen at hm; omega
  have HR := hide hr
  have HLn := hide hlen
  have HA := hide ha
  have HLab := hide hlab
  obtain ⟨v0, vp, vs, hq⟩ := h
  obtain ⟨A1, q1, rfl, -⟩ := own_form hq.hl
  have nb := hq.nb
  have hqa := hq.fr (S := []) ((Fr.refl [] w).alloc (.cells zeroRow 48)) (by simp)
  have s1 : (w.alloc (.cells zeroRow 48)).cell? ⟨g, 1, none⟩ = some (.slice A1 n q1) := (hqa.hb.cell 1).trans rfl
  have HQ := hide hq
  have HQA := hide hqa
  have HV := hide (r9Valid _ g n 0 past L hqa.ref)
  clear hr hok hlen hm ha hlab hq hqa
  have hw0 : w.alloc (.cells #[.int .i64 0, .int .i64 0, .int .i64 0] 48) = w.alloc (.cells zeroRow 48) := rfl
  go_enter Try.func28, Try.ntmps28
  go_wp2_with fail
  refine HV.out.mono ?_
  rintro e w' ⟨rfl, rfl⟩
  have hR0 : Blk (w.alloc (.cells zeroRow 48)) w.heap.size 48 zeroRow := Blk.new w _ _
  have hB0 : Below w.heap.size w (w.alloc (.cells zeroRow 48)) := (Below.refl _ _).alloc (Nat.le_refl _) _
  have hrd0 := own_rd HQA.out.hl
  generalize w.alloc (.cells zeroRow 48) = w0 at *
  generalize hrr : w.heap.size = R at *
  have HRR := hide hrr
  have HR0 := hide hR0
  have HB0 := hide hB0
  have HRD0 := hide hrd0
  clear hR0 hB0 hrr hrd0 hw0
  go_wp2_with fail
  go_loopg [6, 7] m (fun q v i wr => ∃ (k : Nat) (A2 : Option Addr) (c2 : Nat), k + q = m ∧ i = .int .i64 (k : Int) ∧ v = .slice A2 n c2 ∧ Rd wr A2 n 1 (arr n (foldU n (l.take k) L)).toList ∧ Blk wr R 48 zeroRow ∧ Below R w wr)
  case atStart => exact ⟨0, A1, q1, by omega, rfl, rfl, HRD0.out, HR0.out, HB0.out⟩
  case round =>
    obtain ⟨k, A2, c2, hk, rfl, rfl, hrd, hR, hb⟩ := hrel
    have HK := hide hk
    have hkm : k ≤ m := by omega
    have HRD := hide hrd
    have HRB := hide hR
    have HB := hide hb
    have hRw : w.heap.size ≤ R := by rw [HRR.out]; exact Nat.le_refl _
    have hRs : R ≤ wr.heap.size := Nat.le_of_lt hR.lt
    clear hk hrd hR hb HR0 HB0 HRD0 s1
    by_cases hlt : k < m
    · have hkl : k < l.length := by have := HLn.out; omega
      obtain ⟨b, o, rfl, hblt, c0, c1⟩ := HR.out.pair k hkl HLn.out
      have hts : l.take (k + 1) = l.take k ++ [l[k]] := List.take_succ_eq_append_getElem hkl
      have hin := HA.out _ (List.getElem_mem hkl)
      generalize l[k] = e at *
      obtain ⟨x, y⟩ := e
      obtain ⟨hx, hy⟩ := hin
      simp only at hx hy c0 c1
      have hbR : b < R := by rw [← HRR.out]; exact hblt
      have d0 : wr.cell? ⟨b, o + k * 2, none⟩ = some (.int .i64 x) := (HB.out.cell (p := ⟨b, o + k * 2, none⟩) hbR).trans c0
      have d1 : wr.cell? ⟨b, o + k * 2 + 1, none⟩ = some (.int .i64 y) := (HB.out.cell (p := ⟨b, o + k * 2 + 1, none⟩) hbR).trans c1
      have a1 : 0 ≤ x ∧ x < n := by simpa [inB] using hx
      have a2 : 0 ≤ y ∧ y < n := by simpa [inB] using hy
      obtain ⟨a, rfl⟩ := Int.eq_ofNat_of_zero_le a1.1
      obtain ⟨b', rfl⟩ := Int.eq_ofNat_of_zero_le a2.1
      have han : a < n := by omega
      have hbn : b' < n := by omega
      have hbw : Below w.heap.size w wr := by rw [HRR.out]; exact HB.out
      have hQr := (HQ.out.fr (S := []) (Fr.of_below [] hbw) (by simp)).ref
      have CX := r9Has wr (a : Int) g n 0 past L hQr
      have CY := r9Has wr (b' : Int) g n 0 past L hQr
      rw [hx] at CX
      rw [hy] at CY
      have HCX := hide CX
      have HCY := hide CY
      have hM : foldU n (l.take (k + 1)) L = merge (foldU n (l.take k) L) (foldU n (l.take k) L a) (foldU n (l.take k) L b') := by
        rw [hts, foldU_snoc]; simp only [unionL, hx, hy, Bool.and_self, if_true, Int.toNat_natCast]
      generalize foldU n (l.take k) L = M at *
      have HM := hide hM
      have U := hide (r9United (wr.drewN 1) A2 n c2 a b' M (HRD.out.fr ((Fr.refl [] wr).drewN 1) (by simp)) han hbn nb)
      clear CX CY hx hy a1 a2 hts hM c0 c1 hbw hQr
      go_wp2_with (first | (go_at_call_of 43 (Value.int .i64 (a : Int)); refine HCX.out.mono ?_; rintro e w' ⟨rfl, rfl⟩) | (go_at_call_of 43 (Value.int .i64 (b' : Int)); refine HCY.out.mono ?_; rintro e w' ⟨rfl, rfl⟩))
      go_region_held3 (fun w' => w'.cell? ⟨b, o + k * 2, none⟩ = some (.int .i64 (a : Int)) ∧ w'.cell? ⟨b, o + k * 2 + 1, none⟩ = some (.int .i64 (b' : Int)))
        (first | exact ⟨d0, d1⟩ | exact ⟨(hb3.cell (p := ⟨b, o + k * 2, none⟩) (Nat.lt_of_lt_of_le hbR hRs)).trans d0, (hb3.cell (p := ⟨b, o + k * 2 + 1, none⟩) (Nat.lt_of_lt_of_le hbR hRs)).trans d1⟩)
        (first | (go_at_call 44; refine U.out.mono ?_; rintro e w3 ⟨A3, c3, rfl, hl3, hb3'⟩; have hb3 : Below wr.heap.size wr w3 := ((Below.refl _ wr).drewN 1).trans hb3'))
      all_goals
        have HL3 := hide hl3
        have HB3 := hide hb3
        clear hl3 hb3' hb3
        go_wp2_with fail
        go_roundg (m - (k + 1))
        case measure => have := HK.out; omega
        case rel => exact ⟨k + 1, A3, c3, by omega, by go_num, rfl, by rw [HM.out]; exact own_rd HL3.out, HRB.out.below HB3.out HRB.out.lt, HB.out.trans (HB3.out.mono hRs)⟩
    · have hkk : k = m := by omega
      subst hkk
      have et : l.take k = l := List.take_of_length_le (by have := HLn.out; omega)
      have hrd := HRD.out
      rw [et] at hrd
      have RW := hide (r9Row wr A2 n c2 _ hrd (foldU_lab n l HLab.out) nb)
      clear et hrd
      generalize hMM : foldU n l L = M at *
      have HMM := hide hMM
      clear hMM
      go_wp2_with fail
      refine RW.out.mono ?_
      rintro e w4 ⟨rfl, hb4⟩
      have hR4 := HRB.out.below hb4 HRB.out.lt
      have r0 : w4.cell? ⟨R, 0, none⟩ = some (.int .i64 0) := (hR4.cell 0).trans rfl
      have r1 : w4.cell? ⟨R, 1, none⟩ = some (.int .i64 0) := (hR4.cell 1).trans rfl
      have r2 : w4.cell? ⟨R, 2, none⟩ = some (.int .i64 0) := (hR4.cell 2).trans rfl
      have rf0 := hR4.frozen 0
      have rf1 := hR4.frozen 1
      have rf2 := hR4.frozen 2
      have HB4 := hide (HB.out.trans (hb4.mono hRs))
      clear hR4 hb4
      unfold rowV
      go_wp2_with fail
      refine bodyPost_ret (v := .tuple #[.agg #[.int .i64 (lrg n M : Int), .int .i64 (sets n M : Int), .int .i64 (sq n M : Int)], .int .i64 0]) (by simp [results, Try.results28, go_sem, r0, r1, r2]) rfl ⟨by rw [HMM.out]; rfl, ?_⟩
      have h1 := ((HB4.out.setCell (p := ⟨R, 0, none⟩) (Nat.le_refl _) (.int .i64 (lrg n M : Int))).setCell (p := ⟨R, 1, none⟩) (Nat.le_refl _) (.int .i64 (sets n M : Int))).setCell (p := ⟨R, 2, none⟩) (Nat.le_refl _) (.int .i64 (sq n M : Int))
      first | exact h1 | (rw [HRR.out]; exact h1)
end Go.Proofs.Ytdhmjdlkaoflnaa
