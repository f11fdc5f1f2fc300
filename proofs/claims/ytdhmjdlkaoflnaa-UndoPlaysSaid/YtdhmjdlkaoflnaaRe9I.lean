/- seepageref09: Trial that is refused; nil sets. -/
import Derived.Test.YtdhmjdlkaoflnaaRe9H
namespace Go.Proofs.Ytdhmjdlkaoflnaa
open Go.RowKit
set_option linter.unusedVariables false

set_option maxRecDepth 100000 in
set_option maxHeartbeats 8000000 in
theorem r9Trial_no (w : World) (g n : Nat) (past : List (Nat → Nat)) (L : Nat → Nat) (P : Nat → Prop) (v : Value) (l : List (Int × Int)) (h : Ref9Q w g n past L P) (hl : IsPairs w v l) (ha : ¬ allIn n l) :
    Calls Try.prog 28 #[.pointer (some ⟨g, 0, none⟩), v] w
      fun e w' => e = .returned (.tuple #[.agg #[.int .i64 0, .int .i64 0, .int .i64 0], .int .i64 3]) ∧ Below w.heap.size w w' := by
  obtain ⟨A, m, c, rfl, hm, hlen, hok, hr⟩ := hl
  have hm' : m ≤ 9223372036854775807 := by unfold maxLen at hm; omega
  have HR := hide hr
  have HLn := hide hlen
  obtain ⟨k0, hk0, hgood, hbad⟩ := first_bad l ha
  have HG := hide hgood
  have HBD := hide hbad
  have hk0m : k0 < m := by omega
  obtain ⟨v0, vp, vs, hq⟩ := h
  obtain ⟨A1, q1, rfl, -⟩ := own_form hq.hl
  have nb := hq.nb
  have hqa := hq.fr (S := []) ((Fr.refl [] w).alloc (.cells zeroRow 48)) (by simp)
  have s1 : (w.alloc (.cells zeroRow 48)).cell? ⟨g, 1, none⟩ = some (.slice A1 n q1) := (hqa.hb.cell 1).trans rfl
  have HQ := hide hq
  have HQA := hide hqa
  have HV := hide (r9Valid _ g n 0 past L hqa.ref)
  clear hr hok hlen hm ha hq hqa hgood hbad
  have hw0 : w.alloc (.cells #[.int .i64 0, .int .i64 0, .int .i64 0] 48) = w.alloc (.cells zeroRow 48) := rfl
  go_enter Try.func28, Try.ntmps28
  go_wp2_with fail
  refine HV.out.mono ?_
  rintro e w' ⟨rfl, rfl⟩
  have hR0 : Blk (w.alloc (.cells zeroRow 48)) w.heap.size 48 zeroRow := Blk.new w _ _
  have hB0 : Below w.heap.size w (w.alloc (.cells zeroRow 48)) := (Below.refl _ _).alloc (Nat.le_refl _) _
  have hrd0 := own_rd HQA.out.hl
  generalize w.alloc (.cells zeroRow 48) = w0 at *
  generalize hrr : w.heap.size = R at *
  have HRR := hide hrr
  have HR0 := hide hR0
  have HB0 := hide hB0
  have HRD0 := hide hrd0
  clear hR0 hB0 hrr hrd0 hw0
  go_wp2_with fail
  go_loopg [6, 7] m (fun q v i wr => ∃ (k : Nat) (A2 : Option Addr) (c2 : Nat), k + q = m ∧ k ≤ k0 ∧ i = .int .i64 (k : Int) ∧ v = .slice A2 n c2 ∧ Rd wr A2 n 1 (arr n (foldU n (l.take k) L)).toList ∧ Blk wr R 48 zeroRow ∧ Below R w wr)
  case atStart => exact ⟨0, A1, q1, by omega, Nat.zero_le _, rfl, rfl, HRD0.out, HR0.out, HB0.out⟩
  case round =>
    obtain ⟨k, A2, c2, hk, hkk0, rfl, rfl, hrd, hR, hb⟩ := hrel
    have HK := hide hk
    have hkm : k ≤ m := by omega
    have HRD := hide hrd
    have HRB := hide hR
    have HB := hide hb
    have hRw : w.heap.size ≤ R := by rw [HRR.out]; exact Nat.le_refl _
    have hRs : R ≤ wr.heap.size := Nat.le_of_lt hR.lt
    clear hk hrd hR hb HR0 HB0 HRD0 s1
    have hlt : k < m := by omega
    by_cases hc : k < k0
    · have hkl : k < l.length := by have := HLn.out; omega
      obtain ⟨b, o, rfl, hblt, c0, c1⟩ := HR.out.pair k hkl HLn.out
      have hts : l.take (k + 1) = l.take k ++ [l[k]] := List.take_succ_eq_append_getElem hkl
      have hin := HG.out k hc
      generalize l[k] = e at *
      obtain ⟨x, y⟩ := e
      obtain ⟨hx, hy⟩ := hin
      simp only at hx hy c0 c1
      have hbR : b < R := by rw [← HRR.out]; exact hblt
      have d0 : wr.cell? ⟨b, o + k * 2, none⟩ = some (.int .i64 x) := (HB.out.cell (p := ⟨b, o + k * 2, none⟩) hbR).trans c0
      have d1 : wr.cell? ⟨b, o + k * 2 + 1, none⟩ = some (.int .i64 y) := (HB.out.cell (p := ⟨b, o + k * 2 + 1, none⟩) hbR).trans c1
      have a1 : 0 ≤ x ∧ x < n := by simpa [inB] using hx
      have a2 : 0 ≤ y ∧ y < n := by simpa [inB] using hy
      obtain ⟨a, rfl⟩ := Int.eq_ofNat_of_zero_le a1.1
      obtain ⟨b', rfl⟩ := Int.eq_ofNat_of_zero_le a2.1
      have han : a < n := by omega
      have hbn : b' < n := by omega
      have hbw : Below w.heap.size w wr := by rw [HRR.out]; exact HB.out
      have hQr := (HQ.out.fr (S := []) (Fr.of_below [] hbw) (by simp)).ref
      have CX := r9Has wr (a : Int) g n 0 past L hQr
      have CY := r9Has wr (b' : Int) g n 0 past L hQr
      rw [hx] at CX
      rw [hy] at CY
      have HCX := hide CX
      have HCY := hide CY
      have hM : foldU n (l.take (k + 1)) L = merge (foldU n (l.take k) L) (foldU n (l.take k) L a) (foldU n (l.take k) L b') := by
        rw [hts, foldU_snoc]; simp only [unionL, hx, hy, Bool.and_self, if_true, Int.toNat_natCast]
      generalize foldU n (l.take k) L = M at *
      have HM := hide hM
      have U := hide (r9United (wr.drewN 1) A2 n c2 a b' M (HRD.out.fr ((Fr.refl [] wr).drewN 1) (by simp)) han hbn nb)
      clear CX CY hx hy a1 a2 hts hM c0 c1 hbw hQr
      go_wp2_with (first | (go_at_call_of 43 (Value.int .i64 (a : Int)); refine HCX.out.mono ?_; rintro e w' ⟨rfl, rfl⟩) | (go_at_call_of 43 (Value.int .i64 (b' : Int)); refine HCY.out.mono ?_; rintro e w' ⟨rfl, rfl⟩))
      go_region_held3 (fun w' => w'.cell? ⟨b, o + k * 2, none⟩ = some (.int .i64 (a : Int)) ∧ w'.cell? ⟨b, o + k * 2 + 1, none⟩ = some (.int .i64 (b' : Int)))
        (first | exact ⟨d0, d1⟩ | exact ⟨(hb3.cell (p := ⟨b, o + k * 2, none⟩) (Nat.lt_of_lt_of_le hbR hRs)).trans d0, (hb3.cell (p := ⟨b, o + k * 2 + 1, none⟩) (Nat.lt_of_lt_of_le hbR hRs)).trans d1⟩)
        (first | (go_at_call 44; refine U.out.mono ?_; rintro e w3 ⟨A3, c3, rfl, hl3, hb3'⟩; have hb3 : Below wr.heap.size wr w3 := ((Below.refl _ wr).drewN 1).trans hb3'))
      all_goals
        have HL3 := hide hl3
        have HB3 := hide hb3
        clear hl3 hb3' hb3
        go_wp2_with fail
        go_roundg (m - (k + 1))
        case measure => have := HK.out; omega
        case rel => exact ⟨k + 1, A3, c3, by omega, by omega, by go_num, rfl, by rw [HM.out]; exact own_rd HL3.out, HRB.out.below HB3.out HRB.out.lt, HB.out.trans (HB3.out.mono hRs)⟩
    · have hke : k = k0 := by omega
      have hkl : k < l.length := by have := HLn.out; omega
      obtain ⟨b, o, rfl, hblt, c0, c1⟩ := HR.out.pair k hkl HLn.out
      have hbd : (inB n l[k].1 && inB n l[k].2) = false := by subst hke; exact HBD.out
      generalize l[k] = e at *
      obtain ⟨x, y⟩ := e
      simp only at hbd c0 c1
      have hbR : b < R := by rw [← HRR.out]; exact hblt
      have d0 : wr.cell? ⟨b, o + k * 2, none⟩ = some (.int .i64 x) := (HB.out.cell (p := ⟨b, o + k * 2, none⟩) hbR).trans c0
      have d1 : wr.cell? ⟨b, o + k * 2 + 1, none⟩ = some (.int .i64 y) := (HB.out.cell (p := ⟨b, o + k * 2 + 1, none⟩) hbR).trans c1
      have hbw : Below w.heap.size w wr := by rw [HRR.out]; exact HB.out
      have hQr := (HQ.out.fr (S := []) (Fr.of_below [] hbw) (by simp)).ref
      have CX := r9Has wr x g n 0 past L hQr
      have CY := r9Has wr y g n 0 past L hQr
      have r0 : wr.cell? ⟨R, 0, none⟩ = some (.int .i64 0) := (HRB.out.cell 0).trans rfl
      have r1 : wr.cell? ⟨R, 1, none⟩ = some (.int .i64 0) := (HRB.out.cell 1).trans rfl
      have r2 : wr.cell? ⟨R, 2, none⟩ = some (.int .i64 0) := (HRB.out.cell 2).trans rfl
      have rf0 := HRB.out.frozen 0
      have rf1 := HRB.out.frozen 1
      have rf2 := HRB.out.frozen 2
      have h1 := ((HB.out.setCell (p := ⟨R, 0, none⟩) (Nat.le_refl _) (.int .i64 0)).setCell (p := ⟨R, 1, none⟩) (Nat.le_refl _) (.int .i64 0)).setCell (p := ⟨R, 2, none⟩) (Nat.le_refl _) (.int .i64 0)
      have H1 := hide h1
      clear c0 c1 hbw hQr hke hc h1
      cases hx : inB n x
      · rw [hx] at CX
        have HCX := hide CX
        clear CX CY hx hbd
        go_wp2_with (first | (go_at_call_of 43 (Value.int .i64 x); refine HCX.out.mono ?_; rintro e w' ⟨rfl, rfl⟩))
        refine bodyPost_ret (v := .tuple #[.agg #[.int .i64 0, .int .i64 0, .int .i64 0], .int .i64 3]) (by simp [results, Try.results28, go_sem, r0, r1, r2]) rfl ⟨rfl, ?_⟩
        first | exact H1.out | (rw [HRR.out]; exact H1.out)
      · have hy : inB n y = false := by simpa [hx] using hbd
        rw [hx] at CX
        rw [hy] at CY
        have HCX := hide CX
        have HCY := hide CY
        clear CX CY hx hy hbd
        go_wp2_with (first | (go_at_call_of 43 (Value.int .i64 x); refine HCX.out.mono ?_; rintro e w' ⟨rfl, rfl⟩) | (go_at_call_of 43 (Value.int .i64 y); refine HCY.out.mono ?_; rintro e w' ⟨rfl, rfl⟩))
        refine bodyPost_ret (v := .tuple #[.agg #[.int .i64 0, .int .i64 0, .int .i64 0], .int .i64 3]) (by simp [results, Try.results28, go_sem, r0, r1, r2]) rfl ⟨rfl, ?_⟩
        first | exact H1.out | (rw [HRR.out]; exact H1.out)

theorem r9Nil_Union (w : World) (x y : Int) : Calls Try.prog 26 #[.pointer none, .int .i64 x, .int .i64 y] w fun e w' => e = .returned (.tuple #[.bool false, .int .i64 1]) ∧ w = w' := by
  go_enter Try.func26, Try.ntmps26
  go_wp2_with (go_at_call 42; refine (r9Nil_valid _).mono ?_; rintro e w' ⟨rfl, rfl⟩)
  go_ret2
  exact ⟨rfl, rfl⟩

theorem r9Nil_Undo (w : World) (x : Int) : Calls Try.prog 27 #[.pointer none, .int .i64 x] w fun e w' => e = .returned (.int .i64 1) ∧ w = w' := by
  go_enter Try.func27, Try.ntmps27
  go_wp2_with (go_at_call 42; refine (r9Nil_valid _).mono ?_; rintro e w' ⟨rfl, rfl⟩)
  go_ret
  exact ⟨rfl, rfl⟩

theorem r9Nil_Copy (w : World)  : Calls Try.prog 30 #[.pointer none] w fun e w' => e = .returned (.pointer none) ∧ w = w' := by
  go_enter Try.func30, Try.ntmps30
  go_wp2_with (go_at_call 42; refine (r9Nil_valid _).mono ?_; rintro e w' ⟨rfl, rfl⟩)
  go_ret
  exact ⟨rfl, rfl⟩
end Go.Proofs.Ytdhmjdlkaoflnaa
