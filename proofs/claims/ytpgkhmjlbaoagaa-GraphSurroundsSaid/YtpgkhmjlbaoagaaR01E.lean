/- seepageref01: Sum. Printed by gen_r01e.py. -/
import Derived.Test.YtpgkhmjlbaoagaaR01D
namespace Go.Proofs.Ytpgkhmjlbaoagaa
open Go.RowKit
set_option linter.unusedVariables false

theorem plus_sg {a b c : Nat} {n : Bool} (h : c = a + b) : (if n then -(c : Int) else c) = (if n then -(a : Int) else a) + (if n then -(b : Int) else b) := by
  cases n
  · simp only [Bool.false_eq_true, if_false]; omega
  · simp only [if_true]; omega
theorem plus_sd {a b c : Nat} {n m : Bool} (h : (m = n ∧ c + b = a) ∨ (m = !n ∧ c + a = b)) : (if m then -(c : Int) else c) = (if n then -(a : Int) else a) + (if !n then -(b : Int) else b) := by
  rcases h with ⟨rfl, h⟩ | ⟨rfl, h⟩
  · cases m <;> simp <;> omega
  · cases n <;> simp <;> omega
theorem plus_le {a b c : Nat} {n m : Bool} (h : (m = n ∧ c + b = a) ∨ (m = !n ∧ c + a = b)) : c ≤ a + b := by
  rcases h with ⟨_, h⟩ | ⟨_, h⟩ <;> omega
theorem r01Plus (w : World) (n m : Bool) (f g : Nat → Nat) (hf : D6 f) (hg : D6 g) (hs : dv f 6 + dv g 6 < 4294967296 ^ 6) :
    Calls Try.prog 57 #[.agg (wv n f), .agg (wv m g)] w
      fun e w' => ∃ (q : Bool) (o : Nat → Nat), e = .returned (.agg (wv q o)) ∧ D6 o ∧ wI q o = wI n f + wI m g ∧ dv o 6 ≤ dv f 6 + dv g 6 ∧ Below w.heap.size w w' := by
  by_cases h : m = n
  · subst h
    exact (r01Plus_same w m f g hf hg hs).mono fun e w' ⟨o, he, ho, hv, hb⟩ => ⟨m, o, he, ho, plus_sg hv, Nat.le_of_eq hv, hb⟩
  · have hm : m = !n := by cases m <;> cases n <;> simp at h ⊢
    subst hm
    exact (r01Plus_diff w n f g hf hg).mono fun e w' ⟨q, o, he, ho, hv, hb⟩ => ⟨q, o, he, ho, plus_sd hv, plus_le hv, hb⟩
theorem one_cells {w : World} {A : Nat} {n : Bool} {f : Nat → Nat} (h : Blk w A 94 (wv n f)) : w.cell? ⟨A, 0, none⟩ = some (.bool n) ∧ w.cell? ⟨A, 1, none⟩ = some (.int .u64 (f 0 : Int)) ∧ w.cell? ⟨A, 2, none⟩ = some (.int .u64 (f 1 : Int)) ∧ w.cell? ⟨A, 3, none⟩ = some (.int .u64 (f 2 : Int)) ∧ w.cell? ⟨A, 4, none⟩ = some (.int .u64 (f 3 : Int)) ∧ w.cell? ⟨A, 5, none⟩ = some (.int .u64 (f 4 : Int)) ∧ w.cell? ⟨A, 6, none⟩ = some (.int .u64 (f 5 : Int)) :=
  ⟨(h.cell 0).trans rfl, (h.cell 1).trans rfl, (h.cell 2).trans rfl, (h.cell 3).trans rfl, (h.cell 4).trans rfl, (h.cell 5).trans rfl, (h.cell 6).trans rfl⟩
theorem wide_set {w : World} {A : Nat} {m : Bool} {f : Nat → Nat} (h : Blk w A 94 (wv m f)) (n : Bool) (o : Nat → Nat) : Blk (((((((w.setCell ⟨A, 0, none⟩ (.bool n)).setCell ⟨A, 1, none⟩ (.int .u64 (o 0 : Int))).setCell ⟨A, 2, none⟩ (.int .u64 (o 1 : Int))).setCell ⟨A, 3, none⟩ (.int .u64 (o 2 : Int))).setCell ⟨A, 4, none⟩ (.int .u64 (o 3 : Int))).setCell ⟨A, 5, none⟩ (.int .u64 (o 4 : Int))).setCell ⟨A, 6, none⟩ (.int .u64 (o 5 : Int))) A 94 (wv n o) :=
  (((((((h.set_ 0 (.bool n)).set_ 1 (.int .u64 (o 0 : Int))).set_ 2 (.int .u64 (o 1 : Int))).set_ 3 (.int .u64 (o 2 : Int))).set_ 4 (.int .u64 (o 3 : Int))).set_ 5 (.int .u64 (o 4 : Int))).set_ 6 (.int .u64 (o 5 : Int))).trans (by simp [wv])
theorem sumI_take {l : List Int} {k : Nat} (h : k < l.length) : sumI (l.take (k + 1)) = sumI (l.take k) + l[k] := by rw [List.take_succ_eq_append_getElem h, sumI_snoc]
theorem bnd_k {k x y : Nat} (hk : k ≤ 1000000) (hx : x ≤ 9223372036854775808 * k) (hy : y ≤ 9223372036854775808) : x + y < 4294967296 ^ 6 := by omega
theorem bnd_s {k x y z : Nat} (hx : x ≤ 9223372036854775808 * k) (hy : y ≤ 9223372036854775808) (hz : z ≤ x + y) : z ≤ 9223372036854775808 * (k + 1) := by omega

set_option maxRecDepth 100000 in
set_option maxHeartbeats 8000000 in
theorem r01Sum (w : World) (A : Option Addr) (m c : Nat) (l : List Int) (hr : Rd w A m 1 (l.map (Value.int .i64))) (hl : l.length = m) (hm : m ≤ 1000000) (hb : ∀ x ∈ l, -9223372036854775808 ≤ x ∧ x ≤ 9223372036854775807) :
    Calls Try.prog 49 #[.slice A m c] w fun e w' => e = .returned (.tuple #[.int .i64 (sumV (sumI l)), .int .i64 (sumE (sumI l))]) ∧ Below w.heap.size w w' := by
  have HR := hide hr
  have HL := hide hl
  have HBD := hide hb
  have HX := hide (Blk.new w 94 (wv false fun _ => 0))
  have HB0 := hide ((Below.refl w.heap.size w).alloc (Nat.le_refl _) (.cells (wv false fun _ => 0) 94))
  have h0 : wI false (fun _ => 0) = 0 := by rw [wI_pos, dv6]; rfl
  have h00 : dv (fun _ => 0) 6 = 0 := by rw [dv6]
  have H0 := hide h0
  have H00 := hide h00
  clear hr hl hb h0 h00
  go_enter Try.func49, Try.ntmps49
  go_wp2_with fail
  go_loopg [5] m (fun q v wr => ∃ (k : Nat) (n : Bool) (f : Nat → Nat), k + q = m ∧ v = .int .i64 (k : Int) ∧ Blk wr w.heap.size 94 (wv n f) ∧ D6 f ∧ wI n f = sumI (l.take k) ∧ dv f 6 ≤ 9223372036854775808 * k ∧ Below w.heap.size w wr)
  case atStart => exact ⟨0, false, fun _ => 0, by omega, rfl, HX.out, fun i hi => (show (0 : Nat) < 4294967296 by decide), H0.out, by rw [H00.out]; exact Nat.zero_le _, HB0.out⟩
  case round =>
    obtain ⟨k, n, f, hk, rfl, hx, hfd, hfI, hfb, hb⟩ := hrel
    have HK := hide hk
    have hkm : k ≤ m := by omega
    clear HX HB0 H0 H00
    have HX := hide hx
    have HFD := hide hfd
    have HFI := hide hfI
    have HFB := hide hfb
    have HB := hide hb
    clear hk hx hfd hfI hfb hb
    by_cases hlt : k < m
    · have hkl : k < l.length := by rw [HL.out]; exact hlt
      obtain ⟨b, o, rfl, hblt, hc⟩ := HR.out.2 (by omega)
      have cx0 : w.cell? ⟨b, o + k, none⟩ = some (.int .i64 l[k]) := hc k _ (by simp [hkl])
      have HCX := hide cx0
      have hST := hide (sumI_take hkl)
      have hxb := hide (HBD.out l[k] (List.getElem_mem hkl))
      generalize l[k] = x at *
      have cx := (HB.out.cell (p := ⟨b, o + k, none⟩) hblt).trans HCX.out
      have oc := one_cells HX.out
      obtain ⟨a0, a1, a2, a3, a4, a5, a6⟩ := oc
      clear cx0 hc
      go_wp2_with fail
      have OD : Hid (wr.drew.cell? ⟨b, o + k, none⟩ = some (.int .i64 x)) := cx
      go_region_with
        (first | (go_at_call 58; (refine (r01From _ x hxb.out).mono ?_); rintro e w2 ⟨n2, g, he, hgd, hgI, hgb, hb2⟩; unfold wv at he; subst he; replace hb2 : Below wr.heap.size wr w2 := ((Below.refl _ _).drewN 1).trans hb2; have HX2 := hide (HX.out.below hb2 HX.out.lt); have HB2 := hide (HB.out.trans (hb2.mono HB.out.size)); have O2 : Hid (w2.cell? ⟨b, o + k, none⟩ = some (.int .i64 x)) := (HB2.out.cell (p := ⟨b, o + k, none⟩) hblt).trans HCX.out; have HGD := hide hgd; have HGI := hide hgI; have HGB := hide hgb; have oc2 := one_cells HX2.out; obtain ⟨b0, b1, b2, b3, b4, b5, b6⟩ := oc2; clear hgd hgI hgb hb2) | (go_at_call 57; (refine (r01Plus _ n n2 f g HFD.out HGD.out (bnd_k (by omega) HFB.out HGB.out)).mono ?_); rintro e w3 ⟨q, o3, he, hod, hoI, hob, hb3⟩; unfold wv at he; subst he; have HX3 := hide (HX2.out.below hb3 HX2.out.lt); have HB3 := hide (HB2.out.trans (hb3.mono HB2.out.size)); have O3 : Hid (w3.cell? ⟨b, o + k, none⟩ = some (.int .i64 x)) := (HB3.out.cell (p := ⟨b, o + k, none⟩) hblt).trans HCX.out; have HOD := hide hod; have HOI := hide hoI; have HOB := hide hob; have oc3 := one_cells HX3.out; obtain ⟨c0, c1, c2, c3, c4, c5, c6⟩ := oc3; have HB5 := hide (res_below HB3.out (Nat.le_refl _) q o3); have f0 := HX3.out.frozen 0; have f1 := HX3.out.frozen 1; have f2 := HX3.out.frozen 2; have f3 := HX3.out.frozen 3; have f4 := HX3.out.frozen 4; have f5 := HX3.out.frozen 5; have f6 := HX3.out.frozen 6; clear hod hoI hob hb3))
      all_goals
        have HX5 := hide (wide_set HX3.out q o3)
        clear a0 a1 a2 a3 a4 a5 a6 b0 b1 b2 b3 b4 b5 b6 c0 c1 c2 c3 c4 c5 c6 f0 f1 f2 f3 f4 f5 f6
        go_wp2_with fail
        go_roundg (m - (k + 1))
        case measure => have := HK.out; omega
        case rel => exact ⟨k + 1, q, o3, by omega, by go_num, HX5.out, HOD.out, by rw [hST.out, HOI.out, HFI.out, HGI.out], bnd_s HFB.out HGB.out HOB.out, HB5.out⟩
    · obtain rfl : k = m := by omega
      have htk : l.take k = l := List.take_of_length_le (by rw [HL.out]; exact Nat.le_refl _)
      have hfI := HFI.out
      rw [htk] at hfI
      have hfit := fun w => r01fit w n f HFD.out
      rw [hfI] at hfit
      have HFIT := hide hfit
      obtain ⟨a0, a1, a2, a3, a4, a5, a6⟩ := one_cells HX.out
      clear hfI hfit htk HFI HFD
      go_wp2_with fail
      refine (HFIT.out _).mono ?_
      rintro e w2 ⟨rfl, hb2⟩
      have HB2 := hide (HB.out.trans (hb2.mono HB.out.size))
      clear hb2
      go_wp2_with fail
      go_ret2
      exact ⟨rfl, HB2.out⟩
end Go.Proofs.Ytpgkhmjlbaoagaa
