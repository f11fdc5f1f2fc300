/- seepageref01: more, less, size. -/
import Derived.Test.YtpgkhmjlbaoagaaR01P
import Derived.BigQuiet
namespace Go.Proofs.Ytpgkhmjlbaoagaa
open Go.RowKit
set_option linter.unusedVariables false

set_option maxRecDepth 100000 in
set_option maxHeartbeats 8000000 in
theorem r01more (w : World) (f g : Nat → Nat) (hf : D6 f) (hg : D6 g) :
    Calls Try.prog 65 #[.agg (u6 f), .agg (u6 g)] w
      fun e w' => ∃ o : Nat → Nat, e = .returned (.agg (u6 o)) ∧ D6 o ∧ (∃ c, dv o 6 + c * 4294967296 ^ 6 = dv f 6 + dv g 6) ∧ Below w.heap.size w w' := by
  have HF := hide hf
  have HG := hide hg
  have A0 := (((Blk.new w 92 (u6 f)).alloc (.cells (u6 g) 92)).alloc (.cells #[.int .u64 0, .int .u64 0, .int .u64 0, .int .u64 0, .int .u64 0, .int .u64 0] 92)).alloc (.cells #[.int .u64 0, .int .u64 0, .int .u64 0, .int .u64 0, .int .u64 0, .int .u64 0] 92)
  have B0 := ((Blk.new (w.alloc (.cells (u6 f) 92)) 92 (u6 g)).alloc (.cells #[.int .u64 0, .int .u64 0, .int .u64 0, .int .u64 0, .int .u64 0, .int .u64 0] 92)).alloc (.cells #[.int .u64 0, .int .u64 0, .int .u64 0, .int .u64 0, .int .u64 0, .int .u64 0] 92)
  have R0 := (Blk.new ((w.alloc (.cells (u6 f) 92)).alloc (.cells (u6 g) 92)) 92 #[.int .u64 0, .int .u64 0, .int .u64 0, .int .u64 0, .int .u64 0, .int .u64 0]).alloc (.cells #[.int .u64 0, .int .u64 0, .int .u64 0, .int .u64 0, .int .u64 0, .int .u64 0] 92)
  have O0 := Blk.new (((w.alloc (.cells (u6 f) 92)).alloc (.cells (u6 g) 92)).alloc (.cells #[.int .u64 0, .int .u64 0, .int .u64 0, .int .u64 0, .int .u64 0, .int .u64 0] 92)) 92 #[.int .u64 0, .int .u64 0, .int .u64 0, .int .u64 0, .int .u64 0, .int .u64 0]
  simp only [World.size_alloc] at B0 R0 O0
  have hB := ((((Below.refl w.heap.size w).alloc (Nat.le_refl _) (.cells (u6 f) 92)).alloc (by simp) (.cells (u6 g) 92)).alloc (by simp; omega) (.cells #[.int .u64 0, .int .u64 0, .int .u64 0, .int .u64 0, .int .u64 0, .int .u64 0] 92)).alloc (by simp; omega) (.cells #[.int .u64 0, .int .u64 0, .int .u64 0, .int .u64 0, .int .u64 0, .int .u64 0] 92)
  have HA := hide A0
  have HB := hide B0
  have HR := hide R0
  have HO := hide O0
  have HBel := hide hB
  clear hf hg A0 B0 R0 O0 hB
  go_enter Try.func65, Try.ntmps65
  unfold u6
  go_wp2_with fail
  go_loopg [6, 7] 6 (fun q cv iv wr => ∃ (i c : Nat) (o : Nat → Nat), i + q = 6 ∧ iv = .int .i64 (i : Int) ∧ cv = .int .u64 (c : Int) ∧ c ≤ 1 ∧ (∀ j, j < i → o j < 4294967296) ∧ dv o i + c * 4294967296 ^ i = dv f i + dv g i ∧
    Blk wr w.heap.size 92 (u6 f) ∧ Blk wr (w.heap.size + 1) 92 (u6 g) ∧ Blk wr (w.heap.size + 1 + 1) 92 #[.int .u64 0, .int .u64 0, .int .u64 0, .int .u64 0, .int .u64 0, .int .u64 0] ∧ Blk wr (w.heap.size + 1 + 1 + 1) 92 (u6 o) ∧ Below w.heap.size w wr)
  case atStart => exact ⟨0, 0, fun _ => 0, by omega, rfl, rfl, by omega, fun j hj => by omega, by simp [dv], HA.out, HB.out, HR.out, HO.out, HBel.out⟩
  case round =>
    obtain ⟨i, c, o, hi, rfl, rfl, hc, hod, hsum, ha, hb, hr, ho, hbel⟩ := hrel
    clear HA HB HR HO HBel
    have HI := hide hi
    have HOD := hide hod
    have HSUM := hide hsum
    have HA := hide ha
    have HB := hide hb
    have HR := hide hr
    have HO := hide ho
    have HBel := hide hbel
    have hi6 : i ≤ 6 := by omega
    clear hi hod hsum hbel
    by_cases hlt : i < 6
    · have ca := (ha.cell i).trans (u6_get f i hlt)
      have cb := (hb.cell i).trans (u6_get g i hlt)
      have hx := HF.out i hlt
      have hy := HG.out i hlt
      have hst := more_step (f i) (g i) c (4294967296 ^ i)
      have hdf : dv f (i + 1) = dv f i + f i * 4294967296 ^ i := rfl
      have hdg : dv g (i + 1) = dv g i + g i * 4294967296 ^ i := rfl
      have hw1 : IntKind.u64.wrap ((f i : Int) + (g i : Int)) = (f i : Int) + (g i : Int) := IntWalk.u64_in _ (by omega)
      have hw2 : IntKind.u64.wrap ((f i : Int) + (g i : Int) + (c : Int)) = ((f i + g i + c : Nat) : Int) := by rw [IntWalk.u64_in _ (by omega)]; push_cast; rfl
      have hs : f i + g i + c < 8589934592 := by omega
      generalize hss : f i + g i + c = s at *
      generalize f i = x at *
      generalize g i = y at *
      have HST := hide hst
      have HDF := hide hdf
      have HDG := hide hdg
      clear hst hdf hdg ha hb hr ho hss
      go_wp2_with fail
      go_quiet (fail)
      have HA2 := hide (HA.out.drewN nq)
      have HB2 := hide (HB.out.drewN nq)
      have HR2 := hide (HR.out.drewN nq)
      have HBel2 := hide (HBel.out.drewN nq)
      have ho2 := HO.out.drewN nq
      have co := (ho2.cell i).trans (u6_get o i hlt)
      have fo := ho2.frozen i
      have HO2 := hide ho2
      clear ca cb HA HB HR HO HBel ho2
      generalize wr.drewN nq = w2 at *
      have hn1 : w.heap.size + 1 + 1 + 1 ≠ w.heap.size := by omega
      go_wp2_with fail
      go_roundg (6 - (i + 1))
      case measure => have := HI.out; omega
      case rel =>
        have hm : ((s % 4294967296 : Nat) : Int) = (s : Int) % 4294967296 := by omega
        have hq : ((s / 4294967296 : Nat) : Int) = (s : Int) / 4294967296 := by omega
        have hset := HO2.out.set_ i (.int .u64 ((s : Int) % 4294967296))
        rw [← hm, u6_set o i _ hlt, hm] at hset
        refine ⟨i + 1, s / 4294967296, upd o i (s % 4294967296), by omega, by go_num, by rw [hq], by omega, ?_, ?_, HA2.out.far (p := ⟨w.heap.size + 1 + 1 + 1, i, none⟩) (by simp; try omega) _, HB2.out.far (p := ⟨w.heap.size + 1 + 1 + 1, i, none⟩) (by simp; try omega) _, HR2.out.far (p := ⟨w.heap.size + 1 + 1 + 1, i, none⟩) (by simp; try omega) _, hset, HBel2.out.setCell (p := ⟨w.heap.size + 1 + 1 + 1, i, none⟩) (by simp; omega) _⟩
        · intro j hj
          by_cases e : j = i
          · subst e; rw [upd_same]; omega
          · rw [upd_other _ _ e]; exact HOD.out j (by omega)
        · have h1 := HST.out
          have h2 := HSUM.out
          rw [dv_upd, Nat.pow_succ, HDF.out, HDG.out]
          generalize 4294967296 ^ i = P at *
          omega
    · obtain rfl : i = 6 := by omega
      have o0 := (ho.cell 0).trans (u6_get o 0 (by omega))
      have o1 := (ho.cell 1).trans (u6_get o 1 (by omega))
      have o2 := (ho.cell 2).trans (u6_get o 2 (by omega))
      have o3 := (ho.cell 3).trans (u6_get o 3 (by omega))
      have o4 := (ho.cell 4).trans (u6_get o 4 (by omega))
      have o5 := (ho.cell 5).trans (u6_get o 5 (by omega))
      have r0 := (hr.cell 0).trans rfl
      have r1 := (hr.cell 1).trans rfl
      have r2 := (hr.cell 2).trans rfl
      have r3 := (hr.cell 3).trans rfl
      have r4 := (hr.cell 4).trans rfl
      have r5 := (hr.cell 5).trans rfl
      have f0 := hr.frozen 0
      have f1 := hr.frozen 1
      have f2 := hr.frozen 2
      have f3 := hr.frozen 3
      have f4 := hr.frozen 4
      have f5 := hr.frozen 5
      clear ha hb hr ho
      go_wp2_with fail
      have hset := (((((HR.out.set_ 0 (.int .u64 (o 0 : Int))).set_ 1 (.int .u64 (o 1 : Int))).set_ 2 (.int .u64 (o 2 : Int))).set_ 3 (.int .u64 (o 3 : Int))).set_ 4 (.int .u64 (o 4 : Int))).set_ 5 (.int .u64 (o 5 : Int))
      refine bodyPost_ret (results_cell_row (P := Try.prog) rfl _ _ (w.heap.size + 1 + 1) 92 (u6 o) (0, 0) _ rfl (hset.trans (by simp [u6])) Try.underlying92 rfl (by kernel_rfl)) rfl ?_
      exact ⟨o, rfl, HOD.out, ⟨c, HSUM.out⟩, (((((HBel.out.setCell (p := ⟨w.heap.size + 1 + 1, 0, none⟩) (by simp; omega) _).setCell (p := ⟨w.heap.size + 1 + 1, 1, none⟩) (by simp; omega) _).setCell (p := ⟨w.heap.size + 1 + 1, 2, none⟩) (by simp; omega) _).setCell (p := ⟨w.heap.size + 1 + 1, 3, none⟩) (by simp; omega) _).setCell (p := ⟨w.heap.size + 1 + 1, 4, none⟩) (by simp; omega) _).setCell (p := ⟨w.heap.size + 1 + 1, 5, none⟩) (by simp; omega) _⟩
set_option maxRecDepth 100000 in
set_option maxHeartbeats 8000000 in
theorem r01less (w : World) (f g : Nat → Nat) (hf : D6 f) (hg : D6 g) (hle : dv g 6 ≤ dv f 6) :
    Calls Try.prog 67 #[.agg (u6 f), .agg (u6 g)] w
      fun e w' => ∃ o : Nat → Nat, e = .returned (.agg (u6 o)) ∧ D6 o ∧ dv o 6 + dv g 6 = dv f 6 ∧ Below w.heap.size w w' := by
  have HF := hide hf
  have HLE := hide hle
  have HG := hide hg
  have A0 := (((Blk.new w 92 (u6 f)).alloc (.cells (u6 g) 92)).alloc (.cells #[.int .u64 0, .int .u64 0, .int .u64 0, .int .u64 0, .int .u64 0, .int .u64 0] 92)).alloc (.cells #[.int .u64 0, .int .u64 0, .int .u64 0, .int .u64 0, .int .u64 0, .int .u64 0] 92)
  have B0 := ((Blk.new (w.alloc (.cells (u6 f) 92)) 92 (u6 g)).alloc (.cells #[.int .u64 0, .int .u64 0, .int .u64 0, .int .u64 0, .int .u64 0, .int .u64 0] 92)).alloc (.cells #[.int .u64 0, .int .u64 0, .int .u64 0, .int .u64 0, .int .u64 0, .int .u64 0] 92)
  have R0 := (Blk.new ((w.alloc (.cells (u6 f) 92)).alloc (.cells (u6 g) 92)) 92 #[.int .u64 0, .int .u64 0, .int .u64 0, .int .u64 0, .int .u64 0, .int .u64 0]).alloc (.cells #[.int .u64 0, .int .u64 0, .int .u64 0, .int .u64 0, .int .u64 0, .int .u64 0] 92)
  have O0 := Blk.new (((w.alloc (.cells (u6 f) 92)).alloc (.cells (u6 g) 92)).alloc (.cells #[.int .u64 0, .int .u64 0, .int .u64 0, .int .u64 0, .int .u64 0, .int .u64 0] 92)) 92 #[.int .u64 0, .int .u64 0, .int .u64 0, .int .u64 0, .int .u64 0, .int .u64 0]
  simp only [World.size_alloc] at B0 R0 O0
  have hB := ((((Below.refl w.heap.size w).alloc (Nat.le_refl _) (.cells (u6 f) 92)).alloc (by simp) (.cells (u6 g) 92)).alloc (by simp; omega) (.cells #[.int .u64 0, .int .u64 0, .int .u64 0, .int .u64 0, .int .u64 0, .int .u64 0] 92)).alloc (by simp; omega) (.cells #[.int .u64 0, .int .u64 0, .int .u64 0, .int .u64 0, .int .u64 0, .int .u64 0] 92)
  have HA := hide A0
  have HB := hide B0
  have HR := hide R0
  have HO := hide O0
  have HBel := hide hB
  clear hf hg hle A0 B0 R0 O0 hB
  go_enter Try.func67, Try.ntmps67
  unfold u6
  go_wp2_with fail
  go_loopg [6, 7] 6 (fun q cv iv wr => ∃ (i c : Nat) (o : Nat → Nat), i + q = 6 ∧ iv = .int .i64 (i : Int) ∧ cv = .int .u64 (c : Int) ∧ c ≤ 1 ∧ (∀ j, j < i → o j < 4294967296) ∧ dv o i + dv g i = dv f i + c * 4294967296 ^ i ∧
    Blk wr w.heap.size 92 (u6 f) ∧ Blk wr (w.heap.size + 1) 92 (u6 g) ∧ Blk wr (w.heap.size + 1 + 1) 92 #[.int .u64 0, .int .u64 0, .int .u64 0, .int .u64 0, .int .u64 0, .int .u64 0] ∧ Blk wr (w.heap.size + 1 + 1 + 1) 92 (u6 o) ∧ Below w.heap.size w wr)
  case atStart => exact ⟨0, 0, fun _ => 0, by omega, rfl, rfl, by omega, fun j hj => by omega, by simp [dv], HA.out, HB.out, HR.out, HO.out, HBel.out⟩
  case round =>
    obtain ⟨i, c, o, hi, rfl, rfl, hc, hod, hsum, ha, hb, hr, ho, hbel⟩ := hrel
    clear HA HB HR HO HBel
    have HI := hide hi
    have HOD := hide hod
    have HSUM := hide hsum
    have HA := hide ha
    have HB := hide hb
    have HR := hide hr
    have HO := hide ho
    have HBel := hide hbel
    have hi6 : i ≤ 6 := by omega
    clear hi hod hsum hbel
    by_cases hlt : i < 6
    · have ca := (ha.cell i).trans (u6_get f i hlt)
      have cb := (hb.cell i).trans (u6_get g i hlt)
      have hx := HF.out i hlt
      have hy := HG.out i hlt
      obtain ⟨s, hss⟩ : ∃ s, s + g i + c = f i + 4294967296 := ⟨f i + 4294967296 - g i - c, by omega⟩
      have hst := less_step (f i) (g i) c s (4294967296 ^ i) hy hx hc hss
      have hdf : dv f (i + 1) = dv f i + f i * 4294967296 ^ i := rfl
      have hdg : dv g (i + 1) = dv g i + g i * 4294967296 ^ i := rfl
      have hw1 : IntKind.u64.wrap ((f i : Int) + 4294967296) = (f i : Int) + 4294967296 := IntWalk.u64_in _ (by omega)
      have hw2 : IntKind.u64.wrap ((f i : Int) + 4294967296 - (g i : Int)) = (f i : Int) + 4294967296 - (g i : Int) := IntWalk.u64_in _ (by omega)
      have hw3 : IntKind.u64.wrap ((f i : Int) + 4294967296 - (g i : Int) - (c : Int)) = (s : Int) := by rw [IntWalk.u64_in _ (by omega)]; omega
      have hs : s < 8589934592 := by omega
      have hw4 : IntKind.u64.wrap (1 - (s : Int) / 4294967296) = 1 - (s : Int) / 4294967296 := IntWalk.u64_in _ (by omega)
      generalize f i = x at *
      generalize g i = y at *
      have HST := hide hst
      have HDF := hide hdf
      have HDG := hide hdg
      clear hst hdf hdg ha hb hr ho hss
      go_wp2_with fail
      go_quiet (fail)
      have HA2 := hide (HA.out.drewN nq)
      have HB2 := hide (HB.out.drewN nq)
      have HR2 := hide (HR.out.drewN nq)
      have HBel2 := hide (HBel.out.drewN nq)
      have ho2 := HO.out.drewN nq
      have co := (ho2.cell i).trans (u6_get o i hlt)
      have fo := ho2.frozen i
      have HO2 := hide ho2
      clear ca cb HA HB HR HO HBel ho2
      generalize wr.drewN nq = w2 at *
      have hn1 : w.heap.size + 1 + 1 + 1 ≠ w.heap.size := by omega
      go_wp2_with fail
      go_roundg (6 - (i + 1))
      case measure => have := HI.out; omega
      case rel =>
        have hm : ((s % 4294967296 : Nat) : Int) = (s : Int) % 4294967296 := by omega
        have hq : ((1 - s / 4294967296 : Nat) : Int) = 1 - (s : Int) / 4294967296 := by omega
        have hset := HO2.out.set_ i (.int .u64 ((s : Int) % 4294967296))
        rw [← hm, u6_set o i _ hlt, hm] at hset
        refine ⟨i + 1, 1 - s / 4294967296, upd o i (s % 4294967296), by omega, by go_num, by rw [hq], by omega, ?_, ?_, HA2.out.far (p := ⟨w.heap.size + 1 + 1 + 1, i, none⟩) (by simp; try omega) _, HB2.out.far (p := ⟨w.heap.size + 1 + 1 + 1, i, none⟩) (by simp; try omega) _, HR2.out.far (p := ⟨w.heap.size + 1 + 1 + 1, i, none⟩) (by simp; try omega) _, hset, HBel2.out.setCell (p := ⟨w.heap.size + 1 + 1 + 1, i, none⟩) (by simp; omega) _⟩
        · intro j hj
          by_cases e : j = i
          · subst e; rw [upd_same]; omega
          · rw [upd_other _ _ e]; exact HOD.out j (by omega)
        · have h1 := HST.out
          have h2 := HSUM.out
          rw [dv_upd, Nat.pow_succ, HDF.out, HDG.out]
          generalize 4294967296 ^ i = P at *
          omega
    · obtain rfl : i = 6 := by omega
      have o0 := (ho.cell 0).trans (u6_get o 0 (by omega))
      have o1 := (ho.cell 1).trans (u6_get o 1 (by omega))
      have o2 := (ho.cell 2).trans (u6_get o 2 (by omega))
      have o3 := (ho.cell 3).trans (u6_get o 3 (by omega))
      have o4 := (ho.cell 4).trans (u6_get o 4 (by omega))
      have o5 := (ho.cell 5).trans (u6_get o 5 (by omega))
      have r0 := (hr.cell 0).trans rfl
      have r1 := (hr.cell 1).trans rfl
      have r2 := (hr.cell 2).trans rfl
      have r3 := (hr.cell 3).trans rfl
      have r4 := (hr.cell 4).trans rfl
      have r5 := (hr.cell 5).trans rfl
      have f0 := hr.frozen 0
      have f1 := hr.frozen 1
      have f2 := hr.frozen 2
      have f3 := hr.frozen 3
      have f4 := hr.frozen 4
      have f5 := hr.frozen 5
      clear ha hb hr ho
      have hres : Hid (dv o 6 + dv g 6 = dv f 6) := less_end hc HSUM.out (dv_lt 6 HOD.out) HLE.out
      go_wp2_with fail
      have hset := (((((HR.out.set_ 0 (.int .u64 (o 0 : Int))).set_ 1 (.int .u64 (o 1 : Int))).set_ 2 (.int .u64 (o 2 : Int))).set_ 3 (.int .u64 (o 3 : Int))).set_ 4 (.int .u64 (o 4 : Int))).set_ 5 (.int .u64 (o 5 : Int))
      refine bodyPost_ret (results_cell_row (P := Try.prog) rfl _ _ (w.heap.size + 1 + 1) 92 (u6 o) (0, 0) _ rfl (hset.trans (by simp [u6])) Try.underlying92 rfl (by kernel_rfl)) rfl ?_
      exact ⟨o, rfl, HOD.out, hres.out, (((((HBel.out.setCell (p := ⟨w.heap.size + 1 + 1, 0, none⟩) (by simp; omega) _).setCell (p := ⟨w.heap.size + 1 + 1, 1, none⟩) (by simp; omega) _).setCell (p := ⟨w.heap.size + 1 + 1, 2, none⟩) (by simp; omega) _).setCell (p := ⟨w.heap.size + 1 + 1, 3, none⟩) (by simp; omega) _).setCell (p := ⟨w.heap.size + 1 + 1, 4, none⟩) (by simp; omega) _).setCell (p := ⟨w.heap.size + 1 + 1, 5, none⟩) (by simp; omega) _⟩
end Go.Proofs.Ytpgkhmjlbaoagaa
