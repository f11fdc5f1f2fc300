/- seepageref09: Row, Count, New. -/
import Derived.Test.YtdhmjdlkaoflnaaRe9A
namespace Go.Proofs.Ytdhmjdlkaoflnaa
open Go.RowKit
set_option linter.unusedVariables false

def mxC (n : Nat) (L : Nat → Nat) (k : Nat) : Nat := mx (fun i => cls n L i) k
def smC (n : Nat) (L : Nat → Nat) (k : Nat) : Nat := sm (fun i => cls n L i * cls n L i) k
def ctC (n : Nat) (L : Nat → Nat) (k : Nat) : Nat := cnt (fun i => decide (0 < cls n L i)) k
theorem cls_from {n : Nat} {L : Nat → Nat} (hl : Lab n L) {k : Nat} (hk : k ≤ n) : cnt (fun j => L j == k) k = 0 := cnt_zero fun i hi => by
  have := hl.le i (by omega)
  simp; omega

set_option maxRecDepth 100000 in
set_option maxHeartbeats 8000000 in
theorem r9Row (w : World) (A : Option Addr) (n c : Nat) (L : Nat → Nat) (hr : Rd w A n 1 (arr n L).toList) (hl : Lab n L) (nb : n ≤ 65536) :
    Calls Try.prog 45 #[.slice A n c] w fun e w' => e = .returned (rowV n L) ∧ Below w.heap.size w w' := by
  have hc : ∀ i, i < n → ∃ b o, A = some ⟨b, o, none⟩ ∧ b < w.heap.size ∧ w.cell? ⟨b, o + i, none⟩ = some (.int .i64 (L i : Int)) := fun i hi => by
    obtain ⟨b, o, e, hlt, hc⟩ := hr.2 (by omega)
    exact ⟨b, o, e, hlt, hc i _ (by rw [Array.getElem?_toList]; exact arr_get L hi)⟩
  have HC := hide hc
  have HL := hide hl
  have e1 : mxC n L n = lrg n L := lrg_labels hl
  have e2 : smC n L n = sq n L := sq_labels hl
  have e3 : ctC n L n = sets n L := sets_labels hl
  have E1 := hide e1
  have E2 := hide e2
  have E3 := hide e3
  have hcl : Hid (∀ k, cls n L k ≤ n) := fun k => cnt_le _ _
  clear hc hr hl e1 e2 e3
  go_enter Try.func45, Try.ntmps45
  go_wp2_with fail
  have hR0 : Blk ((w.alloc (.cells #[.int .i64 0, .int .i64 0, .int .i64 0] 48)).alloc (.cells #[.int .i64 0, .int .i64 0, .int .i64 0] 48)) w.heap.size 48 #[.int .i64 0, .int .i64 0, .int .i64 0] := (Blk.new w _ _).alloc _
  have hQ0 : Blk ((w.alloc (.cells #[.int .i64 0, .int .i64 0, .int .i64 0] 48)).alloc (.cells #[.int .i64 0, .int .i64 0, .int .i64 0] 48)) (w.heap.size + 1) 48 #[.int .i64 0, .int .i64 0, .int .i64 0] := by
    have := Blk.new (w.alloc (.cells #[.int .i64 0, .int .i64 0, .int .i64 0] 48)) 48 #[.int .i64 0, .int .i64 0, .int .i64 0]
    have e : (w.alloc (.cells #[.int .i64 0, .int .i64 0, .int .i64 0] 48)).heap.size = w.heap.size + 1 := by simp
    rwa [e] at this
  have hB0 : Below w.heap.size w ((w.alloc (.cells #[.int .i64 0, .int .i64 0, .int .i64 0] 48)).alloc (.cells #[.int .i64 0, .int .i64 0, .int .i64 0] 48)) := ((Below.refl _ _).alloc (Nat.le_refl _) _).alloc (by simp) _
  generalize (w.alloc (.cells #[.int .i64 0, .int .i64 0, .int .i64 0] 48)).alloc (.cells #[.int .i64 0, .int .i64 0, .int .i64 0] 48) = w0 at *
  generalize hq : w.heap.size + 1 = Q at *
  have hne : w.heap.size ≠ Q := by omega
  have hle : w.heap.size ≤ Q := by omega
  generalize hrr : w.heap.size = R at *
  have HRR := hide hrr
  have HR0 := hide hR0
  have HQ0 := hide hQ0
  have HB0 := hide hB0
  clear hR0 hQ0 hB0 hq hrr
  go_loopg [4] n (fun q v wr => ∃ k : Nat, k + q = n ∧ v = .int .i64 (k : Int) ∧ Blk wr R 48 #[.int .i64 0, .int .i64 0, .int .i64 0] ∧ Blk wr Q 48 #[.int .i64 (mxC n L k : Int), .int .i64 (ctC n L k : Int), .int .i64 (smC n L k : Int)] ∧ Below R w wr)
  case atStart => exact ⟨0, by omega, rfl, HR0.out, HQ0.out, HB0.out⟩
  case round =>
    obtain ⟨k, hk, rfl, hR, hQ, hb⟩ := hrel
    have HK := hide hk
    have hkn : k ≤ n := by omega
    clear hk HR0 HQ0 HB0
    have HRB := hide hR
    have HQB := hide hQ
    have HBB := hide hb
    have q0 : wr.cell? ⟨Q, 0, none⟩ = some (.int .i64 (mxC n L k : Int)) := (hQ.cell 0).trans rfl
    have q1 : wr.cell? ⟨Q, 1, none⟩ = some (.int .i64 (ctC n L k : Int)) := (hQ.cell 1).trans rfl
    have q2 : wr.cell? ⟨Q, 2, none⟩ = some (.int .i64 (smC n L k : Int)) := (hQ.cell 2).trans rfl
    have qf0 := hQ.frozen 0
    have qf1 := hQ.frozen 1
    have qf2 := hQ.frozen 2
    clear hR hQ hb
    by_cases hlt : k < n
    · have m1 : mxC n L (k + 1) = max (mxC n L k) (cls n L k) := rfl
      have m2 : smC n L (k + 1) = smC n L k + cls n L k * cls n L k := rfl
      have m3 : ctC n L (k + 1) = ctC n L k + if decide (0 < cls n L k) = true then 1 else 0 := rfl
      have b1 : mxC n L k ≤ n := mx_le fun i _ => hcl.out i
      have b2 : smC n L k ≤ k * (65536 * 65536) := sm_le fun i _ => Nat.mul_le_mul (Nat.le_trans (hcl.out i) nb) (Nat.le_trans (hcl.out i) nb)
      have b3 : ctC n L k ≤ k := cnt_le _ _
      have b4 : smC n L k ≤ 281474976710656 := by omega
      have M1 := hide m1
      have M2 := hide m2
      have M3 := hide m3
      have hz0 := cls_from HL.out hkn
      have hck := hcl.out k
      clear m1 m2 m3 b2
      obtain ⟨wo, rfl⟩ : ∃ wo : World, wo = wr := ⟨_, rfl⟩
      go_wp2_with fail
      go_loopg [5, 6] (n - k) (fun q z v wr => ∃ j : Nat, j + q = n ∧ k ≤ j ∧ v = .int .i64 (j : Int) ∧ z = .int .i64 (cnt (fun i => L i == k) j : Int) ∧ wr = wo)
      case atStart => exact ⟨k, by omega, Nat.le_refl _, rfl, by rw [hz0]; rfl, rfl⟩
      case round =>
        obtain ⟨j, hj, hkj, rfl, rfl, rfl⟩ := hrel
        have HJ := hide hj
        have hjn : j ≤ n := by omega
        have hcj := cnt_le (fun i => L i == k) j
        clear hj hz0
        by_cases hjl : j < n
        · obtain ⟨b, o, rfl, hbl, c0⟩ := HC.out j hjl
          have cj : wr.cell? ⟨b, o + j, none⟩ = some (.int .i64 (L j : Int)) := (HBB.out.cell (p := ⟨b, o + j, none⟩) hbl).trans c0
          clear c0
          by_cases he : L j = k
          · have hbe := beq_nat_true he
            have hs := hide (cnt_succ_true (p := fun i => L i == k) (k := j) (by simp [he]))
            clear he
            go_wp2_with fail
            go_roundg (n - (j + 1))
            case measure => have := HJ.out; omega
            case rel => exact ⟨j + 1, by omega, by omega, by go_num, by rw [hs.out]; go_num, rfl⟩
          · have hbe := beq_nat_false he
            have hs := hide (cnt_succ_false (p := fun i => L i == k) (k := j) (by simp [he]))
            clear he
            go_wp2_with fail
            go_roundg (n - (j + 1))
            case measure => have := HJ.out; omega
            case rel => exact ⟨j + 1, by omega, by omega, by go_num, by rw [hs.out], rfl⟩
        · have hjj : j = n := by omega
          subst hjj
          have ecl : cnt (fun i => L i == k) j = cls j L k := rfl
          rw [ecl]
          clear hcj ecl
          generalize mxC j L k = mk at *
          generalize smC j L k = sk at *
          generalize ctC j L k = tk at *
          generalize cls j L k = z at *
          have hz2 : z * z ≤ 65536 * 65536 := Nat.mul_le_mul (by omega) (by omega)
          obtain ⟨qq, hqq⟩ : ∃ qq : Nat, z * z = qq := ⟨_, rfl⟩
          have hzi : (z : Int) * (z : Int) = (qq : Int) := by rw [← hqq]; simp
          rw [hqq] at hz2
          have HQQ := hide hqq
          clear hqq
          by_cases hz : 0 < z
          · by_cases hm : mk < z
            · go_wp2_with fail
              go_roundg (j - (k + 1))
              case measure => have := HK.out; omega
              case rel =>
                have e1 : max mk z = z := by omega
                have e2 : ((sk + z * z : Nat) : Int) = (sk : Int) + (qq : Int) := by rw [← HQQ.out]; simp
                have e3 : (if decide (0 < z) = true then 1 else 0) = 1 := by simp; omega
                refine ⟨k + 1, by omega, by go_num, ((HRB.out.far (p := ⟨Q, 1, none⟩) hne _).far (p := ⟨Q, 0, none⟩) hne _).far (p := ⟨Q, 2, none⟩) hne _, ?_, ((HBB.out.setCell (p := ⟨Q, 1, none⟩) hle _).setCell (p := ⟨Q, 0, none⟩) hle _).setCell (p := ⟨Q, 2, none⟩) hle _⟩
                rw [M1.out, M2.out, M3.out, e1, e2, e3]
                exact ((HQB.out.set_ 1 (.int .i64 ((tk : Int) + 1))).set_ 0 (.int .i64 (z : Int))).set_ 2 (.int .i64 ((sk : Int) + (qq : Int)))
            · go_wp2_with fail
              go_roundg (j - (k + 1))
              case measure => have := HK.out; omega
              case rel =>
                have e1 : max mk z = mk := by omega
                have e2 : ((sk + z * z : Nat) : Int) = (sk : Int) + (qq : Int) := by rw [← HQQ.out]; simp
                have e3 : (if decide (0 < z) = true then 1 else 0) = 1 := by simp; omega
                refine ⟨k + 1, by omega, by go_num, (HRB.out.far (p := ⟨Q, 1, none⟩) hne _).far (p := ⟨Q, 2, none⟩) hne _, ?_, (HBB.out.setCell (p := ⟨Q, 1, none⟩) hle _).setCell (p := ⟨Q, 2, none⟩) hle _⟩
                rw [M1.out, M2.out, M3.out, e1, e2, e3]
                exact (HQB.out.set_ 1 (.int .i64 ((tk : Int) + 1))).set_ 2 (.int .i64 ((sk : Int) + (qq : Int)))
          · have hm : ¬ mk < z := by omega
            have hz' : ¬ 0 < z := hz
            go_wp2_with fail
            go_roundg (j - (k + 1))
            case measure => have := HK.out; omega
            case rel =>
              have e1 : max mk z = mk := by omega
              have e2 : ((sk + z * z : Nat) : Int) = (sk : Int) + (qq : Int) := by rw [← HQQ.out]; simp
              have e3 : (if decide (0 < z) = true then 1 else 0) = 0 := by simp; omega
              refine ⟨k + 1, by omega, by go_num, HRB.out.far (p := ⟨Q, 2, none⟩) hne _, ?_, HBB.out.setCell (p := ⟨Q, 2, none⟩) hle _⟩
              rw [M1.out, M2.out, M3.out, e1, e2, e3]
              exact HQB.out.set_ 2 (.int .i64 ((sk : Int) + (qq : Int)))
    · have hkk : k = n := by omega
      subst hkk
      have r0 : wr.cell? ⟨R, 0, none⟩ = some (.int .i64 0) := (HRB.out.cell 0).trans rfl
      have r1 : wr.cell? ⟨R, 1, none⟩ = some (.int .i64 0) := (HRB.out.cell 1).trans rfl
      have r2 : wr.cell? ⟨R, 2, none⟩ = some (.int .i64 0) := (HRB.out.cell 2).trans rfl
      have rf0 := HRB.out.frozen 0
      have rf1 := HRB.out.frozen 1
      have rf2 := HRB.out.frozen 2
      rw [E1.out] at q0
      rw [E3.out] at q1
      rw [E2.out] at q2
      have HFB := hide (((HBB.out.setCell (p := ⟨R, 0, none⟩) (Nat.le_refl _) (.int .i64 (lrg k L : Int))).setCell (p := ⟨R, 1, none⟩) (Nat.le_refl _) (.int .i64 (sets k L : Int))).setCell (p := ⟨R, 2, none⟩) (Nat.le_refl _) (.int .i64 (sq k L : Int)))
      clear hcl
      go_wp2_with fail
      refine bodyPost_ret (v := .agg #[.int .i64 (lrg k L : Int), .int .i64 (sets k L : Int), .int .i64 (sq k L : Int)]) (by simp [results, Try.results45, go_sem, r0, r1, r2]) rfl ⟨by unfold rowV; rfl, ?_⟩
      first | exact HFB.out | (rw [HRR.out]; exact HFB.out)

theorem r9Count (w : World) (g n B : Nat) (past : List (Nat → Nat)) (L : Nat → Nat) (h : Ref9 w g n past L B) (hl : Lab n L) :
    Calls Try.prog 36 #[.pointer (some ⟨g, 0, none⟩)] w fun e w' => e = .returned (.int .i64 (sets n L : Int)) ∧ Below w.heap.size w w' := by
  obtain ⟨A, c, P, q0, c0, c1, c2, nb, hr, _⟩ := h.form
  have H := hide h
  have RW := r9Row w A n c L hr hl nb
  unfold rowV at RW
  have HRW := hide RW
  have hfd : ∀ (a b c : Int) (W : World), (Instr.field 48 (.agg #[.int .i64 a, .int .i64 b, .int .i64 c]) 1).run Try.prog W = .ok (.int .i64 b) W := fun a b c W => by kernel_rfl
  clear h hr RW
  go_enter Try.func36, Try.ntmps36
  go_wp2_with (first | (go_at_call 42; refine (r9Valid _ _ _ _ _ _ H.out).mono ?_; rintro e w' ⟨rfl, rfl⟩))
  refine HRW.out.mono ?_
  rintro e w' ⟨rfl, hb⟩
  go_wp2_with fail
  go_ret
  exact ⟨rfl, hb⟩
end Go.Proofs.Ytdhmjdlkaoflnaa
