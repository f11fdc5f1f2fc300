/- The walk of UndoCounts. -/
import Derived.Test.YtdhmjdlkaoflnaaUndoReturnsWalk
namespace Go.Proofs.Ytdhmjdlkaoflnaa
open Go.RowKit
set_option linter.unusedVariables false

theorem sameB_self {n : Nat} {L : Nat → Nat} (hl : Lab n L) {i : Nat} (hi : i < n) : sameB n L (i : Int) (L i : Int) = true := by
  simp [sameB, inB_nat hi, inB_nat (hl.lt hi), hl.idem i hi]
theorem sizeV_self {n : Nat} {L : Nat → Nat} (hl : Lab n L) {i : Nat} (hi : i < n) : sizeV n L (L i : Int) = (cls n L (L i) : Int) ∧ sizeV n L (i : Int) = (cls n L (L i) : Int) := by
  simp [sizeV, inB_nat hi, inB_nat (hl.lt hi), hl.idem i hi]

set_option maxRecDepth 100000 in
set_option maxHeartbeats 8000000 in
theorem undoCounts_walk (v0 : Value) (l : List (Nat × Nat)) (W : World) (w0 : IsPairs8 W v0 l) :
    Calls Try.prog 6 #[v0] W fun e W' => e = .returned (.bool true) ∧ Below W.heap.size W W' := by
  have HP := hide w0
  obtain ⟨A, m, c, rfl, hm', hlen⟩ := w0.form
  clear w0 hlen
  by_cases h1 : 100 < m
  · go_enter Try.func6, Try.ntmps6
    go_wp2_with fail
    refine (works9 _).mono ?_
    rintro e w13 ⟨rfl, hb13⟩
    go_wp2_with fail
    go_ret
    exact ⟨rfl, hb13⟩
  · have hmm : m ≤ 100 := by omega
    clear h1
    go_enter Try.func6, Try.ntmps6
    go_wp2_with fail
    refine (made_true W _ l HP.out).mono ?_
    rintro e w1 ⟨g, rfl, hd1, hb1⟩
    generalize (madeH l).past = past at *
    generalize (madeH l).L = L at *
    have hct := hd1.cnt
    have hl := hd1.lab
    have HL := hide hl
    have HD1 := hide hd1
    have HB1 := hide hb1
    obtain ⟨sn, hsn⟩ : ∃ sn, sn = sets 50 L := ⟨_, rfl⟩
    have hsp : ((past.length : Nat) : Int) + ((sets 50 L : Nat) : Int) = 50 := by omega
    have hsb : sets 50 L ≤ 50 := by omega
    have hpb : past.length ≤ 50 := by omega
    clear hct hl hd1 hb1
    go_wp2_with fail
    refine (atMark _ _ _ _ _ _ HD1.out).mono ?_
    rintro e w2 ⟨rfl, rfl⟩
    go_wp2_with fail
    refine (atCount _ _ _ _ _ _ HD1.out).mono ?_
    rintro e w2 ⟨rfl, k2, rfl⟩
    go_wp2_with fail
    refine (atLabels _ _ _ _ _ _ (HD1.out.drewN k2)).mono ?_
    rintro e w3 ⟨b, rfl, hk3, _, hbe3⟩
    have hd3 := (HD1.out.drewN k2).fresh hbe3
    have HB3 := hide ((HB1.out.drewN k2).trans (hbe3.mono HB1.out.size))
    have HD3 := hide hd3
    have HK3 := hide hk3
    clear hd3 hk3 hbe3 hsp
    go_wp2_with fail
    go_loopg [5, 6, 7] 50 (fun q z s i wr => ∃ k d : Nat, k + q = 50 ∧ i = .int .i64 (k : Int) ∧ s = .int .i64 (cnt (fun j => L j == j) k : Int) ∧ z = .int .i64 (stt 50 L k : Int) ∧ wr = w3.drewN d)
    case atStart => exact ⟨0, 0, by omega, rfl, rfl, by rw [stt_zero]; rfl, rfl⟩
    case round =>
      obtain ⟨k, d, hk, rfl, rfl, rfl, rfl⟩ := hrel
      have HK := hide hk
      have hkm : k ≤ 50 := by omega
      have hst := stt_succ 50 L k
      have hs1 := stt_le 50 L k
      have hcn := cnt_le (fun j => L j == j) k
      clear hk
      by_cases hlt : k < 50
      · have hLn := HL.out.lt hlt
        have hLk := HL.out.le k hlt
        have hid := HL.out.idem k hlt
        have ck := HK3.out.int hlt
        have cl := HK3.out.int hLn
        rw [hid] at cl
        have f1 : decide (((L k : Nat) : Int) < 0) = false := decide_eq_false (by omega)
        have f2 : decide (k < L k) = false := decide_eq_false (by omega)
        obtain ⟨z1, z2⟩ := sizeV_self HL.out hlt
        have S := fun w h => atSame w (k : Int) (L k : Int) g W.heap.size 50 past L h
        rw [sameB_self HL.out hlt] at S
        have Z1 := fun w h => atSize w (k : Int) g W.heap.size 50 past L h
        have Z2 := fun w h => atSize w (L k : Int) g W.heap.size 50 past L h
        rw [z2] at Z1
        rw [z1] at Z2
        have hcl : cls 50 L (L k) ≤ 50 := cnt_le _ _
        have HS := hide S
        have HZ1 := hide Z1
        have HZ2 := hide Z2
        have HST := hide hst
        have hnn := cls_none (n := 50) HL.out (k := k)
        have HNN := hide hnn
        clear S Z1 Z2 z1 z2 hid hst hnn
        by_cases he : L k = k
        · have hn1 := hide (cnt_succ_true (p := fun j => L j == j) (k := k) (by simp [he]))
          have HE := hide he
          rw [he] at ck cl f1 f2 hcl
          have HS' : Hid (∀ w, UndAt w g W.heap.size 50 past L → Calls Try.prog 22 #[.pointer (some ⟨g, 0, none⟩), .int .i64 (k : Int), .int .i64 (k : Int)] w fun e w' => e = .returned (.bool true) ∧ w = w') := by
            have := HS.out; rw [he] at this; exact this
          have HZ' : Hid (∀ w, UndAt w g W.heap.size 50 past L → Calls Try.prog 23 #[.pointer (some ⟨g, 0, none⟩), .int .i64 (k : Int)] w fun e w' => e = .returned (.int .i64 (cls 50 L k : Int)) ∧ ∃ k, w' = w.drewN k) := by
            have := HZ1.out; rw [he] at this; exact this
          have hs2 : stt 50 L k + cls 50 L k ≤ 50 := by have := stt_le 50 L (k + 1); have := HST.out; omega
          generalize cls 50 L k = zc at *
          clear he HS HZ1 HZ2
          go_wp2_with fail
          go_quiet (first | (go_at_call 22; first | exact quiet_any2 (quiet_eq (HS'.out _ (HD3.out.drewN _))) | exact quiet_any1 (quiet_eq (HS'.out _ (HD3.out.drewN _)))) | (go_at_call 23; first | exact quiet_any2 (HZ'.out _ (HD3.out.drewN _)) | exact quiet_any1 (HZ'.out _ (HD3.out.drewN _))))
          go_wp2_with (go_at_call 23; refine (HZ'.out _ (HD3.out.drewN _)).mono ?_; rintro e w' ⟨rfl, k9, rfl⟩)
          go_roundg (50 - (k + 1))
          case measure => have := HK.out; omega
          case rel => exact ⟨k + 1, _, by omega, by go_num, by rw [hn1.out]; go_num, by rw [HST.out]; go_num, rfl⟩
        · have hn1 := hide (cnt_succ_false (p := fun j => L j == j) (k := k) (by simp [he]))
          have hbe := beq_nat_false he
          have hz0 := HNN.out he
          have HZZ := hide hz0
          clear he hz0
          go_wp2_with fail
          go_quiet (first | (go_at_call 22; first | exact quiet_any2 (quiet_eq (HS.out _ (HD3.out.drewN _))) | exact quiet_any1 (quiet_eq (HS.out _ (HD3.out.drewN _)))) | (go_at_call_of 23 (Value.int .i64 (k : Int)); first | exact quiet_any2 (HZ1.out _ (HD3.out.drewN _)) | exact quiet_any1 (HZ1.out _ (HD3.out.drewN _))) | (go_at_call_of 23 (Value.int .i64 ((L k : Nat) : Int)); first | exact quiet_any2 (HZ2.out _ (HD3.out.drewN _)) | exact quiet_any1 (HZ2.out _ (HD3.out.drewN _))))
          go_wp2_with fail
          go_roundg (50 - (k + 1))
          case measure => have := HK.out; omega
          case rel => exact ⟨k + 1, _, by omega, by go_num, by rw [hn1.out], by rw [HST.out, HZZ.out]; rfl, rfl⟩
      · have hkk : k = 50 := by omega
        subst hkk
        have e1 : stt 50 L 50 = 50 := cnt_full fun i hi => by simpa using HL.out.lt hi
        have C := atCount (w3.drewN d) g _ 50 past L (HD3.out.drewN d)
        have e2 : sets 50 L = cnt (fun j => L j == j) 50 := rfl
        rw [e2] at C
        rw [e1]
        have HC := hide C
        clear C e1 e2 hst hs1 hsn hsb
        generalize cnt (fun j => L j == j) 50 = cc at *
        go_wp2_with fail
        refine HC.out.mono ?_
        rintro e w8 ⟨rfl, k8, rfl⟩
        go_wp2_with fail
        refine (works9 _).mono ?_
        rintro e w9 ⟨rfl, hb9⟩
        go_wp2_with fail
        go_ret
        exact ⟨rfl, (HB3.out.drewN (d + k8)).trans (hb9.mono HB3.out.size)⟩
end Go.Proofs.Ytdhmjdlkaoflnaa
