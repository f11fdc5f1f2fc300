/- The walk of GraphConnects. -/
import Derived.Test.YtpgkhmjlbaoagaaGraMa
import Derived.Test.YtpgkhmjlbaoagaaGraWk
import Derived.Test.YtpgkhmjlbaoagaaGraCl
import Derived.Test.YtpgkhmjlbaoagaaGraDc
import Derived.Deep.RegionHeld3
namespace Go.Proofs.Ytpgkhmjlbaoagaa
open Go.RowKit
set_option linter.unusedVariables false

theorem u8_rem40 {a : Int} (h0 : 0 ≤ a) : ∃ i : Nat, i < 40 ∧ a.tmod 40 = (i : Int) := by
  obtain ⟨i, hi⟩ := Int.eq_ofNat_of_zero_le (show 0 ≤ a % 40 by omega)
  exact ⟨i, by omega, by rw [Int.tmod_eq_emod_of_nonneg h0]; exact hi⟩
set_option maxRecDepth 100000 in
set_option maxHeartbeats 8000000 in
theorem graphConnects_ok (a1 a2 : Int) (A : Option Addr) (m c : Nat) (l : List (Int × Int × Int)) (W : World) (hr : Rd W A m 3 (lcs l)) (hl : l.length = m) (hok : ∀ a ∈ l, LinkOk a) (hm : m ≤ 150) (b1 : 0 ≤ a1 ∧ a1 < 256) (b2 : 0 ≤ a2 ∧ a2 < 256) :
    Calls Try.prog 7 #[.slice A m c, .int .u8 a1, .int .u8 a2] W fun e W' => e = .returned (.bool true) ∧ Below W.heap.size W W' := by
  have HMd := hide (made40 W A m c l hr hl hok hm)
  have HBt := hide (fun w h => built40 w A m c l (hr.below h) hl hok hm)
  obtain ⟨u, hu, hu2⟩ := u8_rem40 b1.1
  obtain ⟨v, hv, hv2⟩ := u8_rem40 b2.1
  have q1 : IntKind.i64.wrap a1 = a1 := IntWalk.i64_in _ (by omega)
  have q2 : IntKind.i64.wrap a2 = a2 := IntWalk.i64_in _ (by omega)
  have q3 : IntKind.i64.wrap (u : Int) = u := IntWalk.i64_in _ (by omega)
  have q4 : IntKind.i64.wrap (v : Int) = v := IntWalk.i64_in _ (by omega)
  obtain ⟨a10, a11⟩ := b1
  obtain ⟨a20, a21⟩ := b2
  have hlen := bltL_len l
  have hle150 : (bltL l).length ≤ 150 := by omega
  have HG0 := hide (bltL_ok hok)
  generalize bltL l = ls at *
  clear hr hl hok hlen
  go_enter Try.func7, Try.ntmps7
  go_wp2_with fail
  refine HMd.out.mono ?_
  rintro e w1 ⟨p, B, rfl, hG, hBB, hb1⟩
  have HG1 := hide hG
  have HB1 := hide hb1
  have HLb := hide (graLabels w1 p 40 B ls hG)
  clear hG hBB hb1 HMd
  go_wp2_with fail
  refine HLb.out.mono ?_
  rintro e w2 ⟨bk, rfl, hK, hbk, hb2⟩
  have HK2 := hide hK
  have HG2 := hide (HG1.out.fresh hb2)
  have HB2 := hide (HB1.out.trans (hb2.mono HB1.out.size))
  clear hK hbk hb2 HLb HG1
  go_wp2_with fail
  refine (HBt.out w2 HB2.out).mono ?_
  rintro e w3 ⟨A3, c3, rfl, hO, hb3⟩
  have HO3 := hide hO
  have HK3 := hide (HK2.out.below hb3 HK2.out.lt)
  have HG3 := hide (HG2.out.fresh hb3)
  have HB3 := hide (HB2.out.trans (hb3.mono HB2.out.size))
  have HD := hide (graDist w3 u p 40 B ls HG3.out hu)
  clear hO hb3 HBt HG2 HK2
  go_wp2_with fail
  refine HD.out.mono ?_
  rintro e w4 ⟨bd, D, rfl, hD, hA, hbd, hb4⟩
  have HD4 := hide hD
  have HA4 := hide hA
  have HO4 := hide (HO3.out.kept hb4)
  have HK4 := hide (HK3.out.below hb4 HK3.out.lt)
  have HG4 := hide (HG3.out.fresh hb4)
  have HB4 := hide (HB3.out.trans (hb4.mono HB3.out.size))
  obtain ⟨n, hn⟩ : ∃ n, n = ls.length := ⟨_, rfl⟩
  have HNL := hide hn
  rw [← hn] at hle150 ⊢
  have HRD : Hid (Rd w4 A3 n 3 (ecs ls)) := by
    obtain ⟨A', c', e1, hrd⟩ := HO4.out.form
    injection e1 with e1 _ _
    subst e1
    show Rd w4 A3 n 3 (ecs ls)
    rw [hn]; exact hrd
  clear hD hA hbd hb4 hn HD HG3 HK3 HO3 HO4
  go_wp2_with fail
  go_loopg [11] n (fun q x wr => ∃ k d : Nat, k + q = n ∧ x = .int .i64 (k : Int) ∧ wr = w4.drewN d)
  case atStart => exact ⟨0, 0, by omega, rfl, rfl⟩
  case round =>
    obtain ⟨k, d, hk, rfl, rfl⟩ := hrel
    have HK := hide hk
    have hkm : k ≤ n := by omega
    clear hk
    by_cases hlt : k < n
    · have hkl : k < ls.length := by rw [← HNL.out]; exact hlt
      obtain ⟨b, o, rfl, hbl, e0, e1, e2⟩ := (HRD.out.drewN d).edge k hkl HNL.out.symm
      obtain ⟨x0, x1, x2, x3, x4⟩ := HG0.out.at_ hkl
      rw [x0] at e0
      rw [x1] at e1
      have heq := edge_lb HG0.out hkl
      have cu := (HK4.out.drewN d).int x2
      have cv := (HK4.out.drewN d).int x3
      rw [heq] at cu
      generalize gLb 40 ls (eV ls k) = g at *
      generalize eU ls k = x at *
      generalize eV ls k = y at *
      generalize (ls[k]'hkl).2.2 = t at *
      have HDX := hide (fun d2 => World.drewN_drewN w4 d d2)
      clear x0 x1 x4 heq hbl
      generalize w4.drewN d = wx at *
      go_wp2_with fail
      go_quiet (fail)
      go_wp2_with fail
      go_roundg (n - (k + 1))
      case measure => have := HK.out; omega
      case rel => exact ⟨k + 1, _, by omega, by go_num, HDX.out _⟩
    · obtain rfl : k = n := by omega
      clear HK hkm
      obtain ⟨wo, rfl⟩ : ∃ wo, w4.drewN d = wo := ⟨_, rfl⟩
      have HK5 := hide (HK4.out.drewN d)
      have HA5 := hide (HA4.out.drewN d)
      have HB5 := hide (HB4.out.drewN d)
      have HG5 := hide (HG4.out.drewN d)
      clear HK4 HA4 HB4 HG4 HRD
      generalize w4.drewN d = w5 at *
      go_wp2_with fail
      go_loopg [12] 40 (fun q x wr => ∃ k d : Nat, k + q = 40 ∧ x = .int .i64 (k : Int) ∧ wr = w5.drewN d)
      case atStart => exact ⟨0, 0, by omega, rfl, rfl⟩
      case round =>
        obtain ⟨i, d, hk, rfl, rfl⟩ := hrel
        have HKK := hide hk
        have hkm : i ≤ 40 := by omega
        clear hk
        by_cases hlt : i < 40
        · have hlab := gLb_lab 40 ls
          have hx40 : gLb 40 ls i < 40 := hlab.lt hlt
          have hxi : gLb 40 ls i ≤ i := hlab.le i hlt
          have hid := hlab.idem i hlt
          have ci := (HK5.out.drewN d).int hlt
          have cu := (HK5.out.drewN d).int hu
          have cx := (HK5.out.drewN d).int hx40
          have cd := (HA5.out.drewN d).inti hlt
          have hcn := HD4.out.conn hlt
          rw [hid] at cx
          generalize gLb 40 ls i = x at *
          generalize gLb 40 ls u = y at *
          generalize D i = z at *
          have HDX := hide (fun d2 => World.drewN_drewN w5 d d2)
          clear hlab hid
          generalize w5.drewN d = wx at *
          have b1 : (u : Int) < 40 := by omega
          have b2 : (x : Int) < 40 := by omega
          have b3 : (0 : Int) ≤ (u : Int) := by omega
          have b4 : (0 : Int) ≤ (x : Int) := by omega
          by_cases hxy : x = y
          · have hz : 0 ≤ z := hcn.2 hxy
            subst hxy
            have d1 : decide ((x : Int) < 0) = false := by rw [decide_eq_false_iff_not]; omega
            have d2 : decide ((i : Int) < (x : Int)) = false := by rw [decide_eq_false_iff_not]; omega
            have d3 : decide (0 ≤ z) = true := by rw [decide_eq_true_iff]; exact hz
            have d4 : ((x : Int) == (x : Int)) = true := beq_self_eq_true _
            have d5 : decide ((40 : Int) ≤ (x : Int)) = false := by rw [decide_eq_false_iff_not]; omega
            clear hcn
            go_wp2_with fail
            go_quiet (fail)
            go_wp2_with fail
            go_roundg (40 - (i + 1))
            case measure => have := HKK.out; omega
            case rel => exact ⟨i + 1, _, by omega, by go_num, HDX.out _⟩
          · have hz : z < 0 := by
              have : ¬ 0 ≤ z := fun h => hxy (hcn.1 h)
              omega
            have hne : ((x : Int) == (y : Int)) = false := beq_nat_false hxy
            have d1 : decide ((x : Int) < 0) = false := by rw [decide_eq_false_iff_not]; omega
            have d2 : decide ((i : Int) < (x : Int)) = false := by rw [decide_eq_false_iff_not]; omega
            have d3 : decide (0 ≤ z) = false := by rw [decide_eq_false_iff_not]; omega
            have d5 : decide ((40 : Int) ≤ (x : Int)) = false := by rw [decide_eq_false_iff_not]; omega
            clear hcn hxy
            go_wp2_with fail
            go_quiet (fail)
            go_wp2_with fail
            go_roundg (40 - (i + 1))
            case measure => have := HKK.out; omega
            case rel => exact ⟨i + 1, _, by omega, by go_num, HDX.out _⟩
        · obtain rfl : i = 40 := by omega
          clear HKK hkm
          have HA6 := hide (HA5.out.drewN d)
          have HB6 := hide (HB5.out.drewN d)
          have HDv := hide (graDist (w5.drewN d) v p 40 B ls (HG5.out.drewN d) hv)
          clear HA5 HB5 HG5 HK5
          generalize w5.drewN d = w6 at *
          go_wp2_with fail
          refine HDv.out.mono ?_
          rintro e w7 ⟨be, E, rfl, hE, hAE, hbe, hb7⟩
          have hsym := HD4.out.sym hE
          have ce := hAE.inti hu
          have cd := (HA6.out.below hb7 HA6.out.lt).inti hv
          have hl1 := hAE.lt
          have hl2 := (HA6.out.below hb7 HA6.out.lt).lt
          rw [hsym] at cd
          have HB7 := hide (HB6.out.trans (hb7.mono HB6.out.size))
          generalize E u = z at *
          clear hE hAE hbe hb7 hsym HDv HA6 HB6 HD4
          have b1 : (u : Int) < 40 := by omega
          have b2 : (v : Int) < 40 := by omega
          have b3 : (0 : Int) ≤ (u : Int) := by omega
          have b4 : (0 : Int) ≤ (v : Int) := by omega
          have d4 : (z == z) = true := beq_self_eq_true _
          go_wp2_with fail
          go_region_held3 (fun w' => w'.cell? ⟨be, u, none⟩ = some (.int .i64 z) ∧ w'.cell? ⟨bd, v, none⟩ = some (.int .i64 z))
            (first | exact ⟨ce, cd⟩ | exact ⟨(hb9.cell (p := ⟨be, u, none⟩) hl1).trans ce, (hb9.cell (p := ⟨bd, v, none⟩) hl2).trans cd⟩)
            (first | (go_at_call 13; refine (works13 _).mono ?_; rintro e w9 ⟨rfl, hb9⟩; have hb10 := (HB7.out.drewN 1).trans (hb9.mono (HB7.out.drewN 1).size)))
          go_wp2_with fail
          go_ret
          exact ⟨rfl, hb10⟩
theorem graphConnects_walk (v0 : Value) (l : List (Int × Int × Int)) (a1 a2 : Int) (W : World) (w0 : IsLinks W v0 l) (w1 : (Lit.int .u8 a1).wf = true) (w2 : (Lit.int .u8 a2).wf = true) :
    Calls Try.prog 7 #[v0, .int .u8 a1, .int .u8 a2] W fun e W' => e = .returned (.bool true) ∧ Below W.heap.size W W' := by
  obtain ⟨A, m, c, rfl, hm, hl, hok, hr⟩ := w0
  have hm9 : m ≤ 9223372036854775807 := by unfold maxLen at hm; omega
  by_cases h150 : m ≤ 150
  · exact graphConnects_ok a1 a2 A m c l W hr hl hok h150 (u8_bd13 w1) (u8_bd13 w2)
  · clear hr hl hok w1 w2
    go_enter Try.func7, Try.ntmps7
    go_wp2_with fail
    refine (works13 _).mono ?_
    rintro e w9 ⟨rfl, hb9⟩
    go_wp2_with fail
    go_ret
    exact ⟨rfl, hb9⟩
end Go.Proofs.Ytpgkhmjlbaoagaa
