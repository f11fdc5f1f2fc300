/- wrapping: Spans. -/
import Derived.Test.YtohhbepfpmbnkaaWrapK
import Derived.Test.YtohhbepfpmbnkaaGraCl
import Derived.Test.YtohhbepfpmbnkaaSpanP
namespace Go.Proofs.Ytohhbepfpmbnkaa
open Go.RowKit
set_option linter.unusedVariables false

theorem ret_bi {a b : Bool} {x : Int} (h : a = b) : Ending.returned (.tuple #[.bool a, .int .i64 x]) = .returned (.tuple #[.bool b, .int .i64 x]) := by rw [h]
set_option maxRecDepth 100000 in
set_option maxHeartbeats 8000000 in
theorem wrSpans_ok (w : World) (X Y n m c : Nat) (A : Option Addr) (l : List (Int × Int × Int)) (ht : torB (X : Int) (Y : Int) = true) (hn : n = X * Y) (hr : Rd w A m 3 (ecs l)) (ll : l.length = m) (hE : newE (n : Int) l = 0) :
    Calls Try.prog 56 #[.int .i64 (X : Int), .int .i64 (Y : Int), .slice A m c] w
      fun e w' => e = .returned (.tuple #[.bool (spanB X Y (gLb n l)), .int .i64 0]) ∧ Below w.heap.size w w' := by
  have HI := wrIs (X : Int) (Y : Int) w
  rw [ht] at HI
  obtain ⟨h1, h2, h3, h4, h5⟩ : 1 ≤ (X : Int) ∧ 1 ≤ (Y : Int) ∧ (X : Int) ≤ 4096 ∧ (Y : Int) ≤ 4096 ∧ (X : Int) * (Y : Int) ≤ 4096 := by unfold torB at ht; exact of_decide_eq_true ht
  have hXY : (X : Int) * (Y : Int) = (n : Int) := by rw [hn]; push_cast; rfl
  have hn4 : n ≤ 4096 := by omega
  obtain ⟨i0, hi, hz0, hz1, hz2⟩ := info_parts bool_info0
  have hmk := fun W => run_make_bools 116 4 i0 Try.underlying116 hi hz0 hz1 hz2 n (by omega) W
  have HN := hide (graNew_ok w n m c A l hr ll hE)
  have HI2 := hide HI
  have HNN := hide hn
  have hlab := gLb_lab n l
  have HLab := hide hlab
  have hXn : 1 ≤ X := by omega
  clear hi hz0 hz1 hz2 HI ht hr ll hE hn hlab h5
  go_enter Try.func56, Try.ntmps56
  go_wp2_with fail
  refine HI2.out.mono ?_
  rintro e w' ⟨rfl, rfl⟩
  go_wp2_with fail
  refine HN.out.mono ?_
  rintro e w1 ⟨p, rfl, hG, hB⟩
  have HL := hide (graLabels w1 p n _ l hG)
  have HB := hide hB
  clear hG hB
  go_wp2_with fail
  refine HL.out.mono ?_
  rintro e w2 ⟨b, rfl, hb, hge, hB2⟩
  have HB2 := hide (HB.out.trans (hB2.mono HB.out.size))
  have HBl := hide hb
  clear hb hge hB2
  go_wp2_with fail
  have hS0 := Blk.new w2 4 (arb n fun _ => false)
  have hb0 := HBl.out.alloc (.cells (arb n fun _ => false) 4)
  have hB0 := HB2.out.alloc HB2.out.size (.cells (arb n fun _ => false) 4)
  have hge : w.heap.size ≤ w2.heap.size := HB2.out.size
  clear hmk
  generalize w2.alloc (.cells (arb n fun _ => false) 4) = w3 at *
  generalize w2.heap.size = S at *
  generalize hLL : gLb n l = L at *
  have HS0 := hide hS0
  have Hb0 := hide hb0
  have HB0 := hide hB0
  have HLL := hide hLL
  clear hS0 hb0 hB0 hLL
  go_loopg [36] Y (fun q v wr => ∃ k : Nat, k + q = Y ∧ v = .int .i64 (k : Int) ∧ Blk wr S 4 (arb n (fstC X L k)) ∧ Blk wr b 3 (arr n L) ∧ Below w.heap.size w wr)
  case atStart => exact ⟨0, by omega, rfl, by rw [fstC_zero]; exact HS0.out, Hb0.out, HB0.out⟩
  case round =>
    obtain ⟨k, hk, rfl, hS, hb, hB⟩ := hrel
    have HK := hide hk
    have hkY : k ≤ Y := by omega
    clear hk HS0 Hb0 HB0
    by_cases hlt : k < Y
    · have hf := first_in hXn hlt
      rw [← HNN.out] at hf
      obtain ⟨hf1, hf2⟩ := hf
      have cl := hb.int hf1
      have hLt := HLab.out.lt hf1
      have cs := hS.bool hLt
      have fz := hS.frozen (L (k * X))
      have HSU := hide (fstC_succ X L k)
      have hkX : (k : Int) * (X : Int) = ((k * X : Nat) : Int) := by push_cast; rfl
      generalize k * X = a at *
      generalize L a = u at *
      have HS := hide hS
      have Hb := hide hb
      have HB := hide hB
      have hSb : S ≠ b := (hS.ne_ hb (by decide))
      have hSb' := hSb.symm
      clear hS hb hB
      go_wp2_with fail
      clear hkX
      go_roundg (Y - (k + 1))
      case measure => have := HK.out; omega
      case rel =>
        have h6 := HS.out.setBool u true
        rw [HSU.out] at h6
        exact ⟨k + 1, by omega, by go_num, h6, Hb.out.far (p := ⟨S, u, none⟩) hSb' _, HB.out.setCell (p := ⟨S, u, none⟩) hge _⟩
    · obtain rfl : k = Y := by omega
      have HS := hide hS
      have Hb := hide hb
      have HB := hide hB
      clear hS hb hB HK hkY hlt
      go_wp2_with fail
      obtain ⟨wo, rfl⟩ : ∃ wo : World, wo = wr := ⟨_, rfl⟩
      go_loopg [49] k (fun q v wr => ∃ y : Nat, y + q = k ∧ v = .int .i64 (y : Int) ∧ (∀ i, i < y → fstC X L k (L (i * X + (X - 1))) = false) ∧ wr = wo)
      case atStart => exact ⟨0, by omega, rfl, fun i h => by omega, rfl⟩
      case round =>
        obtain ⟨y, hy, rfl, hno, rfl⟩ := hrel
        have HY := hide hy
        have HNO := hide hno
        have hyk : y ≤ k := by omega
        clear hy hno
        by_cases hlt : y < k
        · have hf := first_in hXn hlt
          rw [← HNN.out] at hf
          obtain ⟨hf1, hf2⟩ := hf
          have cl := Hb.out.int hf2
          have hLt := HLab.out.lt hf2
          have cs := HS.out.bool hLt
          have hkX : (y : Int) * (X : Int) = ((y * X : Nat) : Int) := by push_cast; rfl
          have hkX2 : ((y * X : Nat) : Int) + (X : Int) - 1 = ((y * X + (X - 1) : Nat) : Int) := by omega
          have HHH : Hid (fstC X L k (L (y * X + (X - 1))) = fstC X L k (L (y * X + (X - 1)))) := rfl
          generalize hq : fstC X L k (L (y * X + (X - 1))) = q at *
          have HQ := hide hq
          clear hq HHH
          generalize hz : L (y * X + (X - 1)) = u at *
          have HZ := hide hz
          clear hz
          generalize hzz : y * X + (X - 1) = z at *
          have HZZ := hide hzz
          clear hzz
          generalize hyy : y * X = yx at *
          have HYY := hide hyy
          clear hyy
          cases q
          · go_wp2_with fail
            clear hkX hkX2
            go_roundg (k - (y + 1))
            case measure => have := HY.out; omega
            case rel => exact ⟨y + 1, by omega, by go_num, fun i hi => by
              by_cases e : i = y
              · subst e
                rw [HYY.out, HZZ.out, HZ.out]; exact HQ.out
              · exact HNO.out i (by omega), rfl⟩
          · have hsp : spanB X k L = true := spanB_true hlt (by rw [HYY.out, HZZ.out, HZ.out]; exact HQ.out)
            have HSP := hide hsp
            clear hsp
            go_wp2_with fail
            go_ret2
            exact ⟨ret_bi (by rw [HLL.out, HSP.out]), HB.out⟩
        · have hsp : spanB X k L = false := spanB_false fun i hi => HNO.out i (by omega)
          have HSP := hide hsp
          clear hsp
          go_wp2_with fail
          go_ret2
          exact ⟨ret_bi (by rw [HLL.out, HSP.out]), HB.out⟩
end Go.Proofs.Ytohhbepfpmbnkaa
