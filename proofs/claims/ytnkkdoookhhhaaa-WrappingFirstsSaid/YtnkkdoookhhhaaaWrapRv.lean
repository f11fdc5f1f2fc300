/- seepageref30: First. -/
import Derived.Test.YtnkkdoookhhhaaaWrapRu
import Derived.Test.YtnkkdoookhhhaaaWrapH
namespace Go.Proofs.Ytnkkdoookhhhaaa
open Go.RowKit
set_option linter.unusedVariables false

theorem r30First_no (w : World) (a b : Int) (v : Value) (h : torB a b = false) :
    Calls Try.prog 17 #[.int .i64 a, .int .i64 b, v] w fun e w' => e = .returned (.tuple #[.int .i64 0, .bool false, .int .i64 2]) ∧ w = w' := by
  have HN := hide (r30New_no w a b h)
  clear h
  go_enter Try.func17, Try.ntmps17
  go_wp2_with fail
  refine HN.out.mono ?_
  rintro e w' ⟨rfl, rfl⟩
  go_wp2_with fail
  go_ret3
  exact ⟨rfl, rfl⟩

set_option maxRecDepth 100000 in
set_option maxHeartbeats 8000000 in
theorem r30First_bad (w : World) (W H : Nat) (A : Option Addr) (m c : Nat) (l : List Int) (h : torB (W : Int) (H : Int) = true) (hl : l.length = m) (hm : m ≤ 100) (hr : Rd w A m 1 (is l)) (hbad : ordOk (2 * (W * H)) l = false) :
    Calls Try.prog 17 #[.int .i64 (W : Int), .int .i64 (H : Int), .slice A m c] w
      fun e w' => e = .returned (.tuple #[.int .i64 0, .bool false, .int .i64 2]) ∧ Below w.heap.size w w' := by
  have HN := hide (r30New_ok w W H (W * H) h rfl)
  obtain ⟨h1, h2, h3, h4, h5⟩ : 1 ≤ (W : Int) ∧ 1 ≤ (H : Int) ∧ (W : Int) ≤ 4096 ∧ (H : Int) ≤ 4096 ∧ (W : Int) * (H : Int) ≤ 4096 := by unfold torB at h; exact of_decide_eq_true h
  obtain ⟨N, hN⟩ : ∃ N, N = 2 * (W * H) := ⟨_, rfl⟩
  have hn2 : 2 * (W : Int) * (H : Int) = (N : Int) := by rw [hN]; push_cast; rw [Int.mul_assoc]
  have hN2 : N ≤ 8192 := by
    have : ((W * H : Nat) : Int) ≤ 4096 := by rw [Int.natCast_mul]; exact h5
    omega
  rw [← hN] at hbad
  obtain ⟨k0, hk0, hpre, hk0b⟩ := ord_bad hbad
  obtain ⟨i0, hi, hz0, hz1, hz2⟩ := info_parts bool_info0
  have hmk := fun W => run_make_bools 65 4 i0 Try.underlying65 hi hz0 hz1 hz2 N (by omega) W
  have HR := hide hr
  have HL := hide hl
  have HP := hide hpre
  have HKB := hide hk0b
  have hk0m : k0 < m := by omega
  clear hi hz0 hz1 hz2 h hN hbad hr hl hpre hk0b h5
  go_enter Try.func17, Try.ntmps17
  go_wp2_with fail
  refine HN.out.mono ?_
  rintro e w1 ⟨p, rfl, hT, hp, hB⟩
  have HB1 := hide hB
  clear hT hp hB
  go_wp2_with fail
  have hS0 := Blk.new w1 4 (arb N fun (c : Nat) => (l.take 0).contains (c : Int))
  have e0 : (fun (c : Nat) => (l.take 0).contains (c : Int)) = fun _ => false := by funext c; simp
  rw [e0] at hS0
  have hF0 : Fr [w1.heap.size] w1 (w1.alloc (.cells (arb N fun _ => false) 4)) := (Fr.refl _ w1).alloc _
  have hwS : w.heap.size ≤ w1.heap.size := HB1.out.size
  generalize w1.alloc (.cells (arb N fun _ => false) 4) = w2 at *
  generalize hSS : w1.heap.size = S at *
  have HSS := hide hSS
  rw [← e0] at hS0
  have HS0 := hide hS0
  have HF0 := hide hF0
  clear hS0 hF0 e0 hSS hmk
  go_loopg [12] m (fun q v wr => ∃ k : Nat, k + q = m ∧ k ≤ k0 ∧ v = .int .i64 (k : Int) ∧ Blk wr S 4 (arb N fun (c : Nat) => (l.take k).contains (c : Int)) ∧ Fr [S] w1 wr)
  case atStart => exact ⟨0, by omega, by omega, rfl, HS0.out, HF0.out⟩
  case round =>
    obtain ⟨k, hk, hkk, rfl, hS, hF⟩ := hrel
    have HK := hide hk
    have hlt : k < m := by omega
    have hkl : k < l.length := by rw [HL.out]; exact hlt
    obtain ⟨b, o, rfl, hblt, cl⟩ := HR.out.int k hkl HL.out
    have hb1 := HB1.out.size
    have cl' : wr.cell? ⟨b, o + k, none⟩ = some (.int .i64 l[k]) := (World.cell?_of_block (hF.block b (by show b < w1.heap.size; omega) (by rw [← HSS.out]; simp; omega))).trans ((HB1.out.cell (p := ⟨b, o + k, none⟩) hblt).trans cl)
    have HS := hide hS
    have HF := hide hF
    have HKL : ∃ x, x = l[k] := ⟨_, rfl⟩
    obtain ⟨x, hx⟩ := HKL
    rw [← hx] at cl'
    have HX := hide hx
    clear hk hS hF cl hx hb1
    by_cases hke : k < k0
    · have hgood := (ordOk_take hkl (by
        have := ordOk_prefix (k := k) HP.out
        rwa [List.take_take, Nat.min_eq_left (by omega)] at this)).1 (by
        have := ordOk_prefix (k := k + 1) HP.out
        rwa [List.take_take, Nat.min_eq_left (by omega)] at this)
      rw [← HX.out] at hgood
      obtain ⟨⟨hx0, hxN⟩, hxm⟩ := hgood
      obtain ⟨x, rfl⟩ := Int.eq_ofNat_of_zero_le hx0
      have hxN' : x < N := by omega
      have cs := HS.out.bool hxN'
      have hc : (l.take k).contains (x : Int) = false := by simpa using hxm
      rw [hc] at cs
      have fz := HS.out.frozen x
      have hdN : decide (N ≤ x) = false := by simp; omega
      clear hc hxm
      go_wp2_with fail
      go_roundg (m - (k + 1))
      case measure => have := HK.out; omega
      case rel =>
        have hs := HS.out.setBool x true
        rw [contains_snoc l k hkl x HX.out.symm] at hs
        exact ⟨k + 1, by omega, by omega, by go_num, hs, HF.out.setCell (p := ⟨S, x, none⟩) (.inl (by simp)) _⟩
    · have hkk0 : k = k0 := by omega
      subst hkk0
      have hbad := HKB.out
      rw [← HX.out] at hbad
      have hBel : Below w.heap.size w wr := HB1.out.trans (HF.out.below (by simp; omega) HB1.out.size)
      have HBel := hide hBel
      clear hBel hke hkk
      by_cases hx0 : x < 0
      · clear hbad
        go_wp2_with fail
        go_ret3
        exact ⟨rfl, HBel.out⟩
      · obtain ⟨x, rfl⟩ := Int.eq_ofNat_of_zero_le (show 0 ≤ x by omega)
        by_cases hxN : x < N
        · have cs := HS.out.bool hxN
          have hc : (l.take k).contains (x : Int) = true := by simpa using hbad ⟨by omega, by omega⟩
          rw [hc] at cs
          have hdN : decide (N ≤ x) = false := by simp; omega
          clear hbad hc hx0
          go_wp2_with fail
          go_ret3
          exact ⟨rfl, HBel.out⟩
        · have hdN : decide (N ≤ x) = true := by simp; omega
          clear hbad hx0
          go_wp2_with fail
          go_ret3
          exact ⟨rfl, HBel.out⟩

set_option maxRecDepth 100000 in
set_option maxHeartbeats 8000000 in
theorem r30First_ok (w : World) (W H : Nat) (A : Option Addr) (m c : Nat) (l : List Int) (h : torB (W : Int) (H : Int) = true) (hl : l.length = m) (hr : Rd w A m 1 (is l)) (hok : ordOk (2 * (W * H)) l = true) :
    Calls Try.prog 17 #[.int .i64 (W : Int), .int .i64 (H : Int), .slice A m c] w
      fun e w' => e = .returned (.tuple #[.int .i64 (fstK W H (ordE l)), .bool (fstB W H (ordE l)), .int .i64 0]) ∧ Below w.heap.size w w' := by
  have HN := hide (r30New_ok w W H (W * H) h rfl)
  obtain ⟨h1, h2, h3, h4, h5⟩ : 1 ≤ (W : Int) ∧ 1 ≤ (H : Int) ∧ (W : Int) ≤ 4096 ∧ (H : Int) ≤ 4096 ∧ (W : Int) * (H : Int) ≤ 4096 := by unfold torB at h; exact of_decide_eq_true h
  obtain ⟨N, hN⟩ : ∃ N, N = 2 * (W * H) := ⟨_, rfl⟩
  have hn2 : 2 * (W : Int) * (H : Int) = (N : Int) := by rw [hN]; push_cast; rw [Int.mul_assoc]
  have hN2 : N ≤ 8192 := by
    have : ((W * H : Nat) : Int) ≤ 4096 := by rw [Int.natCast_mul]; exact h5
    omega
  rw [← hN] at hok
  have hmN : m ≤ N := by rw [← hl]; exact nodup_len (ordOk_iff.1 hok).1 (ordOk_iff.1 hok).2
  obtain ⟨i0, hi, hz0, hz1, hz2⟩ := info_parts bool_info0
  have hmk := fun W => run_make_bools 65 4 i0 Try.underlying65 hi hz0 hz1 hz2 N (by omega) W
  have HR := hide hr
  have HL := hide hl
  have HOK := hide hok
  have HNN := hide hN
  clear hi hz0 hz1 hz2 h hN hok hr hl h5
  go_enter Try.func17, Try.ntmps17
  go_wp2_with fail
  refine HN.out.mono ?_
  rintro e w1 ⟨p, rfl, hT, hp, hB⟩
  have HB1 := hide hB
  have HT1 := hide hT
  have HPF := hide hp
  clear hT hp hB
  go_wp2_with fail
  have hS0 := Blk.new w1 4 (arb N fun (c : Nat) => (l.take 0).contains (c : Int))
  have e0 : (fun (c : Nat) => (l.take 0).contains (c : Int)) = fun _ => false := by funext c; simp
  rw [e0] at hS0
  have hF0 : Fr [w1.heap.size] w1 (w1.alloc (.cells (arb N fun _ => false) 4)) := (Fr.refl _ w1).alloc _
  have hwS : w.heap.size ≤ w1.heap.size := HB1.out.size
  have hTl : ∀ k ∈ p.bl, k < w1.heap.size := HT1.out.lt
  generalize w1.alloc (.cells (arb N fun _ => false) 4) = w2 at *
  generalize hSS : w1.heap.size = S at *
  have HSS := hide hSS
  have HTL := hide hTl
  rw [← e0] at hS0
  have HS0 := hide hS0
  have HF0 := hide hF0
  clear hS0 hF0 e0 hSS hmk hTl
  go_loopg [12] m (fun q v wr => ∃ k : Nat, k + q = m ∧ v = .int .i64 (k : Int) ∧ Blk wr S 4 (arb N fun (c : Nat) => (l.take k).contains (c : Int)) ∧ Fr [S] w1 wr)
  case atStart => exact ⟨0, by omega, rfl, HS0.out, HF0.out⟩
  case round =>
    obtain ⟨k, hk, rfl, hS, hF⟩ := hrel
    have HK := hide hk
    have hkm : k ≤ m := by omega
    have HS := hide hS
    have HF := hide hF
    clear hk hS hF
    by_cases hlt : k < m
    · have hkl : k < l.length := by rw [HL.out]; exact hlt
      obtain ⟨b, o, rfl, hblt, cl⟩ := HR.out.int k hkl HL.out
      have cl' : wr.cell? ⟨b, o + k, none⟩ = some (.int .i64 l[k]) := (World.cell?_of_block (HF.out.block b (by show b < w1.heap.size; rw [HSS.out]; omega) (by simp; omega))).trans ((HB1.out.cell (p := ⟨b, o + k, none⟩) hblt).trans cl)
      obtain ⟨x, hx⟩ : ∃ x, x = l[k] := ⟨_, rfl⟩
      rw [← hx] at cl'
      have HX := hide hx
      clear cl hx
      have hgood := (ordOk_take hkl (ordOk_prefix HOK.out)).1 (ordOk_prefix HOK.out)
      rw [← HX.out] at hgood
      obtain ⟨⟨hx0, hxN⟩, hxm⟩ := hgood
      obtain ⟨x, rfl⟩ := Int.eq_ofNat_of_zero_le hx0
      have hxN' : x < N := by omega
      have cs := HS.out.bool hxN'
      have hc : (l.take k).contains (x : Int) = false := by simpa using hxm
      rw [hc] at cs
      have fz := HS.out.frozen x
      have hdN : decide (N ≤ x) = false := by simp; omega
      clear hc hxm
      go_wp2_with fail
      go_roundg (m - (k + 1))
      case measure => have := HK.out; omega
      case rel =>
        have hs := HS.out.setBool x true
        rw [contains_snoc l k hkl x HX.out.symm] at hs
        exact ⟨k + 1, by omega, by go_num, hs, HF.out.setCell (p := ⟨S, x, none⟩) (.inl (by simp)) _⟩
    · have hkk : k = m := by omega
      subst hkk
      have hT2 := HT1.out.fr HF.out (fun b hb hm => by have := HTL.out b hb; rw [List.mem_singleton.1 hm] at this; omega)
      have hB2 : Below w.heap.size w wr := HB1.out.trans (HF.out.below (by simp; omega) HB1.out.size)
      have HT2 := hide hT2
      have HB2 := hide hB2
      obtain ⟨wo, rfl⟩ : ∃ wo : World, wo = wr := ⟨_, rfl⟩
      clear hT2 hB2 HS HF HK hlt hkm HT1 HS0 HF0
      go_wp2_with fail
      go_loopg [13] k (fun q v wr => ∃ j : Nat, j + q = k ∧ v = .int .i64 (j : Int) ∧ RT wr p W H (W * H) ((ordE l).take j) ∧ Below w.heap.size w wr ∧ ∀ i, i < j → wrp W H (ordE l) i = false)
      case atStart => exact ⟨0, by omega, rfl, HT2.out, HB2.out, fun i hi => by omega⟩
      case round =>
        obtain ⟨j, hj, rfl, hT, hB, hno⟩ := hrel
        have HJ := hide hj
        have hjm : j ≤ k := by omega
        have HT := hide hT
        have HB := hide hB
        have HNO := hide hno
        clear hj hT hB hno
        by_cases hlt : j < k
        · have hkl : j < l.length := by rw [HL.out]; exact hlt
          obtain ⟨b, o, rfl, hblt, cl⟩ := HR.out.int j hkl HL.out
          have cl' : wr.cell? ⟨b, o + j, none⟩ = some (.int .i64 l[j]) := (HB.out.cell (p := ⟨b, o + j, none⟩) hblt).trans cl
          obtain ⟨x, hx⟩ : ∃ x, x = l[j] := ⟨_, rfl⟩
          rw [← hx] at cl'
          have hgood := (ordOk_iff.1 HOK.out).2 l[j] (List.getElem_mem hkl)
          rw [← hx] at hgood
          have HX := hide hx
          clear cl hx
          obtain ⟨hx0, hxN⟩ := hgood
          obtain ⟨x, rfl⟩ := Int.eq_ofNat_of_zero_le hx0
          have hxN' : x < 2 * (W * H) := by rw [← HNN.out]; omega
          have hkl2 : j < (ordE l).length := by unfold ordE; rw [List.length_map]; exact hkl
          have hex : (ordE l)[j] = x := by
            have e : (ordE l)[j] = (l[j]).toNat := by simp [ordE]
            rw [e, ← HX.out]; rfl
          have htk : (ordE l).take (j + 1) = (ordE l).take j ++ [x] := by rw [List.take_succ_eq_append_getElem hkl2, hex]
          have c3 := HT.out.cells.2.2.2
          have cx := HT.out.hh.bool hxN'
          have fx := HT.out.hh.frozen x
          have hT3 := HT.out.put hxN'
          rw [← htk] at hT3
          have hB3 : Below w.heap.size w (wr.setCell ⟨p.b, x, none⟩ (.bool true)) := HB.out.setCell (p := ⟨p.b, x, none⟩) (HPF.out _ (by simp [RLoc.bl])) _
          have HT3 := hide hT3
          have HB3 := hide hB3
          have HNX : Hid (2 * (W * H) = N) := HNN.out.symm
          rw [← HNN.out] at c3
          clear hT3 hB3 htk hex hxN'
          have hxN' : x < N := by omega
          go_wp2_with fail
          go_region
          go_wp2_with fail
          refine (r30Wraps _ p W H (W * H) _ (HT3.out.drewN 1)).mono ?_
          rintro r w3 ⟨rfl, hb3⟩
          have HB4 := hide (((HB3.out.drewN 1)).trans (hb3.mono (HB3.out.drewN 1).size))
          have HT4 := hide ((HT3.out.drewN 1).fresh hb3)
          have hlE : (ordE l).length = k := by unfold ordE; rw [List.length_map]; exact HL.out
          have HLE := hide hlE
          clear hlE hb3 HT3 HB3 fx cx c3 cl'
          cases hx6 : anyB W H tX ((ordE l).take (j + 1))
          · cases hx7 : anyB W H tY ((ordE l).take (j + 1))
            · have HX6 := hide hx6
              have HX7 := hide hx7
              clear hx6 hx7
              go_wp2_with fail
              go_roundg (k - (j + 1))
              case measure => have := HJ.out; omega
              case rel =>
                refine ⟨j + 1, by omega, by go_num, HT4.out, HB4.out, fun i hi => ?_⟩
                by_cases e : i = j
                · subst e; unfold wrp; rw [HX6.out, HX7.out]; rfl
                · exact HNO.out i (by omega)
            · have hw : wrp W H (ordE l) j = true := by unfold wrp; rw [hx7, Bool.or_true]
              have hle := lead_some HNO.out hlt hw
              have hk1 : fstK W H (ordE l) = (j : Int) + 1 := by unfold fstK; rw [HLE.out, hle, if_pos hlt]
              have hk2 : fstB W H (ordE l) = true := by unfold fstB; rw [HLE.out, hle]; simpa using hlt
              have HK1 := hide hk1
              have HK2 := hide hk2
              clear hx6 hx7 hw hle hk1 hk2
              go_wp2_with fail
              go_ret3
              rw [HK1.out, HK2.out]
              exact ⟨rfl, HB4.out⟩
          · have hw : wrp W H (ordE l) j = true := by unfold wrp; rw [hx6, Bool.true_or]
            have hle := lead_some HNO.out hlt hw
            have hk1 : fstK W H (ordE l) = (j : Int) + 1 := by unfold fstK; rw [HLE.out, hle, if_pos hlt]
            have hk2 : fstB W H (ordE l) = true := by unfold fstB; rw [HLE.out, hle]; simpa using hlt
            have HK1 := hide hk1
            have HK2 := hide hk2
            clear hx6 hw hle hk1 hk2
            go_wp2_with fail
            go_ret3
            rw [HK1.out, HK2.out]
            exact ⟨rfl, HB4.out⟩
        · have hjk : j = k := by omega
          subst hjk
          have hlE : (ordE l).length = j := by unfold ordE; rw [List.length_map]; exact HL.out
          have hle := lead_none HNO.out
          have hk1 : fstK W H (ordE l) = 0 := by unfold fstK; rw [hlE, hle, if_neg (by omega)]
          have hk2 : fstB W H (ordE l) = false := by unfold fstB; rw [hlE, hle]; simp
          have HK1 := hide hk1
          have HK2 := hide hk2
          clear hlE hle hk1 hk2
          go_wp2_with fail
          go_ret3
          rw [HK1.out, HK2.out]
          exact ⟨rfl, HB.out⟩
end Go.Proofs.Ytnkkdoookhhhaaa
