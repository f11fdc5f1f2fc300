/- The walk of DsuPaths. -/
import Derived.Test.YtiijhppffboogaaDsuPaths
import Derived.Test.YtiijhppffboogaaDsuLabelsWalk
namespace Go.Proofs.Ytiijhppffboogaa
open Go.RowKit
set_option linter.unusedVariables false

theorem stepP_out1 {n : Nat} {f : Nat → Bool} {a b : Int} (h : inB n a = false) : stepP n f (a, b) = f := by simp [stepP, h]
theorem stepP_out2 {n : Nat} {f : Nat → Bool} {a b : Int} (h : inB n b = false) : stepP n f (a, b) = f := by simp [stepP, h]
theorem stepP_none {n : Nat} {f : Nat → Bool} {a b : Nat} (h : f a = false) (h' : f b = false) : stepP n f ((a : Int), (b : Int)) = f := by simp [stepP, h, h']
theorem stepP_both {n : Nat} {f : Nat → Bool} {a b : Nat} (ha : a < n) (hb : b < n) (h : f a = true ∨ f b = true) : stepP n f ((a : Int), (b : Int)) = updb (updb f a true) b true := by
  have : (f a || f b) = true := by simpa using h
  simp [stepP, inB_nat ha, inB_nat hb, this]

set_option maxRecDepth 100000 in
set_option maxHeartbeats 4000000 in
theorem dsuPaths_walk (a0 : Int) (v1 : Value) (l : List (Int × Int)) (a2 : Int) (W : World) (w0 : (Lit.int .i64 a0).wf = true) (w1 : IsPairs W v1 l) (w2 : (Lit.int .i64 a2).wf = true) :
    Calls Try.prog 3 #[.int .i64 a0, v1, .int .i64 a2] W fun e W' => e = .returned (.bool true) ∧ Below W.heap.size W W' := by
  have hp := w1
  obtain ⟨A, m, c, rfl, hm, hlen, hok, hr⟩ := w1
  have hm' : m ≤ 9223372036854775807 := by unfold maxLen at hm; omega
  have HP := hide hp
  have HR := hide hr
  have HLn := hide hlen
  clear hp hr hok hlen hm w0 w2
  by_cases hs : (0 ≤ a0 ∧ a0 ≤ 100 ∧ m ≤ 100 ∧ 0 ≤ a2 ∧ a2 < a0)
  · obtain ⟨n, rfl⟩ := Int.eq_ofNat_of_zero_le hs.1
    obtain ⟨s, rfl⟩ := Int.eq_ofNat_of_zero_le hs.2.2.2.1
    have hn : n ≤ 100 := by omega
    have hmm : m ≤ 100 := hs.2.2.1
    have hsn : s < n := by omega
    clear hs
    obtain ⟨i0, hi, hz0, hz1, hz2⟩ := info_parts bool_info0
    have hmk := fun W => run_make_bools 26 4 i0 Try.underlying26 hi hz0 hz1 hz2 n (by omega) W
    clear hi hz0 hz1 hz2
    have LAW := paths_law n l s hsn
    generalize hf0 : updb (fun _ => false) s true = f0 at *
    have HLAW := hide LAW
    have Hf0 := hide hf0
    clear LAW hf0
    go_enter Try.func3, Try.ntmps3
    go_wp2_with fail
    refine (united_ok _ n (by omega) _ l HP.out).mono ?_
    rintro e w1 ⟨p, rfl, hd1, hb1, hp1⟩
    generalize hL : foldU n l (fun i => i) = L at *
    have HL := hide hL
    clear hL
    have hk0 : Blk (w1.alloc (.cells (arb n fun _ => false) 4)) w1.heap.size 4 (arb n fun _ => false) := Blk.new _ _ _
    have cs := hk0.bool hsn
    have fs := hk0.frozen s
    have hlt := hd1.lt
    have hk1 : Blk (w1.alloc (.cells ((arb n fun _ => false).setIfInBounds s (.bool true)) 4)) w1.heap.size 4 (arb n f0) := by
      rw [arb_set, Hf0.out]; exact Blk.new _ _ _
    have hd2 : Dsu (w1.alloc (.cells ((arb n fun _ => false).setIfInBounds s (.bool true)) 4)) p n L := hd1.fr (S := []) ((Fr.refl _ _).alloc _) (by simp)
    have hb2 : Below W.heap.size W (w1.alloc (.cells ((arb n fun _ => false).setIfInBounds s (.bool true)) 4)) := hb1.alloc hb1.size _
    have HK1 := hide hk1
    have HD2 := hide hd2
    have HB2 := hide hb2
    have hgW := hb1.size
    clear hk1 hd2 hb2 hd1 hk0
    have t1 : decide ((n : Int) < 0) = false := by rw [decide_eq_false_iff_not]; omega
    have t2 : decide (100 < (n : Int)) = false := by rw [decide_eq_false_iff_not]; omega
    have t3 : decide (100 < (m : Int)) = false := by rw [decide_eq_false_iff_not]; omega
    have t4 : decide ((s : Int) < 0) = false := by rw [decide_eq_false_iff_not]; omega
    go_wp2_with fail
    generalize hg : w1.heap.size = g at *
    generalize w1.alloc (.cells ((arb n fun _ => false).setIfInBounds s (.bool true)) 4) = w2 at *
    have hgp : g ∉ [p.bu] := by simp; omega
    have hpS : p.g ∉ [g] ∧ p.bu ∉ [g] ∧ p.bl ∉ [g] ∧ p.bz ∉ [g] := by simp; omega
    clear hmk cs fs t1 t2 t3 t4
    go_loopg [9] n (fun q v wr => ∃ r : Nat, r + q = n ∧ v = .int .i64 (r : Int) ∧ Dsu wr p n L ∧ Blk wr g 4 (arb n (iterP n l f0 r)) ∧ Below W.heap.size W wr)
    case atStart => exact ⟨0, by omega, rfl, HD2.out, HK1.out, HB2.out⟩
    case round =>
      obtain ⟨r, hr, rfl, hd, hk, hb⟩ := hrel
      have HRr := hide hr
      have hrn : r ≤ n := by omega
      have HD := hide hd
      have HK := hide hk
      have HB := hide hb
      clear hr hd hk hb
      by_cases hlr : r < n
      · go_wp2_with fail
        go_loopg [10] m (fun q v wr => ∃ k : Nat, k + q = m ∧ v = .int .i64 (k : Int) ∧ Dsu wr p n L ∧ Blk wr g 4 (arb n (roundP n (l.take k) (iterP n l f0 r))) ∧ Below W.heap.size W wr)
        case atStart => exact ⟨0, by omega, rfl, HD.out, HK.out, HB.out⟩
        case round =>
          obtain ⟨k, hk, rfl, hd, hkb, hb⟩ := hrel
          have HKk := hide hk
          have hkm : k ≤ m := by omega
          clear hk HD HK HB
          by_cases hlk : k < m
          · obtain ⟨b, o, rfl, hblt, c0, c1⟩ := HR.out.pair k (by have := HLn.out; omega) HLn.out
            have hts : l.take (k + 1) = l.take k ++ [l[k]'(by have := HLn.out; omega)] := List.take_succ_eq_append_getElem (by have := HLn.out; omega)
            generalize l[k]'(by have := HLn.out; omega) = e at *
            obtain ⟨x, y⟩ := e
            have d0 : wr.cell? ⟨b, o + k * 2, none⟩ = some (.int .i64 x) := (hb.cell (p := ⟨b, o + k * 2, none⟩) hblt).trans c0
            have d1 : wr.cell? ⟨b, o + k * 2 + 1, none⟩ = some (.int .i64 y) := (hb.cell (p := ⟨b, o + k * 2 + 1, none⟩) hblt).trans c1
            have hrs : roundP n (l.take (k + 1)) (iterP n l f0 r) = stepP n (roundP n (l.take k) (iterP n l f0 r)) (x, y) := by rw [hts]; simp [roundP]
            generalize roundP n (l.take k) (iterP n l f0 r) = f at *
            have HRS := hide hrs
            have HD := hide hd
            have HB := hide hb
            have HKB := hide hkb
            clear hts hrs hd hb hkb c0 c1
            cases hx : inB n x
            · have hx' : x < 0 ∨ (n : Int) ≤ x := by simp [inB] at hx; omega
              have HX := hide hx
              clear hx
              rcases hx' with hx' | hx'
              · go_wp2_with fail
                go_roundg (m - (k + 1))
                case measure => have := HKk.out; omega
                case rel => exact ⟨k + 1, by omega, by go_num, HD.out, by rw [HRS.out, stepP_out1 HX.out]; exact HKB.out, HB.out⟩
              · go_wp2_with fail
                go_roundg (m - (k + 1))
                case measure => have := HKk.out; omega
                case rel => exact ⟨k + 1, by omega, by go_num, HD.out, by rw [HRS.out, stepP_out1 HX.out]; exact HKB.out, HB.out⟩
            · have hx' : 0 ≤ x ∧ x < n := by simpa [inB] using hx
              clear hx
              cases hy : inB n y
              · have hy' : y < 0 ∨ (n : Int) ≤ y := by simp [inB] at hy; omega
                have HY := hide hy
                clear hy
                rcases hy' with hy' | hy'
                · go_wp2_with fail
                  go_roundg (m - (k + 1))
                  case measure => have := HKk.out; omega
                  case rel => exact ⟨k + 1, by omega, by go_num, HD.out, by rw [HRS.out, stepP_out2 HY.out]; exact HKB.out, HB.out⟩
                · go_wp2_with fail
                  go_roundg (m - (k + 1))
                  case measure => have := HKk.out; omega
                  case rel => exact ⟨k + 1, by omega, by go_num, HD.out, by rw [HRS.out, stepP_out2 HY.out]; exact HKB.out, HB.out⟩
              · have hy' : 0 ≤ y ∧ y < n := by simpa [inB] using hy
                clear hy
                obtain ⟨x, rfl⟩ := Int.eq_ofNat_of_zero_le hx'.1
                obtain ⟨y, rfl⟩ := Int.eq_ofNat_of_zero_le hy'.1
                have hxn : x < n := by omega
                have hyn : y < n := by omega
                clear hx' hy'
                have ca := HKB.out.bool hxn
                have cb := HKB.out.bool hyn
                have fa := HKB.out.frozen x
                have fb := HKB.out.frozen y
                have hk2 := HKB.out.setBool x true
                have cb2 := hk2.bool hyn
                have fb2 := hk2.frozen y
                have hk3 := hk2.setBool y true
                have HK3 := hide hk3
                have hd3 := HD.out.fr (((Fr.refl [g] _).setCell (p := ⟨g, x, none⟩) (.inl (by simp)) (.bool true)).setCell (p := ⟨g, y, none⟩) (.inl (by simp)) (.bool true)) hpS
                have hb3 := (HB.out.setCell (p := ⟨g, x, none⟩) hgW (.bool true)).setCell (p := ⟨g, y, none⟩) hgW (.bool true)
                have HD3 := hide hd3
                have HB3 := hide hb3
                clear hk2 hk3 hd3 hb3
                cases hfa : f x
                · rw [hfa] at ca
                  cases hfb : f y
                  · rw [hfb] at cb
                    have HF := hide (And.intro hfa hfb)
                    clear hfa hfb
                    go_wp2_with fail
                    go_roundg (m - (k + 1))
                    case measure => have := HKk.out; omega
                    case rel => exact ⟨k + 1, by omega, by go_num, HD.out, by rw [HRS.out, stepP_none HF.out.1 HF.out.2]; exact HKB.out, HB.out⟩
                  · rw [hfb] at cb
                    have HF := hide hfb
                    clear hfa hfb
                    go_wp2_with fail
                    go_roundg (m - (k + 1))
                    case measure => have := HKk.out; omega
                    case rel => exact ⟨k + 1, by omega, by go_num, HD3.out, by rw [HRS.out, stepP_both hxn hyn (.inr HF.out)]; exact HK3.out, HB3.out⟩
                · rw [hfa] at ca
                  have HF := hide hfa
                  clear hfa
                  go_wp2_with fail
                  go_roundg (m - (k + 1))
                  case measure => have := HKk.out; omega
                  case rel => exact ⟨k + 1, by omega, by go_num, HD3.out, by rw [HRS.out, stepP_both hxn hyn (.inl HF.out)]; exact HK3.out, HB3.out⟩
          · have hkk : k = m := by omega
            subst hkk
            rw [List.take_of_length_le (by have := HLn.out; omega)] at hkb
            have HD := hide hd
            have HB := hide hb
            have HKB := hide hkb
            clear hd hb hkb
            go_wp2_with fail
            go_roundg (n - (r + 1))
            case measure => have := HRr.out; omega
            case rel => exact ⟨r + 1, by omega, by go_num, HD.out, HKB.out, HB.out⟩
      · have hrr : r = n := by omega
        subst hrr
        have LW := HLAW.out
        have hcl : sizeV r L (s : Int) = (cnt (iterP r l f0 r) r : Int) := by
          simp only [sizeV, inB_nat hsn, if_true, Int.toNat_natCast, cls]
          congr 1
          refine cnt_congr fun i hi => ?_
          rw [LW i hi, Bool.eq_iff_iff, beq_iff_eq, beq_iff_eq]
          exact eq_comm
        generalize iterP r l f0 r = F at *
        have HCL := hide hcl
        have HLW := hide LW
        have HD0 := hide HD.out
        have HK0 := hide HK.out
        have HB0 := hide HB.out
        clear hcl LW HD HK HB HLAW
        go_wp2_with fail
        go_loopg [13, 14] r (fun q z v wr => ∃ k : Nat, k + q = r ∧ z = .int .i64 (cnt F k : Int) ∧ v = .int .i64 (k : Int) ∧ Dsu wr p r L ∧ Blk wr g 4 (arb r F) ∧ Below W.heap.size W wr)
        case atStart => exact ⟨0, by omega, rfl, rfl, HD0.out, HK0.out, HB0.out⟩
        case round =>
          obtain ⟨k, hk, rfl, rfl, hd, hkb, hb⟩ := hrel
          have HKk := hide hk
          have hkm : k ≤ r := by omega
          clear hk HD0 HK0 HB0
          have hcn := cnt_le F k
          by_cases hlk : k < r
          · have cF := hkb.bool hlk
            have HD := hide hd
            have HB := hide hb
            have HKB := hide hkb
            clear hd hb hkb
            have e1 := HLW.out k hlk
            have SM := fun W h => dsuSame_eq W s k p r L h hsn hlk _ rfl
            rw [← e1] at SM
            have hc1 : cnt F (k + 1) = cnt F k + if F k then 1 else 0 := rfl
            generalize hβ : F k = β at *
            have HBe := hide hβ
            clear hβ
            generalize cnt F k = N at *
            have HC1 := hide hc1
            have HS := hide SM
            clear SM e1 hc1
            cases β
            · go_wp2_with fail
              go_region_held3 (fun w' => w'.cell? ⟨g, k, none⟩ = some (.bool false))
                (first | exact cF | exact (hk5.bool hlk).trans (by rw [HBe.out]))
                (first | (go_at_call 13; refine (HS.out _ (HD.out.drewN 1)).mono ?_; rintro e w5 ⟨rfl, hd5, hf5⟩; have hk5 := (HKB.out.drewN 1).fr hf5 hgp; have hb5 := hf5.lift (HB.out.drewN 1) (by simpa using hp1.2.1) HB.out.size))
              go_wp2_with fail
              go_roundg (r - (k + 1))
              case measure => have := HKk.out; omega
              case rel => exact ⟨k + 1, by omega, by rw [HC1.out]; go_num, by go_num, hd5, hk5, hb5⟩
            · go_wp2_with fail
              go_region_held3 (fun w' => w'.cell? ⟨g, k, none⟩ = some (.bool true))
                (first | exact cF | exact (hk5.bool hlk).trans (by rw [HBe.out]))
                (first | (go_at_call 13; refine (HS.out _ (HD.out.drewN 1)).mono ?_; rintro e w5 ⟨rfl, hd5, hf5⟩; have hk5 := (HKB.out.drewN 1).fr hf5 hgp; have hb5 := hf5.lift (HB.out.drewN 1) (by simpa using hp1.2.1) HB.out.size))
              go_wp2_with fail
              go_roundg (r - (k + 1))
              case measure => have := HKk.out; omega
              case rel => exact ⟨k + 1, by omega, by rw [HC1.out]; go_num, by go_num, hd5, hk5, hb5⟩
          · have hkk : k = r := by omega
            subst hkk
            have HD := hide hd
            have HB := hide hb
            clear hd hb hkb
            have SZ := fun W h => dsuSize W (s : Int) p k L h
            rw [HCL.out] at SZ
            have HS := hide SZ
            clear SZ
            generalize cnt F k = N at *
            go_wp2_with fail
            refine (HS.out _ HD.out).mono ?_
            rintro e w5 ⟨rfl, hd5, hf5⟩
            have hb5 := hf5.lift HB.out (by simpa using hp1.2.1) HB.out.size
            go_wp2_with fail
            refine (works8 _).mono ?_
            rintro e w6 ⟨rfl, hb6⟩
            go_wp2_with fail
            go_ret
            exact ⟨rfl, hb5.trans (hb6.mono hb5.size)⟩
  · have hs' : a0 < 0 ∨ (0 ≤ a0 ∧ 100 < a0) ∨ (0 ≤ a0 ∧ a0 ≤ 100 ∧ 100 < (m : Int)) ∨ (0 ≤ a0 ∧ a0 ≤ 100 ∧ (m : Int) ≤ 100 ∧ a2 < 0) ∨ (0 ≤ a0 ∧ a0 ≤ 100 ∧ (m : Int) ≤ 100 ∧ 0 ≤ a2 ∧ a0 ≤ a2) := by omega
    clear hs
    rcases hs' with h | ⟨h, h1⟩ | ⟨h, h1, h2⟩ | ⟨h, h1, h2, h3⟩ | ⟨h, h1, h2, h3, h4⟩
    all_goals
      go_enter Try.func3, Try.ntmps3
      go_wp2_with fail
      refine (works8 _).mono ?_
      rintro e w1 ⟨rfl, hb⟩
      go_wp2_with fail
      go_ret
      exact ⟨rfl, hb⟩
end Go.Proofs.Ytiijhppffboogaa
