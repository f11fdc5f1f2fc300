/- The walk of GraphKnown. -/
import Derived.Test.YtpgkhmjlbaoagaaGraWk
import Derived.Test.YtpgkhmjlbaoagaaGraCl
import Derived.Test.YtpgkhmjlbaoagaaGraUn
import Derived.Test.YtpgkhmjlbaoagaaGraKm
import Derived.Test.YtpgkhmjlbaoagaaR13Z
namespace Go.Proofs.Ytpgkhmjlbaoagaa
open Go.RowKit
set_option linter.unusedVariables false

theorem ex_lb : ((List.range 4).map fun i => ((gLb 4 exL i : Nat) : Int)) = [0, 0, 0, 3] := by decide
theorem ex_und : undL exL 3 = [(1, 2, 3), (1, 0, -2)] := by decide
theorem ex_und2 : undL exL (-3) = [] := by decide
theorem row_un2 : gRow 4 (gLb 4 []) = .agg #[.int .i64 1, .int .i64 4, .int .i64 4] := by
  have h1 : lrg 4 (gLb 4 []) = 1 := by decide
  have h2 : sets 4 (gLb 4 []) = 4 := by decide
  have h3 : sq 4 (gLb 4 []) = 4 := by decide
  unfold gRow; rw [h1, h2, h3]; rfl

theorem row_big : gRow 4096 (gLb 4096 (bigL 16384)) = .agg #[.int .i64 4096, .int .i64 1, .int .i64 16777216] := by
  unfold gRow; rw [big_lrg, big_sets, big_sq]; rfl
theorem row_none : gRow 0 (gLb 0 []) = .agg #[.int .i64 0, .int .i64 0, .int .i64 0] := by
  have h1 : lrg 0 (gLb 0 []) = 0 := by decide
  have h2 : sets 0 (gLb 0 []) = 0 := by decide
  have h3 : sq 0 (gLb 0 []) = 0 := by decide
  unfold gRow; rw [h1, h2, h3]; rfl

set_option maxRecDepth 100000 in
set_option maxHeartbeats 8000000 in
theorem graphKnown_walk (w : World) : Calls Try.prog 11 #[] w fun e w' => e = .returned (.bool true) ∧ Below w.heap.size w w' := by
  have HX := hide (example_any w)
  go_enter Try.func11, Try.ntmps11
  go_wp2_with fail
  refine HX.out.mono ?_
  rintro e w1 ⟨A, c, rfl, hr, hb1⟩
  have HN := hide (graNew_ok w1 4 3 c A exL hr rfl newE_ex)
  have HB1 := hide hb1
  clear hr hb1 HX
  go_wp2_with fail
  refine HN.out.mono ?_
  rintro e w2 ⟨p, rfl, hG, hb2⟩
  have HB2 := hide (HB1.out.trans (hb2.mono HB1.out.size))
  have HG2 := hide hG
  have HL := hide (graLabels w2 p 4 _ exL hG)
  clear hb2 hG HN
  go_wp2_with fail
  refine HL.out.mono ?_
  rintro e w3 ⟨b, rfl, hb, hbb, hb3⟩
  have hR3 : Rd w3 (some ⟨b, 0, none⟩) 4 1 (is [0, 0, 0, 3]) := by rw [← ex_lb, ← arr_is]; exact hb.rd 4 1 (by simp [arr_size])
  have HB3 := hide (HB2.out.trans (hb3.mono HB2.out.size))
  have HG3 := hide (HG2.out.fresh hb3)
  have HR3 := hide hR3
  clear hb hbb hb3 hR3 HL HG2
  go_wp2_with fail
  refine (numbers_true _ _ 4 4 4 [0, 0, 0, 3] _ (HR3.out.alloc _) (Rd.lit w3 _ _ 4 1 rfl) rfl (by decide)).mono ?_
  rintro e w4 ⟨rfl, k4, hw4⟩
  have hb4 : Below w3.heap.size w3 w4 := by rw [hw4]; exact ((Below.refl _ _).alloc (Nat.le_refl _) _).drewN k4
  have HB4 := hide (HB3.out.trans (hb4.mono HB3.out.size))
  have HG4 := hide (HG3.out.fresh hb4)
  clear hb4 hw4 HR3 HB3 HG3
  go_wp2_with fail
  refine (graUnder w4 3 p 4 _ exL HG4.out).mono ?_
  rw [ex_und]
  rintro e w5 ⟨qa, rfl, hQ, hb5⟩
  have HB5 := hide (HB4.out.trans (hb5.mono HB4.out.size))
  have HG5 := hide (HG4.out.fresh hb5)
  have HA5 := hide hQ
  clear hb5 hQ
  go_wp2_with fail
  refine (graUnder w5 (-3) p 4 _ exL HG5.out).mono ?_
  rw [ex_und2]
  rintro e w6 ⟨qb, rfl, hQ, hb6⟩
  have HB6 := hide (HB5.out.trans (hb6.mono HB5.out.size))
  have HA6 := hide (HA5.out.fresh hb6)
  have HQ6 := hide hQ
  clear hb6 hQ
  go_wp2_with fail
  refine (graEdges w6 qa 4 _ _ HA6.out).mono ?_
  rintro e w7 ⟨A7, c7, rfl, hO, hb7⟩
  have HB7 := hide (HB6.out.trans (hb7.mono HB6.out.size))
  have HQ7 := hide (HQ6.out.fresh hb7)
  have hR7 : Rd w7 A7 2 3 (ecs [(1, 2, 3), (1, 0, -2)]) := by
    obtain ⟨A', c', e1, hrd⟩ := hO.form
    injection e1 with e1 _ _
    subst e1
    exact hrd
  have HR7 := hide hR7
  clear hO hb7 hR7
  go_wp2_with fail
  refine (edges_true _ _ 2 c7 2 [(1, 2, 3), (1, 0, -2)] _ (HR7.out.alloc _) (Rd.lit w7 _ _ 2 3 rfl) rfl (by decide)).mono ?_
  rintro e w8 ⟨rfl, k8, hw8⟩
  have hb8 : Below w7.heap.size w7 w8 := by rw [hw8]; exact ((Below.refl _ _).alloc (Nat.le_refl _) _).drewN k8
  have HB8 := hide (HB7.out.trans (hb8.mono HB7.out.size))
  have HQ8 := hide (HQ7.out.fresh hb8)
  clear hb8 hw8 HR7 HB7 HQ7
  have hRo := graRow w8 qb 4 _ _ HQ8.out
  rw [row_un2] at hRo
  have HRo := hide hRo
  clear hRo
  go_wp2_with fail
  refine HRo.out.mono ?_
  rintro e w9 ⟨rfl, hb9⟩
  have HB9 := hide (HB8.out.trans (hb9.mono HB8.out.size))
  clear hb9 HRo HQ8 HB8
  have hrow := row_neq13 1 4 4
  go_wp2_with fail
  have hN := graNew_no (w9.alloc (.cells #[.int .i64 0, .int .i64 0, .int .i64 1] 48)) 2 1 1 (some ⟨w9.heap.size, 0, none⟩) [(0, 0, 1)] (Rd.lit w9 _ _ 1 3 rfl) rfl (by decide) (by decide)
  rw [show newE 2 [(0, 0, 1)] = 9 by decide] at hN
  have HN10 := hide hN
  clear hN
  refine HN10.out.mono ?_
  rintro e w10 ⟨rfl, hb⟩
  have HB10 := hide ((HB9.out.alloc HB9.out.size _).trans (hb.mono (by have := HB9.out.size; simp; omega)))
  clear hb HN10
  go_wp2_with fail
  have hN := graNew_no (w10.alloc (.cells #[.int .i64 0, .int .i64 2, .int .i64 1, .int .i64 1, .int .i64 1, .int .i64 1] 48)) 2 2 2 (some ⟨w10.heap.size, 0, none⟩) [(0, 2, 1), (1, 1, 1)] (Rd.lit w10 _ _ 2 3 rfl) rfl (by decide) (by decide)
  rw [show newE 2 [(0, 2, 1), (1, 1, 1)] = 3 by decide] at hN
  have HN11 := hide hN
  clear hN
  refine HN11.out.mono ?_
  rintro e w11 ⟨rfl, hb⟩
  have HB11 := hide ((HB10.out.alloc HB10.out.size _).trans (hb.mono (by have := HB10.out.size; simp; omega)))
  clear hb HN11
  go_wp2_with fail
  have hN := graNew_no (w11.alloc (.cells #[.int .i64 1, .int .i64 1, .int .i64 1, .int .i64 0, .int .i64 2, .int .i64 1] 48)) 2 2 2 (some ⟨w11.heap.size, 0, none⟩) [(1, 1, 1), (0, 2, 1)] (Rd.lit w11 _ _ 2 3 rfl) rfl (by decide) (by decide)
  rw [show newE 2 [(1, 1, 1), (0, 2, 1)] = 9 by decide] at hN
  have HN12 := hide hN
  clear hN
  refine HN12.out.mono ?_
  rintro e w12 ⟨rfl, hb⟩
  have HB12 := hide ((HB11.out.alloc HB11.out.size _).trans (hb.mono (by have := HB11.out.size; simp; omega)))
  clear hb HN12
  obtain ⟨C0, hC0, hmk⟩ : ∃ C0 : Array Value, C0 = ari (16385 * 3) (fK 0) ∧ ∀ w, (Instr.makeSlice 22 (.int .i64 16385) (.int .i64 16385)).run Try.prog w = .ok (.slice (some ⟨w.heap.size, 0, none⟩) 16385 16385) (w.alloc (.cells C0 48)) :=
    ⟨_, rfl, fun w => by rw [fK_zero]; exact run_make_edges 16385 (by omega) w⟩
  have HC0 := hide hC0
  clear hC0
  have hB0 : Blk (w12.alloc (.cells C0 48)) w12.heap.size 48 (ari (16385 * 3) (fK 0)) := by rw [← HC0.out]; exact Blk.new _ _ _
  have HBK := hide hB0
  have HBB := hide (HB12.out.alloc HB12.out.size (.cells C0 48))
  have hmb := HB12.out.size
  clear hB0
  go_wp2_with fail
  generalize w12.alloc (.cells C0 48) = w13 at *
  generalize w12.heap.size = mb at *
  clear hmk
  go_loopg [12] 16385 (fun q v wr => ∃ k : Nat, k + q = 16385 ∧ v = .int .i64 (k : Int) ∧ Blk wr mb 48 (ari (16385 * 3) (fK k)) ∧ Below w.heap.size w wr)
  case atStart => exact ⟨0, by omega, rfl, HBK.out, HBB.out⟩
  case round =>
    obtain ⟨k, hk, rfl, hB, hb⟩ := hrel
    have HK := hide hk
    have HBW := hide hB
    have HB := hide hb
    have hkm : k ≤ 16385 := by omega
    clear hk hb HBK HBB
    by_cases hlt : k < 16385
    · have d0 := hB.inti (i := k * 3) (by omega)
      have d1 := hB.inti (i := k * 3 + 1) (by omega)
      have d2 := hB.inti (i := k * 3 + 2) (by omega)
      have f0 := hB.frozen (k * 3)
      have f1 := hB.frozen (k * 3 + 1)
      have f2 := hB.frozen (k * 3 + 2)
      have hset := ((hB.setInti (k * 3) ((k % 4096 : Nat) : Int)).setInti (k * 3 + 1) (((k + 1) % 4096 : Nat) : Int)).setInti (k * 3 + 2) 9223372036854775807
      rw [fK_step] at hset
      have m1 : ((k % 4096 : Nat) : Int) = (k : Int) % 4096 := by omega
      have m2 : (((k + 1) % 4096 : Nat) : Int) = ((k : Int) + 1) % 4096 := by omega
      rw [m1, m2] at hset
      have HSET := hide hset
      clear hB hset m1 m2
      generalize fK k (k * 3) = x0 at *
      generalize fK k (k * 3 + 1) = x1 at *
      generalize fK k (k * 3 + 2) = x2 at *
      go_wp2_with fail
      go_roundg (16385 - (k + 1))
      case measure => have := HK.out; omega
      case rel => exact ⟨k + 1, by omega, by go_num, HSET.out, ((HB.out.setCell (p := ⟨mb, k * 3, none⟩) hmb _).setCell (p := ⟨mb, k * 3 + 1, none⟩) hmb _).setCell (p := ⟨mb, k * 3 + 2, none⟩) hmb _⟩
    · obtain rfl : k = 16385 := by omega
      have hrd : Rd wr (some ⟨mb, 0, none⟩) 16385 3 (ecs (bigL 16385)) := by rw [← fK_full]; exact hB.rd 16385 3 (by rw [ari_size])
      have hrd2 := rd_take3 (k := 16384) hrd (bigL_len _) (by omega)
      rw [bigL_take (by omega)] at hrd2
      have HRD := hide hrd
      have hN := graNew_ok wr 4096 16384 16385 (some ⟨mb, 0, none⟩) (bigL 16384) hrd2 (bigL_len _) big_E
      have HN := hide hN
      clear hB hrd hrd2 hN HBW HK hlt hkm
      go_wp2_with fail
      refine HN.out.mono ?_
      rintro e w14 ⟨P, rfl, hG, hb⟩
      have HB14 := hide (HB.out.trans (hb.mono HB.out.size))
      have hN := graNew_no w14 4096 16385 16385 (some ⟨mb, 0, none⟩) (bigL 16385) (HRD.out.below hb) (bigL_len _) (by omega) (by rw [show newE 4096 (bigL 16385) = 2 from big_E2]; decide)
      rw [show newE 4096 (bigL 16385) = 2 from big_E2] at hN
      have HN2 := hide hN
      have HG14 := hide hG
      clear hG hb hN HN HRD
      go_wp2_with fail
      refine HN2.out.mono ?_
      rintro e w15 ⟨rfl, hb⟩
      have HB15 := hide (HB14.out.trans (hb.mono HB14.out.size))
      have HG15 := hide (HG14.out.fresh hb)
      have hN := graNew_no w15 4097 0 0 none [] Rd.nil rfl (by omega) (by decide)
      rw [show newE 4097 [] = 2 by decide] at hN
      have HN3 := hide hN
      clear hb hN HN2
      go_wp2_with fail
      refine HN3.out.mono ?_
      rintro e w16 ⟨rfl, hb⟩
      have HB16 := hide (HB15.out.trans (hb.mono HB15.out.size))
      have HG16 := hide (HG15.out.fresh hb)
      have hN := graNew_no w16 (-1) 0 0 none [] Rd.nil rfl (by omega) (by decide)
      rw [show newE (-1) [] = 2 by decide] at hN
      have HN4 := hide hN
      clear hb hN HN3
      go_wp2_with fail
      refine HN4.out.mono ?_
      rintro e w17 ⟨rfl, hb⟩
      have HB17 := hide (HB16.out.trans (hb.mono HB16.out.size))
      have HG17 := hide (HG16.out.fresh hb)
      have hS := graStrength w17 5 P 4096 _ _ HG17.out (bigL_w _)
      rw [big_strE] at hS
      generalize strV 4096 (bigL 16384) 5 = sv at *
      have HS := hide hS
      clear hb HN4 hS
      go_wp2_with fail
      refine HS.out.mono ?_
      rintro e w18 ⟨rfl, hb⟩
      have HB18 := hide (HB17.out.trans (hb.mono HB17.out.size))
      have HG18 := hide (HG17.out.fresh hb)
      have hS := graStrength w18 4096 P 4096 _ _ HG18.out (bigL_w _)
      rw [big_strE2] at hS
      generalize strV 4096 (bigL 16384) 4096 = sv2 at *
      have HS2 := hide hS
      clear hb HS hS
      go_wp2_with fail
      refine HS2.out.mono ?_
      rintro e w19 ⟨rfl, hb⟩
      have HB19 := hide (HB18.out.trans (hb.mono HB18.out.size))
      have HG19 := hide (HG18.out.fresh hb)
      have HN5 := hide (graNew_ok w19 0 0 0 none [] Rd.nil rfl (by decide))
      clear hb HS2
      go_wp2_with fail
      refine HN5.out.mono ?_
      rintro e w20 ⟨P0, rfl, hG, hb⟩
      have HB20 := hide (HB19.out.trans (hb.mono HB19.out.size))
      have HG20 := hide (HG19.out.fresh hb)
      have HE20 := hide hG
      have hD := graDegree w20 0 P 4096 _ _ HG20.out
      rw [big_deg] at hD
      have HD := hide hD
      clear hb hG hD HN5
      go_wp2_with fail
      refine HD.out.mono ?_
      rintro e w21 ⟨rfl, k21, hw21⟩
      have hb : Below w20.heap.size w20 w21 := by rw [hw21]; exact (Below.refl _ _).drewN k21
      have HB21 := hide (HB20.out.trans (hb.mono HB20.out.size))
      have HG21 := hide (HG20.out.fresh hb)
      have HE21 := hide (HE20.out.fresh hb)
      have hR := graRow w21 P 4096 _ _ HG21.out
      rw [row_big] at hR
      have HR := hide hR
      clear hb hw21 hR HD
      go_wp2_with fail
      refine HR.out.mono ?_
      rintro e w22 ⟨rfl, hb⟩
      have HB22 := hide (HB21.out.trans (hb.mono HB21.out.size))
      have HE22 := hide (HE21.out.fresh hb)
      have hR := graRow w22 P0 0 _ _ HE22.out
      rw [row_none] at hR
      have HR2 := hide hR
      clear hb hR HR
      go_wp2_with fail
      refine HR2.out.mono ?_
      rintro e w23 ⟨rfl, hb⟩
      have HB23 := hide (HB22.out.trans (hb.mono HB22.out.size))
      clear hb HR2
      go_wp2_with fail
      refine (works13 _).mono ?_
      rintro e w24 ⟨rfl, hb⟩
      have HB24 := hide (HB23.out.trans (hb.mono HB23.out.size))
      clear hb
      go_wp2_with fail
      go_ret
      exact ⟨rfl, HB24.out⟩
end Go.Proofs.Ytpgkhmjlbaoagaa
