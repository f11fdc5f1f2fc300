/- seepagelaw13: example, works. -/
import Derived.Test.YtpgkhmjlbaoagaaGraEq
import Derived.Test.YtpgkhmjlbaoagaaGraSt
import Derived.Test.YtpgkhmjlbaoagaaGraDw
import Derived.Test.YtpgkhmjlbaoagaaGraR
import Derived.Test.YtpgkhmjlbaoagaaGraB
namespace Go.Proofs.Ytpgkhmjlbaoagaa
open Go.RowKit
set_option linter.unusedVariables false

def exL : List (Int × Int × Int) := [(0, 1, 5), (1, 2, 3), (1, 0, -2)]
theorem exL_ok : GOk 4 exL := by
  intro e he
  simp only [exL, List.mem_cons, List.not_mem_nil, or_false] at he
  rcases he with rfl | rfl | rfl <;> decide
theorem exL_w : WOk exL := by
  intro e he
  simp only [exL, List.mem_cons, List.not_mem_nil, or_false] at he
  rcases he with rfl | rfl | rfl <;> decide
theorem example_any (w : World) : Calls Try.prog 41 #[] w fun e w' => ∃ A c, e = .returned (.slice A 3 c) ∧ Rd w' A 3 3 (ecs exL) ∧ Below w.heap.size w w' := by
  go_enter Try.func41, Try.ntmps41
  go_wp2
  go_ret
  exact ⟨_, _, rfl, Rd.lit w _ _ 3 3 rfl, (Below.refl _ _).alloc (Nat.le_refl _) _⟩
theorem ex_str : strV 4 exL 1 = 6 ∧ strE 4 exL 1 = 0 := by decide
theorem ex_deg : gdeg 4 exL 1 = 3 := by decide
theorem ex_arn : (arnd 4 exL 1).take ((9 : Int).toNat) = [(0, 0), (1, 2), (2, 0)] := by decide
theorem ex_row : gRow 4 (gLb 4 exL) = .agg #[.int .i64 3, .int .i64 2, .int .i64 10] := by
  have h1 : lrg 4 (gLb 4 exL) = 3 := by decide
  have h2 : sets 4 (gLb 4 exL) = 2 := by decide
  have h3 : sq 4 (gLb 4 exL) = 10 := by decide
  unfold gRow; rw [h1, h2, h3]; rfl
def exD : Nat → Int := fun i => if i = 0 then 2 else if i = 1 then 1 else if i = 2 then 0 else -1
theorem exD_is : IsDist 4 exL 2 exD :=
  ⟨⟨exL_ok, by decide, rfl, by decide, by decide, by decide⟩, by decide⟩
theorem ex_dist {D : Nat → Int} (h : IsDist 4 exL 2 D) : (ari 4 D).toList = is [2, 1, 0, -1] := by
  have e : ari 4 D = ari 4 exD := ari_congr fun i hi => h.uniq exD_is i hi
  rw [e]; rfl
theorem newE_ex : newE ((4 : Nat) : Int) exL = 0 := by decide
set_option maxRecDepth 100000 in
set_option maxHeartbeats 4000000 in
theorem works13 (w : World) : Calls Try.prog 13 #[] w fun e w' => e = .returned (.bool true) ∧ Below w.heap.size w w' := by
  have HX := hide (example_any w)
  go_enter Try.func13, Try.ntmps13
  go_wp2_with fail
  refine HX.out.mono ?_
  rintro e w1 ⟨A, c, rfl, hr, hb1⟩
  have HN := hide (graNew_ok w1 4 3 c A exL hr rfl newE_ex)
  have HB1 := hide hb1
  clear hr hb1 HX
  go_wp2_with fail
  refine HN.out.mono ?_
  rintro e w2 ⟨p, rfl, hG, hb2⟩
  have HB2 := hide (HB1.out.trans (hb2.mono HB1.out.size))
  have HG2 := hide hG
  have hS := graStrength w2 1 p 4 w1.heap.size exL hG exL_w
  rw [ex_str.1, ex_str.2] at hS
  have HS := hide hS
  clear hb2 hG hS HN
  go_wp2_with fail
  refine HS.out.mono ?_
  rintro e w3 ⟨rfl, hb3⟩
  have HB3 := hide (HB2.out.trans (hb3.mono HB2.out.size))
  have HG3 := hide (HG2.out.fresh hb3)
  have hD := graDegree w3 1 p 4 w1.heap.size exL HG3.out
  rw [ex_deg] at hD
  have HD := hide hD
  clear hb3 hD HS
  go_wp2_with fail
  refine HD.out.mono ?_
  rintro e w4 ⟨rfl, k4, rfl⟩
  have HDi := hide (graDist (w3.drewN k4) 2 p 4 w1.heap.size exL (HG3.out.drewN k4) (by decide))
  clear HD
  go_wp2_with fail
  refine HDi.out.mono ?_
  rintro e w5 ⟨b, D, rfl, hd, hA, hbb, hb5⟩
  have HB5 := hide ((HB3.out.drewN k4).trans (hb5.mono (HB3.out.drewN k4).size))
  have HG5 := hide ((HG3.out.drewN k4).fresh hb5)
  have hR5 : Rd w5 (some ⟨b, 0, none⟩) 4 1 (is [2, 1, 0, -1]) := by rw [← ex_dist hd]; exact hA.rd 4 1 (by simp [ari_size])
  have HR5 := hide hR5
  clear hd hA hb5 hR5 HDi
  go_wp2_with fail
  refine (numbers_true _ _ 4 4 4 [2, 1, 0, -1] _ (HR5.out.alloc _) (Rd.lit w5 _ _ 4 1 rfl) rfl (by decide)).mono ?_
  rintro e w6 ⟨rfl, k6, rfl⟩
  have hb6 : Below w5.heap.size w5 ((w5.alloc (.cells #[.int .i64 2, .int .i64 1, .int .i64 0, .int .i64 (-1)] 3)).drewN k6) := ((Below.refl _ _).alloc (Nat.le_refl _) _).drewN k6
  have HB6 := hide (HB5.out.trans (hb6.mono HB5.out.size))
  have HG6 := hide (HG5.out.fresh hb6)
  have hRo := graRow _ p 4 w1.heap.size exL HG6.out
  rw [ex_row] at hRo
  have HRo := hide hRo
  clear hb6 hRo
  go_wp2_with fail
  refine HRo.out.mono ?_
  rintro e w7 ⟨rfl, hb7⟩
  have HB7 := hide (HB6.out.trans (hb7.mono HB6.out.size))
  have HG7 := hide (HG6.out.fresh hb7)
  have hAr := around_ok w7 p 4 w1.heap.size exL 1 9 HG7.out
  rw [ex_arn] at hAr
  have HAr := hide hAr
  clear hb7 hAr HRo
  go_wp2_with fail
  refine HAr.out.mono ?_
  rintro e w8 ⟨V, rfl, hV, hb8⟩
  have HB8 := hide (HB7.out.trans (hb8.mono HB7.out.size))
  obtain ⟨A8, c8, rfl, hR8, -⟩ := own_form hV
  have HR8 := hide hR8
  clear hV hb8 hR8 HAr
  go_wp2_with fail
  refine (pairs_true _ _ 3 c8 3 [(0, 0), (1, 2), (2, 0)] _ (HR8.out.alloc _) (Rd.lit w8 _ _ 3 2 rfl) rfl (by decide)).mono ?_
  rintro e w9 ⟨rfl, k9, rfl⟩
  go_wp2_with fail
  go_ret
  exact ⟨rfl, (HB8.out.alloc HB8.out.size _).drewN k9⟩
end Go.Proofs.Ytpgkhmjlbaoagaa
