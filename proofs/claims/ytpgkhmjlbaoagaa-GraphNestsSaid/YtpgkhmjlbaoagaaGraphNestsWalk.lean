/- The walk of GraphNests. -/
import Derived.Test.YtpgkhmjlbaoagaaGraMa
import Derived.Test.YtpgkhmjlbaoagaaGraWk
import Derived.Test.YtpgkhmjlbaoagaaGraCl
import Derived.Test.YtpgkhmjlbaoagaaGraR
import Derived.Test.YtpgkhmjlbaoagaaGraNp
import Derived.Test.YtpgkhmjlbaoagaaGraEq
namespace Go.Proofs.Ytpgkhmjlbaoagaa
open Go.RowKit
set_option linter.unusedVariables false

set_option maxRecDepth 100000 in
set_option maxHeartbeats 8000000 in
theorem graphNests_ok (x1 x2 : Int) (A : Option Addr) (m c : Nat) (l : List (Int × Int × Int)) (W : World) (hr : Rd W A m 3 (lcs l)) (hl : l.length = m) (hok : ∀ a ∈ l, LinkOk a) (hm : m ≤ 150) :
    Calls Try.prog 9 #[.slice A m c, .int .i64 x1, .int .i64 x2] W fun e W' => e = .returned (.bool true) ∧ Below W.heap.size W W' := by
  have HMd := hide (made40 W A m c l hr hl hok hm)
  have hlen := bltL_len l
  have hle150 : (bltL l).length ≤ 150 := by omega
  generalize bltL l = ls at *
  clear hr hl hok hlen
  obtain ⟨a1, a2, hle, heq⟩ : ∃ a1 a2 : Int, a1 ≤ a2 ∧ ((x1 = a1 ∧ x2 = a2) ∨ (x1 = a2 ∧ x2 = a1 ∧ a1 < a2)) := by
    by_cases h : x1 ≤ x2
    · exact ⟨x1, x2, h, .inl ⟨rfl, rfl⟩⟩
    · exact ⟨x2, x1, by omega, .inr ⟨rfl, rfl, by omega⟩⟩
  rcases heq with ⟨e1, e2⟩ | ⟨e1, e2, hlt⟩
  all_goals
    rw [e1, e2]
    clear e1 e2
    go_enter Try.func9, Try.ntmps9
    go_wp2_with fail
    refine HMd.out.mono ?_
    rintro e w1 ⟨p, B, rfl, hG, hBB, hb1⟩
    have HG1 := hide hG
    have HB1 := hide hb1
    clear hG hBB hb1 HMd
    have HUa := hide (graUnder w1 a1 p 40 B ls HG1.out)
    go_wp2_with fail
    refine HUa.out.mono ?_
    rintro e w2 ⟨q, rfl, hQ, hb2⟩
    have HQ2 := hide hQ
    have HG2 := hide (HG1.out.fresh hb2)
    have HB2 := hide (HB1.out.trans (hb2.mono HB1.out.size))
    clear hQ hb2 HUa HG1 HB1
    have HUb := hide (graUnder w2 a2 p 40 B ls HG2.out)
    go_wp2_with fail
    refine HUb.out.mono ?_
    rintro e w3 ⟨r, rfl, hR, hb3⟩
    have HR3 := hide hR
    have HQ3 := hide (HQ2.out.fresh hb3)
    have HB3 := hide (HB2.out.trans (hb3.mono HB2.out.size))
    clear hR hb3 HUb HG2 HB2 HQ2
    have HLa := hide (graLabels w3 q 40 _ _ HQ3.out)
    go_wp2_with fail
    refine HLa.out.mono ?_
    rintro e w4 ⟨bk, rfl, hK, hbk, hb4⟩
    have HK4 := hide hK
    have HR4 := hide (HR3.out.fresh hb4)
    have HQ4 := hide (HQ3.out.fresh hb4)
    have HB4 := hide (HB3.out.trans (hb4.mono HB3.out.size))
    clear hK hbk hb4 HLa HR3 HQ3 HB3
    have HLb := hide (graLabels w4 r 40 _ _ HR4.out)
    go_wp2_with fail
    refine HLb.out.mono ?_
    rintro e w5 ⟨bm, rfl, hM, hbm, hb5⟩
    have HM5 := hide hM
    have HK5 := hide (HK4.out.below hb5 HK4.out.lt)
    have HR5 := hide (HR4.out.fresh hb5)
    have HQ5 := hide (HQ4.out.fresh hb5)
    have HB5 := hide (HB4.out.trans (hb5.mono HB4.out.size))
    clear hM hbm hb5 HLb HR4 HQ4 HB4 HK4
    go_wp2_with fail
    go_loopg [12] 40 (fun q x wr => ∃ k d : Nat, k + q = 40 ∧ x = .int .i64 (k : Int) ∧ wr = w5.drewN d)
    case atStart => exact ⟨0, 0, by omega, rfl, rfl⟩
    case round =>
      obtain ⟨i, d, hk, rfl, rfl⟩ := hrel
      have HKK := hide hk
      have hkm : i ≤ 40 := by omega
      clear hk
      by_cases hlt : i < 40
      · have hlab := gLb_lab 40 (undL ls a1)
        have hx40 : gLb 40 (undL ls a1) i < 40 := hlab.lt hlt
        have hlb := undL_lb 40 ls hle hlt
        have ci := (HK5.out.drewN d).int hlt
        have cm := (HM5.out.drewN d).int hlt
        have cx := (HM5.out.drewN d).int hx40
        rw [hlb] at cx
        generalize gLb 40 (undL ls a1) i = x at *
        generalize gLb 40 (undL ls a2) i = y at *
        have HDX := hide (fun d2 => World.drewN_drewN w5 d d2)
        have d1 : decide ((x : Int) < 0) = false := by rw [decide_eq_false_iff_not]; omega
        have d2 : decide ((40 : Int) ≤ (x : Int)) = false := by rw [decide_eq_false_iff_not]; omega
        clear hlab hlb
        generalize w5.drewN d = wx at *
        go_wp2_with fail
        go_quiet (fail)
        go_wp2_with fail
        go_roundg (40 - (i + 1))
        case measure => have := HKK.out; omega
        case rel => exact ⟨i + 1, _, by omega, by go_num, HDX.out _⟩
      · obtain rfl : i = 40 := by omega
        clear HKK hkm
        have hlr := fun i hi => undL_lb 40 ls hle (i := i) hi
        have f1 := fine_sets (gLb_lab 40 (undL ls a1)) (gLb_lab 40 (undL ls a2)) hlr
        have f2 := fine_lrg (n := 40) hlr
        have f3 := fine_sq (n := 40) hlr
        have g1 := lrg_le 40 (gLb 40 (undL ls a1))
        have g2 := lrg_le 40 (gLb 40 (undL ls a2))
        have g3 := sq_le 40 (gLb 40 (undL ls a1))
        have g4 := sq_le 40 (gLb 40 (undL ls a2))
        have g5 : sets 40 (gLb 40 (undL ls a1)) ≤ 40 := cnt_le _ _
        have HRa := graRow (w5.drewN d) q 40 _ _ (HQ5.out.drewN d)
        have HRb := fun w h => graRow w r 40 _ _ (HR5.out.fresh (h : Below w5.heap.size w5 w))
        unfold gRow at HRa HRb
        have hund := undL_und ls hle
        generalize lrg 40 (gLb 40 (undL ls a1)) = r1 at *
        generalize lrg 40 (gLb 40 (undL ls a2)) = s1 at *
        generalize sets 40 (gLb 40 (undL ls a1)) = r2 at *
        generalize sets 40 (gLb 40 (undL ls a2)) = s2 at *
        generalize sq 40 (gLb 40 (undL ls a1)) = r3 at *
        generalize sq 40 (gLb 40 (undL ls a2)) = s3 at *
        have HRa := hide HRa
        have HRb := hide HRb
        have HUD := hide hund
        clear hund hlr HM5 HK5
        go_wp2_with fail
        refine HRa.out.mono ?_
        rintro e w6 ⟨rfl, hb6⟩
        have hb56 := (Below.refl w5.heap.size w5).drewN d |>.trans hb6
        have HB6 := hide (HB5.out.trans (hb56.mono HB5.out.size))
        have HQ6 := hide (HQ5.out.fresh hb56)
        have HR6 := hide (HR5.out.fresh hb56)
        have HRb6 := hide (HRb.out w6 hb56)
        clear hb56 hb6 HRa HRb
        go_wp2_with fail
        refine HRb6.out.mono ?_
        rintro e w7 ⟨rfl, hb7⟩
        have HB7 := hide (HB6.out.trans (hb7.mono HB6.out.size))
        have HQ7 := hide (HQ6.out.fresh hb7)
        have HR7 := hide (HR6.out.fresh hb7)
        clear hb7 HRb6 HB6 HQ6 HR6
        have hUc := fun w h => graUnder w a1 r 40 _ _ (HR7.out.fresh (h : Below w7.heap.size w7 w))
        rw [HUD.out] at hUc
        have HUc := hide hUc
        clear hUc
        go_wp2_with fail
        have k1 := (Blk.new w7 53 #[.int .i64 (r1 : Int), .int .i64 (r2 : Int), .int .i64 (r3 : Int)]).alloc (.cells #[.int .i64 (s1 : Int), .int .i64 (s2 : Int), .int .i64 (s3 : Int)] 53)
        have k2 := Blk.new (w7.alloc (.cells #[.int .i64 (r1 : Int), .int .i64 (r2 : Int), .int .i64 (r3 : Int)] 53)) 53 #[.int .i64 (s1 : Int), .int .i64 (s2 : Int), .int .i64 (s3 : Int)]
        have hsz8 : (w7.alloc (.cells #[.int .i64 (r1 : Int), .int .i64 (r2 : Int), .int .i64 (r3 : Int)] 53)).heap.size = w7.heap.size + 1 := by simp
        rw [hsz8] at k2
        have hb8 : Below w7.heap.size w7 ((w7.alloc (.cells #[.int .i64 (r1 : Int), .int .i64 (r2 : Int), .int .i64 (r3 : Int)] 53)).alloc (.cells #[.int .i64 (s1 : Int), .int .i64 (s2 : Int), .int .i64 (s3 : Int)] 53)) := ((Below.refl _ w7).alloc (Nat.le_refl _) _).alloc (by rw [hsz8]; omega) _
        generalize (w7.alloc (.cells #[.int .i64 (r1 : Int), .int .i64 (r2 : Int), .int .i64 (r3 : Int)] 53)).alloc (.cells #[.int .i64 (s1 : Int), .int .i64 (s2 : Int), .int .i64 (s3 : Int)] 53) = w8 at *
        have HB8 := hide (HB7.out.trans (hb8.mono HB7.out.size))
        have HQ8 := hide (HQ7.out.fresh hb8)
        have HUc8 := hide (HUc.out w8 hb8)
        have K1 := hide k1
        have K2 := hide k2
        have hg8 : w7.heap.size ≤ w8.heap.size := hb8.size
        generalize w7.heap.size = R at *
        clear hb8 k1 k2 hsz8 HUc HR7 HQ7 HB7
        refine HUc8.out.mono ?_
        rintro e w9 ⟨q9, rfl, hU, hb9⟩
        have HU9 := hide hU
        have HB9 := hide (HB8.out.trans (hb9.mono HB8.out.size))
        have HQ9 := hide (HQ8.out.fresh hb9)
        have K19 := hide (K1.out.below hb9 K1.out.lt)
        have K29 := hide (K2.out.below hb9 K2.out.lt)
        clear hU hb9 HUc8 HB8 HQ8 K1 K2
        have HEa := hide (graEdges w9 q9 40 _ _ HU9.out)
        go_wp2_with fail
        refine HEa.out.mono ?_
        rintro e w10 ⟨A10, c10, rfl, hO, hb10⟩
        have HO10 := hide hO
        have HB10 := hide (HB9.out.trans (hb10.mono HB9.out.size))
        have HQ10 := hide (HQ9.out.fresh hb10)
        have K110 := hide (K19.out.below hb10 K19.out.lt)
        have K210 := hide (K29.out.below hb10 K29.out.lt)
        clear hO hb10 HEa HB9 HQ9 K19 K29 HU9
        have HEb := hide (graEdges w10 q 40 _ _ HQ10.out)
        go_wp2_with fail
        refine HEb.out.mono ?_
        rintro e w11 ⟨A11, c11, rfl, hO, hb11⟩
        have HO11 := hide hO
        have HP11 := hide (HO10.out.kept hb11)
        have HB11 := hide (HB10.out.trans (hb11.mono HB10.out.size))
        have K111 := hide (K110.out.below hb11 K110.out.lt)
        have K211 := hide (K210.out.below hb11 K210.out.lt)
        clear hO hb11 HEb HB10 HQ10 K110 K210 HO10
        have hR1 : Rd w11 A11 (undL ls a1).length 3 (ecs (undL ls a1)) := by
          obtain ⟨A', c', e1, hrd⟩ := HO11.out.form
          injection e1 with e1 _ _
          subst e1
          exact hrd
        have hR2 : Rd w11 A10 (undL ls a1).length 3 (ecs (undL ls a1)) := by
          obtain ⟨A', c', e1, hrd⟩ := HP11.out.form
          injection e1 with e1 _ _
          subst e1
          exact hrd
        have hule := undL_len ls a1
        have HEd := hide (edges_true A10 A11 (undL ls a1).length c10 c11 (undL ls a1) w11 hR2 hR1 rfl (by omega))
        clear hR1 hR2 HO11 HP11
        generalize (undL ls a1).length = ml at *
        go_wp2_with fail
        refine HEd.out.mono ?_
        rintro e w12 ⟨rfl, k12, rfl⟩
        have x0 : (w11.drewN k12).cell? ⟨R, 0, none⟩ = some (.int .i64 (r1 : Int)) := (K111.out.cell 0).trans rfl
        have x1 : (w11.drewN k12).cell? ⟨R, 1, none⟩ = some (.int .i64 (r2 : Int)) := (K111.out.cell 1).trans rfl
        have x2 : (w11.drewN k12).cell? ⟨R, 2, none⟩ = some (.int .i64 (r3 : Int)) := (K111.out.cell 2).trans rfl
        have y0 : (w11.drewN k12).cell? ⟨R + 1, 0, none⟩ = some (.int .i64 (s1 : Int)) := (K211.out.cell 0).trans rfl
        have y1 : (w11.drewN k12).cell? ⟨R + 1, 1, none⟩ = some (.int .i64 (s2 : Int)) := (K211.out.cell 1).trans rfl
        have y2 : (w11.drewN k12).cell? ⟨R + 1, 2, none⟩ = some (.int .i64 (s3 : Int)) := (K211.out.cell 2).trans rfl
        have d1 : decide ((s2 : Int) ≤ (r2 : Int)) = true := by rw [decide_eq_true_iff]; omega
        have d2 : decide ((r1 : Int) ≤ (s1 : Int)) = true := by rw [decide_eq_true_iff]; omega
        have d3 : decide ((r3 : Int) ≤ (s3 : Int)) = true := by rw [decide_eq_true_iff]; omega
        have HB12 := hide (HB11.out.drewN k12)
        clear HEd HB11
        generalize w11.drewN k12 = w12 at *
        go_wp2_with fail
        refine (works13 _).mono ?_
        rintro e w13 ⟨rfl, hb13⟩
        have HB13 := hide (HB12.out.trans (hb13.mono HB12.out.size))
        clear hb13
        go_wp2_with fail
        go_ret
        exact ⟨rfl, HB13.out⟩
theorem graphNests_walk (v0 : Value) (l : List (Int × Int × Int)) (a1 a2 : Int) (W : World) (w0 : IsLinks W v0 l) (w1 : (Lit.int .i64 a1).wf = true) (w2 : (Lit.int .i64 a2).wf = true) :
    Calls Try.prog 9 #[v0, .int .i64 a1, .int .i64 a2] W fun e W' => e = .returned (.bool true) ∧ Below W.heap.size W W' := by
  obtain ⟨A, m, c, rfl, hm, hl, hok, hr⟩ := w0
  have hm9 : m ≤ 9223372036854775807 := by unfold maxLen at hm; omega
  by_cases h150 : m ≤ 150
  · exact graphNests_ok a1 a2 A m c l W hr hl hok h150
  · clear hr hl hok w1 w2
    go_enter Try.func9, Try.ntmps9
    go_wp2_with fail
    refine (works13 _).mono ?_
    rintro e w9 ⟨rfl, hb9⟩
    go_wp2_with fail
    go_ret
    exact ⟨rfl, hb9⟩
end Go.Proofs.Ytpgkhmjlbaoagaa
