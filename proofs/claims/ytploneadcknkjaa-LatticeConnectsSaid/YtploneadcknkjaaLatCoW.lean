/- The walk of LatticeConnects. -/
import Derived.Test.YtploneadcknkjaaLatCo
import Derived.Test.YtploneadcknkjaaLatW
import Derived.Test.YtploneadcknkjaaGraR
namespace Go.Proofs.Ytploneadcknkjaa
open Go.RowKit
set_option linter.unusedVariables false

/-- whole, of edges that are allowed and connect the vertices. -/
theorem whole_ok (w : World) (n m c : Nat) (A : Option Addr) (l : List (Int × Int × Int)) (hr : Rd w A m 3 (ecs l)) (ll : l.length = m) (hE : newE (n : Int) l = 0) (h1 : sets n (gLb n l) = 1) :
    Calls Try.prog 32 #[.int .i64 (n : Int), .slice A m c] w fun e w' => e = .returned (.bool true) ∧ Below w.heap.size w w' := by
  have HN := hide (graNew_ok w n m c A l hr ll hE)
  have H1 := hide h1
  have hfd : ∀ (a b c : Int) (W : World), (Instr.field 62 (.agg #[.int .i64 a, .int .i64 b, .int .i64 c]) 1).run Try.prog W = .ok (.int .i64 b) W := fun a b c W => by kernel_rfl
  clear hr ll hE h1
  go_enter Try.func32, Try.ntmps32
  go_wp2_with fail
  refine HN.out.mono ?_
  rintro e w1 ⟨p, rfl, hG, hB⟩
  have HR := graRow w1 p n _ l hG
  unfold gRow at HR
  rw [H1.out] at HR
  have HR2 := hide HR
  have HB := hide hB
  clear hG hB HR
  go_wp2_with fail
  refine HR2.out.mono ?_
  rintro e w2 ⟨rfl, hB2⟩
  have HB2 := hide (HB.out.trans (hB2.mono HB.out.size))
  clear hB2
  go_wp2_with fail
  go_ret
  exact ⟨rfl, HB2.out⟩

set_option maxRecDepth 100000 in
set_option maxHeartbeats 8000000 in
theorem latticeConnects_walk (a0 a1 : Int) (a2 a3 : Bool) (W : World) (w0 : (Lit.int .u8 a0).wf = true) (w1 : (Lit.int .u8 a1).wf = true) :
    Calls Try.prog 13 #[.int .u8 a0, .int .u8 a1, .bool a2, .bool a3] W fun e W' => e = .returned (.bool true) ∧ Below W.heap.size W W' := by
  have b0 := bounds_u8 w0
  have b1 := bounds_u8 w1
  have S := fun W => sides_any a0 a1 W b0 b1
  have hw : 1 ≤ a0 % 24 + 1 ∧ a0 % 24 + 1 ≤ 24 := by omega
  have hh : 1 ≤ a1 % 24 + 1 ∧ a1 % 24 + 1 ≤ 24 := by omega
  clear w0 w1
  generalize a0 % 24 + 1 = w at *
  generalize a1 % 24 + 1 = h at *
  have m1 : 1 * 1 ≤ w * h := Int.mul_le_mul hw.1 hh.1 (by omega) (by omega)
  have m2 : w * h ≤ 24 * 24 := Int.mul_le_mul hw.2 hh.2 (by omega) (by omega)
  have hg : gridB w h = true := by simp [gridB]; omega
  obtain ⟨n, hn⟩ := Int.eq_ofNat_of_zero_le (show 0 ≤ w * h by omega)
  have eN : gN w h = (n : Int) := by simp [gN, hg, hn]
  have eE : gE w h = 0 := by simp [gE, hg]
  have E1 := fun W => either_any w h a2 (!a2) a3 W
  rw [eN, eE] at E1
  have LEN := gL_len w h a2 (!a2) a3
  have G1 := grid_ok2 hg a2 (!a2) a3 hn
  have G2 := grid_conn hg a2 (!a2) a3 hn
  generalize gL w h a2 (!a2) (dirsOf a3) = L at *
  obtain ⟨c, hc⟩ := Int.eq_ofNat_of_zero_le (show 0 ≤ a0 % 4 by omega)
  obtain ⟨d, hd⟩ := Int.eq_ofNat_of_zero_le (show 0 ≤ a1 % 6 by omega)
  obtain ⟨k, hk⟩ := Int.eq_ofNat_of_zero_le (show 0 ≤ a0 % 40 by omega)
  have tc : a0.tmod 4 = (c : Int) := by rw [Int.tmod_eq_emod_of_nonneg (by omega)]; exact hc
  have td : a1.tmod 6 = (d : Int) := by rw [Int.tmod_eq_emod_of_nonneg (by omega)]; exact hd
  have tk : a0.tmod 40 = (k : Int) := by rw [Int.tmod_eq_emod_of_nonneg (by omega)]; exact hk
  have c4 : c < 4 := by omega
  have d6 : d < 6 := by omega
  have k40 : k < 40 := by omega
  obtain ⟨m, hm, m4, m1'⟩ := tree_small (c + 1) (by omega) d d6 (by omega)
  have T1 := fun W => tree_ok (c + 1) d W (by omega) (by omega) (by omega)
  have eTN : trN (c + 1) d = (m : Int) := by simp [trN, hm]
  have eTE : trE (c + 1) d = 0 := by simp [trE, hm]
  have eTL : trL (c + 1) d = treeL (c + 1) m := by simp [trL, hm]
  rw [eTN, eTE, eTL] at T1
  push_cast at T1
  have C1 := fun W => complete_any ((k : Int) + 1) W
  have ek : ((k : Int) + 1) = ((k + 1 : Nat) : Int) := by push_cast; rfl
  have hkk : (((k + 1 : Nat) : Int)) * (((k + 1 : Nat) : Int) - 1) / 2 ≤ 16384 := by
    have h1 : (((k + 1 : Nat) : Int)) * (((k + 1 : Nat) : Int) - 1) ≤ 40 * 40 := Int.mul_le_mul (by omega) (by omega) (by omega) (by omega)
    omega
  have eCE : compE ((k : Int) + 1) = 0 := by rw [ek]; unfold compE; rw [if_neg (by omega), if_neg (by omega)]
  have eCL : compLst ((k : Int) + 1) = compL (k + 1) (k + 1) := by
    unfold compLst; rw [if_pos eCE, ek, Int.toNat_natCast]
  rw [eCE, eCL] at C1
  have TG := treeG_ok (c := c + 1) (n := m) (by omega)
  have TC := treeG_conn (c := c + 1) (n := m) (by omega) m1'
  have TL := treeL_len (c + 1) m
  have CG := comp_ok (k + 1)
  have CC := comp_conn (n := k + 1) (by omega)
  have CL := compL_len (k + 1) (k + 1)
  have CLb : (k + 1) * (k + 1) ≤ 40 * 40 := Nat.mul_le_mul (by omega) (by omega)
  generalize treeL (c + 1) m = LT at *
  generalize compL (k + 1) (k + 1) = LC at *
  have N1 := hide (newE_ok (n := n) (by omega) (by omega) G1)
  have N2 := hide (newE_ok (n := m) m4 (by omega) TG)
  have N3 := hide (newE_ok (n := k + 1) (by omega) (by omega) CG)
  have G2' := hide G2
  have TC' := hide TC
  have CC' := hide CC
  have HS := hide S
  have HE1 := hide E1
  have HT1 := hide T1
  have HC1 := hide C1
  have hLT : LT.length = m - 1 := TL
  clear S E1 T1 C1 G1 G2 TG TC CG CC CLb CL eN eE eTN eTE eTL eCE eCL hkk hg hm TL ek hn
  go_enter Try.func13, Try.ntmps13
  go_wp2_with fail
  refine (HS.out _).mono ?_
  rintro e w1 ⟨rfl, rfl⟩
  go_wp2_with fail
  refine (HE1.out _).mono ?_
  rintro e w1 ⟨V, rfl, ho1, hb1⟩
  obtain ⟨A1, c1, rfl, hr1⟩ := ho1.form
  have HR1 := hide hr1
  have HB1 := hide hb1
  clear ho1 hr1 hb1
  go_wp2_with fail
  refine (HT1.out _).mono ?_
  rintro e w2 ⟨V, rfl, ho2, hb2⟩
  obtain ⟨A2, c2, rfl, hr2⟩ := ho2.form
  have HR1b := hide (HR1.out.below hb2)
  have HR2 := hide hr2
  have HB2 := hide (HB1.out.trans (hb2.mono HB1.out.size))
  clear ho2 hr2 hb2
  go_wp2_with fail
  refine (HC1.out _).mono ?_
  rintro e w3 ⟨V, rfl, ho3, hb3⟩
  obtain ⟨A3, c3, rfl, hr3⟩ := ho3.form
  have HR1c := hide (HR1b.out.below hb3)
  have HR2c := hide (HR2.out.below hb3)
  have HR3 := hide hr3
  have HB3 := hide (HB2.out.trans (hb3.mono HB2.out.size))
  clear ho3 hr3 hb3
  go_wp2_with fail
  refine (whole_ok _ n _ _ _ L HR1c.out rfl N1.out G2'.out).mono ?_
  rintro e w4 ⟨rfl, hb4⟩
  have HR2d := hide (HR2c.out.below hb4)
  have HR3d := hide (HR3.out.below hb4)
  have HB4 := hide (HB3.out.trans (hb4.mono HB3.out.size))
  clear hb4
  go_wp2_with fail
  refine (whole_ok _ m (m - 1) _ _ LT (by rw [← hLT]; exact HR2d.out) hLT N2.out TC'.out).mono ?_
  rintro e w5 ⟨rfl, hb5⟩
  have HR3e := hide (HR3d.out.below hb5)
  have HB5 := hide (HB4.out.trans (hb5.mono HB4.out.size))
  clear hb5
  go_wp2_with fail
  have W3 := whole_ok w5 (k + 1) _ c3 A3 LC HR3e.out rfl N3.out CC'.out
  rw [show (((k + 1 : Nat) : Int)) = (k : Int) + 1 by push_cast; rfl] at W3
  refine W3.mono ?_
  clear W3
  rintro e w6 ⟨rfl, hb6⟩
  have HB6 := hide (HB5.out.trans (hb6.mono HB5.out.size))
  clear hb6
  go_wp2_with fail
  refine (works_any _).mono ?_
  rintro e w7 ⟨rfl, hb7⟩
  have HB7 := hide (HB6.out.trans (hb7.mono HB6.out.size))
  clear hb7
  go_wp2_with fail
  go_ret
  exact ⟨rfl, HB7.out⟩
end Go.Proofs.Ytploneadcknkjaa
