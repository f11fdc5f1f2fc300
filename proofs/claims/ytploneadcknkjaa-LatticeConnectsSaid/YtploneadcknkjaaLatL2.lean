/- The walks of LatticeCompletes, LatticePlaces, LatticeReturns; sides, either. -/
import Derived.Test.YtploneadcknkjaaLatR
import Derived.Test.YtploneadcknkjaaLatW
import Derived.Test.YtploneadcknkjaaLatP
import Derived.OpenShut
namespace Go.Proofs.Ytploneadcknkjaa
open Go.RowKit
set_option linter.unusedVariables false

theorem compLst_len (n : Int) : (compLst n).length ≤ 1000000000 := by
  by_cases h1 : n < 0 ∨ 4096 < n
  · simp [compLst, compE, h1]
  · by_cases h2 : 16384 < n * (n - 1) / 2
    · have e : compE n = 16 := by unfold compE; rw [if_neg h1, if_pos h2]
      simp [compLst, e]
    · have e : compE n = 0 := by unfold compE; rw [if_neg h1, if_neg h2]
      obtain ⟨n, rfl⟩ := Int.eq_ofNat_of_zero_le (show 0 ≤ n by omega)
      have hn := comp_small (show n ≤ 4096 by omega) h2
      have h3 := compL_len n n
      have h4 : n * n ≤ 181 * 181 := Nat.mul_le_mul hn hn
      rw [compLst, if_pos e]
      simp only [Int.toNat_natCast]; omega

set_option maxRecDepth 100000 in
theorem latticeCompletes_walk (a0 : Int) (W : World) (w0 : (Lit.int .i64 a0).wf = true) :
    Calls Try.prog 10 #[.int .i64 a0] W fun e W' => e = .returned (.bool true) ∧ Below W.heap.size W W' := by
  clear w0
  have HL := hide (compLst_len a0)
  go_enter Try.func10, Try.ntmps10
  go_wp2_with fail
  refine (complete_any _ _).mono ?_
  rintro e w1 ⟨V, rfl, ho1, hb1⟩
  obtain ⟨A1, c1, rfl, hr1⟩ := ho1.form
  go_wp2_with fail
  refine (rcomplete_any _ _).mono ?_
  rintro e w2 ⟨V, rfl, ho2, hb2⟩
  obtain ⟨A2, c2, rfl, hr2⟩ := ho2.form
  go_wp2_with fail
  refine (same_true _ _ _ _ _ _ _ (hr1.below hb2) hr2 rfl HL.out).mono ?_
  rintro e w3 ⟨rfl, k1, rfl⟩
  go_wp2_with fail
  refine (works_any _).mono ?_
  rintro e w4 ⟨rfl, hb4⟩
  go_wp2_with fail
  go_ret
  exact ⟨rfl, ((hb1.trans (hb2.mono hb1.size)).drewN k1).trans (hb4.mono (Nat.le_trans hb1.size hb2.size))⟩

set_option maxRecDepth 100000 in
theorem latticePlaces_walk (a0 a1 a2 a3 a4 : Int) (W : World) (w0 : (Lit.int .i64 a0).wf = true) (w1 : (Lit.int .i64 a1).wf = true) (w2 : (Lit.int .i64 a2).wf = true) (w3 : (Lit.int .i64 a3).wf = true) (w4 : (Lit.int .i64 a4).wf = true) :
    Calls Try.prog 8 #[.int .i64 a0, .int .i64 a1, .int .i64 a2, .int .i64 a3, .int .i64 a4] W fun e W' => e = .returned (.bool true) ∧ Below W.heap.size W W' := by
  clear w0 w1 w2 w3 w4
  go_enter Try.func8, Try.ntmps8
  go_wp2_with fail
  refine (at_any _ _ _ _ _).mono ?_
  rintro e w1 ⟨rfl, rfl⟩
  go_wp2_with fail
  refine (rat_any _ _ _ _ _).mono ?_
  rintro e w1 ⟨rfl, rfl⟩
  go_wp2_with fail
  refine (place_any _ _ _ _).mono ?_
  rintro e w1 ⟨rfl, n1, rfl⟩
  go_wp2_with fail
  refine (rplace_any _ _ _ _).mono ?_
  rintro e w1 ⟨rfl, n2, rfl⟩
  go_wp2_with fail
  refine (works_any _).mono ?_
  rintro e w4 ⟨rfl, hb4⟩
  go_wp2_with fail
  go_ret
  exact ⟨rfl, ((Below.refl _ _).drewN (n1 + n2)).trans hb4⟩

theorem sides_any (a b : Int) (W : World) (ha : 0 ≤ a ∧ a ≤ 255) (hb : 0 ≤ b ∧ b ≤ 255) :
    Calls Try.prog 22 #[.int .u8 a, .int .u8 b] W fun e W' => e = .returned (.tuple #[.int .i64 (a % 24 + 1), .int .i64 (b % 24 + 1)]) ∧ W = W' := by
  obtain ⟨a0, a1⟩ := ha
  obtain ⟨b0, b1⟩ := hb
  go_enter Try.func22, Try.ntmps22
  go_wp2_with fail
  go_ret2
  exact ⟨rfl, rfl⟩

set_option maxRecDepth 100000 in
theorem latticeReturns_walk (a0 a1 a2 : Int) (W : World) (w0 : (Lit.int .u8 a0).wf = true) (w1 : (Lit.int .u8 a1).wf = true) (w2 : (Lit.int .u16 a2).wf = true) :
    Calls Try.prog 9 #[.int .u8 a0, .int .u8 a1, .int .u16 a2] W fun e W' => e = .returned (.bool true) ∧ Below W.heap.size W W' := by
  have S := fun W => sides_any a0 a1 W (bounds_u8 w0) (bounds_u8 w1)
  have b2 := bounds_u16 w2
  have hw : 1 ≤ a0 % 24 + 1 ∧ a0 % 24 + 1 ≤ 24 := by omega
  have hh : 1 ≤ a1 % 24 + 1 ∧ a1 % 24 + 1 ≤ 24 := by omega
  clear w0 w1 w2
  generalize a0 % 24 + 1 = w at *
  generalize a1 % 24 + 1 = h at *
  have m1 : 1 * 1 ≤ w * h := Int.mul_le_mul hw.1 hh.1 (by omega) (by omega)
  have m2 : w * h ≤ 24 * 24 := Int.mul_le_mul hw.2 hh.2 (by omega) (by omega)
  have u0 : 0 ≤ a2 % (w * h) := Int.emod_nonneg _ (by omega)
  have u1 : a2 % (w * h) < w * h := Int.emod_lt_of_pos _ (by omega)
  have hg : gridB w h = true := by simp [gridB]; omega
  have x0 : 0 ≤ a2 % (w * h) % w := Int.emod_nonneg _ (by omega)
  have x1 : a2 % (w * h) % w < w := Int.emod_lt_of_pos _ (by omega)
  have y0 : 0 ≤ a2 % (w * h) / w := Int.ediv_nonneg u0 (by omega)
  have y1 : a2 % (w * h) / w < h := Int.ediv_lt_of_lt_mul (by omega) (by rw [Int.mul_comm h w]; exact u1)
  have P : ∀ W, Calls Try.prog 26 #[.int .i64 w, .int .i64 h, .int .i64 (a2 % (w * h))] W fun e W' => e = .returned (.tuple #[.int .i64 (a2 % (w * h) % w), .int .i64 (a2 % (w * h) / w), .int .i64 0]) ∧ ∃ n, W' = W.drewN n := fun W => by
    have h1 := place_any w h (a2 % (w * h)) W
    have e : placeR w h (a2 % (w * h)) = (a2 % (w * h) % w, a2 % (w * h) / w, 0) := by
      unfold placeR; rw [if_pos hg, if_neg (by omega)]
    rwa [e] at h1
  have A : ∀ W, Calls Try.prog 24 #[.int .i64 w, .int .i64 h, .int .i64 (a2 % (w * h) % w), .int .i64 (a2 % (w * h) / w)] W fun e W' => e = .returned (.tuple #[.int .i64 (a2 % (w * h)), .int .i64 0]) ∧ W = W' := fun W => by
    have h1 := at_any w h (a2 % (w * h) % w) (a2 % (w * h) / w) W
    have e : atR w h (a2 % (w * h) % w) (a2 % (w * h) / w) = (a2 % (w * h), 0) := by
      unfold atR; rw [if_pos hg, if_neg (by omega)]
      have := Int.mul_ediv_add_emod (a2 % (w * h)) w
      rw [Int.mul_comm] at this
      rw [this]
    rwa [e] at h1
  have em : a2 % (w * h) % w = a2 % w := Int.emod_emod_of_dvd _ ⟨h, rfl⟩
  rw [em] at P A x0 x1
  have HS := hide S
  have HP := hide P
  have HA := hide A
  clear S P A hg em
  go_enter Try.func9, Try.ntmps9
  go_wp2_with fail
  refine (HS.out _).mono ?_
  rintro e w1 ⟨rfl, rfl⟩
  go_wp2_with fail
  refine (HP.out _).mono ?_
  rintro e w1 ⟨rfl, n1, rfl⟩
  go_wp2_with fail
  refine (HA.out _).mono ?_
  rintro e w1 ⟨rfl, rfl⟩
  go_wp2_with fail
  refine (works_any _).mono ?_
  rintro e w4 ⟨rfl, hb4⟩
  go_wp2_with fail
  go_ret
  exact ⟨rfl, ((Below.refl _ _).drewN n1).trans hb4⟩
end Go.Proofs.Ytploneadcknkjaa
