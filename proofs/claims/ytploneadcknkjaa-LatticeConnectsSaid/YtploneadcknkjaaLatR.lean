/- Package seepageref29: At, Place, Complete. -/
import Derived.Test.YtploneadcknkjaaLatC
import Derived.Test.YtploneadcknkjaaLatE
namespace Go.Proofs.Ytploneadcknkjaa
open Go.RowKit
set_option linter.unusedVariables false

theorem rat_any (w h x y : Int) (W : World) :
    Calls Try.prog 25 #[.int .i64 w, .int .i64 h, .int .i64 x, .int .i64 y] W fun e W' => e = .returned (.tuple #[.int .i64 (atR w h x y).1, .int .i64 (atR w h x y).2]) ∧ W = W' := by
  cases hg : gridB w h
  · have E : Hid (atR w h x y = (0, 2)) := by show _ = _; simp [atR, hg]
    go_enter Try.func25, Try.ntmps25
    go_wp2_with (go_at_call 36; refine (rGrid_any _ _ _).mono ?_; rintro e W' ⟨rfl, rfl⟩)
    go_ret2
    exact ⟨by rw [E.out]; rfl, rfl⟩
  · obtain ⟨h1, h2, h3, h4, h5⟩ := gridB_bd hg
    by_cases hx : x < 0 ∨ w ≤ x ∨ y < 0 ∨ h ≤ y
    · have E : Hid (atR w h x y = (0, 3)) := by show _ = _; simp [atR, hg, hx]
      clear h5
      by_cases x0 : x < 0
      · go_enter Try.func25, Try.ntmps25
        go_wp2_with (go_at_call 36; refine (rGrid_any _ _ _).mono ?_; rintro e W' ⟨rfl, rfl⟩)
        go_ret2
        exact ⟨by rw [E.out]; rfl, rfl⟩
      · by_cases x1 : x < w
        · by_cases y0 : y < 0
          · go_enter Try.func25, Try.ntmps25
            go_wp2_with (go_at_call 36; refine (rGrid_any _ _ _).mono ?_; rintro e W' ⟨rfl, rfl⟩)
            go_ret2
            exact ⟨by rw [E.out]; rfl, rfl⟩
          · have y1 : h ≤ y := by omega
            clear hx
            go_enter Try.func25, Try.ntmps25
            go_wp2_with (go_at_call 36; refine (rGrid_any _ _ _).mono ?_; rintro e W' ⟨rfl, rfl⟩)
            go_ret2
            exact ⟨by rw [E.out]; rfl, rfl⟩
        · clear hx
          go_enter Try.func25, Try.ntmps25
          go_wp2_with (go_at_call 36; refine (rGrid_any _ _ _).mono ?_; rintro e W' ⟨rfl, rfl⟩)
          go_ret2
          exact ⟨by rw [E.out]; rfl, rfl⟩
    · have E : Hid (atR w h x y = (y * w + x, 0)) := by show _ = _; simp [atR, hg, hx]
      have x0 : 0 ≤ x := by omega
      have x1 : x < w := by omega
      have y0 : 0 ≤ y := by omega
      have y1 : y < h := by omega
      have b1 : 0 ≤ y * w := Int.mul_nonneg (by omega) (by omega)
      have b2 : y * w ≤ 4096 * 4096 := Int.mul_le_mul (by omega) (by omega) (by omega) (by omega)
      clear hx
      go_enter Try.func25, Try.ntmps25
      go_wp2_with (go_at_call 36; refine (rGrid_any _ _ _).mono ?_; rintro e W' ⟨rfl, rfl⟩)
      go_ret2
      exact ⟨by rw [E.out]; rfl, rfl⟩

theorem rplace_any (w h v : Int) (W : World) :
    Calls Try.prog 27 #[.int .i64 w, .int .i64 h, .int .i64 v] W fun e W' => e = .returned (.tuple #[.int .i64 (placeR w h v).1, .int .i64 (placeR w h v).2.1, .int .i64 (placeR w h v).2.2]) ∧ ∃ n, W' = W.drewN n := by
  cases hg : gridB w h
  · have E : Hid (placeR w h v = (0, 0, 2)) := by show _ = _; simp [placeR, hg]
    go_enter Try.func27, Try.ntmps27
    go_wp2_with (go_at_call 36; refine (rGrid_any _ _ _).mono ?_; rintro e W' ⟨rfl, rfl⟩)
    go_ret3
    exact ⟨by rw [E.out]; rfl, 0, rfl⟩
  · obtain ⟨h1, h2, h3, h4, h5⟩ := gridB_bd hg
    have b1 : 0 ≤ w * h := Int.mul_nonneg (by omega) (by omega)
    by_cases x0 : v < 0
    · have E : Hid (placeR w h v = (0, 0, 3)) := by show _ = _; simp [placeR, hg, x0]
      go_enter Try.func27, Try.ntmps27
      go_wp2_with (go_at_call 36; refine (rGrid_any _ _ _).mono ?_; rintro e W' ⟨rfl, rfl⟩)
      go_ret3
      exact ⟨by rw [E.out]; rfl, 0, rfl⟩
    · by_cases x1 : v < w * h
      · have E : Hid (placeR w h v = (v % w, v / w, 0)) := by show _ = _; simp [placeR, hg, x0]; omega
        have e1 : v.tmod w = v % w := Int.tmod_eq_emod_of_nonneg (by omega)
        have e2 : v.tdiv w = v / w := Int.tdiv_eq_ediv_of_nonneg (by omega)
        have q0 : 0 ≤ v / w := Int.ediv_nonneg (by omega) (by omega)
        have q1 : v / w < h := Int.ediv_lt_of_lt_mul (by omega) (by rw [Int.mul_comm]; exact x1)
        go_enter Try.func27, Try.ntmps27
        go_wp2_with (go_at_call 36; refine (rGrid_any _ _ _).mono ?_; rintro e W' ⟨rfl, rfl⟩)
        go_quiet (fail)
        go_wp2_with fail
        go_ret3
        exact ⟨by rw [E.out]; rfl, _, rfl⟩
      · have E : Hid (placeR w h v = (0, 0, 3)) := by show _ = _; simp [placeR, hg]; omega
        go_enter Try.func27, Try.ntmps27
        go_wp2_with (go_at_call 36; refine (rGrid_any _ _ _).mono ?_; rintro e W' ⟨rfl, rfl⟩)
        go_ret3
        exact ⟨by rw [E.out]; rfl, 0, rfl⟩
theorem rcomplete_ok (n : Nat) (W : World) (h2 : n ≤ 181) :
    Calls Try.prog 29 #[.int .i64 n] W fun e W' => ∃ V, e = .returned (.tuple #[V, .int .i64 0]) ∧ OwnE W' W.heap.size V (compL n n) ∧ Below W.heap.size W W' := by
  have b1 : 0 ≤ (n : Int) * ((n : Int) - 1) := by
    rcases Nat.eq_zero_or_pos n with h | h
    · subst h; simp
    · exact Int.mul_nonneg (by omega) (by omega)
  have b2 : (n : Int) * ((n : Int) - 1) ≤ 181 * 180 := by
    rcases Nat.eq_zero_or_pos n with h | h
    · subst h; simp
    · exact Int.mul_le_mul (by omega) (by omega) (by omega) (by omega)
  go_enter Try.func29, Try.ntmps29
  go_wp2
  go_loopg [4, 5] n (fun g v i wr => ∃ k : Nat, k + g = n ∧ i = .int .i64 k ∧ OwnE wr W.heap.size v (compL n k) ∧ Below W.heap.size W wr)
  case atStart => exact ⟨0, by omega, rfl, OwnE.nil _ _, Below.refl _ _⟩
  case round =>
    obtain ⟨k, hk, rfl, hown, hbel⟩ := hrel
    have HK := hide hk
    have hkn : k ≤ n := by omega
    clear hk
    by_cases hlt : k < n
    · have HO := hide hown
      have HB := hide hbel
      clear hown hbel
      go_wp2_with fail
      go_loopg [4, 6] (n - (k + 1)) (fun g v i w2 => ∃ j : Nat, j + g = n ∧ k < j ∧ i = .int .i64 j ∧ OwnE w2 W.heap.size v (compL n k ++ row1to k j) ∧ Below W.heap.size W w2)
      case atStart => exact ⟨k + 1, by omega, by omega, by go_num, by simpa [row1to_start] using HO.out, HB.out⟩
      case round =>
        obtain ⟨j, hj, hkj, rfl, hown, hbel⟩ := hrel
        have HJ := hide hj
        have hjn : j ≤ n := by omega
        have hl : (compL n k ++ row1to k j).length ≤ 1000000 := by
          have := compL_len n k
          have h3 : k * n ≤ 181 * 181 := Nat.mul_le_mul (by omega) h2
          rw [List.length_append]; simp only [row1to, List.length_map, List.length_range']; omega
        have HL := hide hl
        clear hj hl
        by_cases hlt2 : j < n
        · have HO2 := hide hown
          have HB2 := hide hbel
          clear hown hbel
          go_wp2_with (at_builtin; refine app_edge _ k j 0 rfl _ _ rfl W.heap.size _ _ rfl HO2.out rfl HL.out HB2.out.size ?_; intro v' w3 hown3 _ hbel3)
          go_roundg (n - (j + 1))
          case measure => have := HJ.out; omega
          case rel => exact ⟨j + 1, by omega, by omega, by go_num, by rw [row1to_succ k j hkj, ← List.append_assoc]; exact hown3, HB2.out.trans hbel3⟩
        · have HO2 := hide hown
          have HB2 := hide hbel
          clear hown hbel
          go_wp2_with fail
          go_roundg (n - (k + 1))
          case measure => have := HK.out; omega
          case rel =>
            have hjn' : j = n := by omega
            subst hjn'
            exact ⟨k + 1, by omega, by go_num, by rw [compL_succ]; exact HO2.out, HB2.out⟩
    · have HO := hide hown
      have HB := hide hbel
      clear hown hbel
      have hkn' : k = n := by omega
      subst hkn'
      go_wp2_with fail
      go_ret2
      exact ⟨_, rfl, HO.out, HB.out⟩

theorem rcomplete_any (n : Int) (W : World) :
    Calls Try.prog 29 #[.int .i64 n] W fun e W' => ∃ V, e = .returned (.tuple #[V, .int .i64 (compE n)]) ∧ OwnE W' W.heap.size V (compLst n) ∧ Below W.heap.size W W' := by
  by_cases h0 : n < 0
  · have E : compE n = 2 := by simp [compE, h0]
    have E2 : compLst n = [] := by simp [compLst, E]
    rw [E, E2]
    go_enter Try.func29, Try.ntmps29
    go_wp2
    go_ret2
    exact ⟨_, rfl, OwnE.nil _ _, Below.refl _ _⟩
  · by_cases h1 : 4096 < n
    · have E : compE n = 2 := by simp [compE, h1]
      have E2 : compLst n = [] := by simp [compLst, E]
      rw [E, E2]
      clear E E2
      go_enter Try.func29, Try.ntmps29
      go_wp2
      go_ret2
      exact ⟨_, rfl, OwnE.nil _ _, Below.refl _ _⟩
    · obtain ⟨n, rfl⟩ := Int.eq_ofNat_of_zero_le (Int.not_lt.1 h0)
      by_cases h2 : 16384 < (n : Int) * ((n : Int) - 1) / 2
      · have E : compE n = 16 := by simp [compE, h0, h1, h2]
        have E2 : compLst n = [] := by simp [compLst, E]
        rw [E, E2]
        clear E E2
        have b1 : 0 ≤ (n : Int) * ((n : Int) - 1) := by omega
        have b2 : (n : Int) * ((n : Int) - 1) ≤ 4096 * 4096 := by
          rcases Nat.eq_zero_or_pos n with h | h
          · subst h; simp
          · exact Int.mul_le_mul (by omega) (by omega) (by omega) (by omega)
        go_enter Try.func29, Try.ntmps29
        go_wp2
        go_ret2
        exact ⟨_, rfl, OwnE.nil _ _, Below.refl _ _⟩
      · have E : compE n = 0 := by simp [compE, h0, h1, h2]
        have E2 : compLst n = compL n n := by simp [compLst, E]
        rw [E, E2]
        exact rcomplete_ok n W (comp_small (by omega) h2)
end Go.Proofs.Ytploneadcknkjaa
