/- lattice.Complete. -/
import Derived.Test.YtploneadcknkjaaRows
import Derived.Test.YtploneadcknkjaaEdge
namespace Go.Proofs.Ytploneadcknkjaa
open Go.RowKit
set_option linter.unusedVariables false

def row1 (n u : Nat) : List (Int × Int × Int) := (List.range' (u + 1) (n - (u + 1))).map fun (v : Nat) => ((u : Int), (v : Int), (0 : Int))
def row1to (u j : Nat) : List (Int × Int × Int) := (List.range' (u + 1) (j - (u + 1))).map fun (v : Nat) => ((u : Int), (v : Int), (0 : Int))
def compL (n k : Nat) : List (Int × Int × Int) := (List.range k).flatMap (row1 n)
theorem compL_succ (n k : Nat) : compL n (k + 1) = compL n k ++ row1 n k := by simp [compL, List.range_succ]
theorem row1to_succ (u j : Nat) (h : u < j) : row1to u (j + 1) = row1to u j ++ [((u : Int), (j : Int), 0)] := by
  unfold row1to
  rw [show j + 1 - (u + 1) = (j - (u + 1)) + 1 by omega, List.range'_concat]
  simp; omega
theorem row1to_start (u : Nat) : row1to u (u + 1) = [] := by simp [row1to]
theorem compL_len (n k : Nat) : (compL n k).length ≤ k * n := by
  induction k with
  | zero => simp [compL]
  | succ k ih => rw [compL_succ, List.length_append, Nat.succ_mul]; simp [row1]; omega

theorem complete_ok (n : Nat) (W : World) (h2 : n ≤ 181) :
    Calls Try.prog 28 #[.int .i64 n] W fun e W' => ∃ V, e = .returned (.tuple #[V, .int .i64 0]) ∧ OwnE W' W.heap.size V (compL n n) ∧ Below W.heap.size W W' := by
  have b1 : 0 ≤ (n : Int) * ((n : Int) - 1) := by
    rcases Nat.eq_zero_or_pos n with h | h
    · subst h; simp
    · exact Int.mul_nonneg (by omega) (by omega)
  have b2 : (n : Int) * ((n : Int) - 1) ≤ 181 * 180 := by
    rcases Nat.eq_zero_or_pos n with h | h
    · subst h; simp
    · exact Int.mul_le_mul (by omega) (by omega) (by omega) (by omega)
  go_enter Try.func28, Try.ntmps28
  go_wp2
  go_loopg [2, 19] n (fun g v i wr => ∃ k : Nat, k + g = n ∧ i = .int .i64 k ∧ OwnE wr W.heap.size v (compL n k) ∧ Below W.heap.size W wr)
  case atStart => exact ⟨0, by omega, rfl, OwnE.nil _ _, Below.refl _ _⟩
  case round =>
    obtain ⟨k, hk, rfl, hown, hbel⟩ := hrel
    have HK := hide hk
    have hkn : k ≤ n := by omega
    clear hk
    by_cases hlt : k < n
    · have HO := hide hown
      have HB := hide hbel
      clear hown hbel
      go_wp2_with fail
      go_loopg [2, 5] (n - (k + 1)) (fun g v i w2 => ∃ j : Nat, j + g = n ∧ k < j ∧ i = .int .i64 j ∧ OwnE w2 W.heap.size v (compL n k ++ row1to k j) ∧ Below W.heap.size W w2)
      case atStart => exact ⟨k + 1, by omega, by omega, by go_num, by simpa [row1to_start] using HO.out, HB.out⟩
      case round =>
        obtain ⟨j, hj, hkj, rfl, hown, hbel⟩ := hrel
        have HJ := hide hj
        have hjn : j ≤ n := by omega
        have hl : (compL n k ++ row1to k j).length ≤ 1000000 := by
          have := compL_len n k
          have h3 : k * n ≤ 181 * 181 := Nat.mul_le_mul (by omega) h2
          rw [List.length_append]; simp only [row1to, List.length_map, List.length_range']; omega
        have HL := hide hl
        clear hj hl
        by_cases hlt2 : j < n
        · have HO2 := hide hown
          have HB2 := hide hbel
          clear hown hbel
          go_wp2_with (at_builtin; refine app_edge _ k j 0 rfl _ _ rfl W.heap.size _ _ rfl HO2.out rfl HL.out HB2.out.size ?_; intro v' w3 hown3 _ hbel3)
          go_roundg (n - (j + 1))
          case measure => have := HJ.out; omega
          case rel => exact ⟨j + 1, by omega, by omega, by go_num, by rw [row1to_succ k j hkj, ← List.append_assoc]; exact hown3, HB2.out.trans hbel3⟩
        · have HO2 := hide hown
          have HB2 := hide hbel
          clear hown hbel
          go_wp2_with fail
          go_roundg (n - (k + 1))
          case measure => have := HK.out; omega
          case rel =>
            have hjn' : j = n := by omega
            subst hjn'
            exact ⟨k + 1, by omega, by go_num, by rw [compL_succ]; exact HO2.out, HB2.out⟩
    · have HO := hide hown
      have HB := hide hbel
      clear hown hbel
      have hkn' : k = n := by omega
      subst hkn'
      go_wp2_with fail
      go_ret2
      exact ⟨_, rfl, HO.out, HB.out⟩

def compE (n : Int) : Int := if n < 0 ∨ 4096 < n then 2 else if 16384 < n * (n - 1) / 2 then 16 else 0
def compLst (n : Int) : List (Int × Int × Int) := if compE n = 0 then compL n.toNat n.toNat else []

theorem comp_small {n : Nat} (h : n ≤ 4096) (h2 : ¬ 16384 < (n : Int) * ((n : Int) - 1) / 2) : n ≤ 181 := by
  rcases Nat.lt_or_ge 181 n with h' | h'
  · exfalso
    have : (182 : Int) * 181 ≤ (n : Int) * ((n : Int) - 1) := Int.mul_le_mul (by omega) (by omega) (by omega) (by omega)
    omega
  · exact h'

theorem complete_any (n : Int) (W : World) :
    Calls Try.prog 28 #[.int .i64 n] W fun e W' => ∃ V, e = .returned (.tuple #[V, .int .i64 (compE n)]) ∧ OwnE W' W.heap.size V (compLst n) ∧ Below W.heap.size W W' := by
  by_cases h0 : n < 0
  · have E : compE n = 2 := by simp [compE, h0]
    have E2 : compLst n = [] := by simp [compLst, E]
    rw [E, E2]
    go_enter Try.func28, Try.ntmps28
    go_wp2
    go_ret2
    exact ⟨_, rfl, OwnE.nil _ _, Below.refl _ _⟩
  · by_cases h1 : 4096 < n
    · have E : compE n = 2 := by simp [compE, h1]
      have E2 : compLst n = [] := by simp [compLst, E]
      rw [E, E2]
      clear E E2
      go_enter Try.func28, Try.ntmps28
      go_wp2
      go_ret2
      exact ⟨_, rfl, OwnE.nil _ _, Below.refl _ _⟩
    · obtain ⟨n, rfl⟩ := Int.eq_ofNat_of_zero_le (Int.not_lt.1 h0)
      by_cases h2 : 16384 < (n : Int) * ((n : Int) - 1) / 2
      · have E : compE n = 16 := by simp [compE, h0, h1, h2]
        have E2 : compLst n = [] := by simp [compLst, E]
        rw [E, E2]
        clear E E2
        have b1 : 0 ≤ (n : Int) * ((n : Int) - 1) := by omega
        have b2 : (n : Int) * ((n : Int) - 1) ≤ 4096 * 4096 := by
          rcases Nat.eq_zero_or_pos n with h | h
          · subst h; simp
          · exact Int.mul_le_mul (by omega) (by omega) (by omega) (by omega)
        go_enter Try.func28, Try.ntmps28
        go_wp2
        go_ret2
        exact ⟨_, rfl, OwnE.nil _ _, Below.refl _ _⟩
      · have E : compE n = 0 := by simp [compE, h0, h1, h2]
        have E2 : compLst n = compL n n := by simp [compLst, E]
        rw [E, E2]
        exact complete_ok n W (comp_small (by omega) h2)
end Go.Proofs.Ytploneadcknkjaa
