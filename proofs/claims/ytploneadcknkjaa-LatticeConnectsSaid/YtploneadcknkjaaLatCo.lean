/- The plain law of LatticeConnects: grids, trees and complete graphs are connected. -/
import Derived.Test.YtploneadcknkjaaLatDeg
import Derived.Test.YtploneadcknkjaaLatC
import Derived.Test.YtploneadcknkjaaLatF
import Derived.Test.YtploneadcknkjaaGraK
namespace Go.Proofs.Ytploneadcknkjaa
open Go.RowKit
set_option linter.unusedVariables false

theorem comp_mem {n k : Nat} {e : Int × Int × Int} (he : e ∈ compL n k) : ∃ u v : Nat, u < k ∧ u < v ∧ v < n ∧ e = ((u : Int), (v : Int), 0) := by
  unfold compL at he
  obtain ⟨u, hu, he⟩ := List.mem_flatMap.1 he
  unfold row1 at he
  obtain ⟨v, hv, rfl⟩ := List.mem_map.1 he
  rw [List.mem_range'_1] at hv
  rw [List.mem_range] at hu
  exact ⟨u, v, hu, by omega, by omega, rfl⟩
theorem comp_ok (n : Nat) : GOk n (compL n n) := fun e he => by
  obtain ⟨u, v, h1, h2, h3, rfl⟩ := comp_mem he
  simp only; omega
theorem comp_conn {n : Nat} (hn : 1 ≤ n) : sets n (gLb n (compL n n)) = 1 := by
  refine conn_one hn (comp_ok n) fun v h0 hv => ⟨0, h0, 0, ?_⟩
  unfold compL row1
  exact List.mem_flatMap.2 ⟨0, by simp; omega, List.mem_map.2 ⟨v, by rw [List.mem_range'_1]; omega, rfl⟩⟩
theorem tree_mem {c n v : Nat} (h0 : 0 < v) (hv : v < n) : (((v : Int) - 1) / (c : Int), (v : Int), (0 : Int)) ∈ treeL c n := by
  unfold treeL
  exact List.mem_map.2 ⟨v, by rw [List.mem_range'_1]; omega, rfl⟩
theorem tree_par {c v : Nat} (hc : 1 ≤ c) (h0 : 0 < v) : ((v : Int) - 1) / (c : Int) = (((v - 1) / c : Nat) : Int) ∧ (v - 1) / c < v := by
  have e : (v : Int) - 1 = ((v - 1 : Nat) : Int) := by omega
  rw [e]
  refine ⟨by push_cast; rfl, ?_⟩
  have := Nat.div_le_self (v - 1) c
  omega
theorem treeG_ok {c n : Nat} (hc : 1 ≤ c) : GOk n (treeL c n) := fun e he => by
  unfold treeL at he
  obtain ⟨v, hv, rfl⟩ := List.mem_map.1 he
  rw [List.mem_range'_1] at hv
  obtain ⟨h1, h2⟩ := tree_par hc (v := v) (by omega)
  simp only
  rw [h1]
  generalize (v - 1) / c = u at h2 ⊢
  omega
theorem treeG_conn {c n : Nat} (hc : 1 ≤ c) (hn : 1 ≤ n) : sets n (gLb n (treeL c n)) = 1 :=
  conn_one hn (treeG_ok hc) fun v h0 hv => ⟨(v - 1) / c, (tree_par hc h0).2, 0, by rw [← (tree_par hc h0).1]; exact tree_mem h0 hv⟩
theorem grid_ok2 {w h : Int} (hg : gridB w h = true) (wx wy three : Bool) {n : Nat} (hn : w * h = (n : Int)) : GOk n (gL w h wx wy (dirsOf three)) := fun e he => by
  have h1 := gL_mem he
  have h2 := gL_ne hg wx wy three he
  rw [hn] at h1
  omega
theorem grid_conn {w h : Int} (hg : gridB w h = true) (wx wy three : Bool) {n : Nat} (hn : w * h = (n : Int)) : sets n (gLb n (gL w h wx wy (dirsOf three))) = 1 := by
  have hb := gridB_bd hg
  have hn1 : 1 ≤ n := by
    have : 1 * 1 ≤ w * h := Int.mul_le_mul hb.1 hb.2.1 (by omega) (by omega)
    omega
  refine conn_one hn1 (grid_ok2 hg wx wy three hn) fun v h0 hv => ?_
  obtain ⟨W, rfl⟩ := Int.eq_ofNat_of_zero_le (show 0 ≤ w by omega)
  obtain ⟨H, rfl⟩ := Int.eq_ofNat_of_zero_le (show 0 ≤ h by omega)
  have hnn : W * H = n := by have : ((W * H : Nat) : Int) = (n : Int) := (by push_cast; exact hn); omega
  have hW : 0 < W := by omega
  rw [gL_outs hg, hn]
  have key : ∀ u : Nat, u < n → ∀ e, e ∈ outs (W : Int) (H : Int) wx wy three (u : Int) → e ∈ (List.range (n : Int).toNat).flatMap fun (v : Nat) => outs (W : Int) (H : Int) wx wy three (v : Int) := fun u hu e he =>
    List.mem_flatMap.2 ⟨u, by simpa using hu, he⟩
  by_cases hx : 0 < v % W
  · -- the place to the left
    refine ⟨v - 1, by omega, 0, key (v - 1) (by omega) _ ?_⟩
    have e1 : (v - 1) % W = v % W - 1 ∧ (v - 1) / W = v / W := by
      have hd := Nat.div_add_mod v W
      have hl := Nat.mod_lt v hW
      have e : v - 1 = v / W * W + (v % W - 1) := by rw [Nat.mul_comm (v / W) W]; omega
      rw [e]
      refine ⟨?_, ?_⟩
      · rw [Nat.add_comm, Nat.add_mul_mod_self_right, Nat.mod_eq_of_lt (by omega)]
      · rw [Nat.add_comm, Nat.add_mul_div_right _ _ hW, Nat.div_eq_of_lt (by omega), Nat.zero_add]
    unfold outs oR
    have m1 : ((v - 1 : Nat) : Int) % (W : Int) = ((v % W - 1 : Nat) : Int) := by rw [← e1.1]; push_cast; rfl
    have d1 : ((v - 1 : Nat) : Int) / (W : Int) = ((v / W : Nat) : Int) := by rw [← e1.2]; push_cast; rfl
    have hl := Nat.mod_lt v hW
    rw [m1, d1]
    have r1 : rnext ((v % W - 1 : Nat) : Int) (W : Int) wx = ((v % W : Nat) : Int) := by rw [rnext_in wx (by omega)]; omega
    rw [r1, if_pos (by omega)]
    refine List.mem_append_left _ ?_
    rw [List.mem_singleton]
    have hd := Nat.div_add_mod v W
    have : ((v / W : Nat) : Int) * (W : Int) + ((v % W : Nat) : Int) = (v : Int) := by
      have : ((W * (v / W) + v % W : Nat) : Int) = (v : Int) := by rw [hd]
      rw [← this]; push_cast; rw [Int.mul_comm]
    rw [this]
  · have hx0 : v % W = 0 := by omega
    have hd := Nat.div_add_mod v W
    rw [hx0, Nat.add_zero] at hd
    have hy : 0 < v / W := by
      rcases Nat.eq_zero_or_pos (v / W) with h | h
      · rw [h] at hd; omega
      · exact h
    have hvW : W ≤ v := by
      have : W * 1 ≤ W * (v / W) := Nat.mul_le_mul_left W hy
      omega
    refine ⟨v - W, by omega, 0, key (v - W) (by omega) _ ?_⟩
    have e1 : (v - W) % W = 0 ∧ (v - W) / W = v / W - 1 := by
      have e : v - W = W * (v / W - 1) := by rw [Nat.mul_sub, Nat.mul_one, hd]
      rw [e]
      exact ⟨Nat.mul_mod_right _ _, Nat.mul_div_cancel_left _ hW⟩
    have hyH : v / W < H := Nat.div_lt_of_lt_mul (by rw [hnn]; exact hv)
    unfold outs oD
    have m1 : ((v - W : Nat) : Int) % (W : Int) = ((0 : Nat) : Int) := by rw [← e1.1]; push_cast; rfl
    have d1 : ((v - W : Nat) : Int) / (W : Int) = ((v / W - 1 : Nat) : Int) := by rw [← e1.2]; push_cast; rfl
    rw [d1, m1]
    have r1 : rnext ((v / W - 1 : Nat) : Int) (H : Int) wy = ((v / W : Nat) : Int) := by rw [rnext_in wy (by omega)]; omega
    rw [r1, if_pos (by omega)]
    refine List.mem_append_right _ (List.mem_append_left _ ?_)
    rw [List.mem_singleton]
    have : ((v / W : Nat) : Int) * (W : Int) + ((0 : Nat) : Int) = (v : Int) := by
      have : ((W * (v / W) : Nat) : Int) = (v : Int) := by rw [hd]
      rw [← this]; push_cast; rw [Int.mul_comm]; omega
    rw [this]
theorem tree_small : ∀ c, c < 5 → ∀ d, d < 6 → 1 ≤ c → ∃ m, treeGo c d 1 1 = some m ∧ m ≤ 4096 ∧ 1 ≤ m := by
  intro c hc d hd h1
  have h : ∀ c, c < 5 → ∀ d, d < 6 → 1 ≤ c → (treeGo c d 1 1).isSome = true := by decide +kernel
  obtain ⟨m, hm⟩ := Option.isSome_iff_exists.1 (h c hc d hd h1)
  have := treeGo_le (Nat.le_refl 1) (by omega) hm
  exact ⟨m, hm, this.2, this.1⟩
end Go.Proofs.Ytploneadcknkjaa
