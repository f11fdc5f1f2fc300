/- lattice.Tree. -/
import Derived.Test.YtploneadcknkjaaEdge
namespace Go.Proofs.Ytploneadcknkjaa
open Go.RowKit
set_option linter.unusedVariables false

def treeGo (c : Nat) : Nat → Nat → Nat → Option Nat
  | 0, n, _ => some n
  | d + 1, n, lev => if 4096 < n + lev * c then none else treeGo c d (n + lev * c) (lev * c)
def treeL (c n : Nat) : List (Int × Int × Int) := (List.range' 1 (n - 1)).map fun (v : Nat) => (((v : Int) - 1) / (c : Int), (v : Int), (0 : Int))
theorem treeL_succ (c n : Nat) (h : 1 ≤ n) : treeL c (n + 1) = treeL c n ++ [(((n : Int) - 1) / (c : Int), (n : Int), 0)] := by
  unfold treeL
  rw [show n + 1 - 1 = (n - 1) + 1 by omega, List.range'_concat]
  simp [show 1 + (n - 1) = n by omega]
theorem treeL_len (c n : Nat) : (treeL c n).length = n - 1 := by simp [treeL]
theorem treeGo_succ (c d n lev : Nat) (h : 0 < d) : treeGo c d n lev = if 4096 < n + lev * c then none else treeGo c (d - 1) (n + lev * c) (lev * c) := by
  obtain ⟨e, rfl⟩ : ∃ e, d = e + 1 := ⟨d - 1, by omega⟩
  rfl
theorem treeGo_le {c d n lev m : Nat} (hn : 1 ≤ n) (hn' : n ≤ 4096) (h : treeGo c d n lev = some m) : 1 ≤ m ∧ m ≤ 4096 := by
  induction d generalizing n lev with
  | zero => simp only [treeGo, Option.some.injEq] at h; omega
  | succ d ih =>
    simp only [treeGo] at h
    split at h
    · cases h
    · exact ih (by omega) (by omega) h

def trN (c d : Nat) : Int := match treeGo c d 1 1 with | some n => n | none => 0
def trE (c d : Nat) : Int := match treeGo c d 1 1 with | some _ => 0 | none => 2
def trL (c d : Nat) : List (Int × Int × Int) := match treeGo c d 1 1 with | some n => treeL c n | none => []

theorem tree_ok (c d : Nat) (W : World) (hc : 1 ≤ c) (hc' : c ≤ 9223372036854775807) (hd : d ≤ 9223372036854775807) :
    Calls Try.prog 18 #[.int .i64 c, .int .i64 d] W
      fun e W' => ∃ V, e = .returned (.tuple #[.int .i64 (trN c d), V, .int .i64 (trE c d)]) ∧ OwnE W' W.heap.size V (trL c d) ∧ Below W.heap.size W W' := by
  go_enter Try.func18, Try.ntmps18
  go_wp2
  go_loopg [4, 5, 7, 16] d (fun g a s b i wr => ∃ k n lev : Nat, k + g = d ∧ i = .int .i64 k ∧ s = .slice none 0 0 ∧ a = .int .i64 n ∧ b = .int .i64 lev ∧ treeGo c (d - k) n lev = treeGo c d 1 1 ∧ 1 ≤ lev ∧ lev ≤ n ∧ n ≤ 4096 ∧ W = wr)
  case atStart => exact ⟨0, 1, 1, by omega, rfl, rfl, rfl, rfl, rfl, by omega, by omega, by omega, rfl⟩
  case round =>
    obtain ⟨k, n, lev, hk, rfl, rfl, rfl, rfl, ht, l1, l2, l3, rfl⟩ := hrel
    have HK := hide hk
    have hkd : k ≤ d := by omega
    have HT := hide ht
    clear hk ht
    by_cases hlt : k < d
    · have hg := treeGo_succ c (d - k) n lev (by omega)
      have q0 : (0 : Int) ≤ (4096 : Int) / (lev : Int) := Int.ediv_nonneg (by omega) (by omega)
      have q1 : (4096 : Int) / (lev : Int) ≤ 4096 := Int.ediv_le_self _ (by omega)
      by_cases hq : (4096 : Int) / (lev : Int) < (c : Int)
      · have hov : 4096 < n + lev * c := by
          have := Int.ediv_lt_iff_lt_mul (a := 4096) (b := (c : Int)) (c := (lev : Int)) (by omega)
          have h2 : (4096 : Int) < (c : Int) * lev := this.1 hq
          have h3 : (4096 : Int) < ((c * lev : Nat) : Int) := by simpa using h2
          have h4 : c * lev = lev * c := Nat.mul_comm _ _
          omega
        rw [if_pos hov] at hg
        have E : Hid (treeGo c d 1 1 = none) := HT.out.symm.trans hg
        clear hg hov
        go_wp2_with fail
        go_ret3
        exact ⟨.slice none 0 0, by simp only [trN, trE, E.out]; rfl, by simp only [trL, E.out]; exact OwnE.nil _ _, Below.refl _ _⟩
      · have hm : (lev : Int) * (c : Int) ≤ 4096 := by
          have := (Int.le_ediv_iff_mul_le (a := (c : Int)) (b := 4096) (c := (lev : Int)) (by omega)).1 (by omega)
          rw [Int.mul_comm]; exact this
        have hm0 : 0 ≤ (lev : Int) * (c : Int) := Int.mul_nonneg (by omega) (by omega)
        have hml : 1 ≤ lev * c := Nat.mul_pos (by omega) (by omega)
        have hmc : ((lev * c : Nat) : Int) = (lev : Int) * (c : Int) := by simp
        by_cases hov : 4096 < n + lev * c
        · rw [if_pos hov] at hg
          have E : Hid (treeGo c d 1 1 = none) := HT.out.symm.trans hg
          have hov' : (4096 : Int) < (n : Int) + (lev : Int) * (c : Int) := by omega
          clear hg hov hmc
          go_wp2_with fail
          go_ret3
          exact ⟨.slice none 0 0, by simp only [trN, trE, E.out]; rfl, by simp only [trL, E.out]; exact OwnE.nil _ _, Below.refl _ _⟩
        · rw [if_neg hov] at hg
          have E : Hid (treeGo c (d - k - 1) (n + lev * c) (lev * c) = treeGo c d 1 1) := hg.symm.trans HT.out
          have hov' : (n : Int) + (lev : Int) * (c : Int) ≤ 4096 := by omega
          have HOV := hide hov
          have HMC := hide hmc
          clear hg hov hmc
          go_wp2_with fail
          go_roundg (d - (k + 1))
          case measure => have := HK.out; omega
          case rel => exact ⟨k + 1, n + lev * c, lev * c, by omega, by go_num, rfl, by rw [Int.natCast_add, HMC.out], by rw [HMC.out], by rw [← E.out]; congr 1, hml, by omega, by have := HOV.out; omega, rfl⟩
    · have hkk : d - k = 0 := by omega
      have E : Hid (treeGo c d 1 1 = some n) := by show _ = _; rw [← HT.out, hkk]; rfl
      clear hkk
      go_wp2_with fail
      go_loopg [5, 8] (n - 1) (fun g v i wr => ∃ j : Nat, j + g = n ∧ 1 ≤ j ∧ i = .int .i64 j ∧ OwnE wr W.heap.size v (treeL c j) ∧ Below W.heap.size W wr)
      case atStart => exact ⟨1, by omega, by omega, rfl, by simpa [treeL] using OwnE.nil W W.heap.size, Below.refl _ _⟩
      case round =>
        obtain ⟨j, hj, j1, rfl, hown, hbel⟩ := hrel
        have HJ := hide hj
        have hjn : j ≤ n := by omega
        clear hj
        have hl : (treeL c j).length ≤ 1000000 := by rw [treeL_len]; omega
        by_cases hlt2 : j < n
        · go_wp2_with (at_builtin; refine app_edge _ (((j : Int) - 1) / (c : Int)) j 0 rfl _ _ rfl W.heap.size _ _ rfl hown rfl hl hbel.size ?_; intro v' w3 hown3 _ hbel3)
          go_roundg (n - (j + 1))
          case measure => have := HJ.out; omega
          case rel => exact ⟨j + 1, by omega, by omega, by go_num, by rw [treeL_succ c j j1]; exact hown3, hbel.trans hbel3⟩
        · have hjj : j = n := by omega
          subst hjj
          go_wp2_with fail
          go_ret3
          exact ⟨u5, by simp only [trN, trE, E.out]; rfl, by simp only [trL, E.out]; exact hown, hbel⟩
end Go.Proofs.Ytploneadcknkjaa
