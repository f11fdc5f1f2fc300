/- The walks of DsuLabels and DsuCopies. -/
import Derived.Test.YtiijhppffboogaaDsuS
namespace Go.Proofs.Ytiijhppffboogaa
open Go.RowKit
set_option linter.unusedVariables false

theorem inB_nat {n i : Nat} (h : i < n) : inB n (i : Int) = true := by simp [inB]; omega
theorem dsuLeast_in (w : World) (i : Nat) (p : Loc) (n : Nat) (L : Nat → Nat) (h : Dsu w p n L) (hi : i < n) :
    Calls Try.prog 17 #[.pointer (some ⟨p.g, 0, none⟩), .int .i64 (i : Int)] w fun e w' => e = .returned (.tuple #[.int .i64 (L i : Int), .int .i64 0]) ∧ Dsu w' p n L ∧ Fr [p.bu] w w' := by
  have h1 := dsuLeast w i p n L h
  have e1 : leastV n L (i : Int) = (L i : Int) := by simp [leastV, inB_nat hi]
  have e2 : leastE n (i : Int) = 0 := by simp [leastE, inB_nat hi]
  rwa [e1, e2] at h1
theorem dsuSame_in (w : World) (i j : Nat) (p : Loc) (n : Nat) (L : Nat → Nat) (h : Dsu w p n L) (hi : i < n) (hj : j < n) :
    Calls Try.prog 13 #[.pointer (some ⟨p.g, 0, none⟩), .int .i64 (i : Int), .int .i64 (j : Int)] w fun e w' => e = .returned (.bool (L i == L j)) ∧ Dsu w' p n L ∧ Fr [p.bu] w w' := by
  have h1 := dsuSame w i j p n L h
  have e1 : sameB n L (i : Int) (j : Int) = (L i == L j) := by simp [sameB, inB_nat hi, inB_nat hj]
  rwa [e1] at h1

theorem dsuSame_eq (w : World) (i j : Nat) (p : Loc) (n : Nat) (L : Nat → Nat) (h : Dsu w p n L) (hi : i < n) (hj : j < n) (b : Bool) (e : (L i == L j) = b) :
    Calls Try.prog 13 #[.pointer (some ⟨p.g, 0, none⟩), .int .i64 (i : Int), .int .i64 (j : Int)] w fun e w' => e = .returned (.bool b) ∧ Dsu w' p n L ∧ Fr [p.bu] w w' := by
  have h1 := dsuSame_in w i j p n L h hi hj
  rwa [e] at h1

set_option maxRecDepth 100000 in
set_option maxHeartbeats 4000000 in
theorem dsuLabels_walk (a0 : Int) (v1 : Value) (l : List (Int × Int)) (W : World) (w0 : (Lit.int .i64 a0).wf = true) (w1 : IsPairs W v1 l) :
    Calls Try.prog 4 #[.int .i64 a0, v1] W fun e W' => e = .returned (.bool true) ∧ Below W.heap.size W W' := by
  have hp := w1
  obtain ⟨A, m, c, rfl, hm, hlen, hok, hr⟩ := w1
  have hm' : m ≤ 9223372036854775807 := by unfold maxLen at hm; omega
  have HP := hide hp
  clear hp hr hok hlen hm w0
  cases hs : smallB a0 m
  · go_enter Try.func4, Try.ntmps4
    go_wp2_with fail
    refine (small_any _ _ _ _ hm' _).mono ?_
    rintro e w1 ⟨rfl, rfl⟩
    go_wp2_with fail
    refine (works8 _).mono ?_
    rintro e w1 ⟨rfl, hb⟩
    go_wp2_with fail
    go_ret
    exact ⟨rfl, hb⟩
  · have hs' : 0 ≤ a0 ∧ a0 ≤ 300 ∧ m ≤ 300 := by simpa [smallB] using hs
    obtain ⟨n, rfl⟩ := Int.eq_ofNat_of_zero_le hs'.1
    have hn : n ≤ 300 := by omega
    clear hs'
    go_enter Try.func4, Try.ntmps4
    go_wp2_with fail
    refine (small_any _ _ _ _ hm' _).mono ?_
    rintro e w1 ⟨rfl, rfl⟩
    go_wp2_with fail
    refine (united_ok _ n (by omega) _ l HP.out).mono ?_
    rintro e w1 ⟨p, rfl, hd1, hb1, hp1⟩
    generalize foldU n l (fun i => i) = L at *
    have hl := hd1.lab
    go_wp2_with fail
    refine (dsuLabels _ _ _ _ hd1).mono ?_
    rintro e w2 ⟨b, rfl, hd2, hk2, hbb, hf2⟩
    have hb2 := hf2.lift hb1 (by simpa using hp1.2.1) hb1.size
    have hbu : b ≠ p.bu := by have := hd1.lt; omega
    have HL := hide hl
    clear hf2 hd1 hl
    go_wp2_with fail
    go_loopg [7] n (fun q v wr => ∃ i : Nat, i + q = n ∧ v = .int .i64 (i : Int) ∧ Dsu wr p n L ∧ Blk wr b 3 (arr n L) ∧ Below W.heap.size W wr)
    case atStart => exact ⟨0, by omega, rfl, hd2, hk2, hb2⟩
    case round =>
      obtain ⟨i, hi, rfl, hd, hk, hb⟩ := hrel
      have HI := hide hi
      have hin : i ≤ n := by omega
      clear hi hd2 hk2 hb2
      by_cases hlt : i < n
      · have hLi := HL.out.le i hlt
        have hLn := HL.out.lt hlt
        have hid := HL.out.idem i hlt
        have t1 : decide (i < L i) = false := by rw [decide_eq_false_iff_not]; omega
        have t2 : decide ((L i : Int) < 0) = false := by rw [decide_eq_false_iff_not]; omega
        go_wp2_with fail
        refine (dsuLeast_in _ i _ _ _ hd hlt).mono ?_
        rintro e w3 ⟨rfl, hd3, hf3⟩
        have hk3 := hk.fr hf3 (by simpa using hbu)
        have hb3 := hf3.lift hb (by simpa using hp1.2.1) hb.size
        have c1 := hk3.int hlt
        have c2 := hk3.int hLn
        rw [hid] at c2
        have HD := hide hid
        clear hid hd hk hb hf3
        go_wp2_with fail
        refine (dsuSame_eq _ i (L i) _ _ _ hd3 hlt hLn true (by rw [HD.out]; simp)).mono ?_
        rintro e w4 ⟨rfl, hd4, hf4⟩
        have hk4 := hk3.fr hf4 (by simpa using hbu)
        have hb4 := hf4.lift hb3 (by simpa using hp1.2.1) hb3.size
        clear hd3 hk3 hb3 hf4 c1 c2
        go_wp2_with fail
        go_loopg [10] (n + 7) (fun q v wr => ∃ k : Nat, k + q = n + 7 ∧ v = .int .i64 (k : Int) ∧ Dsu wr p n L ∧ Blk wr b 3 (arr n L) ∧ Below W.heap.size W wr)
        case atStart => exact ⟨0, by omega, rfl, hd4, hk4, hb4⟩
        case round =>
          obtain ⟨k, hkq, rfl, hd, hk, hb⟩ := hrel
          have HK := hide hkq
          have hkn : k ≤ n + 7 := by omega
          clear hkq hd4 hk4 hb4
          by_cases hlk : k < n
          · have c1 := hk.int hlt
            have c2 := hk.int hlk
            have hkk := hide hk
            have hbb' := hide hb
            have hcast : ((L i : Int) == (L k : Int)) = (L i == L k) := by
              rw [Bool.eq_iff_iff, beq_iff_eq, beq_iff_eq]; omega
            clear hk hb
            have S := fun W h => dsuSame_eq W i k p n L h hlt hlk _ rfl
            generalize (L i == L k) = β at *
            have HS := hide S
            clear S
            cases β
            all_goals
              go_wp2_with fail
              go_region_held3 (fun w' => w'.cell? ⟨b, i, none⟩ = some (.int .i64 (L i : Int)) ∧ w'.cell? ⟨b, k, none⟩ = some (.int .i64 (L k : Int)))
                (first | exact ⟨c1, c2⟩ | exact ⟨hk5.int hlt, hk5.int hlk⟩)
                (first | (go_at_call 13; refine (HS.out _ (hd.drewN 1)).mono ?_; rintro e w5 ⟨rfl, hd5, hf5⟩; have hk5 := (hkk.out.drewN 1).fr hf5 (by simpa using hbu); have hb5 := hf5.lift (hbb'.out.drewN 1) (by simpa using hp1.2.1) hbb'.out.size))
              go_wp2_with fail
              go_roundg (n + 7 - (k + 7))
              case measure => have := HK.out; omega
              case rel => exact ⟨k + 7, by omega, by go_num, hd5, hk5, hb5⟩
          · go_wp2_with fail
            go_roundg (n - (i + 1))
            case measure => have := HI.out; omega
            case rel => exact ⟨i + 1, by omega, by go_num, hd, hk, hb⟩
      · go_wp2_with fail
        refine (works8 _).mono ?_
        rintro e w5 ⟨rfl, hb5⟩
        go_wp2_with fail
        go_ret
        exact ⟨rfl, hb.trans (hb5.mono hb.size)⟩
end Go.Proofs.Ytiijhppffboogaa
