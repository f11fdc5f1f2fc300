/- checked: Sum. -/
import Derived.Laws.Externs
import Derived.Test.YtpgkhmjlbaoagaaInfo
import Derived.Test.YtpgkhmjlbaoagaaMem
namespace Go.Proofs.Ytpgkhmjlbaoagaa
open Go.RowKit
set_option linter.unusedVariables false

theorem add64_run (x y c : Nat) (hc : c ≤ 1) (w : World) : (callFunc 56 #[.int .u64 (x : Int), .int .u64 (y : Int), .int .u64 (c : Int)]).run Try.prog w =
    .ok (.value (.tuple #[.int .u64 (((x + y + c) % 18446744073709551616 : Nat) : Int), .int .u64 (((x + y + c) / 18446744073709551616 : Nat) : Int)])) w := by
  rw [run_callFunc_extern Try.func56 (by kernel_rfl) (by kernel_rfl) (by kernel_rfl) (e := add64Entry) (by kernel_rfl), run_add64 x y c (by omega) (by omega) (by omega) (by omega)]
  simp only [Result.andThen]
  congr 5 <;> omega
/-- The sum of some numbers. -/
def sumI (l : List Int) : Int := l.foldr (· + ·) 0
theorem sumI_snoc (l : List Int) (x : Int) : sumI (l ++ [x]) = sumI l + x := by
  induction l with
  | nil => simp [sumI]
  | cons a l ih => have : sumI (a :: (l ++ [x])) = a + sumI (l ++ [x]) := rfl
                   rw [List.cons_append, this, ih]; show a + (sumI l + x) = a + sumI l + x; omega
theorem sumI_bd (l : List Int) (h : ∀ x ∈ l, -9223372036854775808 ≤ x ∧ x ≤ 9223372036854775807) : -(9223372036854775808 * (l.length : Int)) ≤ sumI l ∧ sumI l ≤ 9223372036854775808 * (l.length : Int) := by
  induction l with
  | nil => simp [sumI]
  | cons a l ih =>
    have h1 := ih fun x hx => h x (by simp [hx])
    have h2 := h a (by simp)
    have : sumI (a :: l) = a + sumI l := rfl
    rw [this]
    simp only [List.length_cons]
    push_cast
    omega
theorem ret_se {a a' b b' : Int} (h : a = a') (k : b = b') : Ending.returned (.tuple #[.int .i64 a, .int .i64 b]) = .returned (.tuple #[.int .i64 a', .int .i64 b']) := by rw [h, k]
/-- What Sum answers. -/
def sumV (s : Int) : Int := if -9223372036854775808 ≤ s ∧ s ≤ 9223372036854775807 then s else 0
def sumE (s : Int) : Int := if -9223372036854775808 ≤ s ∧ s ≤ 9223372036854775807 then 0 else 7

set_option maxRecDepth 100000 in
set_option maxHeartbeats 4000000 in
theorem chkSum (w : World) (A : Option Addr) (m c : Nat) (l : List Int) (hr : Rd w A m 1 (l.map (Value.int .i64))) (hl : l.length = m) (hm : m ≤ 1000000) (hb : ∀ x ∈ l, -9223372036854775808 ≤ x ∧ x ≤ 9223372036854775807) :
    Calls Try.prog 46 #[.slice A m c] w fun e w' => e = .returned (.tuple #[.int .i64 (sumV (sumI l)), .int .i64 (sumE (sumI l))]) ∧ ∃ k, w' = w.drewN k := by
  have HADD := hide add64_run
  have HR := hide hr
  have HL := hide hl
  have HB := hide hb
  clear hr hl hb
  go_enter Try.func46, Try.ntmps46
  go_wp2_with fail
  go_loopg [12, 4, 5] m (fun q v hi lo wr => ∃ (k d H L : Nat), k + q = m ∧ v = .int .i64 (k : Int) ∧ hi = .int .u64 (H : Int) ∧ lo = .int .u64 (L : Int) ∧ (L : Int) = sumI (l.take k) % 18446744073709551616 ∧ (H : Int) = sumI (l.take k) / 18446744073709551616 % 18446744073709551616 ∧ wr = w.drewN d)
  case atStart => exact ⟨0, 0, 0, 0, by omega, rfl, rfl, rfl, by simp [sumI], by simp [sumI], rfl⟩
  case round =>
    obtain ⟨k, d, H, L, hk, rfl, rfl, rfl, hL, hH, rfl⟩ := hrel
    have HK := hide hk
    have hkm : k ≤ m := by omega
    have hS := sumI_bd (l.take k) (fun x hx => HB.out x (List.mem_of_mem_take hx))
    by_cases hlt : k < m
    · have hkl : k < l.length := by rw [HL.out]; exact hlt
      have hsn : sumI (l.take (k + 1)) = sumI (l.take k) + l[k] := by rw [List.take_succ_eq_append_getElem hkl, sumI_snoc]
      have hxb := HB.out l[k] (List.getElem_mem hkl)
      obtain ⟨b, o, rfl, hbl, hc⟩ := HR.out.2 (by omega)
      have cx : (w.drewN d).cell? ⟨b, o + k, none⟩ = some (.int .i64 l[k]) := hc k _ (by simp [hkl])
      generalize l[k] = x at *
      generalize sumI (l.take k) = S at *
      have HSN := hide hsn
      obtain ⟨X, hX⟩ := Int.eq_ofNat_of_zero_le (show 0 ≤ x % 18446744073709551616 by omega)
      have hw : IntKind.u64.wrap x = (X : Int) := by rw [← hX]; rfl
      have hLb : L < 18446744073709551616 := by omega
      have hXb : X < 18446744073709551616 := by omega
      obtain ⟨L', hL'⟩ : ∃ L', L' = (L + X + 0) % 18446744073709551616 := ⟨_, rfl⟩
      obtain ⟨C, hC⟩ : ∃ C, C = (L + X + 0) / 18446744073709551616 := ⟨_, rfl⟩
      have a1 : ∀ w : World, (callFunc 56 #[.int .u64 (L : Int), .int .u64 (X : Int), .int .u64 0]).run Try.prog w = .ok (.value (.tuple #[.int .u64 (L' : Int), .int .u64 (C : Int)])) w := fun w => by
        rw [hL', hC]; exact HADD.out L X 0 (by omega) w
      have hC1 : C ≤ 1 := by omega
      have HQ : Hid ((L : Int) = S % 18446744073709551616 ∧ (H : Int) = S / 18446744073709551616 % 18446744073709551616 ∧ x % 18446744073709551616 = (X : Int) ∧ L' = (L + X + 0) % 18446744073709551616 ∧ C = (L + X + 0) / 18446744073709551616) := ⟨hL, hH, hX, hL', hC⟩
      clear hk hc hsn hL hH hX hL' hC hS hLb hXb
      by_cases hx0 : x < 0
      · obtain ⟨H', hH'⟩ : ∃ H', H' = (H + 18446744073709551615 + C) % 18446744073709551616 := ⟨_, rfl⟩
        obtain ⟨C', hC'⟩ : ∃ C', C' = (H + 18446744073709551615 + C) / 18446744073709551616 := ⟨_, rfl⟩
        have a2 : ∀ w : World, (callFunc 56 #[.int .u64 (H : Int), .int .u64 (IntKind.u64.wrap (x / 9223372036854775808)), .int .u64 (C : Int)]).run Try.prog w = .ok (.value (.tuple #[.int .u64 (H' : Int), .int .u64 (C' : Int)])) w := fun w => by
          rw [show x / 9223372036854775808 = -1 by omega, hH', hC']; exact HADD.out H 18446744073709551615 C hC1 w
        have HH' := hide hH'
        clear hH' hC'
        go_wp2_with (first | (simp only [a1]) | (simp only [a2]))
        go_roundg (m - (k + 1))
        case measure => have := HK.out; omega
        case rel =>
          obtain ⟨g1, g2, g3, g4, g5⟩ := HQ.out
          have g6 := HH'.out
          refine ⟨k + 1, d, H', L', by omega, by go_num, rfl, rfl, ?_, ?_, rfl⟩
          · rw [HSN.out]; omega
          · rw [HSN.out]; omega
      · obtain ⟨H', hH'⟩ : ∃ H', H' = (H + 0 + C) % 18446744073709551616 := ⟨_, rfl⟩
        obtain ⟨C', hC'⟩ : ∃ C', C' = (H + 0 + C) / 18446744073709551616 := ⟨_, rfl⟩
        have a2 : ∀ w : World, (callFunc 56 #[.int .u64 (H : Int), .int .u64 (x / 9223372036854775808), .int .u64 (C : Int)]).run Try.prog w = .ok (.value (.tuple #[.int .u64 (H' : Int), .int .u64 (C' : Int)])) w := fun w => by
          rw [show x / 9223372036854775808 = 0 by omega, hH', hC']; exact HADD.out H 0 C hC1 w
        have HH' := hide hH'
        clear hH' hC'
        go_wp2_with (first | (simp only [a1]) | (simp only [a2]))
        go_roundg (m - (k + 1))
        case measure => have := HK.out; omega
        case rel =>
          obtain ⟨g1, g2, g3, g4, g5⟩ := HQ.out
          have g6 := HH'.out
          refine ⟨k + 1, d, H', L', by omega, by go_num, rfl, rfl, ?_, ?_, rfl⟩
          · rw [HSN.out]; omega
          · rw [HSN.out]; omega
    · obtain rfl : m = k := by omega
      have htk : l.take m = l := List.take_of_length_le (by rw [HL.out]; exact Nat.le_refl _)
      rw [htk] at hL hH hS
      rw [HL.out] at hS
      have hLb : (L : Int) < 18446744073709551616 := by omega
      obtain ⟨s, hs⟩ : ∃ s, IntKind.i64.wrap (L : Int) = s := ⟨_, rfl⟩
      have hs2 : s = (if (L : Int) < 9223372036854775808 then (L : Int) else (L : Int) - 18446744073709551616) := by
        rw [← hs, IntKind.wrap_i64]; split <;> omega
      generalize hSS : sumI l = S at *
      have HQ : Hid (-(9223372036854775808 * (m : Int)) ≤ S ∧ S ≤ 9223372036854775808 * (m : Int) ∧ (L : Int) = S % 18446744073709551616 ∧ (H : Int) = S / 18446744073709551616 % 18446744073709551616 ∧ s = (if (L : Int) < 9223372036854775808 then (L : Int) else (L : Int) - 18446744073709551616)) := ⟨hS.1, hS.2, hL, hH, hs2⟩
      have HSS := hide hSS
      clear hk hL hH hS hSS htk hlt hkm hs2 hLb
      by_cases hs0 : s < 0
      · by_cases hH' : H = 18446744073709551615
        · have HV : Hid (sumV S = s ∧ sumE S = 0) := by
            obtain ⟨g1, g2, g3, g4, g5⟩ := HQ.out
            have g6 : -9223372036854775808 ≤ S ∧ S ≤ 9223372036854775807 := by split at g5 <;> omega
            show _ ∧ _
            unfold sumV sumE
            rw [if_pos g6, if_pos g6]
            exact ⟨by split at g5 <;> omega, rfl⟩
          have hx : IntKind.u64.wrap (s / 9223372036854775808) = (H : Int) := by
            have : -9223372036854775808 ≤ s := by obtain ⟨g1, g2, g3, g4, g5⟩ := HQ.out; split at g5 <;> omega
            rw [show s / 9223372036854775808 = -1 by omega, hH']; rfl
          clear hH'
          go_wp2_with fail
          go_ret2
          exact ⟨ret_se (by rw [HSS.out, HV.out.1]) (by rw [HSS.out, HV.out.2]), _, rfl⟩
        · have HV : Hid (sumV S = 0 ∧ sumE S = 7) := by
            obtain ⟨g1, g2, g3, g4, g5⟩ := HQ.out
            have g6 : ¬ (-9223372036854775808 ≤ S ∧ S ≤ 9223372036854775807) := by split at g5 <;> omega
            show _ ∧ _
            unfold sumV sumE
            rw [if_neg g6, if_neg g6]
            exact ⟨rfl, rfl⟩
          have hne : ((H : Int) == IntKind.u64.wrap (s / 9223372036854775808)) = false := by
            have : -9223372036854775808 ≤ s := by obtain ⟨g1, g2, g3, g4, g5⟩ := HQ.out; split at g5 <;> omega
            rw [show s / 9223372036854775808 = -1 by omega]
            have : IntKind.u64.wrap (-1) = 18446744073709551615 := rfl
            rw [this]
            exact beq_eq_false_iff_ne.2 (by omega)
          clear hH'
          go_wp2_with fail
          go_ret2
          exact ⟨ret_se (by rw [HSS.out, HV.out.1]) (by rw [HSS.out, HV.out.2]), _, rfl⟩
      · by_cases hH' : H = 0
        · have HV : Hid (sumV S = s ∧ sumE S = 0) := by
            obtain ⟨g1, g2, g3, g4, g5⟩ := HQ.out
            have g6 : -9223372036854775808 ≤ S ∧ S ≤ 9223372036854775807 := by split at g5 <;> omega
            show _ ∧ _
            unfold sumV sumE
            rw [if_pos g6, if_pos g6]
            exact ⟨by split at g5 <;> omega, rfl⟩
          have hx : IntKind.u64.wrap (s / 9223372036854775808) = (H : Int) := by
            have : s ≤ 9223372036854775807 := by obtain ⟨g1, g2, g3, g4, g5⟩ := HQ.out; split at g5 <;> omega
            rw [show s / 9223372036854775808 = 0 by omega, hH']; rfl
          clear hH'
          go_wp2_with fail
          go_ret2
          exact ⟨ret_se (by rw [HSS.out, HV.out.1]) (by rw [HSS.out, HV.out.2]), _, rfl⟩
        · have HV : Hid (sumV S = 0 ∧ sumE S = 7) := by
            obtain ⟨g1, g2, g3, g4, g5⟩ := HQ.out
            have g6 : ¬ (-9223372036854775808 ≤ S ∧ S ≤ 9223372036854775807) := by split at g5 <;> omega
            show _ ∧ _
            unfold sumV sumE
            rw [if_neg g6, if_neg g6]
            exact ⟨rfl, rfl⟩
          have hne : ((H : Int) == IntKind.u64.wrap (s / 9223372036854775808)) = false := by
            have : s ≤ 9223372036854775807 := by obtain ⟨g1, g2, g3, g4, g5⟩ := HQ.out; split at g5 <;> omega
            rw [show s / 9223372036854775808 = 0 by omega]
            have : IntKind.u64.wrap 0 = 0 := rfl
            rw [this]
            exact beq_eq_false_iff_ne.2 (by omega)
          clear hH'
          go_wp2_with fail
          go_ret2
          exact ⟨ret_se (by rw [HSS.out, HV.out.1]) (by rw [HSS.out, HV.out.2]), _, rfl⟩
end Go.Proofs.Ytpgkhmjlbaoagaa
