/- seepageref01: From, Int, fit. -/
import Derived.Test.YtpgkhmjlbaoagaaR01P
import Derived.BigQuiet
namespace Go.Proofs.Ytpgkhmjlbaoagaa
open Go.RowKit
set_option linter.unusedVariables false

theorem wv_low (neg : Bool) (m : Nat) : wv neg (lowD m) = #[.bool neg, .int .u64 ((m : Int) % 4294967296), .int .u64 ((m : Int) / 4294967296), .int .u64 0, .int .u64 0, .int .u64 0, .int .u64 0] := by
  have h0 : lowD m 0 = m % 4294967296 := if_pos rfl
  have h1 : lowD m 1 = m / 4294967296 := by unfold lowD; rw [if_neg (by omega), if_pos rfl]
  have hz : ∀ i, 2 ≤ i → lowD m i = 0 := fun i hi => by unfold lowD; rw [if_neg (by omega), if_neg (by omega)]
  have e0 : ((m % 4294967296 : Nat) : Int) = (m : Int) % 4294967296 := by omega
  have e1 : ((m / 4294967296 : Nat) : Int) = (m : Int) / 4294967296 := by omega
  unfold wv
  rw [h0, h1, hz 2 (by omega), hz 3 (by omega), hz 4 (by omega), hz 5 (by omega), e0, e1]
  rfl

set_option maxRecDepth 100000 in
set_option maxHeartbeats 8000000 in
theorem r01From_pos (w : World) (x : Nat) (hx : x < 9223372036854775808) :
    Calls Try.prog 58 #[.int .i64 (x : Int)] w fun e w' => e = .returned (.agg (wv false (lowD x))) ∧ Below w.heap.size w w' := by
  have hd : decide ((x : Int) < 0) = false := by simp
  rw [wv_low]
  go_enter Try.func58, Try.ntmps58
  go_wp2_with fail
  have hb := (Blk.new w 94 #[.bool false, .int .u64 ((x : Int) % 4294967296), .int .u64 ((x : Int) / 4294967296), .int .u64 0, .int .u64 0, .int .u64 0, .int .u64 0]).alloc (.cells #[.bool false, .int .u64 ((x : Int) % 4294967296), .int .u64 ((x : Int) / 4294967296), .int .u64 0, .int .u64 0, .int .u64 0, .int .u64 0] 94)
  refine bodyPost_ret (results_cell_row (P := Try.prog) rfl _ _ w.heap.size 94 _ (0, 0) _ rfl hb Try.underlying94 rfl (by kernel_rfl)) rfl ?_
  exact ⟨rfl, ((Below.refl _ _).alloc (Nat.le_refl _) _).alloc (by simp) _⟩
set_option maxRecDepth 100000 in
set_option maxHeartbeats 8000000 in
theorem r01From_neg (w : World) (y : Nat) (hy : y < 9223372036854775808) :
    Calls Try.prog 58 #[.int .i64 (-1 - (y : Int))] w fun e w' => e = .returned (.agg (wv true (lowD (y + 1)))) ∧ Below w.heap.size w w' := by
  obtain ⟨x, hx⟩ : ∃ x : Int, x = -1 - (y : Int) := ⟨_, rfl⟩
  have hd : decide (x < 0) = true := by simp; omega
  have h1 : IntKind.i64.wrap (x + 1) = -(y : Int) := by rw [IntWalk.i64_in _ (by omega)]; omega
  have h2 : IntKind.i64.wrap (y : Int) = (y : Int) := IntWalk.i64_in _ (by omega)
  have h3 : IntKind.u64.wrap (y : Int) = (y : Int) := IntWalk.u64_in _ (by omega)
  have h4 : IntKind.u64.wrap ((y : Int) + 1) = ((y + 1 : Nat) : Int) := by rw [IntWalk.u64_in _ (by omega)]; omega
  rw [wv_low, ← hx]
  clear hx
  have h5 : IntKind.u64.wrap (((y + 1 : Nat) : Int) / 4294967296) = ((y + 1 : Nat) : Int) / 4294967296 := IntWalk.u64_in _ (by omega)
  generalize y + 1 = m at *
  go_enter Try.func58, Try.ntmps58
  go_wp2_with fail
  have hb := (Blk.new w 94 #[.bool true, .int .u64 ((m : Int) % 4294967296), .int .u64 ((m : Int) / 4294967296), .int .u64 0, .int .u64 0, .int .u64 0, .int .u64 0]).alloc (.cells #[.bool true, .int .u64 ((m : Int) % 4294967296), .int .u64 ((m : Int) / 4294967296), .int .u64 0, .int .u64 0, .int .u64 0, .int .u64 0] 94)
  refine bodyPost_ret (results_cell_row (P := Try.prog) rfl _ _ w.heap.size 94 _ (0, 0) _ rfl hb Try.underlying94 rfl (by kernel_rfl)) rfl ?_
  exact ⟨rfl, ((Below.refl _ _).alloc (Nat.le_refl _) _).alloc (by simp) _⟩
theorem wI_pos (f : Nat → Nat) : wI false f = (dv f 6 : Int) := if_neg (by decide)
theorem wI_neg (f : Nat → Nat) : wI true f = -(dv f 6 : Int) := if_pos rfl
theorem r01From (w : World) (x : Int) (hx : -9223372036854775808 ≤ x ∧ x ≤ 9223372036854775807) :
    Calls Try.prog 58 #[.int .i64 x] w fun e w' => ∃ neg f, e = .returned (.agg (wv neg f)) ∧ D6 f ∧ wI neg f = x ∧ dv f 6 ≤ 9223372036854775808 ∧ Below w.heap.size w w' := by
  by_cases h0 : 0 ≤ x
  · obtain ⟨m, rfl⟩ := Int.eq_ofNat_of_zero_le h0
    refine (r01From_pos w m (by omega)).mono fun e w' ⟨he, hb⟩ => ⟨false, lowD m, he, lowD_ok (by omega), ?_, ?_, hb⟩
    · rw [wI_pos, lowD_dv]
    · rw [lowD_dv]; omega
  · obtain ⟨y, hy⟩ := Int.eq_ofNat_of_zero_le (show 0 ≤ -1 - x by omega)
    obtain rfl : x = -1 - (y : Int) := by omega
    refine (r01From_neg w y (by omega)).mono fun e w' ⟨he, hb⟩ => ⟨true, lowD (y + 1), he, lowD_ok (by omega), ?_, ?_, hb⟩
    · rw [wI_neg, lowD_dv]; omega
    · rw [lowD_dv]; omega
theorem six_big {z a0 a1 a2 a3 a4 a5 : Nat} (e : z = a0 + a1 * 4294967296 + a2 * 18446744073709551616 + a3 * 79228162514264337593543950336 + a4 * 340282366920938463463374607431768211456 + a5 * 1461501637330902918203684832716283019655932542976)
    (h : a2 ≠ 0 ∨ a3 ≠ 0 ∨ a4 ≠ 0 ∨ a5 ≠ 0) : 18446744073709551616 ≤ z := by omega
theorem six_low {z a0 a1 a2 a3 a4 a5 : Nat} (e : z = a0 + a1 * 4294967296 + a2 * 18446744073709551616 + a3 * 79228162514264337593543950336 + a4 * 340282366920938463463374607431768211456 + a5 * 1461501637330902918203684832716283019655932542976)
    (h2 : a2 = 0) (h3 : a3 = 0) (h4 : a4 = 0) (h5 : a5 = 0) : a1 * 4294967296 + a0 = z := by omega
theorem sg_big {z : Nat} (neg : Bool) (h : 18446744073709551616 ≤ z) : (if neg then -(z : Int) else z) < -9223372036854775808 ∨ 9223372036854775807 < (if neg then -(z : Int) else z) := by
  cases neg
  · right; rw [if_neg (by decide)]; omega
  · left; rw [if_pos rfl]; omega
theorem wI_big {f : Nat → Nat} (neg : Bool) (h : f 2 ≠ 0 ∨ f 3 ≠ 0 ∨ f 4 ≠ 0 ∨ f 5 ≠ 0) : wI neg f < -9223372036854775808 ∨ 9223372036854775807 < wI neg f := sg_big neg (six_big (dv6 f) h)
theorem sg_small {u : Nat} (neg : Bool) (h : neg = false ∧ u ≤ 9223372036854775807 ∨ neg = true ∧ u ≤ 9223372036854775808) : -9223372036854775808 ≤ (if neg then -(u : Int) else u) ∧ (if neg then -(u : Int) else u) ≤ 9223372036854775807 := by
  rcases h with ⟨rfl, h⟩ | ⟨rfl, h⟩
  · rw [if_neg (by decide)]; omega
  · rw [if_pos rfl]; omega
theorem sg_out {u : Nat} (neg : Bool) (h : neg = false ∧ 9223372036854775807 < u ∨ neg = true ∧ 9223372036854775808 < u) : (if neg then -(u : Int) else u) < -9223372036854775808 ∨ 9223372036854775807 < (if neg then -(u : Int) else u) := by
  rcases h with ⟨rfl, h⟩ | ⟨rfl, h⟩
  · rw [if_neg (by decide)]; omega
  · rw [if_pos rfl]; omega
theorem sum_big {s : Int} (h : s < -9223372036854775808 ∨ 9223372036854775807 < s) : sumV s = 0 ∧ sumE s = 7 := by
  unfold sumV sumE
  rw [if_neg (by omega), if_neg (by omega)]
  exact ⟨rfl, rfl⟩
theorem sum_small {s : Int} (h : -9223372036854775808 ≤ s ∧ s ≤ 9223372036854775807) : sumV s = s ∧ sumE s = 0 := by
  unfold sumV sumE
  rw [if_pos h, if_pos h]
  exact ⟨rfl, rfl⟩
theorem u64_neq {x : Nat} (h : x ≠ 0) : ((x : Int) != 0) = true := by simp; omega
theorem ret_ib {a b : Int} {x y : Bool} (h : a = b) (k : x = y) : Ending.returned (.tuple #[.int .i64 a, .bool x]) = .returned (.tuple #[.int .i64 b, .bool y]) := by rw [h, k]

set_option maxRecDepth 100000 in
set_option maxHeartbeats 8000000 in
theorem r01Int_big (w : World) (neg : Bool) (f : Nat → Nat) (h : f 2 ≠ 0 ∨ (f 2 = 0 ∧ f 3 ≠ 0) ∨ (f 2 = 0 ∧ f 3 = 0 ∧ f 4 ≠ 0) ∨ (f 2 = 0 ∧ f 3 = 0 ∧ f 4 = 0 ∧ f 5 ≠ 0)) :
    Calls Try.prog 68 #[.agg (wv neg f)] w fun e w' => e = .returned (.tuple #[.int .i64 0, .bool false]) ∧ Below w.heap.size w w' := by
  unfold wv
  generalize f 0 = a0 at *
  generalize f 1 = a1 at *
  generalize f 2 = a2 at *
  generalize f 3 = a3 at *
  generalize f 4 = a4 at *
  generalize f 5 = a5 at *
  rcases h with h | ⟨rfl, h⟩ | ⟨rfl, rfl, h⟩ | ⟨rfl, rfl, rfl, h⟩
  all_goals
    have hh := u64_neq h
    go_enter Try.func68, Try.ntmps68
    go_wp2_with fail
    go_ret2
    exact ⟨rfl, (Below.refl _ _).alloc (Nat.le_refl _) _⟩
def IntRes (neg : Bool) (u : Nat) (e : Ending) : Prop :=
  ((neg = false ∧ u ≤ 9223372036854775807 ∨ neg = true ∧ u ≤ 9223372036854775808) ∧ e = .returned (.tuple #[.int .i64 (if neg then -(u : Int) else u), .bool true])) ∨
        ((neg = false ∧ 9223372036854775807 < u ∨ neg = true ∧ 9223372036854775808 < u) ∧ e = .returned (.tuple #[.int .i64 0, .bool false]))
set_option maxRecDepth 100000 in
set_option maxHeartbeats 8000000 in
theorem r01Int_low (w : World) (neg : Bool) (a0 a1 u : Nat) (h0 : a0 < 4294967296) (h1 : a1 < 4294967296) (hu : a1 * 4294967296 + a0 = u) :
    Calls Try.prog 68 #[.agg #[.bool neg, .int .u64 (a0 : Int), .int .u64 (a1 : Int), .int .u64 0, .int .u64 0, .int .u64 0, .int .u64 0]] w
      fun e w' => IntRes neg u e ∧ Below w.heap.size w w' := by
  have w1 : IntKind.u64.wrap ((a1 : Int) * 4294967296) = (a1 : Int) * 4294967296 := IntWalk.u64_in _ (by omega)
  have w2 : IntKind.u64.wrap ((a1 : Int) * 4294967296 + (a0 : Int)) = (u : Int) := by rw [IntWalk.u64_in _ (by omega)]; omega
  have hu64 : u < 18446744073709551616 := by omega
  clear hu
  cases neg
  · by_cases hb : u ≤ 9223372036854775807
    · have w3 : wrap64 (u : Int) = (u : Int) := IntWalk.wrap64_in _ (by omega)
      have d1 : decide ((9223372036854775807 : Int) < (u : Int)) = false := by simp; omega
      go_enter Try.func68, Try.ntmps68
      go_wp2_with fail
      go_ret2
      exact ⟨.inl ⟨.inl ⟨rfl, hb⟩, rfl⟩, (Below.refl _ _).alloc (Nat.le_refl _) _⟩
    · have d1 : decide ((9223372036854775807 : Int) < (u : Int)) = true := by simp; omega
      go_enter Try.func68, Try.ntmps68
      go_wp2_with fail
      go_ret2
      exact ⟨.inr ⟨.inl ⟨rfl, by omega⟩, rfl⟩, (Below.refl _ _).alloc (Nat.le_refl _) _⟩
  · by_cases hb : u ≤ 9223372036854775808
    · have d1 : decide ((9223372036854775808 : Int) < (u : Int)) = false := by simp; omega
      rcases Nat.eq_zero_or_pos u with rfl | hp
      · go_enter Try.func68, Try.ntmps68
        go_wp2_with fail
        go_ret2
        exact ⟨.inl ⟨.inr ⟨rfl, hb⟩, rfl⟩, (Below.refl _ _).alloc (Nat.le_refl _) _⟩
      · have hne : ((u : Int) == 0) = false := by simp; omega
        obtain ⟨v, rfl⟩ : ∃ v, u = v + 1 := ⟨u - 1, by omega⟩
        have w3 : IntKind.u64.wrap (((v + 1 : Nat) : Int) - 1) = (v : Int) := by rw [IntWalk.u64_in _ (by omega)]; omega
        have w4 : wrap64 (v : Int) = (v : Int) := IntWalk.wrap64_in _ (by omega)
        have w5 : IntKind.i64.wrap (v : Int) = (v : Int) := IntWalk.i64_in _ (by omega)
        have w6 : IntKind.i64.wrap (-(v : Int)) = -(v : Int) := IntWalk.i64_in _ (by omega)
        have w7 : IntKind.i64.wrap (-(v : Int) - 1) = -((v + 1 : Nat) : Int) := by rw [IntWalk.i64_in _ (by omega)]; omega
        generalize v + 1 = u at *
        go_enter Try.func68, Try.ntmps68
        go_wp2_with fail
        go_ret2
        exact ⟨.inl ⟨.inr ⟨rfl, hb⟩, rfl⟩, (Below.refl _ _).alloc (Nat.le_refl _) _⟩
    · have d1 : decide ((9223372036854775808 : Int) < (u : Int)) = true := by simp; omega
      go_enter Try.func68, Try.ntmps68
      go_wp2_with fail
      go_ret2
      exact ⟨.inr ⟨.inr ⟨rfl, by omega⟩, rfl⟩, (Below.refl _ _).alloc (Nat.le_refl _) _⟩
theorem r01Int (w : World) (neg : Bool) (f : Nat → Nat) (hf : D6 f) :
    Calls Try.prog 68 #[.agg (wv neg f)] w fun e w' => e = .returned (.tuple #[.int .i64 (sumV (wI neg f)), .bool (decide (sumE (wI neg f) = 0))]) ∧ Below w.heap.size w w' := by
  by_cases h : f 2 ≠ 0 ∨ (f 2 = 0 ∧ f 3 ≠ 0) ∨ (f 2 = 0 ∧ f 3 = 0 ∧ f 4 ≠ 0) ∨ (f 2 = 0 ∧ f 3 = 0 ∧ f 4 = 0 ∧ f 5 ≠ 0)
  · have hb := wI_big (f := f) neg (by
      rcases h with h | ⟨_, h⟩ | ⟨_, _, h⟩ | ⟨_, _, _, h⟩
      · exact .inl h
      · exact .inr (.inl h)
      · exact .inr (.inr (.inl h))
      · exact .inr (.inr (.inr h)))
    obtain ⟨e1, e2⟩ := sum_big hb
    rw [e1, e2]
    exact r01Int_big w neg f h
  · have h2 : f 2 = 0 := by omega
    have h3 : f 3 = 0 := by omega
    have h4 : f 4 = 0 := by omega
    have h5 : f 5 = 0 := by omega
    have ev : wv neg f = #[.bool neg, .int .u64 (f 0 : Int), .int .u64 (f 1 : Int), .int .u64 0, .int .u64 0, .int .u64 0, .int .u64 0] := by unfold wv; rw [h2, h3, h4, h5]; rfl
    have ed := six_low (dv6 f) h2 h3 h4 h5
    have hI := r01Int_low w neg (f 0) (f 1) (dv f 6) (hf 0 (by omega)) (hf 1 (by omega)) ed
    rw [ev]
    unfold wI
    generalize dv f 6 = u at *
    refine hI.mono fun e w' ⟨hc, hb⟩ => ⟨?_, hb⟩
    rcases hc with ⟨hc, rfl⟩ | ⟨hc, rfl⟩
    · obtain ⟨e1, e2⟩ := sum_small (sg_small neg hc)
      rw [e1, e2]; rfl
    · obtain ⟨e1, e2⟩ := sum_big (sg_out neg hc)
      rw [e1, e2]; rfl
set_option maxRecDepth 100000 in
theorem r01fit (w : World) (neg : Bool) (f : Nat → Nat) (hf : D6 f) :
    Calls Try.prog 59 #[.agg (wv neg f)] w fun e w' => e = .returned (.tuple #[.int .i64 (sumV (wI neg f)), .int .i64 (sumE (wI neg f))]) ∧ Below w.heap.size w w' := by
  have HI := fun w => r01Int w neg f hf
  have hc : (sumE (wI neg f) = 0) ∨ (sumV (wI neg f) = 0 ∧ sumE (wI neg f) = 7) := by
    by_cases h : -9223372036854775808 ≤ wI neg f ∧ wI neg f ≤ 9223372036854775807
    · exact .inl (sum_small h).2
    · exact .inr (sum_big (by omega))
  generalize sumV (wI neg f) = v at *
  generalize sumE (wI neg f) = x at *
  clear hf
  unfold wv at HI ⊢
  rcases hc with rfl | ⟨rfl, rfl⟩
  all_goals
    have hd0 : decide ((0 : Int) = 0) = true := rfl
    have hd7 : decide ((7 : Int) = 0) = false := rfl
    first | rw [hd0] at HI | rw [hd7] at HI
    have HI2 := hide HI
    clear HI
    go_enter Try.func59, Try.ntmps59
    go_wp2_with fail
    refine (HI2.out _).mono ?_
    rintro e w1 ⟨rfl, hb⟩
    have HB := hide (((Below.refl w.heap.size w).alloc (Nat.le_refl _) _).trans (hb.mono (by simp)))
    clear hb
    go_wp2_with fail
    go_ret2
    exact ⟨rfl, HB.out⟩
end Go.Proofs.Ytpgkhmjlbaoagaa
