/- The walk of DsuCopies. -/
import Derived.Test.YtiijhppffboogaaDsuLabelsWalk
namespace Go.Proofs.Ytiijhppffboogaa
open Go.RowKit
set_option linter.unusedVariables false

theorem Loc.out {p : Loc} {S : List Nat} {A B : Nat} (h1 : p.from_ A) (h2 : p.g < B ∧ p.bu < B ∧ p.bl < B ∧ p.bz < B) (hS : ∀ k ∈ S, k < A ∨ B ≤ k) : p.g ∉ S ∧ p.bu ∉ S ∧ p.bl ∉ S ∧ p.bz ∉ S := by
  obtain ⟨a1, a2, a3, a4⟩ := h1
  obtain ⟨b1, b2, b3, b4⟩ := h2
  refine ⟨fun h => ?_, fun h => ?_, fun h => ?_, fun h => ?_⟩ <;> (have := hS _ h; omega)
theorem Loc.foot {p : Loc} {A B : Nat} (h1 : p.from_ A) (h2 : p.g < B ∧ p.bu < B ∧ p.bl < B ∧ p.bz < B) : ∀ k ∈ [p.g, p.bu, p.bl, p.bz], A ≤ k ∧ k < B := by
  obtain ⟨a1, a2, a3, a4⟩ := h1
  obtain ⟨b1, b2, b3, b4⟩ := h2
  intro k hk
  simp at hk
  omega
theorem Loc.foot1 {p : Loc} {A B : Nat} (h1 : p.from_ A) (h2 : p.g < B ∧ p.bu < B ∧ p.bl < B ∧ p.bz < B) : ∀ k ∈ [p.bu], A ≤ k ∧ k < B := by
  intro k hk
  exact Loc.foot h1 h2 k (by simp at hk ⊢; omega)
theorem lt_trans4 {p : Loc} {B B' : Nat} (h : p.g < B ∧ p.bu < B ∧ p.bl < B ∧ p.bz < B) (hB : B ≤ B') : p.g < B' ∧ p.bu < B' ∧ p.bl < B' ∧ p.bz < B' := by omega

set_option maxRecDepth 100000 in
set_option maxHeartbeats 4000000 in
theorem dsuCopies_walk (a0 : Int) (v1 : Value) (l : List (Int × Int)) (v2 : Value) (x : Int × Int) (W : World) (w0 : (Lit.int .i64 a0).wf = true) (w1 : IsPairs W v1 l) (w2 : IsPair W v2 x) :
    Calls Try.prog 5 #[.int .i64 a0, v1, v2] W fun e W' => e = .returned (.bool true) ∧ Below W.heap.size W W' := by
  obtain ⟨x0, x1⟩ := x
  obtain ⟨rfl, _⟩ := w2
  have hp := w1
  obtain ⟨A, m, c, rfl, hm, hlen, hok, hr⟩ := w1
  have hm' : m ≤ 9223372036854775807 := by unfold maxLen at hm; omega
  have HP : Hid (IsPairs (W.alloc (.cells #[.int .i64 x0, .int .i64 x1] 27)) (.slice A m c) l) := ⟨A, m, c, rfl, hm, hlen, hok, hr.alloc _⟩
  clear hp hr hok hlen hm w0
  have hA0 : Below W.heap.size W (W.alloc (.cells #[.int .i64 x0, .int .i64 x1] 27)) := (Below.refl _ _).alloc (Nat.le_refl _) _
  have hcx0 : (W.alloc (.cells #[.int .i64 x0, .int .i64 x1] 27)).cell? ⟨W.heap.size, 0, none⟩ = some (.int .i64 x0) := by simp
  have hcx1 : (W.alloc (.cells #[.int .i64 x0, .int .i64 x1] 27)).cell? ⟨W.heap.size, 1, none⟩ = some (.int .i64 x1) := by simp
  have HX0 := hide hcx0
  have HX1 := hide hcx1
  have HA0 := hide hA0
  clear hcx0 hcx1 hA0
  cases hs : smallB a0 m
  · go_enter Try.func5, Try.ntmps5
    go_wp2_with fail
    refine (small_any _ _ _ _ hm' _).mono ?_
    rintro e w1 ⟨rfl, rfl⟩
    go_wp2_with fail
    refine (works8 _).mono ?_
    rintro e w1 ⟨rfl, hb⟩
    go_wp2_with fail
    go_ret
    exact ⟨rfl, HA0.out.trans (hb.mono (by simp))⟩
  · have hs' : 0 ≤ a0 ∧ a0 ≤ 300 ∧ m ≤ 300 := by simpa [smallB] using hs
    obtain ⟨n, rfl⟩ := Int.eq_ofNat_of_zero_le hs'.1
    have hn : n ≤ 300 := by omega
    clear hs'
    go_enter Try.func5, Try.ntmps5
    go_wp2_with fail
    refine (small_any _ _ _ _ hm' _).mono ?_
    rintro e w1 ⟨rfl, rfl⟩
    go_wp2_with fail
    generalize W.alloc (.cells #[.int .i64 x0, .int .i64 x1] 27) = W0 at *
    refine (united_ok _ n (by omega) _ l HP.out).mono ?_
    rintro e w1 ⟨p, rfl, hd1, hb1, hp1⟩
    generalize foldU n l (fun i => i) = L at *
    go_wp2_with fail
    refine (dsuCopy _ _ _ _ hd1).mono ?_
    rintro e w2 ⟨q, rfl, hq2, hb2, hq⟩
    have hd2 := hd1.fresh hb2
    have kp := hd1.lt
    have kq := hq2.lt
    have s2 := hb2.size
    go_wp2_with fail
    refine (dsuLabels _ _ _ _ hq2).mono ?_
    rintro e w3 ⟨b3, rfl, hq3, hk3, hbb3, hf3⟩
    have hd3 := hd2.fr hf3 (Loc.out hp1 kp fun k hk => .inr (Loc.foot1 hq kq k hk).1)
    have s3 := hf3.size
    go_wp2_with fail
    refine (dsuLabels _ _ _ _ hd3).mono ?_
    rintro e w4 ⟨b4, rfl, hd4, hk4, hbb4, hf4⟩
    have hq4 := hq3.fr hf4 (Loc.out hq kq fun k hk => .inl (Loc.foot1 hp1 kp k hk).2)
    have hk3' := hk3.fr hf4 (fun hh => by have := (Loc.foot1 hp1 kp _ hh).2; omega)
    have s4 := hf4.size
    go_wp2_with fail
    refine (samei_true _ _ _ _ _ _ _ hk3'.isr hk4.isr (by simp) (by omega)).mono ?_
    rintro e w5 ⟨rfl, k5, rfl⟩
    go_wp2_with fail
    refine (dsuLabels _ _ _ _ (hd4.drewN k5)).mono ?_
    rintro e w6 ⟨b6, rfl, hd6, hk6, hbb6, hf6⟩
    have hq6 := (hq4.drewN k5).fr hf6 (Loc.out hq kq fun k hk => .inl (Loc.foot1 hp1 kp k hk).2)
    have s6 : w4.heap.size ≤ w6.heap.size := hf6.size
    have B6 : Below W0.heap.size W0 w6 := hf6.lift ((hf4.lift (hf3.lift (hb1.trans (hb2.mono hb1.size)) (fun k hk => by have := (Loc.foot1 hq kq k hk).1; have := hb1.size; omega) (by have := hb1.size; omega)) (fun k hk => (Loc.foot1 hp1 kp k hk).1) (by have := hb1.size; omega)).drewN k5) (fun k hk => (Loc.foot1 hp1 kp k hk).1) (by have := hb1.size; show _ ≤ w4.heap.size; omega)
    have s6' : w4.heap.size ≤ b6 := hbb6
    have cx0 : w6.cell? ⟨W.heap.size, 0, none⟩ = some (.int .i64 x0) := by
      have := World.block_lt_of_cell? _ _ HX0.out
      exact (B6.cell (p := ⟨W.heap.size, 0, none⟩) this).trans HX0.out
    have cx1 : w6.cell? ⟨W.heap.size, 1, none⟩ = some (.int .i64 x1) := by
      have := World.block_lt_of_cell? _ _ HX1.out
      exact (B6.cell (p := ⟨W.heap.size, 1, none⟩) this).trans HX1.out
    go_wp2_with fail
    refine (dsuUnion _ _ _ _ _ _ hq6).mono ?_
    rintro e w7 ⟨rfl, hq7, hf7⟩
    have hd7 := hd6.fr hf7 (Loc.out hp1 kp fun k hk => .inr (Loc.foot hq kq k hk).1)
    have hk7 := hk6.fr hf7 (fun hh => by have := (Loc.foot hq kq _ hh).2; omega)
    have s7 := hf7.size
    generalize unionL n L x0 x1 = L2 at *
    go_wp2_with fail
    refine (dsuLabels _ _ _ _ hd7).mono ?_
    rintro e w8 ⟨b8, rfl, hd8, hk8, hbb8, hf8⟩
    have hq8 := hq7.fr hf8 (Loc.out hq kq fun k hk => .inl (Loc.foot1 hp1 kp k hk).2)
    have hk78 := hk7.fr hf8 (fun hh => by have := (Loc.foot1 hp1 kp _ hh).2; omega)
    have s8 := hf8.size
    go_wp2_with fail
    refine (samei_true _ _ _ _ _ _ _ hk8.isr hk78.isr (by simp) (by omega)).mono ?_
    rintro e w9 ⟨rfl, k9, rfl⟩
    go_wp2_with fail
    refine (dsuLabels _ _ _ _ (hq8.drewN k9)).mono ?_
    rintro e w10 ⟨b10, rfl, hq10, hk10, hbb10, hf10⟩
    have hd10 := (hd8.drewN k9).fr hf10 (Loc.out hp1 kp fun k hk => .inr (Loc.foot1 hq kq k hk).1)
    have s10 : w8.heap.size ≤ w10.heap.size := hf10.size
    have s10' : w8.heap.size ≤ b10 := hbb10
    go_wp2_with fail
    refine (dsuUnion _ _ _ _ _ _ hd10).mono ?_
    rintro e w11 ⟨rfl, hd11, hf11⟩
    have hq11 := hq10.fr hf11 (Loc.out hq kq fun k hk => .inl (Loc.foot hp1 kp k hk).2)
    have hk11 := hk10.fr hf11 (fun hh => by have := (Loc.foot hp1 kp _ hh).2; omega)
    have s11 := hf11.size
    go_wp2_with fail
    refine (dsuLabels _ _ _ _ hq11).mono ?_
    rintro e w12 ⟨b12, rfl, hq12, hk12, hbb12, hf12⟩
    have hk1112 := hk11.fr hf12 (fun hh => by have := (Loc.foot1 hq kq _ hh).2; omega)
    go_wp2_with fail
    refine (samei_true _ _ _ _ _ _ _ hk12.isr hk1112.isr (by simp) (by omega)).mono ?_
    rintro e w13 ⟨rfl, k13, rfl⟩
    go_wp2_with fail
    refine (works8 _).mono ?_
    rintro e w14 ⟨rfl, hb14⟩
    go_wp2_with fail
    go_ret
    have z1 := hb1.size
    have F : ∀ k ∈ [p.g, p.bu, p.bl, p.bz], W0.heap.size ≤ k := fun k hk => (Loc.foot hp1 kp k hk).1
    have F1 : ∀ k ∈ [p.bu], W0.heap.size ≤ k := fun k hk => (Loc.foot1 hp1 kp k hk).1
    have G : ∀ k ∈ [q.g, q.bu, q.bl, q.bz], W0.heap.size ≤ k := fun k hk => by have := (Loc.foot hq kq k hk).1; omega
    have G1 : ∀ k ∈ [q.bu], W0.heap.size ≤ k := fun k hk => by have := (Loc.foot1 hq kq k hk).1; omega
    have B7 := hf7.lift B6 G (by omega)
    have B8 := (hf8.lift B7 F1 (by omega)).drewN k9
    have B10 := hf10.lift B8 G1 (by show _ ≤ w8.heap.size; omega)
    have B11 := hf11.lift B10 F (by omega)
    have B12 := (hf12.lift B11 G1 (by omega)).drewN k13
    have s12 := hf12.size
    exact ⟨rfl, HA0.out.trans ((B12.trans (hb14.mono (by show _ ≤ w12.heap.size; omega))).mono (by simpa using HA0.out.size))⟩
end Go.Proofs.Ytiijhppffboogaa
