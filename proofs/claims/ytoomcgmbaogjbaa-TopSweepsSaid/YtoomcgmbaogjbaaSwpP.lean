/- sweep: plain, steps. -/
import Derived.Test.YtoomcgmbaogjbaaTalD
import Derived.Test.YtoomcgmbaogjbaaGraR
namespace Go.Proofs.Ytoomcgmbaogjbaa
open Go.RowKit
set_option linter.unusedVariables false

set_option maxRecDepth 100000 in
set_option maxHeartbeats 8000000 in
theorem swPlain (w : World) (q : TL) (t : BT) (n : Nat) (L f : Nat → Nat) (h : Tly w q t n L f) :
    Calls Try.prog 19 #[.pointer (some ⟨q.g, 0, none⟩)] w fun e w' => e = .returned (gRow n L) ∧ Fr [] w w' := by
  have hf1 : Fr [] w (w.alloc (.cells #[.int .i64 0, .int .i64 0, .int .i64 0] 37)) := (Fr.refl [] w).alloc _
  have hb1 : Blk (w.alloc (.cells #[.int .i64 0, .int .i64 0, .int .i64 0] 37)) w.heap.size 37 #[.int .i64 0, .int .i64 0, .int .i64 0] := Blk.new _ _ _
  have H1 := hide (h.fr hf1 (by simp))
  have HF1 := hide hf1
  have HB1 := hide hb1
  have hl : lrg n L ≤ 100 := Nat.le_trans (lrg_le n L) h.nb
  have hs : sets n L ≤ 100 := Nat.le_trans (cnt_le _ _) h.nb
  have hq : sq n L ≤ 10000 := Nat.le_trans (sq_le n L) (Nat.mul_le_mul h.nb h.nb)
  unfold gRow
  clear h hf1 hb1
  have HL := hide fun (W : World) (hW : Tly W q t n L f) => tlyLargest W q t n L f hW
  have HC := hide fun (W : World) (hW : Tly W q t n L f) => tlyCount W q t n L f hW
  have HS := hide fun (W : World) (hW : Tly W q t n L f) => tlySquares W q t n L f hW
  generalize lrg n L = a at *
  generalize sets n L = b at *
  generalize sq n L = c at *
  go_enter Try.func19, Try.ntmps19
  go_wp2_with fail
  generalize w.alloc (.cells #[.int .i64 0, .int .i64 0, .int .i64 0] 37) = w1 at *
  generalize hR : w.heap.size = R at *
  have HRR := hide hR
  clear hR
  refine (HL.out _ H1.out).mono ?_
  rintro e w2 ⟨rfl, hf⟩
  have H2 := hide (H1.out.fr hf (by simp))
  have HB2 := hide (HB1.out.fr hf (by simp))
  have HF2 := hide (HF1.out.trans hf)
  clear hf
  go_wp2_with fail
  refine (HC.out _ H2.out).mono ?_
  rintro e w3 ⟨rfl, hf⟩
  have H3 := hide (H2.out.fr hf (by simp))
  have HB3 := hide (HB2.out.fr hf (by simp))
  have HF3 := hide (HF2.out.trans hf)
  clear hf
  go_wp2_with fail
  refine (HS.out _ H3.out).mono ?_
  rintro e w4 ⟨rfl, hf⟩
  have hb4 := HB3.out.fr hf (by simp)
  have HF4 := hide (HF3.out.trans hf)
  clear hf
  have r0 : w4.cell? ⟨R, 0, none⟩ = some (.int .i64 0) := (hb4.cell 0).trans rfl
  have r1 : w4.cell? ⟨R, 1, none⟩ = some (.int .i64 0) := (hb4.cell 1).trans rfl
  have r2 : w4.cell? ⟨R, 2, none⟩ = some (.int .i64 0) := (hb4.cell 2).trans rfl
  have z0 := hb4.frozen 0
  have z1 := hb4.frozen 1
  have z2 := hb4.frozen 2
  have HB4 := hide hb4
  clear hb4
  go_wp2_with fail
  have hR3 := ((HB4.out.set_ 0 (.int .i64 (a : Int))).set_ 1 (.int .i64 (b : Int))).set_ 2 (.int .i64 (c : Int))
  have q0 := (hR3.cell 0).trans rfl
  have q1 := (hR3.cell 1).trans rfl
  have q2 := (hR3.cell 2).trans rfl
  refine bodyPost_ret (v := .agg #[.int .i64 (a : Int), .int .i64 (b : Int), .int .i64 (c : Int)]) (by simp [results, Try.results19, go_sem, q0, q1, q2]) rfl ⟨rfl, ?_⟩
  have hr := HRR.out
  exact ((HF4.out.setCell (p := ⟨R, 0, none⟩) (.inr (by simp [hr])) _).setCell (p := ⟨R, 1, none⟩) (.inr (by simp [hr])) _).setCell (p := ⟨R, 2, none⟩) (.inr (by simp [hr])) _

set_option maxRecDepth 100000 in
theorem swSteps (w : World) (t A O : Option Addr) (ml cl mo co : Nat) : Calls Try.prog 27 #[.pointer t, .slice A ml cl, .slice O mo co] w fun e w' => e = .returned (.func (.func 39) #[] #[.pointer (some ⟨w.heap.size + 1 + 1, 0, none⟩), .pointer (some ⟨w.heap.size, 0, none⟩), .pointer (some ⟨w.heap.size + 1, 0, none⟩)]) ∧
    w' = ((w.alloc (.cells #[.pointer t] 51)).alloc (.cells #[.slice A ml cl] 22)).alloc (.cells #[.slice O mo co] 29) := by
  go_enter Try.func27, Try.ntmps27
  go_wp2_with fail
  go_ret
  exact ⟨rfl, rfl⟩
end Go.Proofs.Ytoomcgmbaogjbaa
