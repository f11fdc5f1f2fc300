/- seepageref13: Components and Row of a nil graph. -/
import Derived.Test.YtpgkhmjlbaoagaaR13R
import Derived.Test.YtpgkhmjlbaoagaaR13E
namespace Go.Proofs.Ytpgkhmjlbaoagaa
open Go.RowKit
set_option linter.unusedVariables false

theorem row_neq13 (a b c : Int) (W : World) : (binOp .neq 53 (.agg #[.int .i64 a, .int .i64 b, .int .i64 c]) (.agg #[.int .i64 a, .int .i64 b, .int .i64 c])).run Try.prog W = .ok (.bool false) W := by
  rw [run_neq_struct, run_equalIn_agg W 9999 _ _ _ (by kernel_rfl) (by kernel_rfl)]
  simp [Op.eqFields, Program.fieldsOf, Try.underlying53, go_sem]
theorem r13N_Components (w : World) : Calls Try.prog 32 #[.pointer none] w fun e w' => e = .returned (.slice none 0 0) ∧ w = w' := by
  go_enter Try.func32, Try.ntmps32
  go_wp2_with (go_at_call 28; refine (r13N_Labels _).mono ?_; rintro e w' ⟨rfl, rfl⟩)
  go_loopg [4, 5, 6, 7] 0 (fun q vo vi v6 v7 wr => vi = .int .i64 0 ∧ vo = .slice none 0 0 ∧ wr = w)
  case atStart => exact ⟨rfl, rfl, rfl⟩
  case round =>
    obtain ⟨rfl, rfl, rfl⟩ := hrel
    go_wp2_with fail
    go_ret
    exact ⟨rfl, rfl⟩
theorem r13N_Row (w : World) : Calls Try.prog 30 #[.pointer none] w fun e w' => e = .returned (.agg #[.int .i64 0, .int .i64 0, .int .i64 0]) ∧ Below w.heap.size w w' := by
  have hA0 : Below w.heap.size w (w.alloc (.cells #[.int .i64 0, .int .i64 0, .int .i64 0] 53)) := (Below.refl _ _).alloc (Nat.le_refl _) _
  have hR0 : Blk (w.alloc (.cells #[.int .i64 0, .int .i64 0, .int .i64 0] 53)) w.heap.size 53 #[.int .i64 0, .int .i64 0, .int .i64 0] := Blk.new w _ _
  have HA0 := hide hA0
  have HR0 := hide hR0
  clear hA0 hR0
  go_enter Try.func30, Try.ntmps30
  go_wp2_with fail
  generalize w.alloc (.cells #[.int .i64 0, .int .i64 0, .int .i64 0] 53) = w1 at *
  generalize hRR : w.heap.size = R at *
  have HRR := hide hRR
  clear hRR
  refine (r13N_Components _).mono ?_
  rintro e w2 ⟨rfl, rfl⟩
  go_wp2_with fail
  have hX1 := Blk.new w1 53 #[.int .i64 0, .int .i64 0, .int .i64 0]
  have hb3 : Below w1.heap.size w1 (w1.alloc (.cells #[.int .i64 0, .int .i64 0, .int .i64 0] 53)) := (Below.refl _ _).alloc (Nat.le_refl _) _
  generalize w1.alloc (.cells #[.int .i64 0, .int .i64 0, .int .i64 0] 53) = w3 at *
  have hge : R < w1.heap.size := HR0.out.lt
  have HR3 := hide (HR0.out.below hb3 hge)
  have HB3 := hide (HA0.out.trans (hb3.mono (by omega)))
  have HX1 := hide hX1
  generalize w1.heap.size = X at *
  clear hX1 hb3 HR0 HA0
  go_loopg [5, 6] 0 (fun q s s6 wr => s = .int .i64 0 ∧ wr = w3)
  case atStart => exact ⟨rfl, rfl⟩
  case round =>
    obtain ⟨rfl, rfl⟩ := hrel
    have r0 : wr.cell? ⟨R, 0, none⟩ = some (.int .i64 0) := (HR3.out.cell 0).trans rfl
    have r1 : wr.cell? ⟨R, 1, none⟩ = some (.int .i64 0) := (HR3.out.cell 1).trans rfl
    have r2 : wr.cell? ⟨R, 2, none⟩ = some (.int .i64 0) := (HR3.out.cell 2).trans rfl
    have x0 : wr.cell? ⟨X, 0, none⟩ = some (.int .i64 0) := (HX1.out.cell 0).trans rfl
    have x1 : wr.cell? ⟨X, 1, none⟩ = some (.int .i64 0) := (HX1.out.cell 1).trans rfl
    have x2 : wr.cell? ⟨X, 2, none⟩ = some (.int .i64 0) := (HX1.out.cell 2).trans rfl
    have z0 := HR3.out.frozen 0
    have z1 := HR3.out.frozen 1
    have z2 := HR3.out.frozen 2
    go_wp2_with fail
    have hR3 := ((HR3.out.set_ 0 (.int .i64 0)).set_ 1 (.int .i64 0)).set_ 2 (.int .i64 0)
    have q0 := (hR3.cell 0).trans rfl
    have q1 := (hR3.cell 1).trans rfl
    have q2 := (hR3.cell 2).trans rfl
    refine bodyPost_ret (v := .agg #[.int .i64 0, .int .i64 0, .int .i64 0]) (by simp [results, Try.results30, go_sem, q0, q1, q2]) rfl ⟨rfl, by rw [HRR.out]; exact ((HB3.out.setCell (p := ⟨R, 0, none⟩) (Nat.le_refl R) _).setCell (p := ⟨R, 1, none⟩) (Nat.le_refl R) _).setCell (p := ⟨R, 2, none⟩) (Nat.le_refl R) _⟩
end Go.Proofs.Ytpgkhmjlbaoagaa
