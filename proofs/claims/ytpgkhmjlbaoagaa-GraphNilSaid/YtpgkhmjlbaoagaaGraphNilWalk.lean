/- The walk of GraphNil. -/
import Derived.Test.YtpgkhmjlbaoagaaGraNm
import Derived.Test.YtpgkhmjlbaoagaaGraWk
namespace Go.Proofs.Ytpgkhmjlbaoagaa
open Go.RowKit
set_option linter.unusedVariables false

set_option maxRecDepth 100000 in
set_option maxHeartbeats 8000000 in
theorem graphNil_walk (a0 a1 : Int) (W : World) (w0 : (Lit.int .i64 a0).wf = true) (w1 : (Lit.int .i64 a1).wf = true) :
    Calls Try.prog 10 #[.int .i64 a0, .int .i64 a1] W fun e W' => e = .returned (.bool true) ∧ Below W.heap.size W W' := by
  clear w0 w1
  go_enter Try.func10, Try.ntmps10
  go_wp2_with fail
  obtain ⟨W0, hW0, hA, c0, c1, c2⟩ : ∃ W0, (W.alloc (.cells #[.pointer none, .slice none 0 0, .slice none 0 0, .slice none 0 0] 66)).alloc (.cells #[.pointer none, .pointer (some ⟨W.heap.size, 0, none⟩)] 25) = W0 ∧
      Hid (Below W.heap.size W W0) ∧ Hid (W0.cell? ⟨W.heap.size + 1, 0, none⟩ = some (.pointer none)) ∧ Hid (W0.cell? ⟨W.heap.size + 1, 1, none⟩ = some (.pointer (some ⟨W.heap.size, 0, none⟩))) ∧ Hid (W0.cell? ⟨W.heap.size, 0, none⟩ = some (.pointer none)) := by
    refine ⟨_, rfl, ((Below.refl _ _).alloc (Nat.le_refl _) _).alloc (by simp) _, ?_, ?_, ?_⟩
    · show _ = _; simp [go_sem]
    · show _ = _; simp [go_sem]
    · show _ = _; simp [go_sem]
  rw [hW0]
  clear hW0
  go_loopg [7] 2 (fun q v wr => ∃ k : Nat, k + q = 2 ∧ v = .int .i64 (k : Int) ∧ Below W0.heap.size W0 wr)
  case atStart => exact ⟨0, by omega, rfl, Below.refl _ _⟩
  case round =>
    obtain ⟨k, hk, rfl, hb⟩ := hrel
    have HK := hide hk
    have HB := hide hb
    have hk2 : k = 0 ∨ k = 1 ∨ k = 2 := by omega
    clear hk hb
    have HL0 := hide (World.block_lt_of_cell? _ _ c0.out)
    have HL2 := hide (World.block_lt_of_cell? _ _ c2.out)
    have d0 : wr.cell? ⟨W.heap.size + 1, 0, none⟩ = some (.pointer none) := (HB.out.cell (p := ⟨W.heap.size + 1, 0, none⟩) HL0.out).trans c0.out
    have d1 : wr.cell? ⟨W.heap.size + 1, 1, none⟩ = some (.pointer (some ⟨W.heap.size, 0, none⟩)) := (HB.out.cell (p := ⟨W.heap.size + 1, 1, none⟩) HL0.out).trans c1.out
    have d2 : Hid (wr.cell? ⟨W.heap.size, 0, none⟩ = some (.pointer none)) := (HB.out.cell (p := ⟨W.heap.size, 0, none⟩) HL2.out).trans c2.out
    rcases hk2 with rfl | rfl | rfl
    · have HG : Hid (GraBad wr none) := .inl rfl
      clear d1 d2
      go_wp2_with (first | (go_at_call 15; refine (graB_Strength _ _ _ HG.out).mono ?_; rintro e w' ⟨rfl, rfl⟩) | (go_at_call 36; refine (graB_N _ _ HG.out).mono ?_; rintro e w' ⟨rfl, rfl⟩) | (go_at_call 25; refine (graB_Edges _ _ HG.out).mono ?_; rintro e w' ⟨rfl, rfl⟩) | (go_at_call 18; refine (graB_Degree _ _ _ HG.out).mono ?_; rintro e w' ⟨rfl, rfl⟩))
      refine (around_bad _ _ a0 9 HG.out).mono ?_
      rintro e w3 ⟨rfl, hb3⟩
      have HG3 := hide (HG.out.below hb3)
      have HB3 := hide (HB.out.trans (hb3.mono HB.out.size))
      clear hb3 d0
      go_wp2_with (first | (go_at_call 27; refine (graB_Labels _ _ HG3.out).mono ?_; rintro e w' ⟨rfl, rfl⟩) | (go_at_call 31; refine (graB_Components _ _ HG3.out).mono ?_; rintro e w' ⟨rfl, rfl⟩) | (go_at_call 23; refine (graB_Dist _ _ _ HG3.out).mono ?_; rintro e w' ⟨rfl, rfl⟩) | (go_at_call 34; refine (graB_Under _ _ _ HG3.out).mono ?_; rintro e w' ⟨rfl, rfl⟩))
      refine (graB_Row _ _ HG3.out).mono ?_
      rintro e w4 ⟨rfl, hb4⟩
      have HB4 := hide (HB3.out.trans (hb4.mono HB3.out.size))
      clear hb4
      go_wp2_with fail
      go_roundg 1
      case measure => have := HK.out; omega
      case rel => exact ⟨1, by omega, by go_num, HB4.out⟩
    · have HG : Hid (GraBad wr (some ⟨W.heap.size, 0, none⟩)) := .inr ⟨_, rfl, d2.out⟩
      clear d0 d2
      go_wp2_with (first | (go_at_call 15; refine (graB_Strength _ _ _ HG.out).mono ?_; rintro e w' ⟨rfl, rfl⟩) | (go_at_call 36; refine (graB_N _ _ HG.out).mono ?_; rintro e w' ⟨rfl, rfl⟩) | (go_at_call 25; refine (graB_Edges _ _ HG.out).mono ?_; rintro e w' ⟨rfl, rfl⟩) | (go_at_call 18; refine (graB_Degree _ _ _ HG.out).mono ?_; rintro e w' ⟨rfl, rfl⟩))
      refine (around_bad _ _ a0 9 HG.out).mono ?_
      rintro e w3 ⟨rfl, hb3⟩
      have HG3 := hide (HG.out.below hb3)
      have HB3 := hide (HB.out.trans (hb3.mono HB.out.size))
      clear hb3 d1
      go_wp2_with (first | (go_at_call 27; refine (graB_Labels _ _ HG3.out).mono ?_; rintro e w' ⟨rfl, rfl⟩) | (go_at_call 31; refine (graB_Components _ _ HG3.out).mono ?_; rintro e w' ⟨rfl, rfl⟩) | (go_at_call 23; refine (graB_Dist _ _ _ HG3.out).mono ?_; rintro e w' ⟨rfl, rfl⟩) | (go_at_call 34; refine (graB_Under _ _ _ HG3.out).mono ?_; rintro e w' ⟨rfl, rfl⟩))
      refine (graB_Row _ _ HG3.out).mono ?_
      rintro e w4 ⟨rfl, hb4⟩
      have HB4 := hide (HB3.out.trans (hb4.mono HB3.out.size))
      clear hb4
      go_wp2_with fail
      go_roundg 0
      case measure => have := HK.out; omega
      case rel => exact ⟨2, by omega, by go_num, HB4.out⟩
    · clear d0 d1 d2
      go_wp2_with fail
      refine (works13 _).mono ?_
      rintro e w5 ⟨rfl, hb5⟩
      go_wp2_with fail
      go_ret
      have h9 := hA.out.trans (HB.out.mono hA.out.size)
      exact ⟨rfl, h9.trans (hb5.mono h9.size)⟩
end Go.Proofs.Ytpgkhmjlbaoagaa
