/- wrapping: mark. -/
import Derived.Test.YtnkkdoookhhhaaaWrapA
import Derived.Deep.DeepCutAuto
import Derived.BigRegion
namespace Go.Proofs.Ytnkkdoookhhhaaa
open Go.RowKit
set_option linter.unusedVariables false

def twob (x y : Bool) : Array Value := #[.bool x, .bool y]
theorem updb_same' {V : Nat → Bool} {i : Nat} {v : Bool} (h : V i = v) : updb V i v = V := by funext j; unfold updb; split <;> simp_all
set_option maxRecDepth 100000 in
set_option maxHeartbeats 8000000 in
theorem wrMark (w : World) (r : Nat) (x y : Bool) (p : TLoc) (W H n c : Nat) (up size : Nat → Nat) (F : Nat → Int) (V : Nat → Bool) (ax dn : Bool) (h : TS w p W H n up F size V ax dn c) (hr : r < n) :
    Calls Try.prog 42 #[.pointer (some ⟨p.g, 0, none⟩), .int .i64 (r : Int), .agg #[.bool x, .bool y]] w
      fun e w' => e = .returned (.tuple #[]) ∧ TS w' p W H n up F size (updb (updb V (r * 2) (V (r * 2) || x)) (r * 2 + 1) (V (r * 2 + 1) || y)) (ax || x) (dn || y) c ∧ Fr p.bl w w' := by
  have nb := h.nb
  have hbl := hide h.lt
  have hX := Blk.new w 72 (twob x y)
  have hd := h.fr ((Fr.refl [] w).alloc (.cells (twob x y) 72)) (by simp)
  have hf : Fr p.bl w (w.alloc (.cells (twob x y) 72)) := (Fr.refl _ w).alloc _
  have HX := hide hX
  have HD := hide hd
  have HF := hide hf
  clear h hX hd hf
  go_enter Try.func42, Try.ntmps42
  go_upto_region 1 with fail
  have hw1 : w.alloc (.cells #[.bool x, .bool y] 72) = w.alloc (.cells (twob x y) 72) := rfl
  rw [hw1]
  clear hw1
  generalize w.alloc (.cells (twob x y) 72) = w1 at *
  generalize hX : w.heap.size = X at *
  have HXX := hide hX
  clear hX
  go_cut [] (fun wx => TS wx p W H n up F size (updb V (r * 2) (V (r * 2) || x)) ax dn c ∧ Blk wx X 72 (twob x y) ∧ Fr p.bl w wx)
  case first =>
    obtain ⟨_, _, _, _, _, c5, _⟩ := HD.out.cells
    have cv := HD.out.hw.bool (i := r * 2) (by omega)
    have fz := HD.out.hw.frozen (r * 2)
    have x0 : w1.cell? ⟨X, 0, none⟩ = some (.bool x) := (HX.out.cell 0).trans rfl
    have gw := HD.out.gw
    have gw' := gw.symm
    have hXw : X ≠ p.bw := by have := hbl.out p.bw (by simp [TLoc.bl]); omega
    have hXw' := hXw.symm
    cases hv : V (r * 2)
    · rw [hv] at cv
      have HV := hide hv
      clear hv
      go_region
      all_goals go_wp2_with fail
      all_goals go_meet
      all_goals exact ⟨by rw [HV.out, Bool.false_or]; exact (HD.out.setWind (r * 2) x).drew, (HX.out.far (p := ⟨p.bw, r * 2, none⟩) hXw _).drew, (HF.out.setCell (p := ⟨p.bw, r * 2, none⟩) (.inl (by simp [TLoc.bl])) _).drew⟩
    · rw [hv] at cv
      have HV := hide hv
      clear hv
      go_region
      all_goals go_wp2_with fail
      all_goals go_meet
      all_goals exact ⟨by rw [HV.out, Bool.true_or]; exact (HD.out.setWind (r * 2) true).drew, (HX.out.far (p := ⟨p.bw, r * 2, none⟩) hXw _).drew, (HF.out.setCell (p := ⟨p.bw, r * 2, none⟩) (.inl (by simp [TLoc.bl])) _).drew⟩
  case rest =>
    obtain ⟨hd1, hx1, hf1⟩ := hcut
    clear HD HX HF
    have HD := hide hd1
    have HX := hide hx1
    have HF := hide hf1
    clear hd1 hx1 hf1
    go_upto_region 2 with fail
    go_cut [] (fun wx => TS wx p W H n up F size (updb (updb V (r * 2) (V (r * 2) || x)) (r * 2 + 1) (V (r * 2 + 1) || y)) ax dn c ∧ Blk wx X 72 (twob x y) ∧ Fr p.bl w wx)
    case first =>
      obtain ⟨_, _, _, _, _, c5, _⟩ := HD.out.cells
      have cv := HD.out.hw.bool (i := r * 2 + 1) (by omega)
      have fz := HD.out.hw.frozen (r * 2 + 1)
      have x0 : wc.cell? ⟨X, 1, none⟩ = some (.bool y) := (HX.out.cell 1).trans rfl
      have gw := HD.out.gw
      have gw' := gw.symm
      have hXw : X ≠ p.bw := by have := hbl.out p.bw (by simp [TLoc.bl]); omega
      have hXw' := hXw.symm
      have hup : updb V (r * 2) (V (r * 2) || x) (r * 2 + 1) = V (r * 2 + 1) := if_neg (by omega)
      rw [hup] at cv
      clear hup
      generalize (V (r * 2) || x) = q at *
      cases hv : V (r * 2 + 1)
      · rw [hv] at cv
        have HV := hide hv
        clear hv
        go_region
        all_goals go_wp2_with fail
        all_goals go_meet
        all_goals exact ⟨by rw [HV.out, Bool.false_or]; exact (HD.out.setWind (r * 2 + 1) y).drew, (HX.out.far (p := ⟨p.bw, r * 2 + 1, none⟩) hXw _).drew, (HF.out.setCell (p := ⟨p.bw, r * 2 + 1, none⟩) (.inl (by simp [TLoc.bl])) _).drew⟩
      · rw [hv] at cv
        have HV := hide hv
        clear hv
        go_region
        all_goals go_wp2_with fail
        all_goals go_meet
        all_goals exact ⟨by rw [HV.out, Bool.true_or]; exact (HD.out.setWind (r * 2 + 1) true).drew, (HX.out.far (p := ⟨p.bw, r * 2 + 1, none⟩) hXw _).drew, (HF.out.setCell (p := ⟨p.bw, r * 2 + 1, none⟩) (.inl (by simp [TLoc.bl])) _).drew⟩
    case rest =>
      obtain ⟨hd1, hx1, hf1⟩ := hcut
      clear HD HX HF
      obtain ⟨V2, hV2⟩ : ∃ V2, V2 = updb (updb V (r * 2) (V (r * 2) || x)) (r * 2 + 1) (V (r * 2 + 1) || y) := ⟨_, rfl⟩
      rw [← hV2] at hd1
      have HV2 := hide hV2
      clear hV2
      obtain ⟨_, _, _, _, _, _, c6, c7, _⟩ := hd1.cells
      obtain ⟨wo, rfl⟩ : ∃ wo : World, wo = wc := ⟨_, rfl⟩
      have x0 : wo.cell? ⟨X, 0, none⟩ = some (.bool x) := (hx1.cell 0).trans rfl
      have x1 : wo.cell? ⟨X, 1, none⟩ = some (.bool y) := (hx1.cell 1).trans rfl
      have f6 := hd1.hg.frozen 6
      have f7 := hd1.hg.frozen 7
      have hXg : X ≠ p.g := by have := hbl.out p.g (by simp [TLoc.bl]); omega
      have hXg' := hXg.symm
      have HD := hide hd1
      have HF := hide hf1
      clear hd1 hf1 hx1
      cases ax <;> cases dn
      all_goals
        go_wp2_with fail
        go_end0
        exact ⟨rfl, by rw [← HV2.out]; exact (HD.out.setHead 6 (.bool _) rfl).setHead 7 (.bool _) rfl, (HF.out.setCell (p := ⟨p.g, 6, none⟩) (.inl (by simp [TLoc.bl])) _).setCell (p := ⟨p.g, 7, none⟩) (.inl (by simp [TLoc.bl])) _⟩
end Go.Proofs.Ytnkkdoookhhhaaa
