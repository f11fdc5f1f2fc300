/- wrapping: Spans refused; seepageref30: Sizes, Spans. -/
import Derived.Test.YtohhbepfpmbnkaaWrapSp
import Derived.Test.YtohhbepfpmbnkaaR13N
namespace Go.Proofs.Ytohhbepfpmbnkaa
open Go.RowKit
set_option linter.unusedVariables false

set_option maxRecDepth 100000 in
theorem r30Sizes (w h : Int) (W : World) :
    Calls Try.prog 78 #[.int .i64 w, .int .i64 h] W fun e W' => e = .returned (.bool (torB w h)) ∧ W = W' := by
  by_cases hc : (1 ≤ w ∧ 1 ≤ h) ∧ w ≤ 4096 ∧ h ≤ 4096
  · obtain ⟨⟨h1, h2⟩, h3, h4⟩ := hc
    have b1 : 0 ≤ w * h := Int.mul_nonneg (by omega) (by omega)
    have b2 : w * h ≤ 4096 * 4096 := Int.mul_le_mul h3 h4 (by omega) (by omega)
    go_enter Try.func78, Try.ntmps78
    go_wp2
    go_ret
    exact ⟨ret_bool (by unfold torB; exact decide_eq_decide.2 ⟨fun h => ⟨h1, h2, h3, h4, h⟩, fun h => h.2.2.2.2⟩), rfl⟩
  · have hf : torB w h = false := by simp only [torB, decide_eq_false_iff_not]; omega
    have hF : Hid (torB w h = false) := hf
    clear hf
    by_cases h1 : 1 ≤ w
    · by_cases h2 : 1 ≤ h
      · by_cases h3 : w ≤ 4096
        · have h4 : ¬ h ≤ 4096 := by omega
          clear hc
          go_enter Try.func78, Try.ntmps78
          go_wp2
          go_ret
          exact ⟨ret_bool (by rw [hF.out]), rfl⟩
        · clear hc
          go_enter Try.func78, Try.ntmps78
          go_wp2
          go_ret
          exact ⟨ret_bool (by rw [hF.out]), rfl⟩
      · clear hc
        go_enter Try.func78, Try.ntmps78
        go_wp2
        go_ret
        exact ⟨ret_bool (by rw [hF.out]), rfl⟩
    · clear hc
      go_enter Try.func78, Try.ntmps78
      go_wp2
      go_ret
      exact ⟨ret_bool (by rw [hF.out]), rfl⟩
theorem ret_fe {a b : Int} (h : a = b) : Ending.returned (.tuple #[.bool false, .int .i64 a]) = .returned (.tuple #[.bool false, .int .i64 b]) := by rw [h]
theorem wrSpans_no (w : World) (a b : Int) (v : Value) (h : torB a b = false) :
    Calls Try.prog 56 #[.int .i64 a, .int .i64 b, v] w fun e w' => e = .returned (.tuple #[.bool false, .int .i64 2]) ∧ w = w' := by
  have HI := wrIs a b w
  rw [h] at HI
  have HI2 := hide HI
  clear HI h
  go_enter Try.func56, Try.ntmps56
  go_wp2_with fail
  refine HI2.out.mono ?_
  rintro e w' ⟨rfl, rfl⟩
  go_wp2_with fail
  go_ret2
  exact ⟨rfl, rfl⟩
theorem r30Spans_no (w : World) (a b : Int) (v : Value) (h : torB a b = false) :
    Calls Try.prog 57 #[.int .i64 a, .int .i64 b, v] w fun e w' => e = .returned (.tuple #[.bool false, .int .i64 2]) ∧ w = w' := by
  have HI := r30Sizes a b w
  rw [h] at HI
  have HI2 := hide HI
  clear HI h
  go_enter Try.func57, Try.ntmps57
  go_wp2_with fail
  refine HI2.out.mono ?_
  rintro e w' ⟨rfl, rfl⟩
  go_wp2_with fail
  go_ret2
  exact ⟨rfl, rfl⟩
set_option maxHeartbeats 4000000 in
theorem wrSpans_err (w : World) (X Y n m c : Nat) (A : Option Addr) (l : List (Int × Int × Int)) (ht : torB (X : Int) (Y : Int) = true) (hn : n = X * Y) (hr : Rd w A m 3 (ecs l)) (ll : l.length = m) (hm9 : m ≤ 9223372036854775807) (hE : newE (n : Int) l ≠ 0) :
    Calls Try.prog 56 #[.int .i64 (X : Int), .int .i64 (Y : Int), .slice A m c] w
      fun e w' => e = .returned (.tuple #[.bool false, .int .i64 (newE (n : Int) l)]) ∧ Below w.heap.size w w' := by
  have HI := wrIs (X : Int) (Y : Int) w
  rw [ht] at HI
  obtain ⟨h1, h2, h3, h4, h5⟩ : 1 ≤ (X : Int) ∧ 1 ≤ (Y : Int) ∧ (X : Int) ≤ 4096 ∧ (Y : Int) ≤ 4096 ∧ (X : Int) * (Y : Int) ≤ 4096 := by unfold torB at ht; exact of_decide_eq_true ht
  have hXY : (X : Int) * (Y : Int) = (n : Int) := by rw [hn]; push_cast; rfl
  have hn4 : n ≤ 4096 := by omega
  have HN := graNew_no w (n : Int) m c A l hr ll hm9 hE
  generalize newE (n : Int) l = E at *
  have hne : (E != 0) = true := by simpa using hE
  have HN2 := hide HN
  have HI2 := hide HI
  clear HI ht hr ll hE hn h5 HN
  go_enter Try.func56, Try.ntmps56
  go_wp2_with fail
  refine HI2.out.mono ?_
  rintro e w' ⟨rfl, rfl⟩
  go_wp2_with fail
  refine HN2.out.mono ?_
  rintro e w1 ⟨rfl, hB⟩
  have HB := hide hB
  clear hB
  go_wp2_with fail
  go_ret2
  exact ⟨rfl, HB.out⟩
set_option maxHeartbeats 4000000 in
theorem r30Spans_err (w : World) (X Y n m c : Nat) (A : Option Addr) (l : List (Int × Int × Int)) (ht : torB (X : Int) (Y : Int) = true) (hn : n = X * Y) (hr : Rd w A m 3 (ecs l)) (ll : l.length = m) (hm9 : m ≤ 9223372036854775807) (hE : newE (n : Int) l ≠ 0) :
    Calls Try.prog 57 #[.int .i64 (X : Int), .int .i64 (Y : Int), .slice A m c] w
      fun e w' => e = .returned (.tuple #[.bool false, .int .i64 (newE (n : Int) l)]) ∧ Below w.heap.size w w' := by
  have HI := r30Sizes (X : Int) (Y : Int) w
  rw [ht] at HI
  obtain ⟨h1, h2, h3, h4, h5⟩ : 1 ≤ (X : Int) ∧ 1 ≤ (Y : Int) ∧ (X : Int) ≤ 4096 ∧ (Y : Int) ≤ 4096 ∧ (X : Int) * (Y : Int) ≤ 4096 := by unfold torB at ht; exact of_decide_eq_true ht
  have hXY : (X : Int) * (Y : Int) = (n : Int) := by rw [hn]; push_cast; rfl
  have hn4 : n ≤ 4096 := by omega
  have HN := r13New_no w (n : Int) m c A l hr ll hm9 hE
  generalize newE (n : Int) l = E at *
  have hne : (E != 0) = true := by simpa using hE
  have HN2 := hide HN
  have HI2 := hide HI
  clear HI ht hr ll hE hn h5 HN
  go_enter Try.func57, Try.ntmps57
  go_wp2_with fail
  refine HI2.out.mono ?_
  rintro e w' ⟨rfl, rfl⟩
  go_wp2_with fail
  refine HN2.out.mono ?_
  rintro e w1 ⟨rfl, hB⟩
  have HB := hide hB
  clear hB
  go_wp2_with fail
  go_ret2
  exact ⟨rfl, HB.out⟩

set_option maxRecDepth 100000 in
set_option maxHeartbeats 8000000 in
theorem r30Spans_ok (w : World) (X Y n m c : Nat) (A : Option Addr) (l : List (Int × Int × Int)) (ht : torB (X : Int) (Y : Int) = true) (hn : n = X * Y) (hr : Rd w A m 3 (ecs l)) (ll : l.length = m) (hE : newE (n : Int) l = 0) :
    Calls Try.prog 57 #[.int .i64 (X : Int), .int .i64 (Y : Int), .slice A m c] w
      fun e w' => e = .returned (.tuple #[.bool (spanB X Y (gLb n l)), .int .i64 0]) ∧ Below w.heap.size w w' := by
  have HI := r30Sizes (X : Int) (Y : Int) w
  rw [ht] at HI
  obtain ⟨h1, h2, h3, h4, h5⟩ : 1 ≤ (X : Int) ∧ 1 ≤ (Y : Int) ∧ (X : Int) ≤ 4096 ∧ (Y : Int) ≤ 4096 ∧ (X : Int) * (Y : Int) ≤ 4096 := by unfold torB at ht; exact of_decide_eq_true ht
  have hXY : (X : Int) * (Y : Int) = (n : Int) := by rw [hn]; push_cast; rfl
  have hn4 : n ≤ 4096 := by omega
  have HN := hide (r13New_ok w n m c A l hr ll hE)
  have HI2 := hide HI
  have HNN := hide hn
  have hXn : 1 ≤ X := by omega
  have hYn : 1 ≤ Y := by omega
  have hn1 : 0 < n := by rw [hn]; exact Nat.mul_pos hXn hYn
  clear HI ht hr ll hE hn h5
  go_enter Try.func57, Try.ntmps57
  go_wp2_with fail
  refine HI2.out.mono ?_
  rintro e w' ⟨rfl, rfl⟩
  go_wp2_with fail
  refine HN.out.mono ?_
  rintro e w1 ⟨g, A', c', rfl, hG, hB⟩
  have HL := hide (r13Labels w1 g A' c' n _ l hG)
  have HB := hide hB
  clear hG hB
  go_wp2_with fail
  refine HL.out.mono ?_
  rintro e w2 ⟨V, rfl, ho, hB2⟩
  obtain ⟨gl, cap, rfl⟩ := own_nn ho hn1
  have HB2 := hide (HB.out.trans (hB2.mono HB.out.size))
  generalize hLL : gLb n l = L at *
  have HLL := hide hLL
  have hcell : ∀ i, i < n → w2.cell? ⟨gl, i, none⟩ = some (.int .i64 (L i : Int)) := fun i hi => own_int ho hi
  have HC := hide hcell
  clear ho hB2 hLL hcell
  go_wp2_with fail
  go_loopg [11] Y (fun q v wr => ∃ a d : Nat, a + q = Y ∧ v = .int .i64 (a : Int) ∧ (∀ i, i < a → ∀ j, j < Y → L (i * X) ≠ L (j * X + (X - 1))) ∧ wr = w2.drewN d)
  case atStart => exact ⟨0, 0, by omega, rfl, fun i h => by omega, rfl⟩
  case round =>
    obtain ⟨a, d, ha, rfl, hno, rfl⟩ := hrel
    have HA := hide ha
    have HNO := hide hno
    have haY : a ≤ Y := by omega
    clear ha hno
    by_cases hlt : a < Y
    · go_wp2_with fail
      go_loopg [12] Y (fun q v wr => ∃ b d : Nat, b + q = Y ∧ v = .int .i64 (b : Int) ∧ (∀ j, j < b → L (a * X) ≠ L (j * X + (X - 1))) ∧ wr = w2.drewN d)
      case atStart => exact ⟨0, d, by omega, rfl, fun i h => by omega, rfl⟩
      case round =>
        obtain ⟨b, d, hb, rfl, hno2, rfl⟩ := hrel
        have HBB := hide hb
        have HNO2 := hide hno2
        have hbY : b ≤ Y := by omega
        clear hb hno2
        by_cases hlt2 : b < Y
        · have fa := first_in hXn hlt
          have fb := first_in hXn hlt2
          rw [← HNN.out] at fa fb
          have ca : (w2.drewN d).cell? ⟨gl, a * X, none⟩ = some (.int .i64 (L (a * X) : Int)) := HC.out _ fa.1
          have cb : (w2.drewN d).cell? ⟨gl, b * X + (X - 1), none⟩ = some (.int .i64 (L (b * X + (X - 1)) : Int)) := HC.out _ fb.2
          have HWX : Hid (∀ k, (w2.drewN d).drewN k = w2.drewN (d + k)) := fun k => World.drewN_drewN _ _ _
          have HBX := hide (HB2.out.drewN d)
          generalize hwx : w2.drewN d = wx at *
          clear hwx
          obtain ⟨fa1, -⟩ := fa
          obtain ⟨-, fb2⟩ := fb
          have e1 : (a : Int) * (X : Int) = ((a * X : Nat) : Int) := by push_cast; rfl
          have e2 : (b : Int) * (X : Int) = ((b * X : Nat) : Int) := by push_cast; rfl
          have e3 : ((b * X : Nat) : Int) + (X : Int) - 1 = ((b * X + (X - 1) : Nat) : Int) := by omega
          have HZ : Hid (∀ x, x = a * X → ∀ y, y = b * X + (X - 1) → True) := fun _ _ _ _ => trivial
          generalize hp : L (a * X) = p at *
          generalize hq : L (b * X + (X - 1)) = q at *
          have HP := hide hp
          have HQ := hide hq
          clear hp hq
          generalize hzz : b * X + (X - 1) = z at *
          have HZZ := hide hzz
          clear hzz
          generalize hyy : b * X = bx at *
          have HYY := hide hyy
          clear hyy
          generalize haa : a * X = ax at *
          have HAX := hide haa
          clear haa HZ
          have hzb : z ≤ 5000 := by omega
          have hxb : ax ≤ 5000 := by omega
          have hbxb : bx ≤ 5000 := by omega
          have hXb : X ≤ 5000 := by omega
          have wr1 : IntKind.i64.wrap (ax : Int) = (ax : Int) := IntWalk.i64_in _ (by omega)
          have wr2 : IntKind.i64.wrap (bx : Int) = (bx : Int) := IntWalk.i64_in _ (by omega)
          have wr3 : IntKind.i64.wrap ((bx : Int) + (X : Int)) = (bx : Int) + (X : Int) := IntWalk.i64_in _ (by omega)
          have wr4 : IntKind.i64.wrap (z : Int) = (z : Int) := IntWalk.i64_in _ (by omega)
          by_cases hpq : p = q
          · have hbe : ((p : Int) == (q : Int)) = true := beq_nat_true hpq
            have hsp : spanB X Y L = true := spanB_iff.2 ⟨a, b, hlt, hlt2, by rw [HAX.out, HP.out, HYY.out, HZZ.out, HQ.out]; exact hpq⟩
            have HSP := hide hsp
            clear hsp hpq
            go_wp2_with fail
            go_quiet (fail)
            go_wp2_with fail
            go_ret2
            exact ⟨ret_bi (by rw [HLL.out, HSP.out]), HBX.out.drewN _⟩
          · have hbe : ((p : Int) == (q : Int)) = false := beq_nat_false hpq
            have HPQ := hide hpq
            clear hpq
            go_wp2_with fail
            go_quiet (fail)
            go_wp2_with fail
            clear e1 e2 e3
            go_roundg (Y - (b + 1))
            case measure => have := HBB.out; omega
            case rel => exact ⟨b + 1, _, by omega, by go_num, fun j hj => by
              by_cases e : j = b
              · subst e
                rw [HYY.out, HZZ.out, HQ.out]; exact HPQ.out
              · exact HNO2.out j (by omega), HWX.out _⟩
        · have hbb : b = Y := by omega
          go_wp2_with fail
          go_roundg (Y - (a + 1))
          case measure => have := HA.out; omega
          case rel => exact ⟨a + 1, d, by omega, by go_num, fun i hi j hj => by
            by_cases e : i = a
            · subst e; exact HNO2.out j (by omega)
            · exact HNO.out i (by omega) j hj, rfl⟩
    · have hsp : spanB X Y L = false := by
        rw [← Bool.not_eq_true]
        intro h
        obtain ⟨i, j, hi, hj, hij⟩ := spanB_iff.1 h
        exact HNO.out i (by omega) j hj hij
      have HSP := hide hsp
      clear hsp
      go_wp2_with fail
      go_ret2
      exact ⟨ret_bi (by rw [HLL.out, HSP.out]), HB2.out.drewN _⟩
end Go.Proofs.Ytohhbepfpmbnkaa
