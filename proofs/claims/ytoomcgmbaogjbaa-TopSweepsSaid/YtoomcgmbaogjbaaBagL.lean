/- bag: Kth of the last, Max. -/
import Derived.Test.YtoomcgmbaogjbaaBagH
namespace Go.Proofs.Ytoomcgmbaogjbaa
open Go.RowKit
set_option linter.unusedVariables false

/-- The greatest number; 0 without any. -/
def BT.last : BT → Int
  | .nil => 0
  | .node _ _ .nil x _ => x
  | .node _ _ r _ _ => r.last
def Pos (L : List (Int × Nat)) : Prop := ∀ p ∈ L, 0 < p.2
theorem Pos.parts {b : Nat} {l r : BT} {y : Int} {n : Nat} (h : Pos (BT.node b l r y n).ls) : Pos l.ls ∧ 0 < n ∧ Pos r.ls := by
  unfold Pos at h
  rw [BT.ls] at h
  exact ⟨fun p hp => h p (List.mem_append.2 (.inl hp)), h (y, n) (List.mem_append.2 (.inr (List.mem_cons_self ..))), fun p hp => h p (List.mem_append.2 (.inr (List.mem_cons_of_mem _ hp)))⟩
theorem Pos.sz {b : Nat} {l r : BT} {y : Int} {n : Nat} (h : Pos (BT.node b l r y n).ls) : 0 < (BT.node b l r y n).sz := by
  have := h.parts.2.1
  simp only [BT.sz]; omega

theorem BT.sz_pos {r : BT} (h : r ≠ .nil) (hp : Pos r.ls) : 0 < r.sz := by
  cases r with
  | nil => exact absurd rfl h
  | node b l r x n => exact hp.sz
theorem BT.last_node (b : Nat) (l : BT) (x : Int) (n : Nat) {r : BT} (h : r ≠ .nil) : (BT.node b l r x n).last = r.last := by
  cases r with
  | nil => exact absurd rfl h
  | node b l r x n => rfl
theorem Dr.trans {a b c : World} (h : Dr a b) (k : Dr b c) : Dr a c := by obtain ⟨i, rfl⟩ := h; obtain ⟨j, rfl⟩ := k; exact ⟨i + j, World.drewN_drewN _ _ _⟩

set_option maxRecDepth 100000 in
set_option maxHeartbeats 8000000 in
theorem bagKth (w : World) (g : Nat) (t : BT) (h : Bg w g t) (hp : Pos t.ls) (hn : 0 < t.sz) (hz : t.sz ≤ 1000000) :
    Calls Try.prog 52 #[.pointer (some ⟨g, 0, none⟩), .int .i64 ((t.sz : Int) - 1)] w fun e w' => e = .returned (.tuple #[.int .i64 t.last, .bool true]) ∧ Dr w w' := by
  have HV := hide (bagTree w g t h)
  have HZ := hide (bagSize w g t h)
  obtain ⟨M, hM⟩ : ∃ M, M = t.ct := ⟨_, rfl⟩
  obtain ⟨tp, htp⟩ : ∃ tp, tp = t.pt := ⟨_, rfl⟩
  obtain ⟨Z, hZ⟩ : ∃ Z, Z = t.sz := ⟨_, rfl⟩
  obtain ⟨X, hX⟩ : ∃ X, X = t.last := ⟨_, rfl⟩
  rw [← htp] at HV
  rw [← hZ] at HZ hn hz ⊢
  rw [← hX]
  have H0 : Hid (∃ sub : BT, M = sub.ct ∧ tp = sub.pt ∧ Tr w sub ∧ Pos sub.ls ∧ sub.sz = Z ∧ sub.last = X) := hide ⟨t, hM, htp, h.tr, hp, hZ.symm, hX.symm⟩
  have HZ2 := hide hz
  clear h hp hM htp hZ hX
  go_enter Try.func52, Try.ntmps52
  go_wp2_with fail
  refine HV.out.mono ?_
  rintro e w1 ⟨rfl, rfl⟩
  clear HV
  go_wp2_with fail
  refine HZ.out.mono ?_
  rintro e w1 ⟨rfl, hw⟩
  have HW := hide hw
  clear hw HZ
  go_wp2_with fail
  go_loopg [1, 6] M (fun gh s1 s6 wr => ∃ sub : BT, gh = sub.ct ∧ s1 = .int .i64 ((sub.sz : Int) - 1) ∧ s6 = .pointer sub.pt ∧ Tr wr sub ∧ Pos sub.ls ∧ 0 < sub.sz ∧ sub.sz ≤ 1000000 ∧ sub.last = X ∧ Dr w wr)
  case atStart =>
    obtain ⟨sub, h1, h2, h3, h4, h5, h6⟩ := H0.out
    exact ⟨sub, h1, by rw [h5], by rw [h2], h3.dr HW.out, h4, by omega, by have := HZ2.out; omega, h6, HW.out⟩
  case round =>
    obtain ⟨sub, rfl, rfl, rfl, htr, hps, h0, h1, hx, hw⟩ := hrel
    have HXX := hide hx
    have HW2 := hide hw
    clear hx hw H0 HW
    cases sub with
    | nil => simp [BT.sz] at h0
    | node b l r y n =>
      obtain ⟨c0, c1, c2, c3, -⟩ := htr.1.cells
      have HTR := hide htr
      have HSO := hide hps
      have hn0 := hps.parts.2.1
      clear htr hps
      simp only [BT.sz] at h1 h0
      have hsz : (BT.node b l r y n).sz = n + l.sz + r.sz := rfl
      rw [hsz]
      clear hsz
      simp only [BT.pt]
      go_wp2_with fail
      refine (bagSizesD _ _ l HTR.out.2.1 ⟨0, rfl⟩).mono ?_
      rintro e w3 ⟨rfl, hw3⟩
      have HW3 := hide hw3
      have htr3 := HTR.out.dr hw3
      obtain ⟨c30, c31, c32, c33, -⟩ := htr3.1.cells
      clear hw3 htr3 c0 c1 c2 c3
      by_cases hr : r = .nil
      · have hX : y = X := by rw [← HXX.out, hr]; rfl
        subst hX
        have hr0 : r.sz = 0 := by rw [hr]; rfl
        clear hr HXX
        generalize r.sz = rs at *
        subst hr0
        generalize l.sz = ls at *
        go_wp2_with fail
        go_ret2
        exact ⟨rfl, HW2.out.trans HW3.out⟩
      · have hr0 : 0 < r.sz := BT.sz_pos hr HSO.out.parts.2.2
        have HX2 := hide ((BT.last_node b l y n hr).symm.trans HXX.out)
        clear hr HXX
        go_wp2_with fail
        go_roundg r.ct
        case measure => simp only [BT.ct]; omega
        case rel => exact ⟨r, rfl, by go_num, rfl, HTR.out.2.2.dr HW3.out, HSO.out.parts.2.2, hr0, by omega, HX2.out, HW2.out.trans HW3.out⟩

set_option maxRecDepth 100000 in
theorem bagKth_none (w : World) (g : Nat) (h : Bg w g .nil) : Calls Try.prog 52 #[.pointer (some ⟨g, 0, none⟩), .int .i64 (-1)] w fun e w' => e = .returned (.tuple #[.int .i64 0, .bool false]) ∧ Dr w w' := by
  have HV := hide (bagTree w g .nil h)
  clear h
  go_enter Try.func52, Try.ntmps52
  go_wp2_with fail
  refine HV.out.mono ?_
  rintro e w1 ⟨rfl, rfl⟩
  clear HV
  go_wp2_with fail
  go_ret2
  exact ⟨rfl, 0, rfl⟩
set_option maxRecDepth 100000 in
theorem bagMax (w : World) (g : Nat) (t : BT) (h : Bg w g t) (hp : Pos t.ls) (hz : t.sz ≤ 1000000) :
    Calls Try.prog 42 #[.pointer (some ⟨g, 0, none⟩)] w fun e w' => (∃ b, e = .returned (.tuple #[.int .i64 t.last, .bool b])) ∧ Dr w w' := by
  have HZ := hide (bagSize w g t h)
  have H := hide h
  have HP := hide hp
  clear h hp
  by_cases hn : t = .nil
  · subst hn
    clear hz HP
    have e0 : BT.nil.last = 0 := rfl
    have e1 : ((BT.nil.sz : Nat) : Int) = 0 := rfl
    rw [e1] at HZ
    rw [e0]
    clear e0 e1
    go_enter Try.func42, Try.ntmps42
    go_wp2_with fail
    refine HZ.out.mono ?_
    rintro e w1 ⟨rfl, hw⟩
    have HW := hide hw
    clear hw
    go_wp2_with fail
    refine (bagKth_none _ g (H.out.dr HW.out)).mono ?_
    rintro e w2 ⟨rfl, hw⟩
    have HW2 := hide hw
    clear hw
    go_wp2_with fail
    go_ret2
    exact ⟨⟨_, rfl⟩, HW.out.trans HW2.out⟩
  · have h0 : 0 < t.sz := BT.sz_pos hn HP.out
    have HK := hide fun (W : World) (hW : Dr w W) => bagKth W g t (H.out.dr hW) HP.out h0 hz
    clear hn
    go_enter Try.func42, Try.ntmps42
    go_wp2_with fail
    refine HZ.out.mono ?_
    rintro e w1 ⟨rfl, hw⟩
    have HW := hide hw
    clear hw
    go_wp2_with fail
    refine (HK.out _ HW.out).mono ?_
    rintro e w2 ⟨rfl, hw⟩
    have HW2 := hide hw
    clear hw
    go_wp2_with fail
    go_ret2
    exact ⟨⟨_, rfl⟩, HW.out.trans HW2.out⟩
end Go.Proofs.Ytoomcgmbaogjbaa
