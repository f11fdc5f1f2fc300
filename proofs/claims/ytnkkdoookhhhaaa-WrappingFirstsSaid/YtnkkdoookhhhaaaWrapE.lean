/- wrapping: Add, Same, Offset, New. -/
import Derived.Test.YtnkkdoookhhhaaaWrapD
namespace Go.Proofs.Ytnkkdoookhhhaaa
open Go.RowKit
set_option linter.unusedVariables false

theorem torJoin (w : World) (e : Nat) (p : TLoc) (W H n : Nat) (E : List Nat) (h : Tor w p W H n E) (he : e < 2 * n) :
    Calls Try.prog 30 #[.pointer (some ⟨p.g, 0, none⟩), .int .i64 (e : Int)] w
      fun r w' => r = .returned (.bool (!(tL W H E (tS e) == tL W H E (tT W H e)))) ∧ Tor w' p W H n (E ++ [e]) ∧ Fr p.bl w w' := by
  obtain ⟨hn, nb, nW, nH, nW2, nH2, n1⟩ := h.nn
  obtain ⟨up, size, rep, ρ, least, M, F, V, ax, dn, pX, pY, h1, h2⟩ := h
  have hb := tE_in (W := W) (H := H) (e := e) (by rw [← hn]; exact he)
  have hW : 0 < W := nW
  have hr := row_lt hb.1
  by_cases hd : e % 2 = 0
  · have ex : tX e = 1 := by unfold tX; rw [if_pos hd]
    have ey : tY e = 0 := by unfold tY; rw [if_pos hd]
    refine torJoin0 w (e : Int) (tS e) 0 (tS e % W) (tS e / W) ((tS e % W + 1) % W) (tS e / W) (tT W H e) e (tX e) (tY e) p W H n M E up size rep ρ least F V ax dn pX pY h1 h2 (by omega) (by omega) (by unfold tS; omega) (by omega) (by omega) (by rw [hn]; exact hb.1)
      (Nat.mod_lt _ hW) hr (by omega) (by omega) (by rw [ex]; omega) (by rw [ey]; omega) (.inl ⟨rfl, ex, ey⟩) ?_ ?_ ?_ (by rw [hn]; exact hb.2) he rfl rfl rfl rfl
    · rw [ey, Int.add_zero]; exact_mod_cast Nat.mod_eq_of_lt hr
    · rw [ex]; norm_cast
    · unfold tT; rw [if_pos hd]; unfold tS; push_cast; rfl
  · have ex : tX e = 0 := by unfold tX; rw [if_neg hd]
    have ey : tY e = 1 := by unfold tY; rw [if_neg hd]
    refine torJoin0 w (e : Int) (tS e) 1 (tS e % W) (tS e / W) (tS e % W) ((tS e / W + 1) % H) (tT W H e) e (tX e) (tY e) p W H n M E up size rep ρ least F V ax dn pX pY h1 h2 (by omega) (by omega) (by unfold tS; omega) (by omega) (by omega) (by rw [hn]; exact hb.1)
      (Nat.mod_lt _ hW) hr (by omega) (by omega) (by rw [ex]; omega) (by rw [ey]; omega) (.inr ⟨rfl, ex, ey⟩) ?_ ?_ ?_ (by rw [hn]; exact hb.2) he rfl rfl rfl rfl
    · rw [ey]; norm_cast
    · rw [ex, Int.add_zero]; exact_mod_cast Nat.mod_eq_of_lt (Nat.mod_lt _ hW)
    · unfold tT; rw [if_neg hd]; unfold tS; push_cast; rfl

set_option maxRecDepth 100000 in
set_option maxHeartbeats 4000000 in
theorem torAdd_ok (w : World) (x y d : Nat) (p : TLoc) (W H n : Nat) (E : List Nat) (h : Tor w p W H n E) (hx : x < W) (hy : y < H) (hd : d < 2) :
    Calls Try.prog 27 #[.pointer (some ⟨p.g, 0, none⟩), .int .i64 (x : Int), .int .i64 (y : Int), .int .i64 (d : Int)] w
      fun r w' => r = .returned (.tuple #[.bool (!(tL W H E (tS (2 * (y * W + x) + d)) == tL W H E (tT W H (2 * (y * W + x) + d)))), .int .i64 0]) ∧ Tor w' p W H n (E ++ [2 * (y * W + x) + d]) ∧ Fr p.bl w w' := by
  obtain ⟨hn, nb, nW, nH, nW2, nH2, n1⟩ := h.nn
  have VV := torValid w p W H n E h
  have hv : y * W + x < n := by rw [hn]; exact mul_add_lt hy hx
  have hj := torJoin w (2 * (y * W + x) + d) p W H n E h (by omega)
  have ec : ((2 * (y * W + x) + d : Nat) : Int) = 2 * ((y : Int) * (W : Int) + (x : Int)) + (d : Int) := by push_cast; rfl
  rw [ec] at hj
  have hyW : 0 ≤ (y : Int) * (W : Int) := Int.mul_nonneg (by omega) (by omega)
  have hyW2 : (y : Int) * (W : Int) + (x : Int) < 4096 := by
    have : ((y * W + x : Nat) : Int) < 4096 := by omega
    push_cast at this; exact this
  obtain ⟨up, size, rep, ρ, least, M, F, V, ax, dn, pX, pY, h1, h2⟩ := h
  obtain ⟨c0, c1, _⟩ := h1.cells
  have HJ := hide hj
  have HV := hide VV
  clear h1 h2 hj VV ec hn hv
  generalize tL W H E (tS (2 * (y * W + x) + d)) = l1 at *
  generalize tL W H E (tT W H (2 * (y * W + x) + d)) = l2 at *
  have hx' : x < W := hx
  have hx2 : decide (W ≤ x) = false := by simp; omega
  have hy2 : decide (H ≤ y) = false := by simp; omega
  have hd2 : d = 0 ∨ d = 1 := by omega
  rcases hd2 with rfl | rfl
  · have hj := HJ.out
    rw [show ((0 : Nat) : Int) = 0 from rfl, Int.add_zero] at hj
    have HJ2 := hide hj
    clear hj HJ
    go_enter Try.func27, Try.ntmps27
    go_wp2_with (first | (go_at_call 33; refine HV.out.mono ?_; rintro e w' ⟨rfl, rfl⟩))
    refine HJ2.out.mono ?_
    rintro r w2 ⟨rfl, hT, hF⟩
    go_wp2_with fail
    go_ret2
    exact ⟨rfl, hT, hF⟩
  · have hj := HJ.out
    rw [show ((1 : Nat) : Int) = 1 from rfl] at hj
    have HJ2 := hide hj
    clear hj HJ
    go_enter Try.func27, Try.ntmps27
    go_wp2_with (first | (go_at_call 33; refine HV.out.mono ?_; rintro e w' ⟨rfl, rfl⟩))
    refine HJ2.out.mono ?_
    rintro r w2 ⟨rfl, hT, hF⟩
    go_wp2_with fail
    go_ret2
    exact ⟨rfl, hT, hF⟩

/-- Whether there is such a place. -/
def placeB (W H : Nat) (x y : Int) : Bool := decide (0 ≤ x ∧ x < W ∧ 0 ≤ y ∧ y < H)
set_option maxRecDepth 100000 in
set_option maxHeartbeats 4000000 in
theorem torAdd_range (w : World) (x y d : Int) (p : TLoc) (W H n : Nat) (E : List Nat) (h : Tor w p W H n E) (hp : placeB W H x y = false) :
    Calls Try.prog 27 #[.pointer (some ⟨p.g, 0, none⟩), .int .i64 x, .int .i64 y, .int .i64 d] w
      fun r w' => r = .returned (.tuple #[.bool false, .int .i64 3]) ∧ w = w' := by
  have VV := torValid w p W H n E h
  obtain ⟨up, size, rep, ρ, least, M, F, V, ax, dn, pX, pY, h1, h2⟩ := h
  obtain ⟨c0, c1, _⟩ := h1.cells
  have HV := hide VV
  have hc : x < 0 ∨ (0 ≤ x ∧ (W : Int) ≤ x) ∨ (0 ≤ x ∧ x < W ∧ y < 0) ∨ (0 ≤ x ∧ x < W ∧ 0 ≤ y ∧ (H : Int) ≤ y) := by simp [placeB] at hp; omega
  clear h1 h2 VV hp
  rcases hc with hx | ⟨hx, hx2⟩ | ⟨hx, hx2, hy⟩ | ⟨hx, hx2, hy, hy2⟩
  all_goals
    go_enter Try.func27, Try.ntmps27
    go_wp2_with (first | (go_at_call 33; refine HV.out.mono ?_; rintro e w' ⟨rfl, rfl⟩))
    go_ret2
    exact ⟨rfl, rfl⟩
set_option maxRecDepth 100000 in
set_option maxHeartbeats 4000000 in
theorem torAdd_arg (w : World) (x y d : Int) (p : TLoc) (W H n : Nat) (E : List Nat) (h : Tor w p W H n E) (hp : placeB W H x y = true) (hd : d ≠ 0 ∧ d ≠ 1) :
    Calls Try.prog 27 #[.pointer (some ⟨p.g, 0, none⟩), .int .i64 x, .int .i64 y, .int .i64 d] w
      fun r w' => r = .returned (.tuple #[.bool false, .int .i64 2]) ∧ w = w' := by
  have VV := torValid w p W H n E h
  obtain ⟨up, size, rep, ρ, least, M, F, V, ax, dn, pX, pY, h1, h2⟩ := h
  obtain ⟨c0, c1, _⟩ := h1.cells
  have HV := hide VV
  obtain ⟨hx, hx2, hy, hy2⟩ : 0 ≤ x ∧ x < W ∧ 0 ≤ y ∧ y < H := by simpa [placeB] using hp
  have d0 : (d != 0) = true := by simpa using hd.1
  have d1 : (d != 1) = true := by simpa using hd.2
  clear h1 h2 VV hp hd
  go_enter Try.func27, Try.ntmps27
  go_wp2_with (first | (go_at_call 33; refine HV.out.mono ?_; rintro e w' ⟨rfl, rfl⟩))
  go_ret2
  exact ⟨rfl, rfl⟩

/-- find, of a torus with its edges. -/
theorem torFind (w : World) (v : Nat) (p : TLoc) (W H n M : Nat) (E : List Nat) (up size rep ρ least : Nat → Nat) (F : Nat → Int) (V : Nat → Bool) (ax dn : Bool) (pX pY : Nat → Int)
    (h1 : TS w p W H n up F size V ax dn (sets n (tL W H E))) (h2 : TP W H n E up size rep ρ least M F V ax dn pX pY) (hv : v < n) :
    Calls Try.prog 35 #[.pointer (some ⟨p.g, 0, none⟩), .int .i64 (v : Int)] w
      fun e w' => e = .returned (.tuple #[.int .i64 (rep v : Int), .agg #[.int .i64 (pX v), .int .i64 (pY v)]]) ∧ ∃ up' F', TS w' p W H n up' F' size V ax dn (sets n (tL W H E)) ∧ TP W H n E up' size rep ρ least M F' V ax dn pX pY ∧ Fr p.bl w w' :=
  (wrFind w v p W H n _ M _ _ _ _ _ _ _ _ _ _ h1 h2.st.fo h2.fm h2.root h2.bnd hv).mono fun e w' ⟨he, up', F', a, b, c, d⟩ => ⟨he, up', F', a, h2.find b c, d.pf⟩

end Go.Proofs.Ytnkkdoookhhhaaa
