/- Contracts of the small functions of package lattice: isGrid, step, At, Place. -/
import Derived.Test.YtploneadcknkjaaRows
import Derived.Test.YtploneadcknkjaaKit
namespace Go.Proofs.Ytploneadcknkjaa
open Go.RowKit
set_option linter.unusedVariables false

def gridB (w h : Int) : Bool := decide (1 ≤ w ∧ 1 ≤ h ∧ w ≤ 4096 ∧ h ≤ 4096 ∧ w * h ≤ 4096)

theorem isGrid_any (w h : Int) (W : World) :
    Calls Try.prog 35 #[.int .i64 w, .int .i64 h] W fun e W' => e = .returned (.bool (gridB w h)) ∧ W = W' := by
  by_cases hc : (1 ≤ w ∧ 1 ≤ h) ∧ w ≤ 4096 ∧ h ≤ 4096
  · obtain ⟨⟨h1, h2⟩, h3, h4⟩ := hc
    have b1 : 0 ≤ w * h := Int.mul_nonneg (by omega) (by omega)
    have b2 : w * h ≤ 4096 * 4096 := Int.mul_le_mul h3 h4 (by omega) (by omega)
    go_enter Try.func35, Try.ntmps35
    go_wp2
    go_ret
    exact ⟨ret_bool (by simp [gridB, h1, h2, h3, h4]), rfl⟩
  · have hf : gridB w h = false := by simp only [gridB, decide_eq_false_iff_not]; omega
    have hF : Hid (gridB w h = false) := hf
    clear hf
    by_cases h1 : 1 ≤ w
    · by_cases h2 : 1 ≤ h
      · by_cases h3 : w ≤ 4096
        · have h4 : ¬ h ≤ 4096 := by omega
          clear hc
          go_enter Try.func35, Try.ntmps35
          go_wp2
          go_ret
          exact ⟨ret_bool (by rw [hF.out]), rfl⟩
        · clear hc
          go_enter Try.func35, Try.ntmps35
          go_wp2
          go_ret
          exact ⟨ret_bool (by rw [hF.out]), rfl⟩
      · clear hc
        go_enter Try.func35, Try.ntmps35
        go_wp2
        go_ret
        exact ⟨ret_bool (by rw [hF.out]), rfl⟩
    · clear hc
      go_enter Try.func35, Try.ntmps35
      go_wp2
      go_ret
      exact ⟨ret_bool (by rw [hF.out]), rfl⟩

def stp (a b size : Int) (cl : Bool) : Int × Bool := if a + b < size then (a + b, true) else (0, cl && decide (3 ≤ size))
theorem stp_in {a b size : Int} {cl : Bool} (h : a + b < size) : stp a b size cl = (a + b, true) := by simp [stp, h]
theorem stp_out {a b size : Int} {cl : Bool} (h : ¬ a + b < size) : stp a b size cl = (0, cl && decide (3 ≤ size)) := by simp [stp, h]

theorem step_any (a b size : Int) (cl : Bool) (W : World) (ha : 0 ≤ a) (ha' : a ≤ 1000000) (hb : 0 ≤ b) (hb' : b ≤ 1000000) :
    Calls Try.prog 41 #[.int .i64 a, .int .i64 b, .int .i64 size, .bool cl] W fun e W' => e = .returned (.tuple #[.int .i64 (stp a b size cl).1, .bool (stp a b size cl).2]) ∧ W = W' := by
  by_cases h : a + b < size
  · rw [stp_in h]
    go_enter Try.func41, Try.ntmps41
    go_wp2
    go_ret2
    exact ⟨rfl, rfl⟩
  · rw [stp_out h]
    cases cl
    · go_enter Try.func41, Try.ntmps41
      go_wp2
      go_ret2
      exact ⟨by simp, rfl⟩
    · go_enter Try.func41, Try.ntmps41
      go_wp2
      go_ret2
      exact ⟨by simp, rfl⟩

/-- What the closure 'next' of lattice.grid gives. -/
def nextT (w h : Int) (wx wy : Bool) (v d0 d1 : Int) : Int × Bool :=
  if (stp (v % w) d0 w wx).2 then ((stp (v / w) d1 h wy).1 * w + (stp (v % w) d0 w wx).1, (stp (v / w) d1 h wy).2) else (0, false)

theorem stp_bd {a b size : Int} {cl : Bool} (ha : 0 ≤ a) (hb : 0 ≤ b) (hs : 1 ≤ size) : 0 ≤ (stp a b size cl).1 ∧ (stp a b size cl).1 < size := by
  unfold stp; split <;> simp <;> omega

theorem next_any (v w h d0 d1 : Int) (wx wy : Bool) (pw px ph py : Nat) (W : World) (hw : 1 ≤ w) (hw' : w ≤ 4096) (hh : 1 ≤ h) (hh' : h ≤ 4096) (hv : 0 ≤ v) (hv' : v < w * h)
    (h0 : 0 ≤ d0) (h0' : d0 ≤ 1) (h1 : 0 ≤ d1) (h1' : d1 ≤ 1)
    (cw : W.cell? ⟨pw, 0, none⟩ = some (.int .i64 w)) (cx : W.cell? ⟨px, 0, none⟩ = some (.bool wx)) (ch : W.cell? ⟨ph, 0, none⟩ = some (.int .i64 h)) (cy : W.cell? ⟨py, 0, none⟩ = some (.bool wy)) :
    Calls Try.prog 40 #[.int .i64 v, .agg #[.int .i64 d0, .int .i64 d1], .pointer (some ⟨pw, 0, none⟩), .pointer (some ⟨px, 0, none⟩), .pointer (some ⟨ph, 0, none⟩), .pointer (some ⟨py, 0, none⟩)] W
      fun e W' => e = .returned (.tuple #[.int .i64 (nextT w h wx wy v d0 d1).1, .bool (nextT w h wx wy v d0 d1).2]) ∧ Below W.heap.size W W' := by
  have m0 : 0 ≤ v % w := Int.emod_nonneg _ (by omega)
  have m1 : v % w < w := Int.emod_lt_of_pos _ (by omega)
  have q0 : 0 ≤ v / w := Int.ediv_nonneg hv (by omega)
  have q1 : v / w < h := Int.ediv_lt_of_lt_mul (by omega) (by rw [Int.mul_comm]; exact hv')
  have e1 : v.tmod w = v % w := Int.tmod_eq_emod_of_nonneg hv
  have e2 : v.tdiv w = v / w := Int.tdiv_eq_ediv_of_nonneg hv
  have lw := World.block_lt_of_cell? W _ cw
  have lx := World.block_lt_of_cell? W _ cx
  have lh := World.block_lt_of_cell? W _ ch
  have ly := World.block_lt_of_cell? W _ cy
  simp only at lw lx lh ly
  have bx := stp_bd (cl := wx) m0 h0 hw
  have by_ := stp_bd (cl := wy) q0 h1 hh
  have S1 : ∀ W, Calls Try.prog 41 #[.int .i64 (v % w), .int .i64 d0, .int .i64 w, .bool wx] W fun e W' => e = .returned (.tuple #[.int .i64 (stp (v % w) d0 w wx).1, .bool (stp (v % w) d0 w wx).2]) ∧ W' = W :=
    fun W => (step_any _ _ _ _ W (by omega) (by omega) (by omega) (by omega)).mono fun _ _ hh => ⟨hh.1, hh.2.symm⟩
  have S2 : ∀ W, Calls Try.prog 41 #[.int .i64 (v / w), .int .i64 d1, .int .i64 h, .bool wy] W fun e W' => e = .returned (.tuple #[.int .i64 (stp (v / w) d1 h wy).1, .bool (stp (v / w) d1 h wy).2]) ∧ W' = W :=
    fun W => (step_any _ _ _ _ W (by omega) (by omega) (by omega) (by omega)).mono fun _ _ hh => ⟨hh.1, hh.2.symm⟩
  unfold nextT
  generalize stp (v % w) d0 w wx = p at *
  generalize stp (v / w) d1 h wy = q at *
  obtain ⟨x, tx⟩ := p
  obtain ⟨y, ty⟩ := q
  simp only at bx by_ S1 S2 ⊢
  have b3 : 0 ≤ y * w := Int.mul_nonneg (by omega) (by omega)
  have b4 : y * w ≤ 4096 * 4096 := Int.mul_le_mul (by omega) hw' (by omega) (by omega)
  have HS1 := hide S1
  have HS2 := hide S2
  clear S1 S2 hv'
  cases tx
  · go_enter Try.func40, Try.ntmps40
    go_wp2_with fail
    go_quiet ((go_at_call 41; exact Calls.quiet_of_same (HS1.out _)))
    go_wp2_with fail
    go_ret2
    exact ⟨rfl, ((Below.refl _ _).alloc (Nat.le_refl _) _).drewN _⟩
  · go_enter Try.func40, Try.ntmps40
    go_wp2_with fail
    go_quiet ((go_at_call 41; exact Calls.quiet_of_same (HS1.out _)))
    go_wp2_with fail
    go_quiet ((go_at_call 41; exact quiet_add_same (HS2.out _)))
    go_wp2_with fail
    go_ret2
    exact ⟨rfl, ((Below.refl _ _).alloc (Nat.le_refl _) _).drewN _⟩

/-! ### At, Place -/
def atR (w h x y : Int) : Int × Int := if gridB w h then if x < 0 ∨ w ≤ x ∨ y < 0 ∨ h ≤ y then (0, 3) else (y * w + x, 0) else (0, 2)
theorem gridB_bd {w h : Int} (hg : gridB w h = true) : 1 ≤ w ∧ 1 ≤ h ∧ w ≤ 4096 ∧ h ≤ 4096 ∧ w * h ≤ 4096 := by simpa [gridB] using hg

theorem at_any (w h x y : Int) (W : World) :
    Calls Try.prog 24 #[.int .i64 w, .int .i64 h, .int .i64 x, .int .i64 y] W fun e W' => e = .returned (.tuple #[.int .i64 (atR w h x y).1, .int .i64 (atR w h x y).2]) ∧ W = W' := by
  cases hg : gridB w h
  · have E : Hid (atR w h x y = (0, 2)) := by show _ = _; simp [atR, hg]
    go_enter Try.func24, Try.ntmps24
    go_wp2_with (go_at_call 35; refine (isGrid_any _ _ _).mono ?_; rintro e W' ⟨rfl, rfl⟩)
    go_ret2
    exact ⟨by rw [E.out]; rfl, rfl⟩
  · obtain ⟨h1, h2, h3, h4, h5⟩ := gridB_bd hg
    by_cases hx : x < 0 ∨ w ≤ x ∨ y < 0 ∨ h ≤ y
    · have E : Hid (atR w h x y = (0, 3)) := by show _ = _; simp [atR, hg, hx]
      clear h5
      by_cases x0 : x < 0
      · go_enter Try.func24, Try.ntmps24
        go_wp2_with (go_at_call 35; refine (isGrid_any _ _ _).mono ?_; rintro e W' ⟨rfl, rfl⟩)
        go_ret2
        exact ⟨by rw [E.out]; rfl, rfl⟩
      · by_cases x1 : x < w
        · by_cases y0 : y < 0
          · go_enter Try.func24, Try.ntmps24
            go_wp2_with (go_at_call 35; refine (isGrid_any _ _ _).mono ?_; rintro e W' ⟨rfl, rfl⟩)
            go_ret2
            exact ⟨by rw [E.out]; rfl, rfl⟩
          · have y1 : h ≤ y := by omega
            clear hx
            go_enter Try.func24, Try.ntmps24
            go_wp2_with (go_at_call 35; refine (isGrid_any _ _ _).mono ?_; rintro e W' ⟨rfl, rfl⟩)
            go_ret2
            exact ⟨by rw [E.out]; rfl, rfl⟩
        · clear hx
          go_enter Try.func24, Try.ntmps24
          go_wp2_with (go_at_call 35; refine (isGrid_any _ _ _).mono ?_; rintro e W' ⟨rfl, rfl⟩)
          go_ret2
          exact ⟨by rw [E.out]; rfl, rfl⟩
    · have E : Hid (atR w h x y = (y * w + x, 0)) := by show _ = _; simp [atR, hg, hx]
      have x0 : 0 ≤ x := by omega
      have x1 : x < w := by omega
      have y0 : 0 ≤ y := by omega
      have y1 : y < h := by omega
      have b1 : 0 ≤ y * w := Int.mul_nonneg (by omega) (by omega)
      have b2 : y * w ≤ 4096 * 4096 := Int.mul_le_mul (by omega) (by omega) (by omega) (by omega)
      clear hx
      go_enter Try.func24, Try.ntmps24
      go_wp2_with (go_at_call 35; refine (isGrid_any _ _ _).mono ?_; rintro e W' ⟨rfl, rfl⟩)
      go_ret2
      exact ⟨by rw [E.out]; rfl, rfl⟩

def placeR (w h v : Int) : Int × Int × Int := if gridB w h then if v < 0 ∨ w * h ≤ v then (0, 0, 3) else (v % w, v / w, 0) else (0, 0, 2)
theorem place_any (w h v : Int) (W : World) :
    Calls Try.prog 26 #[.int .i64 w, .int .i64 h, .int .i64 v] W fun e W' => e = .returned (.tuple #[.int .i64 (placeR w h v).1, .int .i64 (placeR w h v).2.1, .int .i64 (placeR w h v).2.2]) ∧ ∃ n, W' = W.drewN n := by
  cases hg : gridB w h
  · have E : Hid (placeR w h v = (0, 0, 2)) := by show _ = _; simp [placeR, hg]
    go_enter Try.func26, Try.ntmps26
    go_wp2_with (go_at_call 35; refine (isGrid_any _ _ _).mono ?_; rintro e W' ⟨rfl, rfl⟩)
    go_ret3
    exact ⟨by rw [E.out]; rfl, 0, rfl⟩
  · obtain ⟨h1, h2, h3, h4, h5⟩ := gridB_bd hg
    have b1 : 0 ≤ w * h := Int.mul_nonneg (by omega) (by omega)
    by_cases x0 : v < 0
    · have E : Hid (placeR w h v = (0, 0, 3)) := by show _ = _; simp [placeR, hg, x0]
      go_enter Try.func26, Try.ntmps26
      go_wp2_with (go_at_call 35; refine (isGrid_any _ _ _).mono ?_; rintro e W' ⟨rfl, rfl⟩)
      go_ret3
      exact ⟨by rw [E.out]; rfl, 0, rfl⟩
    · by_cases x1 : v < w * h
      · have E : Hid (placeR w h v = (v % w, v / w, 0)) := by show _ = _; simp [placeR, hg, x0]; omega
        have e1 : v.tmod w = v % w := Int.tmod_eq_emod_of_nonneg (by omega)
        have e2 : v.tdiv w = v / w := Int.tdiv_eq_ediv_of_nonneg (by omega)
        have q0 : 0 ≤ v / w := Int.ediv_nonneg (by omega) (by omega)
        have q1 : v / w < h := Int.ediv_lt_of_lt_mul (by omega) (by rw [Int.mul_comm]; exact x1)
        go_enter Try.func26, Try.ntmps26
        go_wp2_with (go_at_call 35; refine (isGrid_any _ _ _).mono ?_; rintro e W' ⟨rfl, rfl⟩)
        go_quiet (fail)
        go_wp2_with fail
        go_ret3
        exact ⟨by rw [E.out]; rfl, _, rfl⟩
      · have E : Hid (placeR w h v = (0, 0, 3)) := by show _ = _; simp [placeR, hg]; omega
        go_enter Try.func26, Try.ntmps26
        go_wp2_with (go_at_call 35; refine (isGrid_any _ _ _).mono ?_; rintro e W' ⟨rfl, rfl⟩)
        go_ret3
        exact ⟨by rw [E.out]; rfl, 0, rfl⟩
end Go.Proofs.Ytploneadcknkjaa
