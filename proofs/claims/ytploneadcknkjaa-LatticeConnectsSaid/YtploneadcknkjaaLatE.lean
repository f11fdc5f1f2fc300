/- Package seepageref29: next, Grid, grid, Square, Triangular. -/
import Derived.Test.YtploneadcknkjaaLatD
namespace Go.Proofs.Ytploneadcknkjaa
open Go.RowKit
set_option linter.unusedVariables false

def rnext (i many : Int) (wrap : Bool) : Int := if i + 1 < many then i + 1 else if wrap = true ∧ 3 ≤ many then 0 else -1
theorem rnext_bd {i many : Int} {wrap : Bool} (h0 : 0 ≤ i) (h1 : 1 ≤ many) : -1 ≤ rnext i many wrap ∧ rnext i many wrap < many := by
  unfold rnext; split
  · omega
  · split <;> omega

theorem rnext_any (i many : Int) (wrap : Bool) (W : World) (h0 : 0 ≤ i) (h1 : i ≤ 1000000) :
    Calls Try.prog 42 #[.int .i64 i, .int .i64 many, .bool wrap] W fun e W' => e = .returned (.int .i64 (rnext i many wrap)) ∧ W = W' := by
  by_cases h : i + 1 < many
  · have E : rnext i many wrap = i + 1 := by simp [rnext, h]
    rw [E]; clear E
    go_enter Try.func42, Try.ntmps42
    go_wp2
    go_ret
    exact ⟨rfl, rfl⟩
  · cases wrap
    · have E : rnext i many false = -1 := by simp [rnext, h]
      rw [E]; clear E
      go_enter Try.func42, Try.ntmps42
      go_wp2
      go_ret
      exact ⟨rfl, rfl⟩
    · by_cases h3 : 3 ≤ many
      · have E : rnext i many true = 0 := by simp [rnext, h, h3]
        rw [E]; clear E
        go_enter Try.func42, Try.ntmps42
        go_wp2
        go_ret
        exact ⟨rfl, rfl⟩
      · have E : rnext i many true = -1 := by simp [rnext, h, h3]
        rw [E]; clear E
        go_enter Try.func42, Try.ntmps42
        go_wp2
        go_ret
        exact ⟨rfl, rfl⟩

theorem rGrid_any (w h : Int) (W : World) :
    Calls Try.prog 36 #[.int .i64 w, .int .i64 h] W fun e W' => e = .returned (.bool (gridB w h)) ∧ W = W' := by
  by_cases hc : (1 ≤ w ∧ 1 ≤ h) ∧ w ≤ 4096 ∧ h ≤ 4096
  · obtain ⟨⟨h1, h2⟩, h3, h4⟩ := hc
    have b1 : 0 ≤ w * h := Int.mul_nonneg (by omega) (by omega)
    have b2 : w * h ≤ 4096 * 4096 := Int.mul_le_mul h3 h4 (by omega) (by omega)
    go_enter Try.func36, Try.ntmps36
    go_wp2
    go_ret
    exact ⟨ret_bool (by simp [gridB, h1, h2, h3, h4]), rfl⟩
  · have hf : gridB w h = false := by simp only [gridB, decide_eq_false_iff_not]; omega
    have hF : Hid (gridB w h = false) := hf
    clear hf
    by_cases h1 : 1 ≤ w
    · by_cases h2 : 1 ≤ h
      · by_cases h3 : w ≤ 4096
        · have h4 : ¬ h ≤ 4096 := by omega
          clear hc
          go_enter Try.func36, Try.ntmps36
          go_wp2
          go_ret
          exact ⟨ret_bool (by rw [hF.out]), rfl⟩
        · clear hc
          go_enter Try.func36, Try.ntmps36
          go_wp2
          go_ret
          exact ⟨ret_bool (by rw [hF.out]), rfl⟩
      · clear hc
        go_enter Try.func36, Try.ntmps36
        go_wp2
        go_ret
        exact ⟨ret_bool (by rw [hF.out]), rfl⟩
    · clear hc
      go_enter Try.func36, Try.ntmps36
      go_wp2
      go_ret
      exact ⟨ret_bool (by rw [hF.out]), rfl⟩


def refEdges (w h : Int) (wx wy dg : Bool) (v : Int) : List (Int × Int × Int) :=
  (if 0 ≤ rnext (v % w) w wx then [(v, v / w * w + rnext (v % w) w wx, 0)] else []) ++
  ((if 0 ≤ rnext (v / w) h wy then [(v, rnext (v / w) h wy * w + v % w, 0)] else []) ++
  (if dg = true ∧ 0 ≤ rnext (v % w) w wx ∧ 0 ≤ rnext (v / w) h wy then [(v, rnext (v / w) h wy * w + rnext (v % w) w wx, 0)] else []))
def refL (w h : Int) (wx wy dg : Bool) (k : Nat) : List (Int × Int × Int) := (List.range k).flatMap fun (v : Nat) => refEdges w h wx wy dg (v : Int)
theorem refL_succ (w h : Int) (wx wy dg : Bool) (k : Nat) : refL w h wx wy dg (k + 1) = refL w h wx wy dg k ++ refEdges w h wx wy dg (k : Int) := by simp [refL, List.range_succ]
theorem refEdges_len (w h : Int) (wx wy dg : Bool) (v : Int) : (refEdges w h wx wy dg v).length ≤ 3 := by
  unfold refEdges; simp only [List.length_append]; split <;> split <;> split <;> simp
theorem refL_len (w h : Int) (wx wy dg : Bool) (k : Nat) : (refL w h wx wy dg k).length ≤ 3 * k := by
  induction k with
  | zero => simp [refL]
  | succ k ih => rw [refL_succ, List.length_append]; have := refEdges_len w h wx wy dg k; omega

set_option maxRecDepth 100000 in
set_option maxHeartbeats 2000000 in
theorem rgrid_ok (w h : Int) (wx wy dg : Bool) (W : World) (hg : gridB w h = true) :
    Calls Try.prog 34 #[.int .i64 w, .int .i64 h, .bool wx, .bool wy, .bool dg] W
      fun e W' => ∃ V, e = .returned (.tuple #[.int .i64 (w * h), V, .int .i64 0]) ∧ OwnE W' W.heap.size V (refL w h wx wy dg (w * h).toNat) ∧ Below W.heap.size W W' := by
  obtain ⟨h1, h2, h3, h4, h5⟩ := gridB_bd hg
  have b1 : 0 ≤ w * h := Int.mul_nonneg (by omega) (by omega)
  have HG := hide hg
  obtain ⟨N, hN⟩ := Int.eq_ofNat_of_zero_le b1
  have HN := hide hN
  have hNb : N ≤ 4096 := by omega
  go_enter Try.func34, Try.ntmps34
  go_wp2_with (go_at_call 36; refine (rGrid_any _ _ _).mono ?_; rintro e W' ⟨rfl, rfl⟩)
  go_loopg [13, 14] N (fun g v i wr => ∃ k : Nat, k + g = N ∧ i = .int .i64 k ∧ OwnE wr W.heap.size v (refL w h wx wy dg k) ∧ Below W.heap.size W wr)
  case atStart => exact ⟨0, by omega, rfl, OwnE.nil _ _, Below.refl _ _⟩
  case round =>
    obtain ⟨k, hk, rfl, hown, hbel⟩ := hrel
    have HK := hide hk
    have hkn : k ≤ N := by omega
    clear hk
    have HL : Hid ((refL w h wx wy dg k).length ≤ 3 * k) := refL_len w h wx wy dg k
    by_cases hlt : k < N
    · have hkw : (k : Int) < w * h := by omega
      have m0 : 0 ≤ (k : Int) % w := Int.emod_nonneg _ (by omega)
      have m1 : (k : Int) % w < w := Int.emod_lt_of_pos _ (by omega)
      have q0 : 0 ≤ (k : Int) / w := Int.ediv_nonneg (by omega) (by omega)
      have q1 : (k : Int) / w < h := Int.ediv_lt_of_lt_mul (by omega) (by rw [Int.mul_comm]; exact hkw)
      have p0 : 0 ≤ (k : Int) / w * w := Int.mul_nonneg (by omega) (by omega)
      have p1 : (k : Int) / w * w ≤ 4096 * 4096 := Int.mul_le_mul (by omega) (by omega) (by omega) (by omega)
      have bx := rnext_bd (wrap := wx) m0 h1
      have by_ := rnext_bd (wrap := wy) q0 h2
      have HKW := hide hkw
      clear hkw
      have HBS := hide hbel.size
      by_cases hx : 0 ≤ rnext ((k : Int) % w) w wx
      · by_cases hy : 0 ≤ rnext ((k : Int) / w) h wy
        · have r0 : 0 ≤ rnext ((k : Int) / w) h wy * w := Int.mul_nonneg hy (by omega)
          have r1 : rnext ((k : Int) / w) h wy * w ≤ 4096 * 4096 := Int.mul_le_mul (by omega) (by omega) (by omega) (by omega)
          cases dg
          · have HE : Hid (refL w h wx wy false (k + 1) = refL w h wx wy false k ++ [((k : Int), ((k : Int) / w * w + rnext ((k : Int) % w) w wx), 0)] ++ [((k : Int), (rnext ((k : Int) / w) h wy * w + (k : Int) % w), 0)]) := by show _ = _; rw [refL_succ]; simp [refEdges, hx, hy]
            go_wp2_with (first | (at_builtin; refine app_edge _ k ((k : Int) / w * w + rnext ((k : Int) % w) w wx) 0 rfl (.tmp 42) (.tmp 52) rfl W.heap.size _ _ rfl hown rfl (by have := HL.out; (try simp only [List.length_append, List.length_cons, List.length_nil]); omega) HBS.out ?_; intro vA wA hownA _ hbelA; have hsA := Nat.le_trans (HBS.out) hbelA.size) | (at_builtin; refine app_edge _ k (rnext ((k : Int) / w) h wy * w + (k : Int) % w) 0 rfl (.tmp 56) (.tmp 66) rfl W.heap.size _ _ rfl hownA rfl (by have := HL.out; (try simp only [List.length_append, List.length_cons, List.length_nil]); omega) hsA ?_; intro vB wB hownB _ hbelB; have hsB := Nat.le_trans (hsA) hbelB.size) | (go_at_call 42; refine (rnext_any _ _ _ _ (by omega) (by omega)).mono ?_; rintro e W' ⟨rfl, rfl⟩))
            go_roundg (N - (k + 1))
            case measure => have := HK.out; omega
            case rel => exact ⟨k + 1, by omega, by go_num, by rw [HE.out]; exact hownB, ((hbel.trans hbelA).trans hbelB)⟩
          · have HE : Hid (refL w h wx wy true (k + 1) = refL w h wx wy true k ++ [((k : Int), ((k : Int) / w * w + rnext ((k : Int) % w) w wx), 0)] ++ [((k : Int), (rnext ((k : Int) / w) h wy * w + (k : Int) % w), 0)] ++ [((k : Int), (rnext ((k : Int) / w) h wy * w + rnext ((k : Int) % w) w wx), 0)]) := by show _ = _; rw [refL_succ]; simp [refEdges, hx, hy]
            go_wp2_with (first | (at_builtin; refine app_edge _ k ((k : Int) / w * w + rnext ((k : Int) % w) w wx) 0 rfl (.tmp 42) (.tmp 52) rfl W.heap.size _ _ rfl hown rfl (by have := HL.out; (try simp only [List.length_append, List.length_cons, List.length_nil]); omega) HBS.out ?_; intro vA wA hownA _ hbelA; have hsA := Nat.le_trans (HBS.out) hbelA.size) | (at_builtin; refine app_edge _ k (rnext ((k : Int) / w) h wy * w + (k : Int) % w) 0 rfl (.tmp 56) (.tmp 66) rfl W.heap.size _ _ rfl hownA rfl (by have := HL.out; (try simp only [List.length_append, List.length_cons, List.length_nil]); omega) hsA ?_; intro vB wB hownB _ hbelB; have hsB := Nat.le_trans (hsA) hbelB.size) | (at_builtin; refine app_edge _ k (rnext ((k : Int) / w) h wy * w + rnext ((k : Int) % w) w wx) 0 rfl (.tmp 77) (.tmp 85) rfl W.heap.size _ _ rfl hownB rfl (by have := HL.out; (try simp only [List.length_append, List.length_cons, List.length_nil]); omega) hsB ?_; intro vC wC hownC _ hbelC; have hsC := Nat.le_trans (hsB) hbelC.size) | (go_at_call 42; refine (rnext_any _ _ _ _ (by omega) (by omega)).mono ?_; rintro e W' ⟨rfl, rfl⟩))
            go_roundg (N - (k + 1))
            case measure => have := HK.out; omega
            case rel => exact ⟨k + 1, by omega, by go_num, by rw [HE.out]; exact hownC, (((hbel.trans hbelA).trans hbelB).trans hbelC)⟩
        · cases dg
          · have HE : Hid (refL w h wx wy false (k + 1) = refL w h wx wy false k ++ [((k : Int), ((k : Int) / w * w + rnext ((k : Int) % w) w wx), 0)]) := by show _ = _; rw [refL_succ]; simp [refEdges, hx, hy]
            go_wp2_with (first | (at_builtin; refine app_edge _ k ((k : Int) / w * w + rnext ((k : Int) % w) w wx) 0 rfl (.tmp 42) (.tmp 52) rfl W.heap.size _ _ rfl hown rfl (by have := HL.out; (try simp only [List.length_append, List.length_cons, List.length_nil]); omega) HBS.out ?_; intro vA wA hownA _ hbelA; have hsA := Nat.le_trans (HBS.out) hbelA.size) | (go_at_call 42; refine (rnext_any _ _ _ _ (by omega) (by omega)).mono ?_; rintro e W' ⟨rfl, rfl⟩))
            go_roundg (N - (k + 1))
            case measure => have := HK.out; omega
            case rel => exact ⟨k + 1, by omega, by go_num, by rw [HE.out]; exact hownA, (hbel.trans hbelA)⟩
          · have HE : Hid (refL w h wx wy true (k + 1) = refL w h wx wy true k ++ [((k : Int), ((k : Int) / w * w + rnext ((k : Int) % w) w wx), 0)]) := by show _ = _; rw [refL_succ]; simp [refEdges, hx, hy]
            go_wp2_with (first | (at_builtin; refine app_edge _ k ((k : Int) / w * w + rnext ((k : Int) % w) w wx) 0 rfl (.tmp 42) (.tmp 52) rfl W.heap.size _ _ rfl hown rfl (by have := HL.out; (try simp only [List.length_append, List.length_cons, List.length_nil]); omega) HBS.out ?_; intro vA wA hownA _ hbelA; have hsA := Nat.le_trans (HBS.out) hbelA.size) | (go_at_call 42; refine (rnext_any _ _ _ _ (by omega) (by omega)).mono ?_; rintro e W' ⟨rfl, rfl⟩))
            go_roundg (N - (k + 1))
            case measure => have := HK.out; omega
            case rel => exact ⟨k + 1, by omega, by go_num, by rw [HE.out]; exact hownA, (hbel.trans hbelA)⟩
      · by_cases hy : 0 ≤ rnext ((k : Int) / w) h wy
        · have r0 : 0 ≤ rnext ((k : Int) / w) h wy * w := Int.mul_nonneg hy (by omega)
          have r1 : rnext ((k : Int) / w) h wy * w ≤ 4096 * 4096 := Int.mul_le_mul (by omega) (by omega) (by omega) (by omega)
          cases dg
          · have HE : Hid (refL w h wx wy false (k + 1) = refL w h wx wy false k ++ [((k : Int), (rnext ((k : Int) / w) h wy * w + (k : Int) % w), 0)]) := by show _ = _; rw [refL_succ]; simp [refEdges, hx, hy]
            go_wp2_with (first | (at_builtin; refine app_edge _ k (rnext ((k : Int) / w) h wy * w + (k : Int) % w) 0 rfl (.tmp 56) (.tmp 66) rfl W.heap.size _ _ rfl hown rfl (by have := HL.out; (try simp only [List.length_append, List.length_cons, List.length_nil]); omega) HBS.out ?_; intro vA wA hownA _ hbelA; have hsA := Nat.le_trans (HBS.out) hbelA.size) | (go_at_call 42; refine (rnext_any _ _ _ _ (by omega) (by omega)).mono ?_; rintro e W' ⟨rfl, rfl⟩))
            go_roundg (N - (k + 1))
            case measure => have := HK.out; omega
            case rel => exact ⟨k + 1, by omega, by go_num, by rw [HE.out]; exact hownA, (hbel.trans hbelA)⟩
          · have HE : Hid (refL w h wx wy true (k + 1) = refL w h wx wy true k ++ [((k : Int), (rnext ((k : Int) / w) h wy * w + (k : Int) % w), 0)]) := by show _ = _; rw [refL_succ]; simp [refEdges, hx, hy]
            go_wp2_with (first | (at_builtin; refine app_edge _ k (rnext ((k : Int) / w) h wy * w + (k : Int) % w) 0 rfl (.tmp 56) (.tmp 66) rfl W.heap.size _ _ rfl hown rfl (by have := HL.out; (try simp only [List.length_append, List.length_cons, List.length_nil]); omega) HBS.out ?_; intro vA wA hownA _ hbelA; have hsA := Nat.le_trans (HBS.out) hbelA.size) | (go_at_call 42; refine (rnext_any _ _ _ _ (by omega) (by omega)).mono ?_; rintro e W' ⟨rfl, rfl⟩))
            go_roundg (N - (k + 1))
            case measure => have := HK.out; omega
            case rel => exact ⟨k + 1, by omega, by go_num, by rw [HE.out]; exact hownA, (hbel.trans hbelA)⟩
        · cases dg
          · have HE : Hid (refL w h wx wy false (k + 1) = refL w h wx wy false k) := by show _ = _; rw [refL_succ]; simp [refEdges, hx, hy]
            go_wp2_with (first | (go_at_call 42; refine (rnext_any _ _ _ _ (by omega) (by omega)).mono ?_; rintro e W' ⟨rfl, rfl⟩))
            go_roundg (N - (k + 1))
            case measure => have := HK.out; omega
            case rel => exact ⟨k + 1, by omega, by go_num, by rw [HE.out]; exact hown, hbel⟩
          · have HE : Hid (refL w h wx wy true (k + 1) = refL w h wx wy true k) := by show _ = _; rw [refL_succ]; simp [refEdges, hx, hy]
            go_wp2_with (first | (go_at_call 42; refine (rnext_any _ _ _ _ (by omega) (by omega)).mono ?_; rintro e W' ⟨rfl, rfl⟩))
            go_roundg (N - (k + 1))
            case measure => have := HK.out; omega
            case rel => exact ⟨k + 1, by omega, by go_num, by rw [HE.out]; exact hown, hbel⟩
    · have hkk : k = N := by omega
      subst hkk
      go_wp2_with fail
      go_ret3
      exact ⟨u13, by rw [HN.out]; rfl, by rw [HN.out, Int.toNat_natCast]; exact hown, hbel⟩

def rL (w h : Int) (wx wy dg : Bool) : List (Int × Int × Int) := if gridB w h then refL w h wx wy dg (w * h).toNat else []
theorem rgrid_any (w h : Int) (wx wy dg : Bool) (W : World) :
    Calls Try.prog 34 #[.int .i64 w, .int .i64 h, .bool wx, .bool wy, .bool dg] W
      fun e W' => ∃ V, e = .returned (.tuple #[.int .i64 (gN w h), V, .int .i64 (gE w h)]) ∧ OwnE W' W.heap.size V (rL w h wx wy dg) ∧ Below W.heap.size W W' := by
  cases hg : gridB w h
  · have e1 : gN w h = 0 := by simp [gN, hg]
    have e2 : gE w h = 2 := by simp [gE, hg]
    have e3 : rL w h wx wy dg = [] := by simp [rL, hg]
    rw [e1, e2, e3]
    clear e1 e2 e3
    go_enter Try.func34, Try.ntmps34
    go_wp2_with (go_at_call 36; refine (rGrid_any _ _ _).mono ?_; rintro e W' ⟨rfl, rfl⟩)
    go_ret3
    exact ⟨_, rfl, OwnE.nil _ _, Below.refl _ _⟩
  · have e1 : gN w h = w * h := by simp [gN, hg]
    have e2 : gE w h = 0 := by simp [gE, hg]
    have e3 : rL w h wx wy dg = refL w h wx wy dg (w * h).toNat := by simp [rL, hg]
    rw [e1, e2, e3]
    exact rgrid_ok w h wx wy dg W hg

theorem rsquare_any (w h : Int) (wx wy : Bool) (W : World) :
    Calls Try.prog 21 #[.int .i64 w, .int .i64 h, .bool wx, .bool wy] W
      fun e W' => ∃ V, e = .returned (.tuple #[.int .i64 (gN w h), V, .int .i64 (gE w h)]) ∧ OwnE W' W.heap.size V (rL w h wx wy false) ∧ Below W.heap.size W W' := by
  go_enter Try.func21, Try.ntmps21
  go_wp2_with fail
  refine (rgrid_any _ _ _ _ _ _).mono ?_
  rintro e w1 ⟨V, rfl, ho, hb1⟩
  go_wp2_with fail
  go_ret3
  exact ⟨_, rfl, ho, hb1⟩

theorem rtriangular_any (w h : Int) (wx wy : Bool) (W : World) :
    Calls Try.prog 15 #[.int .i64 w, .int .i64 h, .bool wx, .bool wy] W
      fun e W' => ∃ V, e = .returned (.tuple #[.int .i64 (gN w h), V, .int .i64 (gE w h)]) ∧ OwnE W' W.heap.size V (rL w h wx wy true) ∧ Below W.heap.size W W' := by
  go_enter Try.func15, Try.ntmps15
  go_wp2_with fail
  refine (rgrid_any _ _ _ _ _ _).mono ?_
  rintro e w1 ⟨V, rfl, ho, hb1⟩
  go_wp2_with fail
  go_ret3
  exact ⟨_, rfl, ho, hb1⟩

end Go.Proofs.Ytploneadcknkjaa
