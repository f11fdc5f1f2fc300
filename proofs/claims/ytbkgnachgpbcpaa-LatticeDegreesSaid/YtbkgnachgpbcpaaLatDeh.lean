/- Plain: degrees in a closed grid; numbers of edges in an open one. -/
import Derived.Test.YtbkgnachgpbcpaaLatDeg
namespace Go.Proofs.Ytbkgnachgpbcpaa
open Go.RowKit
set_option linter.unusedVariables false

def smN (f : Nat → Nat) : Nat → Nat
  | 0 => 0
  | n + 1 => smN f n + f n
theorem smN_congr {f g : Nat → Nat} {n : Nat} (h : ∀ i, i < n → f i = g i) : smN f n = smN g n := by
  induction n with
  | zero => rfl
  | succ n ih => simp only [smN]; rw [ih (fun i hi => h i (by omega)), h n (by omega)]
theorem smN_add (f g : Nat → Nat) (n : Nat) : smN (fun i => f i + g i) n = smN f n + smN g n := by
  induction n with
  | zero => rfl
  | succ n ih => simp only [smN]; rw [ih]; omega
theorem smN_zero {f : Nat → Nat} {n : Nat} (h : ∀ i, i < n → f i = 0) : smN f n = 0 := by
  induction n with
  | zero => rfl
  | succ n ih => simp only [smN]; rw [ih (fun i hi => h i (by omega)), h n (by omega)]
theorem smN_const (c n : Nat) : smN (fun _ => c) n = n * c := by
  induction n with
  | zero => simp [smN]
  | succ n ih => simp only [smN]; rw [ih, Nat.succ_mul]
theorem smN_point {n k c : Nat} (hk : k < n) {f : Nat → Nat} (h : ∀ i, i < n → f i = if i = k then c else 0) : smN f n = c := by
  induction n with
  | zero => omega
  | succ n ih =>
    simp only [smN]
    by_cases e : k = n
    · subst e
      rw [smN_zero (fun i hi => by rw [h i (by omega), if_neg (by omega)]), h k (by omega), if_pos rfl]; omega
    · rw [ih (by omega) (fun i hi => h i (by omega)), h n (by omega), if_neg (by omega)]; rfl
theorem smN_split (f : Nat → Nat) (a b : Nat) : smN f (a + b) = smN f a + smN (fun j => f (a + j)) b := by
  induction b with
  | zero => rfl
  | succ b ih => rw [← Nat.add_assoc]; simp only [smN]; rw [ih]; omega
theorem countP_range {α : Type} (p : α → Bool) (g : Nat → List α) (n : Nat) : ((List.range n).flatMap g).countP p = smN (fun v => (g v).countP p) n := by
  induction n with
  | zero => simp [smN]
  | succ n ih => simp only [List.range_succ, List.flatMap_append, List.flatMap_cons, List.flatMap_nil, List.append_nil, List.countP_append, ih, smN]
theorem length_range {α : Type} (g : Nat → List α) (n : Nat) : ((List.range n).flatMap g).length = smN (fun v => (g v).length) n := by
  induction n with
  | zero => simp [smN]
  | succ n ih => simp only [List.range_succ, List.flatMap_append, List.flatMap_cons, List.flatMap_nil, List.append_nil, List.length_append, ih, smN]

theorem coord_iff {w X Y t : Int} (h0 : 0 ≤ X) (h1 : X < w) : Y * w + X = t ↔ X = t % w ∧ Y = t / w := by
  constructor
  · rintro rfl
    exact ⟨(tgt_mod Y h0 h1).symm, (tgt_div Y h0 h1).symm⟩
  · rintro ⟨rfl, rfl⟩
    have := Int.ediv_mul_add_emod t w
    exact this

/-- The one before, round a closed line. -/
def prv (i m : Int) : Int := if i = 0 then m - 1 else i - 1
theorem prv_bd {i m : Int} (h0 : 0 ≤ i) (h1 : i < m) : 0 ≤ prv i m ∧ prv i m < m := by unfold prv; split <;> omega
theorem rnext_prv {x X m : Int} (h3 : 3 ≤ m) (x0 : 0 ≤ x) (x1 : x < m) (X0 : 0 ≤ X) (X1 : X < m) : rnext x m true = X ↔ x = prv X m := by
  by_cases hc : x + 1 < m
  · rw [rnext_in true hc]
    unfold prv
    split <;> constructor <;> intro h <;> omega
  · have e : rnext x m true = 0 := by unfold rnext; rw [if_neg hc, if_pos ⟨rfl, h3⟩]
    rw [e]
    unfold prv
    split <;> constructor <;> intro h <;> omega
theorem rnext_closed {x m : Int} (h3 : 3 ≤ m) (x0 : 0 ≤ x) : 0 ≤ rnext x m true := by
  unfold rnext; split
  · omega
  · rw [if_pos ⟨rfl, h3⟩]; omega

/-- Edges at v. -/
def dg (L : List (Int × Int × Int)) (v : Int) : Nat := L.countP (fun e => decide (e.1 = v)) + L.countP (fun e => decide (e.2.1 = v))
def ofB (b : Bool) : Nat := if b then 1 else 0

section
variable {w h : Int} {three : Bool}
theorem outs_closed (h3 : 3 ≤ w) (k3 : 3 ≤ h) {v : Int} (hv : 0 ≤ v) :
    outs w h true true three v = (v, v / w * w + rnext (v % w) w true, 0) :: (v, rnext (v / w) h true * w + v % w, 0) :: (if three then [(v, rnext (v / w) h true * w + rnext (v % w) w true, 0)] else []) := by
  have a1 := rnext_closed (x := v % w) h3 (Int.emod_nonneg v (by omega))
  have a2 := rnext_closed (x := v / w) k3 (Int.ediv_nonneg hv (by omega))
  unfold outs oR oD oG
  cases three <;> simp [a1, a2]
/-- One vertex leads to t by a step of a columns and b rows. -/
theorem one_in (h3 : 3 ≤ w) (k3 : 3 ≤ h) (a b : Bool) {t : Int} (ht : 0 ≤ t) (ht' : t < w * h) :
    smN (fun (v : Nat) => if (if b then rnext ((v : Int) / w) h true else (v : Int) / w) * w + (if a then rnext ((v : Int) % w) w true else (v : Int) % w) = t then 1 else 0) (w * h).toNat = 1 := by
  have x0 := Int.emod_nonneg t (show w ≠ 0 by omega)
  have x1 := Int.emod_lt_of_pos t (show 0 < w by omega)
  have y0 : 0 ≤ t / w := Int.ediv_nonneg ht (by omega)
  have y1 : t / w < h := Int.ediv_lt_of_lt_mul (by omega) (by rw [Int.mul_comm]; exact ht')
  have bX : 0 ≤ (if a then prv (t % w) w else t % w) ∧ (if a then prv (t % w) w else t % w) < w := by cases a <;> simp [prv_bd, x0, x1]
  have bY : 0 ≤ (if b then prv (t / w) h else t / w) ∧ (if b then prv (t / w) h else t / w) < h := by cases b <;> simp [prv_bd, y0, y1]
  generalize hX : (if a then prv (t % w) w else t % w) = X at *
  generalize hY : (if b then prv (t / w) h else t / w) = Y at *
  have hp : 0 ≤ Y * w := Int.mul_nonneg bY.1 (by omega)
  have hq : (Y + 1) * w ≤ h * w := Int.mul_le_mul_of_nonneg_right (by omega) (by omega)
  rw [Int.add_mul, Int.one_mul, Int.mul_comm h w] at hq
  refine smN_point (k := (Y * w + X).toNat) (by omega) fun v hv => ?_
  have hv' : (v : Int) < w * h := by omega
  have u0 := Int.emod_nonneg (v : Int) (show w ≠ 0 by omega)
  have u1 := Int.emod_lt_of_pos (v : Int) (show 0 < w by omega)
  have r0 : 0 ≤ (v : Int) / w := Int.ediv_nonneg (by omega) (by omega)
  have r1 : (v : Int) / w < h := Int.ediv_lt_of_lt_mul (by omega) (by rw [Int.mul_comm]; exact hv')
  have cx : 0 ≤ (if a then rnext ((v : Int) % w) w true else (v : Int) % w) ∧ (if a then rnext ((v : Int) % w) w true else (v : Int) % w) < w := by
    cases a
    · exact ⟨u0, u1⟩
    · exact ⟨rnext_closed h3 u0, (rnext_bd u0 (by omega)).2⟩
  have ex : (if a then rnext ((v : Int) % w) w true else (v : Int) % w) = t % w ↔ (v : Int) % w = X := by
    subst hX
    cases a
    · simp
    · simpa using rnext_prv h3 u0 u1 x0 x1
  have ey : (if b then rnext ((v : Int) / w) h true else (v : Int) / w) = t / w ↔ (v : Int) / w = Y := by
    subst hY
    cases b
    · simp
    · simpa using rnext_prv k3 r0 r1 y0 y1
  have e1 := coord_iff (Y := if b then rnext ((v : Int) / w) h true else (v : Int) / w) (t := t) cx.1 cx.2
  rw [ex, ey] at e1
  have e2 := coord_iff (X := X) (Y := Y) (t := (v : Int)) bX.1 bX.2
  by_cases hc : (v : Int) % w = X ∧ (v : Int) / w = Y
  · rw [if_pos (e1.2 hc), if_pos (by have := e2.2 ⟨hc.1.symm, hc.2.symm⟩; omega)]
  · rw [if_neg (fun h => hc (e1.1 h)), if_neg (fun h => hc (by
      have : Y * w + X = (v : Int) := by omega
      have := e2.1 this
      exact ⟨this.1.symm, this.2.symm⟩))]

theorem gL_deg (hg : gridB w h = true) (h3 : 3 ≤ w) (k3 : 3 ≤ h) {t : Int} (ht : 0 ≤ t) (ht' : t < w * h) : dg (gL w h true true (dirsOf three)) t = if three then 6 else 4 := by
  unfold dg
  rw [gL_outs hg, countP_range, countP_range]
  have A : smN (fun (v : Nat) => (outs w h true true three (v : Int)).countP (fun e => decide (e.1 = t))) (w * h).toNat = if three then 3 else 2 := by
    refine smN_point (k := t.toNat) (by omega) fun v hv => ?_
    rw [outs_closed h3 k3 (by omega)]
    by_cases hc : (v : Int) = t
    · subst hc
      cases three <;> simp
    · have : v ≠ t.toNat := by omega
      cases three <;> simp [hc, this]
  have B : smN (fun (v : Nat) => (outs w h true true three (v : Int)).countP (fun e => decide (e.2.1 = t))) (w * h).toNat = if three then 3 else 2 := by
    have R := one_in (w := w) (h := h) h3 k3 true false ht ht'
    have D := one_in (w := w) (h := h) h3 k3 false true ht ht'
    have G := one_in (w := w) (h := h) h3 k3 true true ht ht'
    simp only [if_true, Bool.false_eq_true, if_false] at R D G
    cases three
    · rw [smN_congr (g := fun (v : Nat) => (if (v : Int) / w * w + rnext ((v : Int) % w) w true = t then 1 else 0) + (if rnext ((v : Int) / w) h true * w + (v : Int) % w = t then 1 else 0)) (fun v hv => ?_), smN_add, R, D]
      · rfl
      · rw [outs_closed h3 k3 (by omega)]
        simp only [List.countP_cons, Bool.false_eq_true, if_false, List.countP_nil, decide_eq_true_eq]
        omega
    · rw [smN_congr (g := fun (v : Nat) => ((if (v : Int) / w * w + rnext ((v : Int) % w) w true = t then 1 else 0) + (if rnext ((v : Int) / w) h true * w + (v : Int) % w = t then 1 else 0)) + (if rnext ((v : Int) / w) h true * w + rnext ((v : Int) % w) w true = t then 1 else 0)) (fun v hv => ?_), smN_add, smN_add, R, D, G]
      · rfl
      · rw [outs_closed h3 k3 (by omega)]
        simp only [List.countP_cons, if_true, List.countP_nil, decide_eq_true_eq]
        omega
  rw [A, B]
  cases three <;> rfl
end

/-! ### An open grid's edges, by rows -/
theorem rnext_open (x m : Nat) : 0 ≤ rnext (x : Int) (m : Int) false ↔ x + 1 < m := by
  by_cases hc : (x : Int) + 1 < m
  · rw [rnext_in false hc]; omega
  · rw [rnext_no hc]; omega
theorem outs_len (a b : Nat) (three : Bool) (k j : Nat) (hj : j < a) : (outs (a : Int) (b : Int) false false three ((a * k + j : Nat) : Int)).length = ofB (decide (j + 1 < a)) + ofB (decide (k + 1 < b)) + ofB (three && decide (j + 1 < a) && decide (k + 1 < b)) := by
  have e1 : ((a * k + j : Nat) : Int) % (a : Int) = (j : Int) := by
    have : (a * k + j) % a = j := by rw [Nat.mul_add_mod, Nat.mod_eq_of_lt hj]
    exact_mod_cast congrArg (fun x : Nat => (x : Int)) this
  have e2 : ((a * k + j : Nat) : Int) / (a : Int) = (k : Int) := by
    have : (a * k + j) / a = k := by rw [Nat.mul_add_div (by omega), Nat.div_eq_of_lt hj, Nat.add_zero]
    exact_mod_cast congrArg (fun x : Nat => (x : Int)) this
  unfold outs oR oD oG
  rw [e1, e2]
  simp only [rnext_open]
  by_cases h1 : j + 1 < a
  · by_cases h2 : k + 1 < b
    · cases three <;> simp [h1, h2, ofB]
    · cases three <;> simp [h1, h2, ofB]
  · by_cases h2 : k + 1 < b
    · cases three <;> simp [h1, h2, ofB]
    · cases three <;> simp [h1, h2, ofB]
theorem sum_before (a : Nat) (c : Nat) (ha : 1 ≤ a) : smN (fun j => if j + 1 < a then c else 0) a = (a - 1) * c := by
  obtain ⟨q, rfl⟩ : ∃ q, a = q + 1 := ⟨a - 1, by omega⟩
  simp only [smN]
  rw [smN_congr (g := fun _ => c) (fun i hi => if_pos (by omega)), smN_const, if_neg (by omega)]
  simp
theorem row_len (a b : Nat) (three : Bool) (k : Nat) (ha : 1 ≤ a) :
    smN (fun j => (outs (a : Int) (b : Int) false false three ((a * k + j : Nat) : Int)).length) a = (a - 1) + (if k + 1 < b then a + (if three then a - 1 else 0) else 0) := by
  rw [smN_congr (g := fun j => (if j + 1 < a then (1 + if three = true ∧ k + 1 < b then 1 else 0) else 0) + (if k + 1 < b then 1 else 0)) (fun j hj => ?_), smN_add, sum_before _ _ ha, smN_const]
  · by_cases h2 : k + 1 < b
    · cases three <;> simp [h2] <;> omega
    · cases three <;> simp [h2]
  · rw [outs_len a b three k j hj]
    by_cases h1 : j + 1 < a
    · by_cases h2 : k + 1 < b
      · cases three <;> simp [h1, h2, ofB]
      · cases three <;> simp [h1, h2, ofB]
    · by_cases h2 : k + 1 < b
      · cases three <;> simp [h1, h2, ofB]
      · cases three <;> simp [h1, h2, ofB]
theorem rows_len (a b : Nat) (three : Bool) (k : Nat) (ha : 1 ≤ a) (hk : k + 1 ≤ b) :
    smN (fun v => (outs (a : Int) (b : Int) false false three ((v : Nat) : Int)).length) (a * k) = k * ((a - 1) + (a + (if three then a - 1 else 0))) := by
  induction k with
  | zero => simp [smN]
  | succ k ih =>
    rw [Nat.mul_succ, smN_split, ih (by omega), row_len a b three k ha, Nat.succ_mul]
    have h2 : k + 1 < b := by omega
    simp only [h2, if_true]
theorem gL_open_len (a b : Nat) (three : Bool) (hg : gridB (a : Int) (b : Int) = true) (ha : 1 ≤ a) (hb : 1 ≤ b) :
    ((gL (a : Int) (b : Int) false false (dirsOf three)).length : Int) = (a : Int) * ((b : Int) - 1) + (b : Int) * ((a : Int) - 1) + (if three then ((a : Int) - 1) * ((b : Int) - 1) else 0) := by
  rw [gL_outs hg, length_range]
  have e : ((a : Int) * (b : Int)).toNat = a * b := by rw [← Int.natCast_mul]; rfl
  rw [e]
  obtain ⟨c, rfl⟩ : ∃ c, b = c + 1 := ⟨b - 1, by omega⟩
  obtain ⟨d, rfl⟩ : ∃ d, a = d + 1 := ⟨a - 1, by omega⟩
  rw [Nat.mul_succ, smN_split, rows_len _ _ three c ha (Nat.le_refl _), row_len _ _ three c ha]
  simp only [Nat.lt_irrefl, if_false]
  simp only [Nat.add_sub_cancel, Nat.add_zero, Int.natCast_add, Int.natCast_mul, Int.natCast_one, Int.add_sub_cancel]
  cases three
  · simp only [Bool.false_eq_true, if_false, Int.natCast_zero, Int.add_zero, Int.mul_add, Int.add_mul, Int.mul_one, Int.one_mul, Int.mul_comm (c : Int) (d : Int)]
    omega
  · simp only [if_true, Int.mul_add, Int.add_mul, Int.mul_one, Int.one_mul, Int.mul_comm (c : Int) (d : Int)]
    omega
end Go.Proofs.Ytbkgnachgpbcpaa
