/- Plain: how often the edges have been met, when the vertices are gone over in order. Nothing of the program. -/
import Derived.Test.YtpgkhmjlbaoagaaGraDc
import Derived.Test.YtpgkhmjlbaoagaaGraAr
namespace Go.Proofs.Ytpgkhmjlbaoagaa
open Go.RowKit
set_option linter.unusedVariables false

/-- How often edge i has been met, when the vertices below k are done, and of k the half-edges js. -/
def tmL (l : List (Int × Int × Int)) (k : Nat) (js : List Nat) (i : Nat) : Nat := (if eU l i < k then 1 else 0) + (if eV l i < k then 1 else 0) + (if 2 * i ∈ js then 1 else 0) + (if 2 * i + 1 ∈ js then 1 else 0)
theorem tmL_le (l : List (Int × Int × Int)) (k : Nat) (js : List Nat) (i : Nat) : tmL l k js i ≤ 4 := by
  unfold tmL
  split <;> split <;> split <;> split <;> omega
theorem tmL_zero (l : List (Int × Int × Int)) (i : Nat) : tmL l 0 [] i = 0 := by simp [tmL]
theorem tmL_step (l : List (Int × Int × Int)) (k : Nat) (js : List Nat) (j i : Nat) (hj : j ∉ js) : tmL l k (js ++ [j]) i = upd (tmL l k js) (j / 2) (tmL l k js (j / 2) + 1) i := by
  by_cases hi : i = j / 2
  · subst hi
    rw [upd_same]
    unfold tmL
    by_cases h : j % 2 = 0
    · have e : 2 * (j / 2) = j := by omega
      have e2 : (2 * (j / 2) + 1 ∈ js ++ [j]) ↔ (2 * (j / 2) + 1 ∈ js) := by simp; omega
      have e1 : 2 * (j / 2) ∈ js ++ [j] := by rw [e]; simp
      have e3 : 2 * (j / 2) ∉ js := by rw [e]; exact hj
      simp only [e1, e2, e3, if_true, if_false]
      omega
    · have e : 2 * (j / 2) + 1 = j := by omega
      have e2 : (2 * (j / 2) ∈ js ++ [j]) ↔ (2 * (j / 2) ∈ js) := by simp; omega
      have e1 : 2 * (j / 2) + 1 ∈ js ++ [j] := by rw [e]; simp
      have e3 : 2 * (j / 2) + 1 ∉ js := by rw [e]; exact hj
      simp only [e1, e2, e3, if_true, if_false]
  · rw [upd_other _ _ hi]
    unfold tmL
    have e1 : (2 * i ∈ js ++ [j]) ↔ (2 * i ∈ js) := by simp; omega
    have e2 : (2 * i + 1 ∈ js ++ [j]) ↔ (2 * i + 1 ∈ js) := by simp; omega
    simp only [e1, e2]
theorem tmL_done {n : Nat} {l : List (Int × Int × Int)} (h : GOk n l) (k i : Nat) (hi : i < l.length) : tmL l k (inc l k) i = tmL l (k + 1) [] i := by
  have e1 : (2 * i ∈ inc l k) ↔ eU l i = k := by rw [inc_mem, eP_even]; omega
  have e2 : (2 * i + 1 ∈ inc l k) ↔ eV l i = k := by rw [inc_mem, eP_odd]; omega
  unfold tmL
  simp only [e1, e2, List.not_mem_nil, if_false]
  split <;> split <;> split <;> split <;> split <;> split <;> omega
theorem tmL_full {n : Nat} {l : List (Int × Int × Int)} (h : GOk n l) (i : Nat) (hi : i < l.length) : tmL l n [] i = 2 := by
  obtain ⟨_, _, h1, h2, _⟩ := h.at_ hi
  unfold tmL
  rw [if_pos h1, if_pos h2]; simp
/-- The edges around a vertex come in increasing order. -/
theorem inc_lt {n : Nat} {l : List (Int × Int × Int)} (h : GOk n l) {k x : Nat} {pre : List Nat} (hp : pre ++ [x] <+: inc l k) : ∀ y ∈ pre, y / 2 < x / 2 := by
  intro y hy
  have hpw : (inc l k).Pairwise (· < ·) := List.Pairwise.filter _ List.pairwise_lt_range
  have h2 := (List.pairwise_append.1 (hpw.sublist hp.sublist)).2.2 y hy x (by simp)
  have my := inc_mem.1 (hp.subset (show y ∈ pre ++ [x] by simp [hy]))
  have mx := inc_mem.1 (hp.subset (show x ∈ pre ++ [x] by simp))
  by_cases he : y / 2 = x / 2
  · obtain ⟨i, hi⟩ : ∃ i, i = y / 2 := ⟨_, rfl⟩
    have ey : y = 2 * i := by omega
    have ex : x = 2 * i + 1 := by omega
    have h3 := my.2
    have h4 := mx.2
    rw [ey, eP_even] at h3
    rw [ex, eP_odd] at h4
    have := (h.at_ (show i < l.length by omega)).2.2.2.2
    omega
  · omega
theorem inc_new {n : Nat} {l : List (Int × Int × Int)} (h : GOk n l) {k x : Nat} {pre : List Nat} (hp : pre ++ [x] <+: inc l k) : x ∉ pre := fun hm => by
  have := inc_lt h hp x hm; omega
/-- The last index. -/
def lastI (js : List Nat) : Int := ((js.getLast?).map fun j => ((j / 2 : Nat) : Int)).getD (-1)
theorem lastI_nil : lastI [] = -1 := rfl
theorem lastI_snoc (js : List Nat) (j : Nat) : lastI (js ++ [j]) = ((j / 2 : Nat) : Int) := by simp [lastI]
theorem lastI_lt {n : Nat} {l : List (Int × Int × Int)} (h : GOk n l) {k x : Nat} {pre : List Nat} (hp : pre ++ [x] <+: inc l k) : lastI pre < ((x / 2 : Nat) : Int) := by
  rcases List.eq_nil_or_concat pre with rfl | ⟨q, y, rfl⟩
  · rw [lastI_nil]; omega
  · rw [List.concat_eq_append, lastI_snoc]
    have := inc_lt h hp y (by simp)
    omega
theorem stt_all {n : Nat} {l : List (Int × Int × Int)} (h : GOk n l) : stt (2 * l.length) (eP l) n = 2 * l.length := cnt_full fun i hi => by simpa using (h.P_lt hi).1
end Go.Proofs.Ytpgkhmjlbaoagaa
