/- Plain: the great circle of GraphKnown. Nothing of the program. -/
import Derived.Test.YtpgkhmjlbaoagaaGraK
import Derived.Test.YtpgkhmjlbaoagaaGraSt
import Derived.Test.YtpgkhmjlbaoagaaRowP
namespace Go.Proofs.Ytpgkhmjlbaoagaa
open Go.RowKit
set_option linter.unusedVariables false

theorem conn_zero {n : Nat} {l : List (Int × Int × Int)} (hn : 1 ≤ n) (hok : GOk n l) (h : ∀ v, 0 < v → v < n → ∃ u, u < v ∧ (∃ t, ((u : Int), (v : Int), t) ∈ l)) : ∀ v, v < n → gLb n l v = 0 := by
  have hl := gLb_lab n l
  have h00 : gLb n l 0 = 0 := by have := hl.le 0 (by omega); omega
  intro v
  induction v using Nat.strongRecOn with
  | ind v ih =>
    intro hv
    by_cases e : v = 0
    · rw [e, h00]
    · obtain ⟨u, hu, t, ht⟩ := h v (by omega) hv
      have h1 := gLb_edge hok ht
      simp only [Int.toNat_natCast] at h1
      rw [← h1]; exact ih u hu (by omega)
theorem zero_cls {n : Nat} {L : Nat → Nat} (h : ∀ v, v < n → L v = 0) {i : Nat} (hi : i < n) : cls n L (L i) = n := by
  rw [h i hi]
  unfold cls
  exact cnt_full fun j hj => by rw [h j hj]; rfl
theorem zero_lrg {n : Nat} {L : Nat → Nat} (hn : 1 ≤ n) (h : ∀ v, v < n → L v = 0) : lrg n L = n := by
  apply Nat.le_antisymm (lrg_le n L)
  have h1 := le_mx (f := fun i => cls n L (L i)) (show 0 < n by omega)
  have h2 := zero_cls h (show 0 < n by omega)
  rw [h2] at h1
  exact h1
theorem sm_same {f : Nat → Nat} {c : Nat} : ∀ n, (∀ i, i < n → f i = c) → sm f n = n * c
  | 0, _ => by simp [sm]
  | n + 1, h => by
    have := sm_same n fun i hi => h i (by omega)
    show sm f n + f n = _
    rw [this, h n (by omega), Nat.add_mul, Nat.one_mul]
theorem zero_sq {n : Nat} {L : Nat → Nat} (h : ∀ v, v < n → L v = 0) : sq n L = n * n := sm_same n fun i hi => zero_cls h hi
theorem zero_sets {n : Nat} {L : Nat → Nat} (hn : 1 ≤ n) (h : ∀ v, v < n → L v = 0) : sets n L = 1 := by
  unfold sets
  have : cnt (fun i => L i == i) n = cnt (fun i => i == 0) n := cnt_congr fun i hi => by
    rw [h i hi, Bool.eq_iff_iff]; simp; omega
  rw [this]
  clear this h
  induction n with
  | zero => omega
  | succ n ih =>
    by_cases e : n = 0
    · subst e; rfl
    · have := ih (by omega)
      simp only [cnt, this]
      simp; omega
/-- Counting over a period. -/
theorem cnt_shift {p : Nat → Bool} (a : Nat) : ∀ b, cnt p (a + b) = cnt p a + cnt (fun i => p (a + i)) b
  | 0 => by simp [cnt]
  | b + 1 => by
    have h := cnt_shift (p := p) a b
    have e1 : cnt p (a + (b + 1)) = cnt p (a + b) + (if p (a + b) then 1 else 0) := rfl
    have e2 : cnt (fun i => p (a + i)) (b + 1) = cnt (fun i => p (a + i)) b + (if p (a + b) then 1 else 0) := rfl
    omega
theorem cnt_period {p : Nat → Bool} {M : Nat} (h : ∀ i, p (M + i) = p i) : ∀ q, cnt p (q * M) = q * cnt p M
  | 0 => by simp [cnt]
  | q + 1 => by
    rw [show (q + 1) * M = M + q * M by rw [Nat.add_mul, Nat.one_mul, Nat.add_comm], cnt_shift, show (fun i => p (M + i)) = p from funext h, cnt_period h q, Nat.add_mul, Nat.one_mul, Nat.add_comm]
theorem cnt_single {v : Nat} : ∀ n, cnt (fun i => i == v) n = if v < n then 1 else 0
  | 0 => by simp [cnt]
  | n + 1 => by
    have e1 : cnt (fun i => i == v) (n + 1) = cnt (fun i => i == v) n + (if n == v then 1 else 0) := rfl
    rw [e1, cnt_single n]
    by_cases h : n = v
    · subst h; simp
    · have : (n == v) = false := by simpa using h
      have c : (if (n == v) = true then 1 else 0) = 0 := by rw [this]; rfl
      by_cases h2 : v < n
      · have a : (if v < n then 1 else 0) = 1 := if_pos h2
        have b : (if v < n + 1 then 1 else 0) = 1 := if_pos (by omega)
        omega
      · have a : (if v < n then 1 else 0) = 0 := if_neg h2
        have b : (if v < n + 1 then 1 else 0) = 0 := if_neg (by omega)
        omega
theorem cnt_mod {v M : Nat} (hv : v < M) : cnt (fun i => i % M == v) M = 1 := by
  rw [cnt_congr (q := fun i => i == v) fun i hi => by rw [Nat.mod_eq_of_lt hi], cnt_single, if_pos hv]
theorem cnt_mod1 {v M : Nat} (hv : v < M) : cnt (fun i => (i + 1) % M == v) M = 1 := by
  have h1 := cnt_shift (p := fun i => i % M == v) 1 M
  have h2 := cnt_mod hv
  have h3 : cnt (fun i => i % M == v) (1 + M) = cnt (fun i => i % M == v) M + (if M % M == v then 1 else 0) := by rw [Nat.add_comm]; rfl
  have h4 : cnt (fun i => i % M == v) 1 = (if 0 % M == v then 1 else 0) := by simp [cnt]
  have h5 : (fun i => (1 + i) % M == v) = fun i => (i + 1) % M == v := by funext i; rw [Nat.add_comm]
  simp only [h5] at h1
  rw [Nat.mod_self] at h3
  rw [Nat.zero_mod] at h4
  omega
/-- The edges of the great circle, four times round. -/
def bigE (j : Nat) : Int × Int × Int := (((j % 4096 : Nat) : Int), (((j + 1) % 4096 : Nat) : Int), 9223372036854775807)
def bigL (k : Nat) : List (Int × Int × Int) := (List.range k).map bigE
theorem bigL_len (k : Nat) : (bigL k).length = k := by simp [bigL]
theorem bigL_get {k j : Nat} (h : j < k) : (bigL k)[j]? = some (bigE j) := by simp [bigL, h]
theorem bigU {k j : Nat} (h : j < k) : eU (bigL k) j = j % 4096 := by
  unfold eU; rw [bigL_get h]; simp [bigE]; omega
theorem bigV {k j : Nat} (h : j < k) : eV (bigL k) j = (j + 1) % 4096 := by
  unfold eV; rw [bigL_get h]; simp [bigE]; omega
theorem bigW {k j : Nat} (h : j < k) : eW (bigL k) j = 9223372036854775807 := by
  unfold eW; rw [bigL_get h]; rfl
theorem bigL_ok (k : Nat) : GOk 4096 (bigL k) := by
  intro e he
  obtain ⟨j, _, rfl⟩ := List.mem_map.1 he
  simp only [bigE]
  omega
theorem bigL_w (k : Nat) : WOk (bigL k) := by
  intro e he
  obtain ⟨j, _, rfl⟩ := List.mem_map.1 he
  simp only [bigE]
  omega
theorem cnt_halves (l : List (Int × Int × Int)) (v : Nat) : ∀ k, cnt (fun j => eP l j == v) (2 * k) = cnt (fun i => eU l i == v) k + cnt (fun i => eV l i == v) k
  | 0 => by simp [cnt]
  | k + 1 => by
    have := cnt_halves l v k
    rw [show 2 * (k + 1) = 2 * k + 1 + 1 by omega]
    simp only [cnt, eP_even, eP_odd]
    omega
theorem big_inc {v : Nat} (hv : v < 4096) : (inc (bigL 16384) v).length = 8 := by
  rw [inc_len, bigL_len]
  unfold cls
  rw [cnt_halves, cnt_congr (q := fun i => i % 4096 == v) fun i hi => by rw [bigU hi], cnt_congr (p := fun i => eV (bigL 16384) i == v) (q := fun i => (i + 1) % 4096 == v) fun i hi => by rw [bigV hi]]
  have h1 := cnt_period (p := fun i => i % 4096 == v) (M := 4096) (fun i => by rw [Nat.add_mod_left]) 4
  have h2 := cnt_period (p := fun i => (i + 1) % 4096 == v) (M := 4096) (fun i => by rw [Nat.add_assoc, Nat.add_mod_left]) 4
  rw [cnt_mod hv] at h1
  rw [cnt_mod1 hv] at h2
  rw [show (16384 : Nat) = 4 * 4096 from rfl, h1, h2]
theorem sumI_same {c : Int} : ∀ l : List Int, (∀ x ∈ l, x = c) → sumI l = l.length * c
  | [], _ => by simp [sumI]
  | a :: l, h => by
    have := sumI_same l fun x hx => h x (by simp [hx])
    show a + sumI l = _
    rw [this, h a (by simp), List.length_cons]
    push_cast
    rw [Int.add_mul, Int.one_mul, Int.add_comm]
theorem big_str {v : Nat} (hv : v < 4096) : sumI (wts (bigL 16384) v) = 73786976294838206456 := by
  have h := sumI_same (c := 9223372036854775807) (wts (bigL 16384) v) fun x hx => by
    obtain ⟨j, hj, rfl⟩ := List.mem_map.1 hx
    have h1 := (inc_mem.1 hj).1
    rw [bigL_len] at h1
    exact bigW (by omega)
  rw [wts_len, big_inc hv] at h
  rw [h]; rfl
theorem big_strE : strE 4096 (bigL 16384) 5 = 7 := by
  unfold strE
  rw [show inB 4096 5 = true from rfl, if_pos rfl, show ((5 : Int).toNat) = 5 from rfl, big_str (by omega)]
  rfl
theorem big_strE2 : strE 4096 (bigL 16384) 4096 = 3 := by
  unfold strE
  rw [show inB 4096 4096 = false from rfl]; rfl
theorem big_deg : gdeg 4096 (bigL 16384) 0 = 8 := by
  unfold gdeg
  rw [show inB 4096 0 = true from rfl, if_pos rfl, show ((0 : Int).toNat) = 0 from rfl, big_inc (by omega)]
theorem big_zero : ∀ v, v < 4096 → gLb 4096 (bigL 16384) v = 0 := by
  refine conn_zero (by omega) (bigL_ok _) fun v h0 hv => ⟨v - 1, by omega, 9223372036854775807, List.mem_map.2 ⟨v - 1, by simp; omega, ?_⟩⟩
  unfold bigE
  rw [Nat.mod_eq_of_lt (by omega), Nat.mod_eq_of_lt (by omega), show v - 1 + 1 = v by omega]
theorem big_lrg : lrg 4096 (gLb 4096 (bigL 16384)) = 4096 := zero_lrg (by omega) big_zero
theorem big_sets : sets 4096 (gLb 4096 (bigL 16384)) = 1 := zero_sets (by omega) big_zero
theorem big_sq : sq 4096 (gLb 4096 (bigL 16384)) = 16777216 := zero_sq big_zero
theorem big_E : newE ((4096 : Nat) : Int) (bigL 16384) = 0 := newE_ok (Nat.le_refl _) (by rw [bigL_len]; omega) (bigL_ok _)
theorem big_E2 : newE ((4096 : Nat) : Int) (bigL 16385) = 2 := by
  unfold newE
  rw [if_pos (.inr (.inr (by rw [bigL_len]; omega)))]
theorem bigL_take {k m : Nat} (h : k ≤ m) : (bigL m).take k = bigL k := by
  unfold bigL
  rw [← List.map_take, List.take_range, Nat.min_eq_left h]
end Go.Proofs.Ytpgkhmjlbaoagaa
