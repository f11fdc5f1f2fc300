/- Plain: numbers of six digits to the base 2^32. -/
import Derived.Test.YtpgkhmjlbaoagaaForest
import Derived.Test.YtpgkhmjlbaoagaaSumC
namespace Go.Proofs.Ytpgkhmjlbaoagaa
open Go.RowKit
set_option linter.unusedVariables false

/-- The number that the first k digits are. -/
def dv (f : Nat → Nat) : Nat → Nat
  | 0 => 0
  | k + 1 => dv f k + f k * 4294967296 ^ k
def D6 (f : Nat → Nat) : Prop := ∀ i, i < 6 → f i < 4294967296
def u6 (f : Nat → Nat) : Array Value := #[.int .u64 (f 0 : Int), .int .u64 (f 1 : Int), .int .u64 (f 2 : Int), .int .u64 (f 3 : Int), .int .u64 (f 4 : Int), .int .u64 (f 5 : Int)]
theorem u6_get (f : Nat → Nat) (i : Nat) (h : i < 6) : (u6 f)[i]? = some (.int .u64 (f i : Int)) := by
  have : i = 0 ∨ i = 1 ∨ i = 2 ∨ i = 3 ∨ i = 4 ∨ i = 5 := by omega
  rcases this with rfl | rfl | rfl | rfl | rfl | rfl <;> rfl
theorem u6_set (f : Nat → Nat) (i x : Nat) (h : i < 6) : (u6 f).setIfInBounds i (.int .u64 (x : Int)) = u6 (upd f i x) := by
  have : i = 0 ∨ i = 1 ∨ i = 2 ∨ i = 3 ∨ i = 4 ∨ i = 5 := by omega
  rcases this with rfl | rfl | rfl | rfl | rfl | rfl <;> simp [u6, upd]
theorem dv_lt {f : Nat → Nat} : ∀ k, (∀ i, i < k → f i < 4294967296) → dv f k < 4294967296 ^ k
  | 0, _ => by simp [dv]
  | k + 1, h => by
    have h1 := dv_lt k fun i hi => h i (by omega)
    have h2 := Nat.mul_le_mul_right (4294967296 ^ k) (show f k + 1 ≤ 4294967296 by have := h k (by omega); omega)
    rw [Nat.add_mul] at h2
    rw [Nat.pow_succ, Nat.mul_comm (4294967296 ^ k)]
    show dv f k + f k * 4294967296 ^ k < _
    omega
theorem dv_congr {f g : Nat → Nat} : ∀ k, (∀ i, i < k → f i = g i) → dv f k = dv g k
  | 0, _ => rfl
  | k + 1, h => by
    show dv f k + f k * _ = dv g k + g k * _
    rw [dv_congr k fun i hi => h i (by omega), h k (by omega)]
theorem dv_upd (f : Nat → Nat) (k x : Nat) : dv (upd f k x) (k + 1) = dv f k + x * 4294967296 ^ k := by
  show dv (upd f k x) k + upd f k x k * _ = _
  rw [upd_same, dv_congr k fun i hi => upd_other f x (by omega)]
theorem dv6 (f : Nat → Nat) : dv f 6 = f 0 + f 1 * 4294967296 + f 2 * 18446744073709551616 + f 3 * 79228162514264337593543950336 + f 4 * 340282366920938463463374607431768211456 + f 5 * 1461501637330902918203684832716283019655932542976 := by
  simp [dv]
theorem more_step (a b c P : Nat) : (a + b + c) % 4294967296 * P + (a + b + c) / 4294967296 * (P * 4294967296) = a * P + b * P + c * P := by
  have h := Nat.div_add_mod (a + b + c) 4294967296
  rw [← Nat.add_mul, ← Nat.add_mul]
  generalize a + b + c = s at *
  have : s / 4294967296 * (P * 4294967296) = 4294967296 * (s / 4294967296) * P := by
    rw [Nat.mul_comm P, ← Nat.mul_assoc, Nat.mul_comm (s / 4294967296)]
  rw [this, ← Nat.add_mul, Nat.add_comm, h]
theorem less_step (a b c t P : Nat) (hb : b < 4294967296) (ha : a < 4294967296) (hc : c ≤ 1) (ht : t + b + c = a + 4294967296) : t % 4294967296 * P + b * P + c * P = a * P + (1 - t / 4294967296) * (P * 4294967296) := by
  have hq : t / 4294967296 = 0 ∨ t / 4294967296 = 1 := by omega
  rw [← Nat.add_mul, ← Nat.add_mul, Nat.mul_comm P, ← Nat.mul_assoc, ← Nat.add_mul]
  congr 1
  omega
theorem less_end {a b d c P : Nat} (hc : c ≤ 1) (h1 : a + b = d + c * P) (h2 : a < P) (h3 : b ≤ d) : a + b = d := by
  have : c = 0 ∨ c = 1 := by omega
  rcases this with rfl | rfl
  · omega
  · omega
/-- Two numbers differ as their highest digits that differ. -/
theorem dv_top {f g : Nat → Nat} (hf : ∀ i, i < 6 → f i < 4294967296) {i : Nat} (hi : i < 6) (hfg : f i < g i) (he : ∀ j, i < j → j < 6 → f j = g j) : dv f 6 < dv g 6 := by
  have h1 : dv f (i + 1) < dv g (i + 1) := by
    have h1 := dv_lt (f := f) i fun j hj => hf j (by omega)
    have h2 := Nat.mul_le_mul_right (4294967296 ^ i) (show f i + 1 ≤ g i from hfg)
    rw [Nat.add_mul] at h2
    show dv f i + f i * _ < dv g i + g i * _
    omega
  have key : ∀ k, i + 1 + k ≤ 6 → dv f (i + 1 + k) < dv g (i + 1 + k) := by
    intro k
    induction k with
    | zero => intro _; exact h1
    | succ k ih =>
      intro hk
      have := ih (by omega)
      show dv f (i + 1 + k) + f (i + 1 + k) * _ < dv g (i + 1 + k) + g (i + 1 + k) * _
      rw [he (i + 1 + k) (by omega) (by omega)]
      omega
  have := key (5 - i) (by omega)
  rwa [show i + 1 + (5 - i) = 6 by omega] at this
/-- A number with a sign. -/
def wI (neg : Bool) (f : Nat → Nat) : Int := if neg then -(dv f 6 : Int) else dv f 6
def wv (neg : Bool) (f : Nat → Nat) : Array Value := #[.bool neg, .int .u64 (f 0 : Int), .int .u64 (f 1 : Int), .int .u64 (f 2 : Int), .int .u64 (f 3 : Int), .int .u64 (f 4 : Int), .int .u64 (f 5 : Int)]
/-- The digits of a number below 2^64. -/
def lowD (m : Nat) : Nat → Nat := fun i => if i = 0 then m % 4294967296 else if i = 1 then m / 4294967296 else 0
theorem lowD_dv (m : Nat) : dv (lowD m) 6 = m := by
  have h0 : lowD m 0 = m % 4294967296 := if_pos rfl
  have h1 : lowD m 1 = m / 4294967296 := by unfold lowD; rw [if_neg (by omega), if_pos rfl]
  have hz : ∀ i, 2 ≤ i → lowD m i = 0 := fun i hi => by unfold lowD; rw [if_neg (by omega), if_neg (by omega)]
  have h := Nat.div_add_mod m 4294967296
  have h2 := hz 2 (by omega)
  have h3 := hz 3 (by omega)
  have h4 := hz 4 (by omega)
  have h5 := hz 5 (by omega)
  have e := dv6 (lowD m)
  generalize dv (lowD m) 6 = z at *
  generalize lowD m 0 = a0 at *
  generalize lowD m 1 = a1 at *
  generalize lowD m 2 = a2 at *
  generalize lowD m 3 = a3 at *
  generalize lowD m 4 = a4 at *
  generalize lowD m 5 = a5 at *
  clear hz
  subst h2 h3 h4 h5
  omega
theorem lowD_ok {m : Nat} (h : m < 18446744073709551616) : D6 (lowD m) := by
  intro i hi
  unfold lowD
  split
  · omega
  · split <;> omega
end Go.Proofs.Ytpgkhmjlbaoagaa
