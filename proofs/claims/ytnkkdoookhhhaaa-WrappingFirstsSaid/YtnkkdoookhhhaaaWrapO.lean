/- Plain: displacements add up and lead from place to place; few edges do not wrap, all of them do. Nothing of the program. -/
import Derived.Test.YtnkkdoookhhhaaaWrapQ
namespace Go.Proofs.Ytnkkdoookhhhaaa
open Go.RowKit
set_option linter.unusedVariables false

theorem InE.take {n : Nat} {s t : Nat → Nat} {E : List Nat} (h : InE n s t E) (k : Nat) : InE n s t (E.take k) := fun e he => h e (List.mem_of_mem_take he)
/-- Every graph has displacements from the least vertices. -/
theorem pots_exist {n : Nat} {s t : Nat → Nat} {f : Nat → Int} {E : List Nat} (hin : InE n s t E) (hf : ∀ e, -1 ≤ f e ∧ f e ≤ 1) : ∃ p wd ac, Co n s t f E (labE n s t E) p wd ac := by
  have key : ∀ k, k ≤ E.length → ∃ p wd ac, Co n s t f (E.take k) (labE n s t (E.take k)) p wd ac := by
    intro k
    induction k with
    | zero => intro _; exact ⟨_, _, _, Co.new n s t f⟩
    | succ k ih =>
      intro hk
      obtain ⟨p, wd, ac, h⟩ := ih (by omega)
      rw [List.take_succ_eq_append_getElem (by omega)]
      have he := hin E[k] (List.getElem_mem (by omega))
      have hi := hin.take k
      have hl : Lab n (labE n s t (E.take k)) := labE_lab _
      generalize E.take k = F at *
      generalize E[k] = e at *
      rw [labE_snoc he]
      by_cases hs : labE n s t F (s e) = labE n s t F (t e)
      · rw [hs, merge_self]
        exact ⟨_, _, _, h.same hi he (fun _ _ _ _ => Iff.rfl) (fun i hi => ⟨hl.lt hi, hl.idem i hi⟩) hs (q := decide (p (s e) + f e - p (t e) ≠ 0)) (by simp)⟩
      · have hm : merge (labE n s t F) (labE n s t F (s e)) (labE n s t F (t e)) = fun i => if labE n s t F i = max (labE n s t F (s e)) (labE n s t F (t e)) then min (labE n s t F (s e)) (labE n s t F (t e)) else labE n s t F i := rfl
        rw [hm]
        have hj := fun R O rd hc => h.join hi he (hf e) (fun _ _ _ _ => Iff.rfl) (fun i hi => ⟨hl.lt hi, hl.idem i hi⟩) hs (R := R) (O := O) (rd := rd) hc
        by_cases hlt : labE n s t F (s e) < labE n s t F (t e)
        · rw [Nat.max_eq_right (by omega), Nat.min_eq_left (by omega)]
          exact ⟨_, _, _, hj _ _ _ (.inl ⟨rfl, rfl, rfl⟩)⟩
        · rw [Nat.max_eq_left (by omega), Nat.min_eq_right (by omega)]
          exact ⟨_, _, _, hj _ _ _ (.inr ⟨rfl, rfl, rfl⟩)⟩
  have := key E.length (Nat.le_refl _)
  rwa [List.take_length] at this
theorem Co.offI {W H : Nat} {f : Nat → Int} {E : List Nat} {rep : Nat → Nat} {p : Nat → Int} {wd : Nat → Bool} {ac : Bool} (h : Co (W * H) tS (tT W H) f E rep p wd ac)
    (hrep : ∀ i j, i < W * H → j < W * H → (rep i = rep j ↔ tL W H E i = tL W H E j)) (hrl : ∀ i, i < W * H → rep i < W * H ∧ rep (rep i) = rep i) {a b : Nat} (ha : a < W * H) (hb : b < W * H) (hl : tL W H E a = tL W H E b)
    (hf : wndB W H f E a = false) : offI W H f E a b = p b - p a := by
  have e := (hrep a b ha hb).2 hl
  exact offI_eq (r := rep a) (wndB_false.1 hf) ((hrep _ _ (hrl a ha).1 ha).1 (hrl a ha).2) (h.pot a ha) (by rw [e]; exact h.pot b hb)

section
variable {W H : Nat} {E : List Nat}
theorem wnd_congr {f : Nat → Int} {v w : Nat} (h : tL W H E v = tL W H E w) : wndB W H f E v = wndB W H f E w := by
  rw [Bool.eq_iff_iff, wndB_iff, wndB_iff, flat_congr h]
theorem wnd_any {f : Nat → Int} {v : Nat} (hv : v < W * H) (h : wndB W H f E v = true) : anyB W H f E = true := anyB_wnd.2 ⟨v, hv, h⟩
/-- Displacements of a direction, as differences. -/
theorem offs (hin : InE (W * H) tS (tT W H) E) {f : Nat → Int} (hf : ∀ e, -1 ≤ f e ∧ f e ≤ 1) : ∃ p : Nat → Int, ∀ a b, a < W * H → b < W * H → tL W H E a = tL W H E b → wndB W H f E a = false → offI W H f E a b = p b - p a := by
  obtain ⟨p, wd, ac, h⟩ := pots_exist hin hf
  exact ⟨p, fun a b ha hb hl hw => h.offI (fun _ _ _ _ => Iff.rfl) (fun i hi => ⟨(tL_lab W H E).lt hi, (tL_lab W H E).idem i hi⟩) ha hb hl hw⟩
theorem same_nat {n : Nat} {L : Nat → Nat} {a b : Nat} (ha : a < n) (hb : b < n) : sameB n L (a : Int) (b : Int) = (L a == L b) := by
  unfold sameB
  rw [inB_nat ha, inB_nat hb]
  simp
theorem offOk_iff {a b : Nat} (ha : a < W * H) (hb : b < W * H) : offOk W H E a b = true ↔ tL W H E a = tL W H E b ∧ wndB W H tX E a = false ∧ wndB W H tY E a = false := by
  unfold offOk
  rw [same_nat ha hb]
  simp [and_assoc]
theorem mulmod {W y x : Nat} (hx : x < W) : (y * W + x) % W = x := by rw [Nat.add_comm, Nat.add_mul_mod_self_right, Nat.mod_eq_of_lt hx]
theorem muldiv {W y x : Nat} (hx : x < W) : (y * W + x) / W = y := by rw [Nat.add_comm, Nat.add_mul_div_right _ _ (by omega), Nat.div_eq_of_lt hx, Nat.zero_add]
theorem W_pos {v : Nat} (h : v < W * H) : 0 < W := by
  rcases Nat.eq_zero_or_pos W with h0 | h0
  · subst h0; simp at h
  · exact h0
theorem row_lt {v : Nat} (h : v < W * H) : v / W < H := Nat.div_lt_of_lt_mul h
theorem tT_col {e : Nat} (hW : 0 < W) : tT W H e % W = if e % 2 = 0 then (tS e % W + 1) % W else tS e % W := by
  unfold tT tS
  split
  · exact mulmod (Nat.mod_lt _ hW)
  · exact mulmod (Nat.mod_lt _ hW)
theorem tT_row {e : Nat} (hW : 0 < W) : tT W H e / W = if e % 2 = 0 then tS e / W else (tS e / W + 1) % H := by
  unfold tT tS
  split
  · exact muldiv (Nat.mod_lt _ hW)
  · exact muldiv (Nat.mod_lt _ hW)
theorem step_mod {c m : Nat} (h : c < m) : (c + 1 < m ∧ (c + 1) % m = c + 1) ∨ (c + 1 = m ∧ (c + 1) % m = 0) := by
  by_cases h1 : c + 1 < m
  · exact .inl ⟨h1, Nat.mod_eq_of_lt h1⟩
  · have : c + 1 = m := by omega
    exact .inr ⟨this, by rw [this, Nat.mod_self]⟩
/-- A displacement leads from column to column (row to row). -/
theorem off_mod (hin : InE (W * H) tS (tT W H) E) {f : Nat → Int} {m : Nat} {col : Nat → Nat} (hm : 0 < m) (hc : ∀ e ∈ E, ∃ q : Int, (col (tT W H e) : Int) = col (tS e) + f e + q * m) {a b : Nat} (ha : a < W * H) (hb : b < W * H)
    (hl : tL W H E a = tL W H E b) {φ : Nat → Int} (hφ : Good tS (tT W H) f E (tL W H E) a φ) : ((col a : Int) + (φ b - φ a) - col b) % m = 0 := by
  have := labE_ind (n := W * H) (s := tS) (t := tT W H) (E := E) (fun k => if tL W H E k = tL W H E a then (φ k - col k) % (m : Int) else 0) (fun e he => by
    have h1 : tL W H E (tS e) = tL W H E (tT W H e) := labE_edge hin he
    show (if _ then _ else _) = (if _ then _ else _)
    by_cases h : tL W H E (tS e) = tL W H E a
    · rw [if_pos h, if_pos (h1 ▸ h), hφ e he h]
      obtain ⟨q, hq⟩ := hc e he
      rw [hq, show φ (tS e) + f e - (↑(col (tS e)) + f e + q * ↑m) = φ (tS e) - ↑(col (tS e)) + -q * ↑m by rw [Int.neg_mul]; omega, Int.add_mul_emod_self_right]
    · rw [if_neg h, if_neg (h1 ▸ h)]) ha hb hl
  have hl' : tL W H E b = tL W H E a := hl.symm
  simp only [hl', if_true] at this
  rw [show (col a : Int) + (φ b - φ a) - col b = (φ b - col b) - (φ a - col a) by omega, Int.sub_emod, this, Int.sub_self, Int.zero_emod]
theorem colW (hW : 0 < W) (e : Nat) : ∃ q : Int, ((tT W H e % W : Nat) : Int) = (tS e % W : Nat) + tX e + q * W := by
  rw [tT_col hW]
  unfold tX
  split
  · rcases step_mod (Nat.mod_lt (tS e) hW) with ⟨_, h⟩ | ⟨h1, h⟩
    · exact ⟨0, by rw [h]; omega⟩
    · exact ⟨-1, by rw [h]; omega⟩
  · exact ⟨0, by omega⟩
theorem rowH {e : Nat} (hW : 0 < W) (he : tS e < W * H) : ∃ q : Int, ((tT W H e / W : Nat) : Int) = (tS e / W : Nat) + tY e + q * H := by
  rw [tT_row hW]
  unfold tY
  split
  · exact ⟨0, by omega⟩
  · rcases step_mod (row_lt he) with ⟨_, h⟩ | ⟨h1, h⟩
    · exact ⟨0, by rw [h]; omega⟩
    · exact ⟨-1, by rw [h]; omega⟩
theorem offI_mod (hin : InE (W * H) tS (tT W H) E) {f : Nat → Int} {m : Nat} {col : Nat → Nat} (hf : ∀ e, -1 ≤ f e ∧ f e ≤ 1) (hm : 0 < m) (hc : ∀ e ∈ E, ∃ q : Int, (col (tT W H e) : Int) = col (tS e) + f e + q * m) {a b : Nat} (ha : a < W * H) (hb : b < W * H)
    (hl : tL W H E a = tL W H E b) (hw : wndB W H f E a = false) : ((col a : Int) + offI W H f E a b - col b) % m = 0 := by
  obtain ⟨φ, hφ⟩ := wndB_false.1 hw
  obtain ⟨p, wd, ac, h⟩ := pots_exist hin hf
  have e1 := h.offI (fun _ _ _ _ => Iff.rfl) (fun i hi => ⟨(tL_lab W H E).lt hi, (tL_lab W H E).idem i hi⟩) ha hb hl hw
  have h1 : Good tS (tT W H) f E (tL W H E) (tL W H E a) φ := (good_congr ((tL_lab W H E).idem a ha)).2 hφ
  have pa : φ a = φ (tL W H E a) + p a := h.pot a ha φ h1
  have pb : φ b = φ (tL W H E a) + p b := by
    have hb := h.pot b hb
    have e2 : labE (W * H) tS (tT W H) E b = tL W H E a := hl.symm
    rw [e2] at hb
    exact hb φ h1
  have := off_mod hin hm hc ha hb hl hφ
  rw [e1, show p b - p a = φ b - φ a by omega]
  exact this
end

/-! ### Few edges, all edges -/
theorem cnt_mem (W : Nat) (l : List Nat) : cnt (fun c => l.contains c) W ≤ l.length := by
  induction l with
  | nil => exact Nat.le_of_eq (cnt_zero fun i _ => by simp)
  | cons x l ih =>
    have h1 : ∀ n, cnt (fun c => (x :: l).contains c) n ≤ cnt (fun c => l.contains c) n + if x < n then 1 else 0 := by
      intro n
      induction n with
      | zero => simp [cnt]
      | succ n ih2 =>
        simp only [cnt]
        by_cases hx : n = x
        · subst hx
          simp at ih2 ⊢
          split <;> omega
        · have : (x :: l).contains n = l.contains n := by simp [hx]
          simp only [this]
          split at ih2 <;> split <;> split <;> omega
    have := h1 W
    simp only [List.length_cons]
    split at this <;> omega
theorem free_col {W : Nat} {l : List Nat} (h : l.length < W) : ∃ c, c < W ∧ c ∉ l := by
  apply Classical.byContradiction
  intro hn
  have : cnt (fun c => l.contains c) W = W := cnt_full fun c hc => by
    simp
    apply Classical.byContradiction
    intro h2
    exact hn ⟨c, hc, h2⟩
  have := cnt_mem W l
  omega
section
variable {W H : Nat} {E : List Nat}
theorem few_x (hin : InE (W * H) tS (tT W H) E) (h : E.length < W) : anyB W H tX E = false := by
  rw [← Bool.not_eq_true, anyB_iff]
  rintro ⟨i, hi, hf⟩
  have hW : 0 < W := by omega
  obtain ⟨c0, hc0, hno⟩ := free_col (W := W) (l := (E.filter fun e => e % 2 == 0).map fun e => tS e % W) (by
    rw [List.length_map]; exact Nat.lt_of_le_of_lt (List.length_filter_le _ _) h)
  refine hf (flat_of (d := fun v => if c0 < v % W then ((v % W : Nat) : Int) - c0 - 1 else (v % W : Nat) + W - 1 - c0) fun e he _ => ?_)
  have hT := tT_col (W := W) (H := H) (e := e) hW
  simp only [hT]
  unfold tX
  by_cases hd : e % 2 = 0
  · simp only [hd, if_true]
    have hne : tS e % W ≠ c0 := fun e2 => hno (List.mem_map.2 ⟨e, by simp [he, hd], e2⟩)
    have hlt := Nat.mod_lt (tS e) hW
    rcases step_mod hlt with ⟨h1, h2⟩ | ⟨h1, h2⟩
    · rw [h2]; split <;> split <;> omega
    · rw [h2]; split <;> split <;> omega
  · simp only [if_neg hd]; split <;> omega
theorem few_y (hin : InE (W * H) tS (tT W H) E) (h : E.length < H) : anyB W H tY E = false := by
  rw [← Bool.not_eq_true, anyB_iff]
  rintro ⟨i, hi, hf⟩
  have hW : 0 < W := W_pos hi
  obtain ⟨c0, hc0, hno⟩ := free_col (W := H) (l := (E.filter fun e => e % 2 == 1).map fun e => tS e / W) (by
    rw [List.length_map]; exact Nat.lt_of_le_of_lt (List.length_filter_le _ _) h)
  refine hf (flat_of (d := fun v => if c0 < v / W then ((v / W : Nat) : Int) - c0 - 1 else (v / W : Nat) + H - 1 - c0) fun e he _ => ?_)
  have hT := tT_row (W := W) (H := H) (e := e) hW
  simp only [hT]
  unfold tY
  by_cases hd : e % 2 = 0
  · simp only [hd, if_true]; split <;> omega
  · simp only [if_neg hd]
    have hd1 : e % 2 = 1 := by omega
    have hne : tS e / W ≠ c0 := fun e2 => hno (List.mem_map.2 ⟨e, by simp [he, hd1], e2⟩)
    have hlt := row_lt (hin e he).1
    rcases step_mod hlt with ⟨h1, h2⟩ | ⟨h1, h2⟩
    · rw [h2]; split <;> split <;> omega
    · rw [h2]; split <;> split <;> omega
/-- All edges. -/
def allE (W H : Nat) : List Nat := List.range (2 * (W * H))
theorem all_in : InE (W * H) tS (tT W H) (allE W H) := fun e he => tE_in (by simpa [allE] using he)
theorem all_right {y x : Nat} (hy : y < H) (hx : x + 1 < W) : 2 * (y * W + x) ∈ allE W H ∧ tS (2 * (y * W + x)) = y * W + x ∧ tT W H (2 * (y * W + x)) = y * W + (x + 1) := by
  have := mul_add_lt hy (show x < W by omega)
  refine ⟨by simp [allE]; omega, by simp [tS], ?_⟩
  unfold tT
  rw [if_pos (by omega), show 2 * (y * W + x) / 2 = y * W + x by omega, muldiv (by omega), mulmod (by omega), Nat.mod_eq_of_lt hx]
theorem all_last {y : Nat} (hy : y < H) (hW : 0 < W) : 2 * (y * W + (W - 1)) ∈ allE W H ∧ tS (2 * (y * W + (W - 1))) = y * W + (W - 1) ∧ tT W H (2 * (y * W + (W - 1))) = y * W := by
  have := mul_add_lt hy (show W - 1 < W by omega)
  refine ⟨by simp [allE]; omega, by simp [tS], ?_⟩
  unfold tT
  rw [if_pos (by omega), show 2 * (y * W + (W - 1)) / 2 = y * W + (W - 1) by omega, muldiv (by omega), mulmod (by omega), show W - 1 + 1 = W by omega, Nat.mod_self]; rfl
theorem all_down {y x : Nat} (hy : y + 1 < H) (hx : x < W) : 2 * (y * W + x) + 1 ∈ allE W H ∧ tS (2 * (y * W + x) + 1) = y * W + x ∧ tT W H (2 * (y * W + x) + 1) = (y + 1) * W + x := by
  have := mul_add_lt (show y < H by omega) hx
  refine ⟨by simp [allE]; omega, by simp [tS]; omega, ?_⟩
  unfold tT
  rw [if_neg (by omega), show (2 * (y * W + x) + 1) / 2 = y * W + x by omega, muldiv hx, mulmod hx, Nat.mod_eq_of_lt hy]
theorem all_bottom {x : Nat} (hH : 0 < H) (hx : x < W) : 2 * ((H - 1) * W + x) + 1 ∈ allE W H ∧ tS (2 * ((H - 1) * W + x) + 1) = (H - 1) * W + x ∧ tT W H (2 * ((H - 1) * W + x) + 1) = x := by
  have := mul_add_lt (show H - 1 < H by omega) hx
  refine ⟨by simp [allE]; omega, by simp [tS]; omega, ?_⟩
  unfold tT
  rw [if_neg (by omega), show (2 * ((H - 1) * W + x) + 1) / 2 = (H - 1) * W + x by omega, muldiv hx, mulmod hx, show H - 1 + 1 = H by omega, Nat.mod_self]
  simp
theorem all_lab {v : Nat} (hv : v < W * H) : tL W H (allE W H) v = 0 := by
  have hW := W_pos hv
  have h1 : ∀ y, y < H → ∀ x, x < W → tL W H (allE W H) (y * W + x) = tL W H (allE W H) (y * W) := by
    intro y hy x
    induction x with
    | zero => intro _; rfl
    | succ x ih =>
      intro hx
      obtain ⟨h1, h2, h3⟩ := all_right (W := W) hy hx
      have := labE_edge (all_in (W := W) (H := H)) h1
      rw [h2, h3] at this
      have e : tL W H (allE W H) (y * W + x) = tL W H (allE W H) (y * W + (x + 1)) := this
      rw [← e]; exact ih (by omega)
  have h2 : ∀ y, y < H → tL W H (allE W H) (y * W) = 0 := by
    intro y
    induction y with
    | zero => intro _; rw [Nat.zero_mul]; have := (tL_lab W H (allE W H)).le 0 (by omega); omega
    | succ y ih =>
      intro hy
      obtain ⟨h1, h2, h3⟩ := all_down (W := W) (x := 0) hy hW
      have := labE_edge (all_in (W := W) (H := H)) h1
      rw [h2, h3] at this
      have e : tL W H (allE W H) (y * W + 0) = tL W H (allE W H) ((y + 1) * W + 0) := this
      rw [Nat.add_zero, Nat.add_zero] at e
      rw [← e]; exact ih (by omega)
  have hm : v = v / W * W + v % W := by have := Nat.div_add_mod v W; rw [Nat.mul_comm] at this; omega
  rw [hm, h1 _ (row_lt hv) _ (Nat.mod_lt _ hW), h2 _ (row_lt hv)]
theorem all_wraps (hW : 0 < W) (hH : 0 < H) : anyB W H tX (allE W H) = true ∧ anyB W H tY (allE W H) = true ∧ sets (W * H) (tL W H (allE W H)) = 1 := by
  have h0 : 0 < W * H := Nat.mul_pos hW hH
  have hlab : ∀ i, i < W * H → tL W H (allE W H) i = tL W H (allE W H) 0 := fun i hi => by rw [all_lab hi, all_lab h0]
  refine ⟨anyB_iff.2 ⟨0, h0, ?_⟩, anyB_iff.2 ⟨0, h0, ?_⟩, ?_⟩
  · rintro ⟨φ, hφ⟩
    have h1 : ∀ x, x < W → φ x = φ 0 + x := by
      intro x
      induction x with
      | zero => intro _; simp
      | succ x ih =>
        intro hx
        obtain ⟨h1, h2, h3⟩ := all_right (W := W) (y := 0) hH hx
        have := hφ _ h1 (hlab _ (all_in _ h1).1)
        rw [h2, h3] at this
        simp only [Nat.zero_mul, Nat.zero_add] at this
        have e := ih (by omega)
        have e2 : tX (2 * x) = 1 := by unfold tX; rw [if_pos (by omega)]
        rw [e2] at this; omega
    obtain ⟨h1', h2, h3⟩ := all_last (W := W) (y := 0) hH hW
    have := hφ _ h1' (hlab _ (all_in _ h1').1)
    rw [h2, h3] at this
    simp only [Nat.zero_mul, Nat.zero_add] at this
    have e2 : tX (2 * (W - 1)) = 1 := by unfold tX; rw [if_pos (by omega)]
    have e := h1 (W - 1) (by omega)
    rw [e2] at this; omega
  · rintro ⟨φ, hφ⟩
    have h1 : ∀ y, y < H → φ (y * W) = φ 0 + y := by
      intro y
      induction y with
      | zero => intro _; simp
      | succ y ih =>
        intro hy
        obtain ⟨h1, h2, h3⟩ := all_down (W := W) (x := 0) hy hW
        have := hφ _ h1 (hlab _ (all_in _ h1).1)
        rw [h2, h3] at this
        simp only [Nat.add_zero] at this
        have e := ih (by omega)
        have e2 : tY (2 * (y * W) + 1) = 1 := by unfold tY; rw [if_neg (by omega)]
        rw [e2] at this; omega
    obtain ⟨h1', h2, h3⟩ := all_bottom (W := W) (x := 0) hH hW
    have := hφ _ h1' (hlab _ (all_in _ h1').1)
    rw [h2, h3] at this
    simp only [Nat.add_zero] at this
    have e2 : tY (2 * ((H - 1) * W) + 1) = 1 := by unfold tY; rw [if_neg (by omega)]
    have e := h1 (H - 1) (by omega)
    rw [e2] at this; omega
  · unfold sets
    have : cnt (fun i => tL W H (allE W H) i == i) (W * H) = cnt (fun i => i == 0) (W * H) := cnt_congr fun i hi => by
      rw [all_lab hi, Bool.eq_iff_iff]; simp; exact eq_comm
    rw [this]
    have h2 := cnt_del (p := fun i => i == 0) (n := W * H) (m := 0) h0 (by simp)
    rw [← h2]
    have : cnt (fun i => (i == 0) && !(i == 0)) (W * H) = 0 := cnt_zero fun i _ => by simp
    omega
end
end Go.Proofs.Ytnkkdoookhhhaaa
