/- Plain: what Offset tells of two and three vertices. Nothing of the program. -/
import Derived.Test.YtnkkdoookhhhaaaWrapT
namespace Go.Proofs.Ytnkkdoookhhhaaa
open Go.RowKit
set_option linter.unusedVariables false

section
variable {W H : Nat} {E : List Nat} {i j k : Nat}
theorem offI_bd (hin : InE (W * H) tS (tT W H) E) {f : Nat → Int} (hf : ∀ e, -1 ≤ f e ∧ f e ≤ 1) (hi : i < W * H) (hj : j < W * H) (hl : tL W H E i = tL W H E j) (hw : wndB W H f E i = false) :
    -((W * H : Nat) : Int) ≤ offI W H f E i j ∧ offI W H f E i j ≤ (W * H : Nat) := by
  obtain ⟨p, wd, ac, h⟩ := pots_exist hin hf
  have e1 := h.offI (fun _ _ _ _ => Iff.rfl) (fun i hi => ⟨(tL_lab W H E).lt hi, (tL_lab W H E).idem i hi⟩) hi hj hl hw
  have b1 := h.bd i j hi hj hl
  have b2 := h.bd j i hj hi hl.symm
  have c1 : cls (W * H) (labE (W * H) tS (tT W H) E) (labE (W * H) tS (tT W H) E i) ≤ W * H := cnt_le _ _
  have c2 : cls (W * H) (labE (W * H) tS (tT W H) E) (labE (W * H) tS (tT W H) E j) ≤ W * H := cnt_le _ _
  rw [e1]; omega
theorem off_self (hin : InE (W * H) tS (tT W H) E) (hi : i < W * H) : offX W H E (i : Int) (i : Int) = 0 ∧ offY W H E (i : Int) (i : Int) = 0 := by
  obtain ⟨p, hp⟩ := offs hin tX_bd
  obtain ⟨q, hq⟩ := offs hin tY_bd
  unfold offX offY
  by_cases h : offOk W H E (i : Int) (i : Int) = true
  · obtain ⟨h1, h2, h3⟩ := (offOk_iff hi hi).1 h
    rw [if_pos h, if_pos h]
    exact ⟨by rw [show ((i : Int)).toNat = i from rfl, hp i i hi hi rfl h2]; omega, by rw [show ((i : Int)).toNat = i from rfl, hq i i hi hi rfl h3]; omega⟩
  · rw [if_neg h, if_neg h]; exact ⟨rfl, rfl⟩
theorem off_none (hi : i < W * H) (h : offOk W H E (i : Int) (i : Int) = false) : (∀ j, j < W * H → offOk W H E (i : Int) (j : Int) = false) ∧ (anyB W H tX E = true ∨ anyB W H tY E = true) := by
  have hn : ¬ (wndB W H tX E i = false ∧ wndB W H tY E i = false) := fun ⟨h2, h3⟩ => by
    rw [(offOk_iff hi hi).2 ⟨rfl, h2, h3⟩] at h; cases h
  refine ⟨fun j hj => ?_, ?_⟩
  · rw [← Bool.not_eq_true]
    intro h2
    exact hn ((offOk_iff hi hj).1 h2).2
  · cases hx : wndB W H tX E i
    · cases hy : wndB W H tY E i
      · exact absurd ⟨hx, hy⟩ hn
      · exact .inr (wnd_any hi hy)
    · exact .inl (wnd_any hi hx)
theorem off_symm (hin : InE (W * H) tS (tT W H) E) (hi : i < W * H) (hj : j < W * H) : offOk W H E (j : Int) (i : Int) = offOk W H E (i : Int) (j : Int) ∧ offX W H E (j : Int) (i : Int) = -offX W H E (i : Int) (j : Int) ∧ offY W H E (j : Int) (i : Int) = -offY W H E (i : Int) (j : Int) := by
  obtain ⟨p, hp⟩ := offs hin tX_bd
  obtain ⟨q, hq⟩ := offs hin tY_bd
  have hok : offOk W H E (j : Int) (i : Int) = offOk W H E (i : Int) (j : Int) := by
    rw [Bool.eq_iff_iff, offOk_iff hj hi, offOk_iff hi hj]
    constructor
    · rintro ⟨h1, h2, h3⟩; exact ⟨h1.symm, by rw [wnd_congr h1.symm]; exact h2, by rw [wnd_congr h1.symm]; exact h3⟩
    · rintro ⟨h1, h2, h3⟩; exact ⟨h1.symm, by rw [wnd_congr h1.symm]; exact h2, by rw [wnd_congr h1.symm]; exact h3⟩
  refine ⟨hok, ?_, ?_⟩
  · unfold offX
    rw [hok]
    by_cases h : offOk W H E (i : Int) (j : Int) = true
    · obtain ⟨h1, h2, h3⟩ := (offOk_iff hi hj).1 h
      rw [if_pos h, if_pos h, show ((i : Int)).toNat = i from rfl, show ((j : Int)).toNat = j from rfl, hp i j hi hj h1 h2, hp j i hj hi h1.symm (by rw [wnd_congr h1.symm]; exact h2)]; omega
    · rw [if_neg h, if_neg h]; rfl
  · unfold offY
    rw [hok]
    by_cases h : offOk W H E (i : Int) (j : Int) = true
    · obtain ⟨h1, h2, h3⟩ := (offOk_iff hi hj).1 h
      rw [if_pos h, if_pos h, show ((i : Int)).toNat = i from rfl, show ((j : Int)).toNat = j from rfl, hq i j hi hj h1 h3, hq j i hj hi h1.symm (by rw [wnd_congr h1.symm]; exact h3)]; omega
    · rw [if_neg h, if_neg h]; rfl
theorem off_own (hi : i < W * H) (hj : j < W * H) (h : offOk W H E (i : Int) (j : Int) = true) : offOk W H E (i : Int) (i : Int) = true ∧ sameB (W * H) (tL W H E) (i : Int) (j : Int) = true := by
  obtain ⟨h1, h2, h3⟩ := (offOk_iff hi hj).1 h
  exact ⟨(offOk_iff hi hi).2 ⟨rfl, h2, h3⟩, by rw [same_nat hi hj]; simpa using h1⟩
theorem off_other (hi : i < W * H) (hj : j < W * H) (h : offOk W H E (i : Int) (i : Int) = true) (h2 : offOk W H E (i : Int) (j : Int) = false) : sameB (W * H) (tL W H E) (i : Int) (j : Int) = false := by
  rw [same_nat hi hj, beq_eq_false_iff_ne]
  intro e
  obtain ⟨_, h3, h4⟩ := (offOk_iff hi hi).1 h
  rw [(offOk_iff hi hj).2 ⟨e, h3, h4⟩] at h2; cases h2
theorem off_add (hin : InE (W * H) tS (tT W H) E) (hi : i < W * H) (hj : j < W * H) (hk : k < W * H) (h : offOk W H E (i : Int) (j : Int) = true) (h' : offOk W H E (j : Int) (k : Int) = true) :
    offOk W H E (i : Int) (k : Int) = true ∧ offX W H E (i : Int) (k : Int) = offX W H E (i : Int) (j : Int) + offX W H E (j : Int) (k : Int) ∧ offY W H E (i : Int) (k : Int) = offY W H E (i : Int) (j : Int) + offY W H E (j : Int) (k : Int) := by
  obtain ⟨p, hp⟩ := offs hin tX_bd
  obtain ⟨q, hq⟩ := offs hin tY_bd
  obtain ⟨h1, h2, h3⟩ := (offOk_iff hi hj).1 h
  obtain ⟨g1, g2, g3⟩ := (offOk_iff hj hk).1 h'
  have hik : offOk W H E (i : Int) (k : Int) = true := (offOk_iff hi hk).2 ⟨h1.trans g1, h2, h3⟩
  unfold offX offY
  rw [if_pos h, if_pos h, if_pos h', if_pos h', if_pos hik, if_pos hik]
  simp only [Int.toNat_natCast]
  rw [hp i k hi hk (h1.trans g1) h2, hp i j hi hj h1 h2, hp j k hj hk g1 g2, hq i k hi hk (h1.trans g1) h3, hq i j hi hj h1 h3, hq j k hj hk g1 g3]
  exact ⟨hik, by omega, by omega⟩
theorem off_bd (hin : InE (W * H) tS (tT W H) E) (hi : i < W * H) (hj : j < W * H) : -((W * H : Nat) : Int) ≤ offX W H E (i : Int) (j : Int) ∧ offX W H E (i : Int) (j : Int) ≤ (W * H : Nat) ∧ -((W * H : Nat) : Int) ≤ offY W H E (i : Int) (j : Int) ∧ offY W H E (i : Int) (j : Int) ≤ (W * H : Nat) := by
  unfold offX offY
  by_cases h : offOk W H E (i : Int) (j : Int) = true
  · obtain ⟨h1, h2, h3⟩ := (offOk_iff hi hj).1 h
    rw [if_pos h, if_pos h]
    simp only [Int.toNat_natCast]
    have a := offI_bd hin tX_bd hi hj h1 h2
    have b := offI_bd hin tY_bd hi hj h1 h3
    exact ⟨a.1, a.2, b.1, b.2⟩
  · rw [if_neg h, if_neg h]
    have : (0 : Int) ≤ (W * H : Nat) := Int.natCast_nonneg _
    omega
theorem off_place (hin : InE (W * H) tS (tT W H) E) (hi : i < W * H) (hj : j < W * H) (h : offOk W H E (i : Int) (j : Int) = true) :
    (((i % W : Nat) : Int) + offX W H E (i : Int) (j : Int) - (j % W : Nat)) % W = 0 ∧ (((i / W : Nat) : Int) + offY W H E (i : Int) (j : Int) - (j / W : Nat)) % H = 0 := by
  obtain ⟨h1, h2, h3⟩ := (offOk_iff hi hj).1 h
  have hW := W_pos hi
  have hH : 0 < H := Nat.lt_of_le_of_lt (Nat.zero_le _) (row_lt hi)
  unfold offX offY
  rw [if_pos h, if_pos h]
  simp only [Int.toNat_natCast]
  exact ⟨offI_mod hin tX_bd hW (col := fun v => v % W) (fun e _ => colW hW e) hi hj h1 h2, offI_mod hin tY_bd hH (col := fun v => v / W) (fun e he => rowH hW (hin e he).1) hi hj h1 h3⟩
end
end Go.Proofs.Ytnkkdoookhhhaaa
