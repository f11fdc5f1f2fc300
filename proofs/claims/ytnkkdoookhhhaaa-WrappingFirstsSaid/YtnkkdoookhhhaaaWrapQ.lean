/- Plain: tori; what they show; forests with compressed paths; the flood of the document. Nothing of the program. -/
import Derived.Test.YtnkkdoookhhhaaaWrapP
namespace Go.Proofs.Ytnkkdoookhhhaaa
open Go.RowKit
set_option linter.unusedVariables false

theorem Forest.chain {n M : Nat} {up rep ρ : Nat → Nat} (h : Forest n up rep ρ M) : ∀ k i, i < n → M - ρ i = k → up i ≠ i → ρ i < ρ (rep i) := by
  intro k
  induction k using Nat.strongRecOn with
  | ind k ih =>
    intro i hi hk hne
    have h1 := (h.rank i hi).2 hne
    have h2 := (h.rank i hi).1
    have hu := h.up_lt i hi
    have h3 := (h.rank _ hu).1
    by_cases e : up (up i) = up i
    · have := h.root _ hu e
      rw [h.rep_up i hi] at this
      rw [this]; exact h1
    · have := ih (M - ρ (up i)) (by omega) (up i) hu rfl e
      rw [h.rep_up i hi] at this
      omega
theorem Forest.compress {n M : Nat} {up rep ρ : Nat → Nat} (h : Forest n up rep ρ M) {a : Nat} (ha : a < n) (hne : up a ≠ a) : Forest n (upd up a (rep a)) rep ρ M := by
  have hr := h.rank
  have hra : rep a ≠ a := fun e => hne (by have := h.rep_root a ha; rwa [e] at this)
  refine ⟨fun i hi => ?_, h.rep_lt, fun i hi => ?_, fun i hi hu => ?_, fun i hi => ?_, fun i hi => ⟨(hr i hi).1, fun hu => ?_⟩⟩
  · by_cases e : i = a
    · subst e; rw [upd_same]; exact h.rep_lt i hi
    · rw [upd_other _ _ e]; exact h.up_lt i hi
  · by_cases e : i = a
    · subst e; rw [upd_same]; exact h.rep_rep hi
    · rw [upd_other _ _ e]; exact h.rep_up i hi
  · by_cases e : i = a
    · subst e; rwa [upd_same] at hu
    · rw [upd_other _ _ e] at hu; exact h.root i hi hu
  · by_cases e : rep i = a
    · exfalso
      have := h.rep_root i hi
      rw [e] at this; exact hne this
    · rw [upd_other _ _ e]; exact h.rep_root i hi
  · by_cases e : i = a
    · subst e
      rw [upd_same]
      exact h.chain _ i hi rfl hne
    · rw [upd_other _ _ e] at hu ⊢; exact (hr i hi).2 hu

/-- The ends of an edge of a torus, and its displacements. -/
def tS (e : Nat) : Nat := e / 2
def tT (W H e : Nat) : Nat := if e % 2 = 0 then e / 2 / W * W + (e / 2 % W + 1) % W else (e / 2 / W + 1) % H * W + e / 2 % W
def tX (e : Nat) : Int := if e % 2 = 0 then 1 else 0
def tY (e : Nat) : Int := if e % 2 = 0 then 0 else 1
theorem mul_add_lt {a b W H : Nat} (ha : a < H) (hb : b < W) : a * W + b < W * H := by
  have : (a + 1) * W ≤ H * W := Nat.mul_le_mul_right W (by omega)
  rw [Nat.mul_comm W H]
  rw [Nat.add_mul, Nat.one_mul] at this
  omega
theorem tE_in {W H e : Nat} (h : e < 2 * (W * H)) : tS e < W * H ∧ tT W H e < W * H := by
  have h2 : e / 2 < W * H := by omega
  have hW : 0 < W := by
    rcases Nat.eq_zero_or_pos W with h0 | h0
    · subst h0; simp at h2
    · exact h0
  have hy : e / 2 / W < H := Nat.div_lt_of_lt_mul h2
  refine ⟨h2, ?_⟩
  unfold tT
  split
  · exact mul_add_lt hy (Nat.mod_lt _ hW)
  · exact mul_add_lt (Nat.mod_lt _ (Nat.lt_of_le_of_lt (Nat.zero_le _) hy)) (Nat.mod_lt _ hW)
theorem tX_bd (e : Nat) : -1 ≤ tX e ∧ tX e ≤ 1 := by unfold tX; split <;> omega
theorem tY_bd (e : Nat) : -1 ≤ tY e ∧ tY e ≤ 1 := by unfold tY; split <;> omega

/-- Labels of a torus with the edges E. -/
def tL (W H : Nat) (E : List Nat) : Nat → Nat := labE (W * H) tS (tT W H) E
/-- The component of v wraps in the direction of f. -/
noncomputable def wndB (W H : Nat) (f : Nat → Int) (E : List Nat) (v : Nat) : Bool := @decide (¬ Flat tS (tT W H) f E (tL W H E) v) (Classical.propDecidable _)
/-- Some component wraps. -/
noncomputable def anyB (W H : Nat) (f : Nat → Int) (E : List Nat) : Bool := @decide (∃ i, i < W * H ∧ ¬ Flat tS (tT W H) f E (tL W H E) i) (Classical.propDecidable _)
/-- The displacement from a to b. -/
noncomputable def offI (W H : Nat) (f : Nat → Int) (E : List Nat) (a b : Nat) : Int := @Classical.epsilon Int ⟨0⟩ fun d => Pt tS (tT W H) f E (tL W H E) a b d
theorem wndB_iff {W H : Nat} {f : Nat → Int} {E : List Nat} {v : Nat} : wndB W H f E v = true ↔ ¬ Flat tS (tT W H) f E (tL W H E) v := by unfold wndB; simp
theorem wndB_false {W H : Nat} {f : Nat → Int} {E : List Nat} {v : Nat} : wndB W H f E v = false ↔ Flat tS (tT W H) f E (tL W H E) v := by
  rw [← Bool.not_eq_true, wndB_iff, Classical.not_not]
theorem anyB_iff {W H : Nat} {f : Nat → Int} {E : List Nat} : anyB W H f E = true ↔ ∃ i, i < W * H ∧ ¬ Flat tS (tT W H) f E (tL W H E) i := by unfold anyB; simp
theorem anyB_wnd {W H : Nat} {f : Nat → Int} {E : List Nat} : anyB W H f E = true ↔ ∃ i, i < W * H ∧ wndB W H f E i = true := by
  rw [anyB_iff]
  constructor
  · rintro ⟨i, hi, h⟩; exact ⟨i, hi, wndB_iff.2 h⟩
  · rintro ⟨i, hi, h⟩; exact ⟨i, hi, wndB_iff.1 h⟩
theorem offI_eq {W H : Nat} {f : Nat → Int} {E : List Nat} {r a b : Nat} {da db : Int} (hf : Flat tS (tT W H) f E (tL W H E) a) (hr : tL W H E r = tL W H E a)
    (ha : Pt tS (tT W H) f E (tL W H E) r a da) (hb : Pt tS (tT W H) f E (tL W H E) r b db) : offI W H f E a b = db - da := by
  obtain ⟨φ, hφ⟩ := hf
  have h1 : Pt tS (tT W H) f E (tL W H E) a b (db - da) := fun ψ hψ => by
    have h3 := (good_congr hr).2 hψ
    have := ha ψ h3
    have := hb ψ h3
    omega
  have h2 : Pt tS (tT W H) f E (tL W H E) a b (offI W H f E a b) := Classical.epsilon_spec (p := fun d => Pt tS (tT W H) f E (tL W H E) a b d) ⟨_, h1⟩
  have := h1 φ hφ
  have := h2 φ hφ
  omega
def okO (W H : Nat) (E : List Nat) (wx wy : Bool) (a b : Int) : Bool := inB (W * H) a && inB (W * H) b && (tL W H E a.toNat == tL W H E b.toNat) && !wx && !wy
/-- Whether Offset knows the displacement from a to b. -/
noncomputable def offOk (W H : Nat) (E : List Nat) (a b : Int) : Bool := sameB (W * H) (tL W H E) a b && !wndB W H tX E a.toNat && !wndB W H tY E a.toNat
noncomputable def offX (W H : Nat) (E : List Nat) (a b : Int) : Int := if offOk W H E a b then offI W H tX E a.toNat b.toNat else 0
noncomputable def offY (W H : Nat) (E : List Nat) (a b : Int) : Int := if offOk W H E a b then offI W H tY E a.toNat b.toNat else 0

/-- The flood of the document: which components have been found ahead of v; the displacements from their least vertices. -/
structure Fld (W H : Nat) (E : List Nat) (v : Nat) (fi dx dy : Nat → Int) : Prop where
  lo : ∀ i, i < W * H → fi i = -1 ∨ fi i = (tL W H E i : Int)
  le : ∀ i, i < W * H → 0 ≤ fi i → fi i ≤ v
  dn : ∀ i, i < W * H → tL W H E i < v → fi i = (tL W H E i : Int)
  px : ∀ i, i < W * H → 0 ≤ fi i → Pt tS (tT W H) tX E (tL W H E) (tL W H E i) i (dx i)
  py : ∀ i, i < W * H → 0 ≤ fi i → Pt tS (tT W H) tY E (tL W H E) (tL W H E i) i (dy i)
  bd : ∀ i, i < W * H → 0 ≤ fi i → -(cnt (fun j => decide (0 ≤ fi j)) (W * H) : Int) < dx i ∧ dx i < cnt (fun j => decide (0 ≤ fi j)) (W * H) ∧ -(cnt (fun j => decide (0 ≤ fi j)) (W * H) : Int) < dy i ∧ dy i < cnt (fun j => decide (0 ≤ fi j)) (W * H)
def updz (f : Nat → Int) (i : Nat) (v : Int) : Nat → Int := fun j => if j = i then v else f j
theorem updz_same (f : Nat → Int) (i : Nat) (v : Int) : updz f i v i = v := if_pos rfl
theorem updz_other (f : Nat → Int) {i j : Nat} (v : Int) (h : j ≠ i) : updz f i v j = f j := if_neg h
section
variable {W H : Nat} {E : List Nat} {v : Nat} {fi dx dy : Nat → Int}
theorem tL_lab (W H : Nat) (E : List Nat) : Lab (W * H) (tL W H E) := labE_lab E
theorem cnt_upd {fi : Nat → Int} {n b : Nat} {v : Nat} (hb : b < n) (h : fi b < 0) : cnt (fun j => decide (0 ≤ updz fi b (v : Int) j)) n = cnt (fun j => decide (0 ≤ fi j)) n + 1 := by
  have := cnt_del (p := fun j => decide (0 ≤ updz fi b (v : Int) j)) (m := b) hb (by simp [updz_same])
  rw [← this]
  congr 1
  refine cnt_congr fun i hi => ?_
  by_cases e : i = b
  · subst e; simp [updz_same]; omega
  · simp [updz_other _ _ e, e]
/-- A vertex joins the component of v, displaced by d from one that it has. -/
theorem Fld.put (h : Fld W H E v fi dx dy) {a b : Nat} {x y : Int} (ha : a < W * H) (hb : b < W * H) (hfa : fi a = v) (hfb : fi b < 0) (hl : tL W H E a = tL W H E b) (hx : -1 ≤ x ∧ x ≤ 1) (hy : -1 ≤ y ∧ y ≤ 1)
    (ex : ∀ φ, Good tS (tT W H) tX E (tL W H E) a φ → φ b = φ a + x) (ey : ∀ φ, Good tS (tT W H) tY E (tL W H E) a φ → φ b = φ a + y) :
    Fld W H E v (updz fi b v) (updz dx b (dx a + x)) (updz dy b (dy a + y)) := by
  have hLa : (v : Int) = tL W H E a := by rcases h.lo a ha with e | e <;> omega
  have hc := cnt_upd (v := v) hb hfb
  have hab : a ≠ b := by rintro rfl; omega
  refine ⟨fun i hi => ?_, fun i hi h0 => ?_, fun i hi hlt => ?_, fun i hi h0 => ?_, fun i hi h0 => ?_, fun i hi h0 => ?_⟩
  · by_cases e : i = b
    · subst e; rw [updz_same]; right; omega
    · rw [updz_other _ _ e]; exact h.lo i hi
  · by_cases e : i = b
    · subst e; rw [updz_same]; exact Int.le_refl _
    · rw [updz_other _ _ e] at h0 ⊢; exact h.le i hi h0
  · by_cases e : i = b
    · subst e; rw [updz_same]; omega
    · rw [updz_other _ _ e]; exact h.dn i hi hlt
  · by_cases e : i = b
    · subst e
      rw [updz_same]
      intro φ hφ
      rw [← hl] at hφ ⊢
      have := h.px a ha (by omega) φ hφ
      have := ex φ ((good_congr ((tL_lab W H E).idem a ha)).1 hφ)
      omega
    · rw [updz_other _ _ e] at h0 ⊢; exact h.px i hi h0
  · by_cases e : i = b
    · subst e
      rw [updz_same]
      intro φ hφ
      rw [← hl] at hφ ⊢
      have := h.py a ha (by omega) φ hφ
      have := ey φ ((good_congr ((tL_lab W H E).idem a ha)).1 hφ)
      omega
    · rw [updz_other _ _ e] at h0 ⊢; exact h.py i hi h0
  · rw [hc]
    by_cases e : i = b
    · subst e
      have := h.bd a ha (by omega)
      rw [updz_same, updz_same]; omega
    · rw [updz_other _ _ e] at h0
      have := h.bd i hi h0
      rw [updz_other _ _ e, updz_other _ _ e]; omega
/-- v begins a component. -/
theorem Fld.root (h : Fld W H E v fi dx dy) (hn : ∀ i, i < W * H → 0 ≤ fi i → fi i < v) (hv : v < W * H) (hf : fi v < 0) (h0x : dx v = 0) (h0y : dy v = 0) : Fld W H E v (updz fi v v) dx dy := by
  have hLv : tL W H E v = v := by
    have h1 := (tL_lab W H E).le v hv
    by_cases e : tL W H E v = v
    · exact e
    · have := h.dn v hv (by omega); omega
  have hc := cnt_upd (v := v) hv hf
  refine ⟨fun i hi => ?_, fun i hi h0 => ?_, fun i hi hlt => ?_, fun i hi h0 => ?_, fun i hi h0 => ?_, fun i hi h0 => ?_⟩
  · by_cases e : i = v
    · subst e; rw [updz_same]; right; omega
    · rw [updz_other _ _ e]; exact h.lo i hi
  · by_cases e : i = v
    · subst e; rw [updz_same]; exact Int.le_refl _
    · rw [updz_other _ _ e] at h0 ⊢; exact h.le i hi h0
  · by_cases e : i = v
    · subst e; omega
    · rw [updz_other _ _ e]; exact h.dn i hi hlt
  · by_cases e : i = v
    · subst e; rw [hLv, h0x]; intro φ _; omega
    · rw [updz_other _ _ e] at h0; exact h.px i hi h0
  · by_cases e : i = v
    · subst e; rw [hLv, h0y]; intro φ _; omega
    · rw [updz_other _ _ e] at h0; exact h.py i hi h0
  · rw [hc]
    by_cases e : i = v
    · subst e; rw [h0x, h0y]; omega
    · rw [updz_other _ _ e] at h0
      have := h.bd i hi h0; omega
/-- The component of v is found, when no edge leads out of it. -/
theorem Fld.next (h : Fld W H E v fi dx dy) (hin : InE (W * H) tS (tT W H) E) (hv : v < W * H) (hf : fi v = v) (hc : ∀ e ∈ E, fi (tS e) = v ↔ fi (tT W H e) = v) :
    Fld W H E (v + 1) fi dx dy ∧ ∀ i, i < W * H → 0 ≤ fi i → fi i < (v + 1 : Nat) := by
  have hLv : (v : Int) = tL W H E v := by rcases h.lo v hv with e | e <;> omega
  refine ⟨⟨h.lo, fun i hi h0 => by have := h.le i hi h0; omega, fun i hi hlt => ?_, h.px, h.py, h.bd⟩, fun i hi h0 => by have := h.le i hi h0; omega⟩
  by_cases e : tL W H E i < v
  · exact h.dn i hi e
  · have e2 : tL W H E i = tL W H E v := by omega
    have := labE_ind (n := W * H) (s := tS) (t := tT W H) (E := E) (fun k => (fi k = v : Prop)) (fun e he => propext (hc e he)) hi hv e2
    have h3 : fi i = v := by
      have h4 : (fi i = v) = (fi v = v) := this
      rw [h4]; exact hf
    omega
theorem Fld.skip (h : Fld W H E v fi dx dy) (hn : ∀ i, i < W * H → 0 ≤ fi i → fi i < v) (hv : v < W * H) (hf : 0 ≤ fi v) :
    Fld W H E (v + 1) fi dx dy ∧ ∀ i, i < W * H → 0 ≤ fi i → fi i < (v + 1 : Nat) := by
  have h1 := hn v hv hf
  have h2 : fi v = (tL W H E v : Int) := by rcases h.lo v hv with e | e <;> omega
  refine ⟨⟨h.lo, fun i hi h0 => by have := h.le i hi h0; omega, fun i hi hlt => ?_, h.px, h.py, h.bd⟩, fun i hi h0 => by have := h.le i hi h0; omega⟩
  by_cases e : tL W H E i < v
  · exact h.dn i hi e
  · exfalso
    have e2 : tL W H E i = v := by omega
    have := (tL_lab W H E).idem i hi
    rw [e2] at this
    omega
theorem Fld.new (W H : Nat) (E : List Nat) : Fld W H E 0 (fun _ => -1) (fun _ => 0) (fun _ => 0) :=
  ⟨fun _ _ => .inl rfl, fun _ _ h => by simp at h, fun _ _ h => by simp at h, fun _ _ h => by simp at h, fun _ _ h => by simp at h, fun _ _ h => by simp at h⟩
/-- All is found. -/
structure Wlk (W H : Nat) (E : List Nat) (dx dy : Nat → Int) : Prop where
  px : ∀ i, i < W * H → Pt tS (tT W H) tX E (tL W H E) (tL W H E i) i (dx i)
  py : ∀ i, i < W * H → Pt tS (tT W H) tY E (tL W H E) (tL W H E i) i (dy i)
  bd : ∀ i, i < W * H → -(W * H : Nat) ≤ dx i ∧ dx i ≤ (W * H : Nat) ∧ -(W * H : Nat) ≤ dy i ∧ dy i ≤ (W * H : Nat)
theorem Fld.done (h : Fld W H E (W * H) fi dx dy) : (∀ i, i < W * H → fi i = (tL W H E i : Int)) ∧ Wlk W H E dx dy := by
  have h1 : ∀ i, i < W * H → fi i = (tL W H E i : Int) := fun i hi => h.dn i hi ((tL_lab W H E).lt hi)
  have hc : cnt (fun j => decide (0 ≤ fi j)) (W * H) ≤ W * H := cnt_le _ _
  exact ⟨h1, ⟨fun i hi => h.px i hi (by rw [h1 i hi]; omega), fun i hi => h.py i hi (by rw [h1 i hi]; omega), fun i hi => by have := h.bd i hi (by rw [h1 i hi]; omega); omega⟩⟩
end
/-- A potential that the edges of a component keep. -/
theorem flat_of {W H : Nat} {f : Nat → Int} {E : List Nat} {d : Nat → Int} {v : Nat} (h : ∀ e ∈ E, tL W H E (tS e) = tL W H E v → d (tT W H e) = d (tS e) + f e) : Flat tS (tT W H) f E (tL W H E) v := ⟨d, h⟩
/-- A component that does not wrap: every edge of it fits the displacements from its least vertex. -/
theorem flat_fits {W H : Nat} {f : Nat → Int} {E : List Nat} {d : Nat → Int} {v : Nat} (hin : InE (W * H) tS (tT W H) E) (hp : ∀ i, i < W * H → Pt tS (tT W H) f E (tL W H E) (tL W H E i) i (d i)) (hv : v < W * H)
    (hf : Flat tS (tT W H) f E (tL W H E) v) : ∀ e ∈ E, tL W H E (tS e) = tL W H E v → d (tT W H e) = d (tS e) + f e := by
  obtain ⟨φ, hφ⟩ := hf
  intro e he hl
  have hi := hin e he
  have h1 := labE_edge hin he
  have hg : Good tS (tT W H) f E (tL W H E) (tL W H E v) φ := (good_congr ((tL_lab W H E).idem v hv)).2 hφ
  have ha := hp _ hi.1
  have hb := hp _ hi.2
  have e1 : tL W H E (tT W H e) = tL W H E v := by rw [← hl]; exact h1.symm
  rw [hl] at ha
  rw [e1] at hb
  have := ha φ hg
  have := hb φ hg
  have := hφ e he hl
  omega
theorem wnd_def {W H : Nat} {f : Nat → Int} {E : List Nat} {d : Nat → Int} {v : Nat} (hin : InE (W * H) tS (tT W H) E) (hp : ∀ i, i < W * H → Pt tS (tT W H) f E (tL W H E) (tL W H E i) i (d i)) (hv : v < W * H) :
    wndB W H f E v = true ↔ ∃ e ∈ E, tL W H E (tS e) = tL W H E v ∧ d (tS e) + f e ≠ d (tT W H e) := by
  rw [wndB_iff]
  constructor
  · intro h
    apply Classical.byContradiction
    intro hn
    refine h (flat_of (d := d) fun e he hl => ?_)
    apply Classical.byContradiction
    intro h2
    exact hn ⟨e, he, hl, fun h3 => h2 h3.symm⟩
  · rintro ⟨e, he, hl, h2⟩ hf
    exact h2 (flat_fits hin hp hv hf e he hl).symm
theorem any_def {W H : Nat} {f : Nat → Int} {E : List Nat} {d : Nat → Int} (hin : InE (W * H) tS (tT W H) E) (hp : ∀ i, i < W * H → Pt tS (tT W H) f E (tL W H E) (tL W H E i) i (d i)) :
    anyB W H f E = true ↔ ∃ e ∈ E, d (tS e) + f e ≠ d (tT W H e) := by
  rw [anyB_wnd]
  constructor
  · rintro ⟨i, hi, h⟩
    obtain ⟨e, he, _, h2⟩ := (wnd_def hin hp hi).1 h
    exact ⟨e, he, h2⟩
  · rintro ⟨e, he, h2⟩
    exact ⟨tS e, (hin e he).1, (wnd_def hin hp (hin e he).1).2 ⟨e, he, rfl, h2⟩⟩
end Go.Proofs.Ytnkkdoookhhhaaa
