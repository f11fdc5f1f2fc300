/- Plain: the same graph by other numbers; the same edges in another order; one edge more; the first edge that wraps. Nothing of the program. -/
import Derived.Test.YtnkkdoookhhhaaaWrapO
namespace Go.Proofs.Ytnkkdoookhhhaaa
open Go.RowKit
set_option linter.unusedVariables false

/-! ### The same edges -/
theorem labE_coarse {n : Nat} {s t : Nat → Nat} {E F : List Nat} (hF : InE n s t F) (h : ∀ e, e ∈ E → e ∈ F) {i j : Nat} (hi : i < n) (hj : j < n) (hl : labE n s t E i = labE n s t E j) : labE n s t F i = labE n s t F j :=
  labE_ind (labE n s t F) (fun e he => labE_edge hF (h e he)) hi hj hl
theorem labE_mem {n : Nat} {s t : Nat → Nat} {E F : List Nat} (hE : InE n s t E) (hF : InE n s t F) (h : ∀ e, e ∈ E ↔ e ∈ F) : ∀ i, i < n → labE n s t E i = labE n s t F i :=
  lab_unique (labE_lab E) (labE_lab F) fun i j hi hj => ⟨labE_coarse hF (fun e => (h e).1) hi hj, labE_coarse hE (fun e => (h e).2) hi hj⟩
theorem good_mem {n : Nat} {s t : Nat → Nat} {f : Nat → Int} {E F : List Nat} (hE : InE n s t E) (hF : InE n s t F) (h : ∀ e, e ∈ E ↔ e ∈ F) {v : Nat} (hv : v < n) {φ : Nat → Int} :
    Good s t f E (labE n s t E) v φ ↔ Good s t f F (labE n s t F) v φ := by
  have hl := labE_mem hE hF h
  constructor
  · intro hg e he hs
    have he' := (h e).2 he
    exact hg e he' (by rw [hl _ (hE e he').1, hl _ hv]; exact hs)
  · intro hg e he hs
    have he' := (h e).1 he
    exact hg e he' (by rw [← hl _ (hE e he).1, ← hl _ hv]; exact hs)
theorem sets_congr {n : Nat} {L L' : Nat → Nat} (h : ∀ i, i < n → L i = L' i) : sets n L = sets n L' := cnt_congr fun i hi => by rw [h i hi]
theorem sameB_congr {n : Nat} {L L' : Nat → Nat} (h : ∀ i, i < n → L i = L' i) (a b : Int) : sameB n L a b = sameB n L' a b := by
  unfold sameB
  cases ha : inB n a
  · rfl
  · cases hb : inB n b
    · rfl
    · rw [h _ (inB_lt ha), h _ (inB_lt hb)]
section
variable {W H : Nat} {E F : List Nat}
theorem mem_tL (hE : InE (W * H) tS (tT W H) E) (hF : InE (W * H) tS (tT W H) F) (h : ∀ e, e ∈ E ↔ e ∈ F) : ∀ i, i < W * H → tL W H E i = tL W H F i := labE_mem hE hF h
theorem mem_wnd (hE : InE (W * H) tS (tT W H) E) (hF : InE (W * H) tS (tT W H) F) (h : ∀ e, e ∈ E ↔ e ∈ F) {f : Nat → Int} {v : Nat} (hv : v < W * H) : wndB W H f E v = wndB W H f F v := by
  rw [Bool.eq_iff_iff, wndB_iff, wndB_iff]
  unfold Flat
  exact not_congr ⟨fun ⟨φ, hφ⟩ => ⟨φ, (good_mem hE hF h hv).1 hφ⟩, fun ⟨φ, hφ⟩ => ⟨φ, (good_mem hE hF h hv).2 hφ⟩⟩
theorem mem_any (hE : InE (W * H) tS (tT W H) E) (hF : InE (W * H) tS (tT W H) F) (h : ∀ e, e ∈ E ↔ e ∈ F) {f : Nat → Int} : anyB W H f E = anyB W H f F := by
  rw [Bool.eq_iff_iff, anyB_wnd, anyB_wnd]
  constructor
  · rintro ⟨i, hi, hw⟩; exact ⟨i, hi, by rwa [← mem_wnd hE hF h hi]⟩
  · rintro ⟨i, hi, hw⟩; exact ⟨i, hi, by rwa [mem_wnd hE hF h hi]⟩
theorem mem_off (hE : InE (W * H) tS (tT W H) E) (hF : InE (W * H) tS (tT W H) F) (h : ∀ e, e ∈ E ↔ e ∈ F) {f : Nat → Int} {a b : Nat} (ha : a < W * H) : offI W H f E a b = offI W H f F a b := by
  unfold offI
  have : (fun d => Pt tS (tT W H) f E (tL W H E) a b d) = fun d => Pt tS (tT W H) f F (tL W H F) a b d := by
    funext d
    apply propext
    unfold Pt
    exact ⟨fun hp φ hφ => hp φ ((good_mem hE hF h ha).2 hφ), fun hp φ hφ => hp φ ((good_mem hE hF h ha).1 hφ)⟩
  rw [this]
theorem mem_offOk (hE : InE (W * H) tS (tT W H) E) (hF : InE (W * H) tS (tT W H) F) (h : ∀ e, e ∈ E ↔ e ∈ F) (a b : Int) : offOk W H E a b = offOk W H F a b := by
  unfold offOk
  rw [sameB_congr (mem_tL hE hF h)]
  cases hs : sameB (W * H) (tL W H F) a b
  · rfl
  · have ha : a.toNat < W * H := inB_lt (by unfold sameB at hs; simp at hs; exact hs.1.1)
    rw [mem_wnd hE hF h ha, mem_wnd hE hF h ha]
theorem offOk_lt {a b : Int} (h : offOk W H E a b = true) : a.toNat < W * H ∧ b.toNat < W * H := by
  unfold offOk sameB at h
  simp only [Bool.and_eq_true] at h
  exact ⟨inB_lt h.1.1.1.1, inB_lt h.1.1.1.2⟩
theorem mem_offX (hE : InE (W * H) tS (tT W H) E) (hF : InE (W * H) tS (tT W H) F) (h : ∀ e, e ∈ E ↔ e ∈ F) (a b : Int) : offX W H E a b = offX W H F a b ∧ offY W H E a b = offY W H F a b := by
  unfold offX offY
  rw [mem_offOk hE hF h]
  cases hs : offOk W H F a b
  · exact ⟨rfl, rfl⟩
  · rw [mem_off hE hF h (offOk_lt hs).1, mem_off hE hF h (offOk_lt hs).1]; exact ⟨rfl, rfl⟩
/-- One edge more. -/
theorem tL_snoc {e : Nat} (he : e < 2 * (W * H)) : tL W H (E ++ [e]) = merge (tL W H E) (tL W H E (tS e)) (tL W H E (tT W H e)) := labE_snoc (tE_in he)
theorem add_join (hin : InE (W * H) tS (tT W H) E) {e : Nat} (he : e < 2 * (W * H)) (hne : tL W H E (tS e) ≠ tL W H E (tT W H e)) {f : Nat → Int} : anyB W H f (E ++ [e]) = anyB W H f E := by
  rw [Bool.eq_iff_iff, anyB_iff, anyB_iff]
  have hb := tE_in he
  have hout : ∀ i, i < W * H → ¬ (tL W H E i = tL W H E (tS e) ∨ tL W H E i = tL W H E (tT W H e)) → (Flat tS (tT W H) f (E ++ [e]) (tL W H (E ++ [e])) i ↔ Flat tS (tT W H) f E (tL W H E) i) := fun i hi hn => by
    obtain ⟨h1, h2⟩ := not_or.1 hn
    rw [tL_snoc he]; exact flat_out h1 h2
  have hin2 : ∀ i, i < W * H → (tL W H E i = tL W H E (tS e) ∨ tL W H E i = tL W H E (tT W H e)) → (Flat tS (tT W H) f (E ++ [e]) (tL W H (E ++ [e])) i ↔ Flat tS (tT W H) f E (tL W H E) (tS e) ∧ Flat tS (tT W H) f E (tL W H E) (tT W H e)) := fun i hi hn => by
    rw [tL_snoc he]; exact flat_join hin rfl hne hn
  constructor
  · rintro ⟨i, hi, h⟩
    by_cases hc : tL W H E i = tL W H E (tS e) ∨ tL W H E i = tL W H E (tT W H e)
    · rw [hin2 i hi hc] at h
      by_cases h1 : Flat tS (tT W H) f E (tL W H E) (tS e)
      · exact ⟨_, hb.2, fun h2 => h ⟨h1, h2⟩⟩
      · exact ⟨_, hb.1, h1⟩
    · rw [hout i hi hc] at h; exact ⟨i, hi, h⟩
  · rintro ⟨i, hi, h⟩
    refine ⟨i, hi, fun h2 => h ?_⟩
    by_cases hc : tL W H E i = tL W H E (tS e) ∨ tL W H E i = tL W H E (tT W H e)
    · obtain ⟨h3, h4⟩ := (hin2 i hi hc).1 h2
      rcases hc with hc | hc
      · exact (flat_congr hc).2 h3
      · exact (flat_congr hc).2 h4
    · exact (hout i hi hc).1 h2
theorem add_same (hin : InE (W * H) tS (tT W H) E) {e : Nat} (he : e < 2 * (W * H)) (hs : tL W H E (tS e) = tL W H E (tT W H e)) {f : Nat → Int} (hf : ∀ e, -1 ≤ f e ∧ f e ≤ 1) :
    tL W H (E ++ [e]) = tL W H E ∧ (anyB W H f E = true → anyB W H f (E ++ [e]) = true) ∧
      (wndB W H f E (tS e) = false → anyB W H f (E ++ [e]) = (anyB W H f E || decide (offI W H f E (tS e) (tT W H e) ≠ f e))) := by
  have hb := tE_in he
  have hL : tL W H (E ++ [e]) = tL W H E := by rw [tL_snoc he, hs, merge_self]
  obtain ⟨p, wd, ac, h⟩ := pots_exist hin hf
  have hl := tL_lab W H E
  have h2 := h.same hin hb (fun _ _ _ _ => Iff.rfl) (fun i hi => ⟨hl.lt hi, hl.idem i hi⟩) hs (q := decide (p (tS e) + f e - p (tT W H e) ≠ 0)) (by simp)
  have e1 : anyB W H f E = ac := by rw [Bool.eq_iff_iff, anyB_iff]; exact h.ac.symm
  have e2 : anyB W H f (E ++ [e]) = (ac || decide (p (tS e) + f e - p (tT W H e) ≠ 0)) := by rw [Bool.eq_iff_iff, anyB_iff]; exact h2.ac.symm
  refine ⟨hL, fun h3 => by rw [e2, ← e1, h3]; rfl, fun h3 => ?_⟩
  have e3 := h.offI (fun _ _ _ _ => Iff.rfl) (fun i hi => ⟨hl.lt hi, hl.idem i hi⟩) hb.1 hb.2 hs h3
  rw [e2, e1, e3]
  congr 1
  rw [decide_eq_decide]
  omega
end

/-! ### The same graph by other numbers -/
structure Iso (n : Nat) (s t s' t' : Nat → Nat) (σ τ τi : Nat → Nat) : Prop where
  lt : ∀ i, i < n → τ i < n
  lti : ∀ i, i < n → τi i < n
  inv : ∀ i, i < n → τi (τ i) = i
  inv' : ∀ i, i < n → τ (τi i) = i
  hs : ∀ e, s e < n → t e < n → s' (σ e) = τ (s e)
  ht : ∀ e, s e < n → t e < n → t' (σ e) = τ (t e)
section
variable {n : Nat} {s t s' t' : Nat → Nat} {σ τ τi : Nat → Nat} {E : List Nat}
theorem Iso.inE (h : Iso n s t s' t' σ τ τi) (hE : InE n s t E) : InE n s' t' (E.map σ) := fun e' he' => by
  obtain ⟨e, he, rfl⟩ := List.mem_map.1 he'
  obtain ⟨h1, h2⟩ := hE e he
  rw [h.hs e h1 h2, h.ht e h1 h2]
  exact ⟨h.lt _ h1, h.lt _ h2⟩
theorem Iso.lab (h : Iso n s t s' t' σ τ τi) (hE : InE n s t E) {i j : Nat} (hi : i < n) (hj : j < n) : labE n s' t' (E.map σ) (τ i) = labE n s' t' (E.map σ) (τ j) ↔ labE n s t E i = labE n s t E j := by
  constructor
  · intro hl
    have := labE_ind (fun k => labE n s t E (τi k)) (fun e' he' => by
      obtain ⟨e, he, rfl⟩ := List.mem_map.1 he'
      obtain ⟨h1, h2⟩ := hE e he
      show labE n s t E (τi (s' (σ e))) = labE n s t E (τi (t' (σ e)))
      rw [h.hs e h1 h2, h.ht e h1 h2, h.inv _ h1, h.inv _ h2]
      exact labE_edge hE he) (h.lt i hi) (h.lt j hj) hl
    simp only [h.inv i hi, h.inv j hj] at this
    exact this
  · intro hl
    exact labE_ind (fun k => labE n s' t' (E.map σ) (τ k)) (fun e he => by
      obtain ⟨h1, h2⟩ := hE e he
      show labE n s' t' (E.map σ) (τ (s e)) = labE n s' t' (E.map σ) (τ (t e))
      rw [← h.hs e h1 h2, ← h.ht e h1 h2]
      exact labE_edge (h.inE hE) (List.mem_map.2 ⟨e, he, rfl⟩)) hi hj hl
theorem Iso.sets_ (h : Iso n s t s' t' σ τ τi) (hE : InE n s t E) : sets n (labE n s' t' (E.map σ)) = sets n (labE n s t E) := by
  have key : ∀ k, k ≤ E.length → sets n (labE n s' t' ((E.take k).map σ)) = sets n (labE n s t (E.take k)) := by
    intro k
    induction k with
    | zero => intro _; rfl
    | succ k ih =>
      intro hk
      have ih := ih (by omega)
      rw [List.take_succ_eq_append_getElem (by omega)]
      have he := hE E[k] (List.getElem_mem (by omega))
      have hi := hE.take k
      generalize E.take k = F at *
      generalize E[k] = e at *
      rw [List.map_append, List.map_cons, List.map_nil, labE_snoc he]
      have he' : s' (σ e) < n ∧ t' (σ e) < n := by rw [h.hs e he.1 he.2, h.ht e he.1 he.2]; exact ⟨h.lt _ he.1, h.lt _ he.2⟩
      rw [labE_snoc he']
      have hiff := h.lab hi he.1 he.2
      rw [← h.hs e he.1 he.2, ← h.ht e he.1 he.2] at hiff
      by_cases hs : labE n s t F (s e) = labE n s t F (t e)
      · rw [hs, hiff.2 hs, merge_self, merge_self]; exact ih
      · have a := sets_merge (labE_lab (n := n) (s := s) (t := t) F) he.1 he.2 hs
        have b := sets_merge (labE_lab (n := n) (s := s') (t := t') (F.map σ)) he'.1 he'.2 (fun e2 => hs (hiff.1 e2))
        omega
  have := key E.length (Nat.le_refl _)
  rwa [List.take_length] at this
theorem Iso.good (h : Iso n s t s' t' σ τ τi) (hE : InE n s t E) {f f' : Nat → Int} (hf : ∀ e, f' (σ e) = f e) {v : Nat} (hv : v < n) {φ : Nat → Int} :
    Good s' t' f' (E.map σ) (labE n s' t' (E.map σ)) (τ v) φ ↔ Good s t f E (labE n s t E) v (fun k => φ (τ k)) := by
  constructor
  · intro hg e he hl
    obtain ⟨h1, h2⟩ := hE e he
    have := hg (σ e) (List.mem_map.2 ⟨e, he, rfl⟩) (by rw [h.hs e h1 h2]; exact (h.lab hE h1 hv).2 hl)
    rw [h.hs e h1 h2, h.ht e h1 h2, hf] at this
    exact this
  · intro hg e' he' hl
    obtain ⟨e, he, rfl⟩ := List.mem_map.1 he'
    obtain ⟨h1, h2⟩ := hE e he
    rw [h.hs e h1 h2] at hl
    have := hg e he ((h.lab hE h1 hv).1 hl)
    rw [h.hs e h1 h2, h.ht e h1 h2, hf]
    exact this
theorem Iso.flat (h : Iso n s t s' t' σ τ τi) (hE : InE n s t E) {f f' : Nat → Int} (hf : ∀ e, f' (σ e) = f e) {v : Nat} (hv : v < n) :
    Flat s' t' f' (E.map σ) (labE n s' t' (E.map σ)) (τ v) ↔ Flat s t f E (labE n s t E) v := by
  constructor
  · rintro ⟨φ, hφ⟩; exact ⟨_, (h.good hE hf hv).1 hφ⟩
  · rintro ⟨φ, hφ⟩
    refine ⟨fun k => φ (τi k), (h.good hE hf hv).2 fun e he hl => ?_⟩
    obtain ⟨h1, h2⟩ := hE e he
    show φ (τi (τ (t e))) = φ (τi (τ (s e))) + f e
    rw [h.inv _ h1, h.inv _ h2]
    exact hφ e he hl
end
/-- Columns and rows exchanged. -/
def tau (W H v : Nat) : Nat := v % W * H + v / W
def trn (W H e : Nat) : Nat := 2 * tau W H (e / 2) + 1 - e % 2
section
variable {W H : Nat} {E : List Nat}
theorem tau_lt {v : Nat} (h : v < W * H) : tau W H v < W * H := by
  have := mul_add_lt (W := H) (H := W) (Nat.mod_lt v (W_pos h)) (row_lt h)
  rw [Nat.mul_comm]; exact this
theorem tau_inv {v : Nat} (h : v < W * H) : tau H W (tau W H v) = v := by
  have hr := row_lt h
  unfold tau
  rw [mulmod hr, muldiv hr]
  have := Nat.div_add_mod v W
  rw [Nat.mul_comm] at this; omega
theorem trn_half (e : Nat) : trn W H e / 2 = tau W H (e / 2) ∧ trn W H e % 2 = 1 - e % 2 := by unfold trn; omega
theorem trn_iso (W H : Nat) : Iso (W * H) tS (tT W H) tS (tT H W) (trn W H) (tau W H) (tau H W) := by
  refine ⟨fun i => tau_lt, fun i hi => by rw [Nat.mul_comm] at hi ⊢; exact tau_lt hi, fun i => tau_inv, fun i hi => by rw [Nat.mul_comm] at hi; exact tau_inv hi, fun e _ _ => (trn_half e).1, fun e h1 _ => ?_⟩
  have hW := W_pos h1
  have hr := row_lt h1
  obtain ⟨e1, e2⟩ := trn_half (W := W) (H := H) e
  unfold tT
  rw [e1, e2]
  have et : tau W H (e / 2) / H = e / 2 % W ∧ tau W H (e / 2) % H = e / 2 / W := ⟨muldiv hr, mulmod hr⟩
  rw [et.1, et.2]
  by_cases hd : e % 2 = 0
  · rw [if_neg (by omega), if_pos hd]
    show _ = _ % W * H + _ / W
    rw [mulmod (Nat.mod_lt _ hW), muldiv (Nat.mod_lt _ hW)]
  · rw [if_pos (by omega), if_neg hd]
    show _ = _ % W * H + _ / W
    rw [mulmod (Nat.mod_lt _ hW), muldiv (Nat.mod_lt _ hW)]
theorem trn_x (e : Nat) : tY (trn W H e) = tX e := by unfold tX tY; rw [(trn_half e).2]; split <;> split <;> omega
theorem trn_y (e : Nat) : tX (trn W H e) = tY e := by unfold tX tY; rw [(trn_half e).2]; split <;> split <;> omega
theorem trn_in (hE : InE (W * H) tS (tT W H) E) : InE (H * W) tS (tT H W) (E.map (trn W H)) := by rw [Nat.mul_comm H W]; exact (trn_iso W H).inE hE
theorem trn_L : tL H W (E.map (trn W H)) = labE (W * H) tS (tT H W) (E.map (trn W H)) := by unfold tL; rw [Nat.mul_comm H W]
theorem trn_sets (hE : InE (W * H) tS (tT W H) E) : sets (H * W) (tL H W (E.map (trn W H))) = sets (W * H) (tL W H E) := by rw [trn_L, Nat.mul_comm H W]; exact (trn_iso W H).sets_ hE
theorem trn_wnd (hE : InE (W * H) tS (tT W H) E) {f f' : Nat → Int} (hf : ∀ e, f' (trn W H e) = f e) {v : Nat} (hv : v < W * H) : wndB H W f' (E.map (trn W H)) (tau W H v) = wndB W H f E v := by
  rw [Bool.eq_iff_iff, wndB_iff, wndB_iff, trn_L]
  exact not_congr ((trn_iso W H).flat hE hf hv)
theorem trn_any (hE : InE (W * H) tS (tT W H) E) {f f' : Nat → Int} (hf : ∀ e, f' (trn W H e) = f e) : anyB H W f' (E.map (trn W H)) = anyB W H f E := by
  rw [Bool.eq_iff_iff, anyB_wnd, anyB_wnd]
  constructor
  · rintro ⟨i, hi, h⟩
    refine ⟨tau H W i, by have := tau_lt hi; rwa [Nat.mul_comm], ?_⟩
    have h2 : tau H W i < W * H := by have := tau_lt hi; rwa [Nat.mul_comm] at this
    rw [← trn_wnd hE hf h2, tau_inv hi]; exact h
  · rintro ⟨i, hi, h⟩
    exact ⟨tau W H i, by have := tau_lt hi; rwa [Nat.mul_comm] at this, by rw [trn_wnd hE hf hi]; exact h⟩
theorem trn_off (hE : InE (W * H) tS (tT W H) E) {f f' : Nat → Int} (hf : ∀ e, f' (trn W H e) = f e) (hb : ∀ e, -1 ≤ f e ∧ f e ≤ 1) {a b : Nat} (ha : a < W * H) (hb2 : b < W * H) (hl : tL W H E a = tL W H E b) (hw : wndB W H f E a = false) :
    offI H W f' (E.map (trn W H)) (tau W H a) (tau W H b) = offI W H f E a b := by
  obtain ⟨p, wd, ac, h⟩ := pots_exist hE hb
  have e1 := h.offI (fun _ _ _ _ => Iff.rfl) (fun i hi => ⟨(tL_lab W H E).lt hi, (tL_lab W H E).idem i hi⟩) ha hb2 hl hw
  have hab : Pt tS (tT W H) f E (tL W H E) a b (offI W H f E a b) := fun φ hφ => by
    have h1 : Good tS (tT W H) f E (tL W H E) (tL W H E a) φ := (good_congr ((tL_lab W H E).idem a ha)).2 hφ
    have pa : φ a = φ (tL W H E a) + p a := h.pot a ha φ h1
    have pb : φ b = φ (tL W H E a) + p b := by
      have hb := h.pot b hb2
      have e2 : labE (W * H) tS (tT W H) E b = tL W H E a := hl.symm
      rw [e2] at hb
      exact hb φ h1
    omega
  have hf2 := trn_wnd hE hf ha
  rw [hw] at hf2
  have := offI_eq (W := H) (H := W) (r := tau W H a) (b := tau W H b) (da := 0) (db := offI W H f E a b) (wndB_false.1 hf2) rfl (fun φ _ => by omega) (fun φ hφ => by
    rw [trn_L] at hφ
    exact hab _ (((trn_iso W H).good hE hf ha).1 hφ))
  rw [this]; omega
theorem trn_same (hE : InE (W * H) tS (tT W H) E) {a b : Nat} (ha : a < W * H) (hb : b < W * H) : tL H W (E.map (trn W H)) (tau W H a) = tL H W (E.map (trn W H)) (tau W H b) ↔ tL W H E a = tL W H E b := by
  rw [trn_L]; exact (trn_iso W H).lab hE ha hb
theorem trn_offs (hE : InE (W * H) tS (tT W H) E) {a b : Nat} (ha : a < W * H) (hb : b < W * H) :
    offOk H W (E.map (trn W H)) (tau W H a : Nat) (tau W H b : Nat) = offOk W H E a b ∧ offX H W (E.map (trn W H)) (tau W H a : Nat) (tau W H b : Nat) = offY W H E a b ∧ offY H W (E.map (trn W H)) (tau W H a : Nat) (tau W H b : Nat) = offX W H E a b := by
  have ha' : tau W H a < H * W := by rw [Nat.mul_comm]; exact tau_lt ha
  have hb' : tau W H b < H * W := by rw [Nat.mul_comm]; exact tau_lt hb
  have hok : offOk H W (E.map (trn W H)) (tau W H a : Nat) (tau W H b : Nat) = offOk W H E a b := by
    rw [Bool.eq_iff_iff, offOk_iff ha' hb', offOk_iff ha hb, trn_same hE ha hb, trn_wnd hE trn_y ha, trn_wnd hE trn_x ha]
    constructor <;> (rintro ⟨h1, h2, h3⟩; exact ⟨h1, h3, h2⟩)
  unfold offX offY
  rw [hok]
  cases h : offOk W H E a b
  · exact ⟨rfl, rfl, rfl⟩
  · obtain ⟨h1, h2, h3⟩ := (offOk_iff ha hb).1 h
    refine ⟨rfl, ?_, ?_⟩
    · simp only [if_true, Int.toNat_natCast]
      exact trn_off hE trn_y tY_bd ha hb h1 h3
    · simp only [if_true, Int.toNat_natCast]
      exact trn_off hE trn_x tX_bd ha hb h1 h2
end

/-! ### The first that is -/
def lead (w : Nat → Bool) : Nat → Nat
  | 0 => 0
  | n + 1 => if lead w n < n then lead w n else if w n then n else n + 1
theorem lead_le (w : Nat → Bool) (n : Nat) : lead w n ≤ n := by
  induction n with
  | zero => exact Nat.le_refl _
  | succ n ih => 
    unfold lead
    split
    · omega
    · split <;> omega
theorem lead_none {w : Nat → Bool} {n : Nat} (h : ∀ k, k < n → w k = false) : lead w n = n := by
  induction n with
  | zero => rfl
  | succ n ih =>
    unfold lead
    rw [ih fun k hk => h k (by omega), if_neg (by omega), h n (by omega)]
    rfl
theorem lead_some {w : Nat → Bool} {n k : Nat} (h : ∀ j, j < k → w j = false) (hk : k < n) (hw : w k = true) : lead w n = k := by
  induction n with
  | zero => omega
  | succ n ih =>
    unfold lead
    by_cases e : k = n
    · subst e
      rw [lead_none h, if_neg (by omega), hw]; rfl
    · rw [ih (by omega), if_pos (by omega)]
theorem lead_spec (w : Nat → Bool) (n : Nat) : (∀ j, j < lead w n → w j = false) ∧ (lead w n < n → w (lead w n) = true) := by
  induction n with
  | zero => exact ⟨fun j hj => by simp [lead] at hj, fun h => by simp [lead] at h⟩
  | succ n ih =>
    unfold lead
    have hle := lead_le w n
    by_cases h1 : lead w n < n
    · rw [if_pos h1]; exact ⟨ih.1, fun _ => ih.2 h1⟩
    · rw [if_neg h1]
      have e : lead w n = n := by omega
      rw [e] at ih
      cases h2 : w n
      · simp only [Bool.false_eq_true, if_false]
        refine ⟨fun j hj => ?_, fun h => by omega⟩
        by_cases e : j = n
        · subst e; exact h2
        · exact ih.1 j (by omega)
      · simp only [if_true]
        exact ⟨ih.1, fun _ => h2⟩
/-- Some component wraps behind the first k + 1 edges. -/
noncomputable def wrp (W H : Nat) (l : List Nat) (k : Nat) : Bool := anyB W H tX (l.take (k + 1)) || anyB W H tY (l.take (k + 1))
noncomputable def fstK (W H : Nat) (l : List Nat) : Int := if lead (wrp W H l) l.length < l.length then (lead (wrp W H l) l.length : Int) + 1 else 0
noncomputable def fstB (W H : Nat) (l : List Nat) : Bool := decide (lead (wrp W H l) l.length < l.length)
end Go.Proofs.Ytnkkdoookhhhaaa
