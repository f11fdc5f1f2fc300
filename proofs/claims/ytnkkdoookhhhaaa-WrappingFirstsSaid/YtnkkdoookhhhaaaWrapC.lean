/- wrapping: a torus and what it stands for, plain part; the contracts of what only reads. -/
import Derived.Test.YtnkkdoookhhhaaaWrapB
namespace Go.Proofs.Ytnkkdoookhhhaaa
open Go.RowKit
set_option linter.unusedVariables false

/-- What the lists of a torus stand for. -/
structure TP (W H n : Nat) (E : List Nat) (up size rep ρ least : Nat → Nat) (M : Nat) (F : Nat → Int) (V : Nat → Bool) (ax dn : Bool) (pX pY : Nat → Int) : Prop where
  nn : n = W * H
  nb : n ≤ 4096
  st : Sts n (tL W H E) up least size rep ρ M (sets n (tL W H E))
  fm : FromOk n up pX pY F
  cx : Co (W * H) tS (tT W H) tX E rep pX (fun i => V (i * 2)) ax
  cy : Co (W * H) tS (tT W H) tY E rep pY (fun i => V (i * 2 + 1)) dn
  ie : InE (W * H) tS (tT W H) E
section
variable {W H n M : Nat} {E : List Nat} {up size rep ρ least : Nat → Nat} {F : Nat → Int} {V : Nat → Bool} {ax dn : Bool} {pX pY : Nat → Int}
theorem TP.root (h : TP W H n E up size rep ρ least M F V ax dn pX pY) : ∀ i, i < n → pX (rep i) = 0 ∧ pY (rep i) = 0 := fun i hi => by
  have hn := h.nn
  subst hn
  exact ⟨h.cx.root i hi, h.cy.root i hi⟩
theorem TP.bnd (h : TP W H n E up size rep ρ least M F V ax dn pX pY) : ∀ i j, i < n → j < n → rep i = rep j → pX i - pX j ≤ 4096 ∧ pY i - pY j ≤ 4096 := fun i j hi hj e => by
  have hn := h.nn
  have nb := h.nb
  subst hn
  have hl := (h.st.same i j hi hj).1 e
  have a := h.cx.bd i j hi hj hl
  have b := h.cy.bd i j hi hj hl
  have c : cls (W * H) (labE (W * H) tS (tT W H) E) (labE (W * H) tS (tT W H) E i) ≤ W * H := cnt_le _ _
  omega
theorem TP.find (h : TP W H n E up size rep ρ least M F V ax dn pX pY) {up' : Nat → Nat} {F' : Nat → Int} (hf : Forest n up' rep ρ M) (hF : FromOk n up' pX pY F') : TP W H n E up' size rep ρ least M F' V ax dn pX pY :=
  ⟨h.nn, h.nb, ⟨hf, h.st.le, h.st.same, h.st.sz, h.st.cn⟩, hF, h.cx, h.cy, h.ie⟩
theorem TP.rep2 (h : TP W H n E up size rep ρ least M F V ax dn pX pY) : ∀ i, i < n → rep i < n ∧ rep (rep i) = rep i := fun i hi => ⟨h.st.fo.rep_lt i hi, h.st.fo.rep_rep hi⟩
theorem updb_even (V : Nat → Bool) (r : Nat) (x y : Bool) : (fun i => updb (updb V (r * 2) x) (r * 2 + 1) y (i * 2)) = updb (fun i => V (i * 2)) r x := by
  funext i
  unfold updb
  rw [if_neg (by omega)]
  by_cases e : i = r
  · rw [if_pos (by omega), if_pos e]
  · rw [if_neg (by omega), if_neg e]
theorem updb_odd (V : Nat → Bool) (r : Nat) (x y : Bool) : (fun i => updb (updb V (r * 2) x) (r * 2 + 1) y (i * 2 + 1)) = updb (fun i => V (i * 2 + 1)) r y := by
  funext i
  unfold updb
  by_cases e : i = r
  · rw [if_pos (by omega), if_pos e]
  · rw [if_neg (by omega), if_neg (by omega), if_neg e]
/-- An edge within a component. -/
theorem TP.same (h : TP W H n E up size rep ρ least M F V ax dn pX pY) {e : Nat} (he : e < 2 * n) (hs : rep (tS e) = rep (tT W H e)) {q1 q2 : Bool} (h1 : q1 = true ↔ pX (tS e) + tX e - pX (tT W H e) ≠ 0) (h2 : q2 = true ↔ pY (tS e) + tY e - pY (tT W H e) ≠ 0) :
    TP W H n (E ++ [e]) up size rep ρ least M F (updb (updb V (rep (tS e) * 2) (V (rep (tS e) * 2) || q1)) (rep (tS e) * 2 + 1) (V (rep (tS e) * 2 + 1) || q2)) (ax || q1) (dn || q2) pX pY ∧ tL W H (E ++ [e]) = tL W H E := by
  have hn := h.nn
  subst hn
  have hb := tE_in he
  have hL : tL W H (E ++ [e]) = tL W H E := by rw [tL_snoc he, (h.st.same _ _ hb.1 hb.2).1 hs, merge_self]
  refine ⟨⟨rfl, h.nb, by rw [hL]; exact h.st, h.fm, ?_, ?_, h.ie.snoc hb⟩, hL⟩
  · rw [updb_even]; exact h.cx.same h.ie hb h.st.same h.rep2 hs h1
  · rw [updb_odd]; exact h.cy.same h.ie hb h.st.same h.rep2 hs h2
/-- An edge between two components: R stays a root, O was one. -/
theorem TP.join (h : TP W H n E up size rep ρ least M F V ax dn pX pY) {e : Nat} (he : e < 2 * n) (hs : rep (tS e) ≠ rep (tT W H e)) {R O : Nat} {rx ry : Int}
    (hc : (R = rep (tS e) ∧ O = rep (tT W H e) ∧ rx = pX (tS e) + tX e - pX (tT W H e) ∧ ry = pY (tS e) + tY e - pY (tT W H e)) ∨
      (R = rep (tT W H e) ∧ O = rep (tS e) ∧ rx = -(pX (tS e) + tX e - pX (tT W H e)) ∧ ry = -(pY (tS e) + tY e - pY (tT W H e)))) :
    ∃ (rep' ρ' least' : Nat → Nat) (pX' pY' : Nat → Int), TP W H n (E ++ [e]) (upd up O R) (upd size R (size R + size O)) rep' ρ' least' (M + 1) (updz (updz F (O * 2) rx) (O * 2 + 1) ry)
      (updb (updb V (R * 2) (V (R * 2) || V (O * 2))) (R * 2 + 1) (V (R * 2 + 1) || V (O * 2 + 1))) (ax || V (O * 2)) (dn || V (O * 2 + 1)) pX' pY' ∧ sets n (tL W H (E ++ [e])) + 1 = sets n (tL W H E) := by
  have hn := h.nn
  subst hn
  have hb := tE_in he
  have hl : tL W H E (tS e) ≠ tL W H E (tT W H e) := fun e2 => hs ((h.st.same _ _ hb.1 hb.2).2 e2)
  have hcx : (R = rep (tS e) ∧ O = rep (tT W H e) ∧ rx = pX (tS e) + tX e - pX (tT W H e)) ∨ (R = rep (tT W H e) ∧ O = rep (tS e) ∧ rx = -(pX (tS e) + tX e - pX (tT W H e))) := hc.imp (fun h => ⟨h.1, h.2.1, h.2.2.1⟩) fun h => ⟨h.1, h.2.1, h.2.2.1⟩
  have hcy : (R = rep (tS e) ∧ O = rep (tT W H e) ∧ ry = pY (tS e) + tY e - pY (tT W H e)) ∨ (R = rep (tT W H e) ∧ O = rep (tS e) ∧ ry = -(pY (tS e) + tY e - pY (tT W H e))) := hc.imp (fun h => ⟨h.1, h.2.1, h.2.2.2⟩) fun h => ⟨h.1, h.2.1, h.2.2.2⟩
  have kx := h.cx.join h.ie hb (tX_bd e) h.st.same h.rep2 hs hcx
  have ky := h.cy.join h.ie hb (tY_bd e) h.st.same h.rep2 hs hcy
  have hsm := sets_merge (tL_lab W H E) hb.1 hb.2 hl
  have hE : tL W H (E ++ [e]) = merge (tL W H E) (tL W H E (tS e)) (tL W H E (tT W H e)) := tL_snoc he
  have hRO : R ≠ O ∧ rep R = R ∧ rep O = O := by
    rcases hc with ⟨rfl, rfl, _⟩ | ⟨rfl, rfl, _⟩
    · exact ⟨hs, (h.rep2 _ hb.1).2, (h.rep2 _ hb.2).2⟩
    · exact ⟨hs.symm, (h.rep2 _ hb.2).2, (h.rep2 _ hb.1).2⟩
  have hst : ∃ least' ρ', Sts (W * H) (tL W H (E ++ [e])) (upd up O R) least' (upd size R (size R + size O)) (fun i => if rep i = O then R else rep i) ρ' (M + 1) (sets (W * H) (tL W H (E ++ [e]))) := by
    have e3 : sets (W * H) (tL W H (E ++ [e])) = sets (W * H) (tL W H E) - 1 := by rw [hE]; omega
    rw [e3, hE]
    rcases hc with ⟨rfl, rfl, _⟩ | ⟨rfl, rfl, _⟩
    · exact ⟨_, _, h.st.union (tL_lab W H E) hb.1 hb.2 hs⟩
    · rw [merge_comm]; exact ⟨_, _, h.st.union (tL_lab W H E) hb.2 hb.1 hs.symm⟩
  obtain ⟨least', ρ', hst⟩ := hst
  refine ⟨fun i => if rep i = O then R else rep i, ρ', least', fun i => if rep i = O then pX i + rx else pX i, fun i => if rep i = O then pY i + ry else pY i, ⟨rfl, h.nb, hst, ?_, ?_, ?_, h.ie.snoc hb⟩, by rw [hE]; exact hsm⟩
  · intro i hi
    have h0 : ∀ k, k < W * H → rep k = k → pX k = 0 ∧ pY k = 0 := fun k hk e2 => by have := h.root k hk; rwa [e2] at this
    have hOn : O < W * H := by rcases hc with ⟨_, rfl, _⟩ | ⟨_, rfl, _⟩ <;> first | exact (h.rep2 _ hb.2).1 | exact (h.rep2 _ hb.1).1
    have hRn : R < W * H := by rcases hc with ⟨rfl, _⟩ | ⟨rfl, _⟩ <;> first | exact (h.rep2 _ hb.1).1 | exact (h.rep2 _ hb.2).1
    by_cases e2 : i = O
    · subst e2
      have hR0 := h0 R hRn hRO.2.1
      have hO0 := h0 i hOn hRO.2.2
      simp only [upd_same, updz_same, hRO.2.2, if_true, hRO.2.1, if_neg hRO.1]
      rw [updz_other _ _ (by omega), updz_same]
      omega
    · have hf := h.fm i hi
      have hu := h.st.fo.rep_up i hi
      rw [upd_other _ _ e2, updz_other _ _ (by omega), updz_other _ _ (by omega), updz_other _ _ (by omega), updz_other _ _ (by omega)]
      dsimp only
      rw [hu]
      split <;> omega
  · rw [updb_even]; exact kx
  · rw [updb_odd]; exact ky
theorem TP.new (W H : Nat) (nb : W * H ≤ 4096) : TP W H (W * H) [] (fun i => i) (fun _ => 1) (fun i => i) (fun _ => 0) (fun i => i) 0 (fun _ => 0) (fun _ => false) false false (fun _ => 0) (fun _ => 0) :=
  ⟨rfl, nb, by have := Sts.new (W * H); rw [show sets (W * H) (tL W H []) = W * H from sets_id _]; exact this, fun i _ => ⟨by simp, by simp⟩, Co.new _ _ _ _, Co.new _ _ _ _, InE.nil⟩
/-- What the torus shows. -/
theorem TP.ax_eq (h : TP W H n E up size rep ρ least M F V ax dn pX pY) : ax = anyB W H tX E ∧ dn = anyB W H tY E :=
  ⟨by rw [Bool.eq_iff_iff, anyB_iff]; exact h.cx.ac, by rw [Bool.eq_iff_iff, anyB_iff]; exact h.cy.ac⟩
theorem TP.wd_eq (h : TP W H n E up size rep ρ least M F V ax dn pX pY) {i : Nat} (hi : i < n) : V (rep i * 2) = wndB W H tX E i ∧ V (rep i * 2 + 1) = wndB W H tY E i := by
  have hn := h.nn
  subst hn
  exact ⟨by rw [Bool.eq_iff_iff, wndB_iff]; exact h.cx.wd i hi, by rw [Bool.eq_iff_iff, wndB_iff]; exact h.cy.wd i hi⟩
theorem TP.off_eq (h : TP W H n E up size rep ρ least M F V ax dn pX pY) {a b : Nat} (ha : a < n) (hb : b < n) (hl : tL W H E a = tL W H E b) : (wndB W H tX E a = false → offI W H tX E a b = pX b - pX a) ∧ (wndB W H tY E a = false → offI W H tY E a b = pY b - pY a) := by
  have hn := h.nn
  subst hn
  exact ⟨fun hw => h.cx.offI h.st.same h.rep2 ha hb hl hw, fun hw => h.cy.offI h.st.same h.rep2 ha hb hl hw⟩
end

/-- A torus in memory with the edges E. -/
def Tor (w : World) (p : TLoc) (W H n : Nat) (E : List Nat) : Prop :=
  ∃ (up size rep ρ least : Nat → Nat) (M : Nat) (F : Nat → Int) (V : Nat → Bool) (ax dn : Bool) (pX pY : Nat → Int), TS w p W H n up F size V ax dn (sets n (tL W H E)) ∧ TP W H n E up size rep ρ least M F V ax dn pX pY
section
variable {w w' : World} {p : TLoc} {W H n : Nat} {E : List Nat}
theorem Tor.fr {S : List Nat} (h : Tor w p W H n E) (k : Fr S w w') (hS : ∀ b ∈ p.bl, b ∉ S) : Tor w' p W H n E := by
  obtain ⟨up, size, rep, ρ, least, M, F, V, ax, dn, pX, pY, h1, h2⟩ := h
  exact ⟨up, size, rep, ρ, least, M, F, V, ax, dn, pX, pY, h1.fr k hS, h2⟩
theorem Tor.fresh (h : Tor w p W H n E) (k : Below w.heap.size w w') : Tor w' p W H n E := h.fr (Fr.of_below [] k) (by simp)
theorem Tor.drewN (h : Tor w p W H n E) (k : Nat) : Tor (w.drewN k) p W H n E := h.fresh ((Below.refl _ _).drewN k)
theorem Tor.lt (h : Tor w p W H n E) : ∀ k ∈ p.bl, k < w.heap.size := by
  obtain ⟨up, size, rep, ρ, least, M, F, V, ax, dn, pX, pY, h1, h2⟩ := h
  exact h1.lt
theorem Tor.ie (h : Tor w p W H n E) : InE (W * H) tS (tT W H) E := by
  obtain ⟨up, size, rep, ρ, least, M, F, V, ax, dn, pX, pY, h1, h2⟩ := h
  exact h2.ie
theorem Tor.nn (h : Tor w p W H n E) : n = W * H ∧ n ≤ 4096 ∧ 1 ≤ W ∧ 1 ≤ H ∧ W ≤ 4096 ∧ H ≤ 4096 ∧ 1 ≤ n := by
  obtain ⟨up, size, rep, ρ, least, M, F, V, ax, dn, pX, pY, h1, h2⟩ := h
  exact ⟨h1.nn, h1.nb, h1.nW.1, h1.nH.1, h1.nW.2, h1.nH.2, h1.n1⟩
end
theorem torValid (w : World) (p : TLoc) (W H n : Nat) (E : List Nat) (h : Tor w p W H n E) :
    Calls Try.prog 33 #[.pointer (some ⟨p.g, 0, none⟩)] w fun e w' => e = .returned (.bool true) ∧ w = w' := by
  obtain ⟨up, size, rep, ρ, least, M, F, V, ax, dn, pX, pY, h1, h2⟩ := h
  exact wrValid0 w p W H n _ _ _ _ _ _ _ h1
theorem torHas (w : World) (a : Int) (p : TLoc) (W H n : Nat) (E : List Nat) (h : Tor w p W H n E) :
    Calls Try.prog 34 #[.pointer (some ⟨p.g, 0, none⟩), .int .i64 a] w fun e w' => e = .returned (.bool (inB n a)) ∧ w = w' := by
  obtain ⟨up, size, rep, ρ, least, M, F, V, ax, dn, pX, pY, h1, h2⟩ := h
  exact wrHas0 w a p W H n _ _ _ _ _ _ _ h1
theorem torWraps (w : World) (p : TLoc) (W H n : Nat) (E : List Nat) (h : Tor w p W H n E) :
    Calls Try.prog 22 #[.pointer (some ⟨p.g, 0, none⟩)] w fun e w' => e = .returned (.tuple #[.bool (anyB W H tX E), .bool (anyB W H tY E)]) ∧ ∃ k, w' = w.drewN k := by
  have VV := torValid w p W H n E h
  obtain ⟨up, size, rep, ρ, least, M, F, V, ax, dn, pX, pY, h1, h2⟩ := h
  obtain ⟨_, _, _, _, _, _, c6, c7, _⟩ := h1.cells
  obtain ⟨e1, e2⟩ := h2.ax_eq
  rw [← e1, ← e2]
  have HV := hide VV
  clear h1 h2 e1 e2 VV
  go_enter Try.func22, Try.ntmps22
  go_wp2_with (go_at_call 33; refine HV.out.mono ?_; rintro e w' ⟨rfl, rfl⟩)
  go_quiet (fail)
  go_wp2_with fail
  go_ret2
  exact ⟨rfl, _, rfl⟩
theorem torCount (w : World) (p : TLoc) (W H n : Nat) (E : List Nat) (h : Tor w p W H n E) :
    Calls Try.prog 24 #[.pointer (some ⟨p.g, 0, none⟩)] w fun e w' => e = .returned (.int .i64 (sets n (tL W H E) : Int)) ∧ w = w' := by
  have VV := torValid w p W H n E h
  obtain ⟨up, size, rep, ρ, least, M, F, V, ax, dn, pX, pY, h1, h2⟩ := h
  obtain ⟨_, _, _, _, _, _, c6, c7, c8⟩ := h1.cells
  have HV := hide VV
  clear h1 h2 VV
  go_enter Try.func24, Try.ntmps24
  go_wp2_with (go_at_call 33; refine HV.out.mono ?_; rintro e w' ⟨rfl, rfl⟩)
  go_ret
  exact ⟨rfl, rfl⟩
end Go.Proofs.Ytnkkdoookhhhaaa
