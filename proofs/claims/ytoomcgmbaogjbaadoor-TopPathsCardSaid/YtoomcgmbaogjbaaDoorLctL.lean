/- plain: a rotation. plain: pending reversals, and what a splay keeps. plain: the tree that the nodes stand for; exposing a node. plain: leading, linking, connection, the path between two nodes. -/
import Derived.Test.YtoomcgmbaogjbaaDoorLctP
namespace Go.Proofs.YtoomcgmbaogjbaaDoor
set_option linter.unusedVariables false

/-- The roots of two states, each with its sequence and what is above it. -/
structure Roots (N : Nat) (M M' : LM) (sq sq' : Nat → List Nat) : Prop where
  fwd : ∀ y, 1 ≤ y → y ≤ N → ¬ Kid M y → ∃ x, 1 ≤ x ∧ x ≤ N ∧ ¬ Kid M' x ∧ sq' x = sq y ∧ M'.up x = M.up y
  bwd : ∀ x, 1 ≤ x → x ≤ N → ¬ Kid M' x → ∃ y, 1 ≤ y ∧ y ≤ N ∧ ¬ Kid M y ∧ sq' x = sq y ∧ M'.up x = M.up y
theorem Roots.refl (N : Nat) (M : LM) (sq : Nat → List Nat) : Roots N M M sq sq := ⟨fun y h1 h2 h => ⟨y, h1, h2, h, rfl, rfl⟩, fun y h1 h2 h => ⟨y, h1, h2, h, rfl, rfl⟩⟩
theorem Roots.trans {N : Nat} {M M' M2 : LM} {sq sq' sq2 : Nat → List Nat} (h : Roots N M M' sq sq') (k : Roots N M' M2 sq' sq2) : Roots N M M2 sq sq2 :=
  ⟨fun y h1 h2 h3 => by
    obtain ⟨x, a1, a2, a3, a4, a5⟩ := h.fwd y h1 h2 h3
    obtain ⟨z, b1, b2, b3, b4, b5⟩ := k.fwd x a1 a2 a3
    exact ⟨z, b1, b2, b3, b4.trans a4, b5.trans a5⟩,
   fun x h1 h2 h3 => by
    obtain ⟨y, a1, a2, a3, a4, a5⟩ := k.bwd x h1 h2 h3
    obtain ⟨z, b1, b2, b3, b4, b5⟩ := h.bwd y a1 a2 a3
    exact ⟨z, b1, b2, b3, a4.trans b4, a5.trans b5⟩⟩
/-- The sequence of what was above, once it hangs below. -/
def rsq (M : LM) (sq : Nat → List Nat) (i p s : Nat) : List Nat := if s = 0 then sq (M.k 1 i) ++ p :: sq (M.k 1 p) else sq (M.k 0 p) ++ p :: sq (M.k 0 i)
def sqR (M : LM) (sq : Nat → List Nat) (i p s : Nat) : Nat → List Nat := fun x => if x = i then sq p else if x = p then rsq M sq i p s else sq x
/-- A rotation, as it turns the nodes. -/
structure Rot (M M' : LM) (i p g c s t : Nat) : Prop where
  k_ : ∀ u x, u < 2 → M'.k u x = if x = i ∧ u = t then p else if x = p ∧ u = s then c else if x = g ∧ g ≠ 0 ∧ M.k u g = p then i else M.k u x
  u_ : ∀ x, M'.up x = if x = i then g else if x = p then i else if x = c ∧ c ≠ 0 then p else M.up x
  f_ : M'.fl = M.fl
  y_ : M'.key = M.key
  m_ : ∀ x, x ≠ p → x ≠ i → M'.fi x = M.fi x
theorem at01 {P : Nat → Prop} {u : Nat} (hu : u < 2) (h : P u) : P 0 ∨ P 1 := by
  obtain rfl | rfl : u = 0 ∨ u = 1 := by omega
  · exact .inl h
  · exact .inr h
set_option maxHeartbeats 4000000 in
theorem rot_sq {N : Nat} {M M' : LM} {sq : Nat → List Nat} {i p g c s t : Nat} (h : Sq N M sq) (i1 : 1 ≤ i) (i2 : i ≤ N) (p1 : 1 ≤ p) (p2 : p ≤ N) (hp : M.up i = p) (hg : M.up p = g) (hst : (s = 0 ∧ t = 1) ∨ (s = 1 ∧ t = 0)) (hk : M.k s p = i) (hc : M.k t i = c)
    (hfi : M.fl i = false) (hfp : M.fl p = false) (hR : Rot M M' i p g c s t) (hm1 : Fst M.key (M'.fi p) (rsq M sq i p s)) (hm2 : Fst M.key (M'.fi i) (sq p)) : Sq N M' (sqR M sq i p s) ∧ Roots N M M' sq (sqR M sq i p s) := by
  have hs : s < 2 := by omega
  have ht : t < 2 := by omega
  have ust : ∀ u, u < 2 → u = s ∨ u = t := fun u hu => by omega
  have hts : t ≠ s := by omega
  have hne : i ≠ p := fun e => h.kid_ne p1 p2 hs (hk.trans e)
  have hlip : (sq i).length < (sq p).length := by have := h.kid_len p1 p2 hs; rwa [hk] at this
  have hci : c ≠ i := fun e => h.kid_ne i1 i2 ht (hc.trans e)
  have hcl : (sq c).length < (sq i).length := by have := h.kid_len i1 i2 ht; rwa [hc] at this
  have hcp : c ≠ p := fun e => by rw [e] at hcl; omega
  have hcN : c ≤ N := by rw [← hc]; exact h.kN i t i1 i2 ht
  have hgN : g ≤ N := by rw [← hg]; exact h.uN p p1 p2
  have hcu : c ≠ 0 → M.up c = i := fun hc0 => by have := h.up_ i t i1 i2 ht (by rw [hc]; exact hc0); rwa [hc] at this
  -- what is not i and not p has other kids
  have oth : ∀ x u, 1 ≤ x → x ≤ N → u < 2 → x ≠ i → x ≠ p → M.k u x ≠ 0 → M.k u x ≠ i ∧ (M.k u x = p → x = g) ∧ M.k u x ≠ c := fun x u x1 x2 hu e1 e2 h0 => by
    have hup := h.up_ x u x1 x2 hu h0
    refine ⟨fun e => ?_, fun e => ?_, fun e => ?_⟩
    · rw [e, hp] at hup; exact e2 hup.symm
    · rw [e, hg] at hup; exact hup.symm
    · rw [e] at hup h0; rw [hcu h0] at hup; exact e1 hup.symm
  have gk : ∀ u, u < 2 → g ≠ 0 → M.k u g = p → g ≠ i ∧ g ≠ p := fun u hu h0 e => by
    have := h.kid_len (x := g) (by omega) hgN hu
    rw [e] at this
    refine ⟨fun e2 => ?_, fun e2 => ?_⟩
    · rw [e2] at this; omega
    · rw [e2] at this; omega
  have k_it : M'.k t i = p := by rw [hR.k_ t i ht, if_pos ⟨rfl, rfl⟩]
  have k_is : M'.k s i = M.k s i := by
    rw [hR.k_ s i hs, if_neg (fun e => hts e.2.symm), if_neg (fun e => hne e.1), if_neg (fun e => (gk s hs e.2.1 e.2.2).1 e.1.symm)]
  have k_ps : M'.k s p = c := by rw [hR.k_ s p hs, if_neg (fun e => hne e.1.symm), if_pos ⟨rfl, rfl⟩]
  have k_pt : M'.k t p = M.k t p := by
    rw [hR.k_ t p ht, if_neg (fun e => hne e.1.symm), if_neg (fun e => hts e.2), if_neg (fun e => (gk t ht e.2.1 e.2.2).2 e.1.symm)]
  have k_o : ∀ x u, u < 2 → x ≠ i → x ≠ p → M'.k u x = if x = g ∧ g ≠ 0 ∧ M.k u g = p then i else M.k u x := fun x u hu e1 e2 => by
    rw [hR.k_ u x hu, if_neg (fun e => e1 e.1), if_neg (fun e => e2 e.1)]
  have u_i : M'.up i = g := by rw [hR.u_, if_pos rfl]
  have u_p : M'.up p = i := by rw [hR.u_, if_neg (fun e => hne e.symm), if_pos rfl]
  have u_c : c ≠ 0 → M'.up c = p := fun h0 => by rw [hR.u_, if_neg hci, if_neg hcp, if_pos ⟨rfl, h0⟩]
  have u_o : ∀ x, x ≠ i → x ≠ p → x ≠ c → M'.up x = M.up x := fun x e1 e2 e3 => by rw [hR.u_, if_neg e1, if_neg e2, if_neg (fun e => e3 e.1)]
  have sI : sqR M sq i p s i = sq p := if_pos rfl
  have sP : sqR M sq i p s p = rsq M sq i p s := by unfold sqR; rw [if_neg (fun e => hne e.symm), if_pos rfl]
  have sO : ∀ x, x ≠ i → x ≠ p → sqR M sq i p s x = sq x := fun x e1 e2 => by unfold sqR; rw [if_neg e1, if_neg e2]
  have kt_ne : M.k t p ≠ i := fun e => by
    have h0 : M.k 0 p ≠ 0 := by rcases hst with ⟨rfl, rfl⟩ | ⟨rfl, rfl⟩ <;> omega
    have := h.kids_ne p1 p2 h0
    rcases hst with ⟨rfl, rfl⟩ | ⟨rfl, rfl⟩ <;> omega
  have kt_p : M.k t p ≠ p := h.kid_ne p1 p2 ht
  have ks_i : M.k s i ≠ i := h.kid_ne i1 i2 hs
  have ks_p : M.k s i ≠ p := fun e => by have := h.kid_len i1 i2 hs; rw [e] at this; omega
  have e_p : sq p = rv false (sq (M.k 0 p) ++ p :: sq (M.k 1 p)) := by rw [← hfp]; exact h.sx p p1 p2
  have e_i : sq i = rv false (sq (M.k 0 i) ++ i :: sq (M.k 1 i)) := by rw [← hfi]; exact h.sx i i1 i2
  simp only [rv, Bool.false_eq_true, if_false] at e_p e_i
  have kid_p : Kid M' p := ⟨by rw [u_p]; omega, by rw [u_p]; exact at01 (P := fun u => M'.k u i = p) ht k_it⟩
  have kid_i0 : Kid M i := ⟨by rw [hp]; omega, by rw [hp]; exact at01 (P := fun u => M.k u p = i) hs hk⟩
  have kid_ip : Kid M' i ↔ Kid M p := by
    unfold Kid
    rw [u_i, hg]
    refine and_congr_right fun h0 => ?_
    by_cases gi : g = i
    · have a0 : ∀ u, u < 2 → M.k u g ≠ p := fun u hu e => (gk u hu h0 e).1 gi
      refine ⟨fun e => ?_, fun e => ?_⟩
      · exfalso
        have b : ∀ u, u < 2 → M'.k u g ≠ i := fun u hu e => by
          rw [gi] at e
          rcases (ust u hu) with rfl | rfl
          · rw [k_is] at e; exact ks_i e
          · rw [k_it] at e; exact hne e.symm
        rcases e with e | e
        · exact b 0 (by decide) e
        · exact b 1 (by decide) e
      · rcases e with e | e
        · exact absurd e (a0 0 (by decide))
        · exact absurd e (a0 1 (by decide))
    · by_cases gp : g = p
      · refine ⟨fun e => ?_, fun e => ?_⟩
        · exfalso
          have b : ∀ u, u < 2 → M'.k u g ≠ i := fun u hu e => by
            rw [gp] at e
            rcases (ust u hu) with rfl | rfl
            · rw [k_ps] at e; exact hci e
            · rw [k_pt] at e; exact kt_ne e
          rcases e with e | e
          · exact b 0 (by decide) e
          · exact b 1 (by decide) e
        · rcases e with e | e
          · exact absurd gp (gk 0 (by decide) h0 e).2
          · exact absurd gp (gk 1 (by decide) h0 e).2
      · have b : ∀ u, u < 2 → (M'.k u g = i ↔ M.k u g = p) := fun u hu => by
          rw [k_o g u hu gi gp]
          by_cases e : M.k u g = p
          · rw [if_pos ⟨rfl, h0, e⟩]; exact ⟨fun _ => e, fun _ => rfl⟩
          · rw [if_neg (fun e2 => e e2.2.2)]
            refine ⟨fun e2 => ?_, fun e2 => absurd e2 e⟩
            exact absurd e2 (oth g u (by omega) hgN hu gi gp (by rw [e2]; omega)).1
        rw [b 0 (by decide), b 1 (by decide)]
  have kid_o : ∀ x, 1 ≤ x → x ≤ N → x ≠ i → x ≠ p → (Kid M' x ↔ Kid M x) ∧ (¬ Kid M x → M'.up x = M.up x) := fun x x1 x2 e1 e2 => by
    by_cases ec : x = c
    · have c0 : c ≠ 0 := by omega
      refine ⟨⟨fun _ => ?_, fun _ => ?_⟩, fun hn => ?_⟩
      · rw [ec]; exact ⟨by rw [hcu c0]; omega, by rw [hcu c0]; exact at01 (P := fun u => M.k u i = c) ht hc⟩
      · rw [ec]; exact ⟨by rw [u_c c0]; omega, by rw [u_c c0]; exact at01 (P := fun u => M'.k u p = c) hs k_ps⟩
      · exact absurd (show Kid M x by rw [ec]; exact ⟨by rw [hcu c0]; omega, by rw [hcu c0]; exact at01 (P := fun u => M.k u i = c) ht hc⟩) hn
    · have hu := u_o x e1 e2 ec
      refine ⟨?_, fun _ => hu⟩
      unfold Kid
      rw [hu]
      refine and_congr_right fun h0 => ?_
      have hyN := h.uN x x1 x2
      generalize M.up x = y at *
      have b : ∀ u, u < 2 → (M'.k u y = x ↔ M.k u y = x) := fun u hu => by
        by_cases yi : y = i
        · subst yi
          rcases (ust u hu) with rfl | rfl
          · rw [k_is]
          · rw [k_it, hc]; exact ⟨fun e => absurd e.symm e2, fun e => absurd e.symm ec⟩
        · by_cases yp : y = p
          · subst yp
            rcases (ust u hu) with rfl | rfl
            · rw [k_ps, hk]; exact ⟨fun e => absurd e.symm ec, fun e => absurd e.symm e1⟩
            · rw [k_pt]
          · rw [k_o y u hu yi yp]
            by_cases e : y = g ∧ g ≠ 0 ∧ M.k u g = p
            · rw [if_pos e]
              exact ⟨fun e3 => absurd e3.symm e1, fun e3 => absurd (by rw [← e3, e.1]; exact e.2.2) e2⟩
            · rw [if_neg e]
      rw [b 0 (by decide), b 1 (by decide)]
  refine ⟨⟨?_, ?_, ?_, ?_, ?_, ?_, ?_⟩, ⟨?_, ?_⟩⟩
  · rw [sO 0 (by omega) (by omega)]; exact h.s0
  · intro x x1 x2
    rw [hR.f_]
    by_cases xi : x = i
    · subst xi
      rw [sI, hfi, e_p]
      simp only [rv, Bool.false_eq_true, if_false]
      rcases hst with ⟨rfl, rfl⟩ | ⟨rfl, rfl⟩
      · rw [k_is, k_it, sP, sO _ ks_i ks_p, hk, e_i]
        simp [rsq]
      · rw [k_it, k_is, sP, sO _ ks_i ks_p, hk, e_i]
        simp [rsq]
    · by_cases xp : x = p
      · subst xp
        rw [sP, hfp]
        simp only [rv, Bool.false_eq_true, if_false]
        rcases hst with ⟨rfl, rfl⟩ | ⟨rfl, rfl⟩
        · rw [k_ps, k_pt, sO _ hci hcp, sO _ kt_ne kt_p, ← hc]; simp [rsq]
        · rw [k_pt, k_ps, sO _ hci hcp, sO _ kt_ne kt_p, ← hc]; simp [rsq]
      · have key : ∀ u, u < 2 → sqR M sq i p s (M'.k u x) = sq (M.k u x) := fun u hu => by
          rw [k_o x u hu xi xp]
          by_cases e : x = g ∧ g ≠ 0 ∧ M.k u g = p
          · rw [if_pos e, sI, e.1, e.2.2]
          · rw [if_neg e]
            by_cases h0 : M.k u x = 0
            · rw [h0]; exact sO 0 (by omega) (by omega)
            · obtain ⟨o1, o2, o3⟩ := oth x u x1 x2 hu xi xp h0
              exact sO _ o1 (fun e2 => e ⟨o2 e2, by rw [← o2 e2]; omega, by rw [← o2 e2]; exact e2⟩)
        rw [sO x xi xp, key 0 (by decide), key 1 (by decide)]
        exact h.sx x x1 x2
  · intro x u x1 x2 hu h0
    by_cases xi : x = i
    · subst xi
      rcases (ust u hu) with rfl | rfl
      · rw [k_is] at h0 ⊢
        rw [u_o _ ks_i ks_p (fun e => ?_)]
        · exact h.up_ x u x1 x2 hu h0
        · have h00 : M.k 0 x ≠ 0 := by rcases hst with ⟨rfl, rfl⟩ | ⟨rfl, rfl⟩ <;> omega
          have := h.kids_ne x1 x2 h00
          rcases hst with ⟨rfl, rfl⟩ | ⟨rfl, rfl⟩ <;> omega
      · rw [k_it]; exact u_p
    · by_cases xp : x = p
      · subst xp
        rcases (ust u hu) with rfl | rfl
        · rw [k_ps] at h0 ⊢; exact u_c h0
        · rw [k_pt] at h0 ⊢
          have hup := h.up_ x u x1 x2 hu h0
          rw [u_o _ kt_ne kt_p (fun e => ?_)]
          · exact hup
          · rw [e] at hup h0
            rw [hcu h0] at hup
            exact hne hup
      · rw [k_o x u hu xi xp] at h0 ⊢
        by_cases e : x = g ∧ g ≠ 0 ∧ M.k u g = p
        · rw [if_pos e, u_i]; exact e.1.symm
        · rw [if_neg e] at h0 ⊢
          obtain ⟨o1, o2, o3⟩ := oth x u x1 x2 hu xi xp h0
          rw [u_o _ o1 (fun e2 => e ⟨o2 e2, by rw [← o2 e2]; omega, by rw [← o2 e2]; exact e2⟩) o3]
          exact h.up_ x u x1 x2 hu h0
  · intro x u x1 x2 hu
    rw [hR.k_ u x hu]
    split
    · exact p2
    · split
      · exact hcN
      · split
        · exact i2
        · exact h.kN x u x1 x2 hu
  · intro x x1 x2
    rw [hR.u_]
    split
    · exact hgN
    · split
      · exact i2
      · split
        · exact p2
        · exact h.uN x x1 x2
  · intro x x1 x2
    rw [hR.y_]
    by_cases xi : x = i
    · subst xi; rw [sI]; exact hm2
    · by_cases xp : x = p
      · subst xp; rw [sP]; exact hm1
      · rw [sO x xi xp, hR.m_ x xp xi]; exact h.fi_ x x1 x2
  · intro x x1 x2
    by_cases xi : x = i
    · subst xi; rw [sI]; exact h.nd p p1 p2
    · by_cases xp : x = p
      · subst xp
        rw [sP]
        have hn := h.nd x x1 x2
        rw [e_p] at hn
        refine hn.sublist ?_
        rcases hst with ⟨rfl, rfl⟩ | ⟨rfl, rfl⟩
        · rw [hk, e_i]
          simp only [rsq, if_true]
          exact List.Sublist.append_right ((List.sublist_cons_self _ _).trans (List.sublist_append_right _ _)) _
        · rw [hk, e_i]
          simp only [rsq, Nat.one_ne_zero, if_false]
          exact List.Sublist.append_left (List.Sublist.cons_cons _ (List.sublist_append_left _ _)) _
      · rw [sO x xi xp]; exact h.nd x x1 x2
  · intro y y1 y2 hy
    by_cases yp : y = p
    · subst yp
      exact ⟨i, i1, i2, fun e => hy (kid_ip.1 e), sI, by rw [u_i, hg]⟩
    · have yi : y ≠ i := fun e => hy (e ▸ kid_i0)
      obtain ⟨a, b⟩ := kid_o y y1 y2 yi yp
      exact ⟨y, y1, y2, fun e => hy (a.1 e), sO y yi yp, b hy⟩
  · intro x x1 x2 hx
    have xp : x ≠ p := fun e => hx (e ▸ kid_p)
    by_cases xi : x = i
    · subst xi
      exact ⟨p, p1, p2, fun e => hx (kid_ip.2 e), sI, by rw [u_i, hg]⟩
    · obtain ⟨a, b⟩ := kid_o x x1 x2 xi xp
      have hx' : ¬ Kid M x := fun e => hx (a.2 e)
      exact ⟨x, x1, x2, hx', sO x xi xp, b hx'⟩
end Go.Proofs.YtoomcgmbaogjbaaDoor
namespace Go.Proofs.YtoomcgmbaogjbaaDoor
set_option linter.unusedVariables false

/-- A pending reversal is carried out at j. -/
structure Psh (M M' : LM) (j : Nat) : Prop where
  k_ : ∀ u x, u < 2 → M'.k u x = if x = j then M.k (1 - u) j else M.k u x
  u_ : M'.up = M.up
  f_ : ∀ x, M'.fl x = if x = j then false else if x ≠ 0 ∧ (x = M.k 0 j ∨ x = M.k 1 j) then !M.fl x else M.fl x
  y_ : M'.key = M.key
  m_ : M'.fi = M.fi
def sqP (M : LM) (sq : Nat → List Nat) (j : Nat) : Nat → List Nat := fun x => if x ≠ 0 ∧ (x = M.k 0 j ∨ x = M.k 1 j) then (sq x).reverse else sq x
theorem sqP_mem {M : LM} {sq : Nat → List Nat} {j x y : Nat} : y ∈ sqP M sq j x ↔ y ∈ sq x := by unfold sqP; split <;> simp
theorem Psh.kid {M M' : LM} {j : Nat} (h : Psh M M' j) (x : Nat) : Kid M' x ↔ Kid M x := by
  unfold Kid
  rw [h.u_]
  refine and_congr_right fun h0 => ?_
  rw [h.k_ 0 _ (by decide), h.k_ 1 _ (by decide)]
  by_cases e : M.up x = j
  · rw [if_pos e, if_pos e, e]
    exact Or.comm
  · rw [if_neg e, if_neg e]
theorem push_sq {N : Nat} {M M' : LM} {sq : Nat → List Nat} {j : Nat} (h : Sq N M sq) (j1 : 1 ≤ j) (j2 : j ≤ N) (hf : M.fl j = true) (hP : Psh M M' j) : Sq N M' (sqP M sq j) ∧ Roots N M M' sq (sqP M sq j) := by
  have isk : ∀ x, x ≠ 0 ∧ (x = M.k 0 j ∨ x = M.k 1 j) → M.up x = j ∧ Kid M x := fun x ⟨h0, hx⟩ => by
    have hu : M.up x = j := by
      rcases hx with e | e
      · rw [e]; exact h.up_ j 0 j1 j2 (by decide) (by rw [← e]; exact h0)
      · rw [e]; exact h.up_ j 1 j1 j2 (by decide) (by rw [← e]; exact h0)
    exact ⟨hu, by rw [hu]; omega, by rw [hu]; exact hx.imp Eq.symm Eq.symm⟩
  have jn : ¬ (j ≠ 0 ∧ (j = M.k 0 j ∨ j = M.k 1 j)) := fun ⟨_, e⟩ => by
    rcases e with e | e
    · exact h.kid_ne j1 j2 (s := 0) (by decide) e.symm
    · exact h.kid_ne j1 j2 (s := 1) (by decide) e.symm
  have sqj : sqP M sq j j = sq j := if_neg jn
  have sqk : ∀ u, u < 2 → sqP M sq j (M.k u j) = (sq (M.k u j)).reverse := fun u hu => by
    by_cases h0 : M.k u j = 0
    · unfold sqP; rw [h0, h.s0]; simp
    · unfold sqP
      rw [if_pos ⟨h0, at01 (P := fun v => M.k u j = M.k v j) hu rfl⟩]
  have sqo : ∀ x u, 1 ≤ x → x ≤ N → u < 2 → x ≠ j → sqP M sq j (M.k u x) = sq (M.k u x) := fun x u x1 x2 hu hx => by
    unfold sqP
    refine if_neg fun e => ?_
    have := h.up_ x u x1 x2 hu e.1
    rw [(isk _ e).1] at this
    exact hx this.symm
  have sqr : ∀ x, ¬ Kid M x → sqP M sq j x = sq x := fun x hx => by
    unfold sqP
    exact if_neg fun e => hx (isk x e).2
  refine ⟨⟨?_, ?_, ?_, ?_, ?_, ?_, ?_⟩, ⟨?_, ?_⟩⟩
  · unfold sqP; rw [if_neg (fun e => e.1 rfl)]; exact h.s0
  · intro x x1 x2
    rw [hP.f_]
    by_cases xj : x = j
    · subst xj
      rw [if_pos rfl, sqj, hP.k_ 0 x (by decide), hP.k_ 1 x (by decide), if_pos rfl, if_pos rfl, sqk (1 - 0) (by decide), sqk (1 - 1) (by decide), h.sx x x1 x2, hf]
      simp [rv]
    · rw [if_neg xj, hP.k_ 0 x (by decide), hP.k_ 1 x (by decide), if_neg xj, if_neg xj, sqo x 0 x1 x2 (by decide) xj, sqo x 1 x1 x2 (by decide) xj]
      have hx := h.sx x x1 x2
      unfold sqP
      by_cases e : x ≠ 0 ∧ (x = M.k 0 j ∨ x = M.k 1 j)
      · rw [if_pos e, if_pos e, hx]
        cases M.fl x <;> simp [rv]
      · rw [if_neg e, if_neg e, hx]
  · intro x u x1 x2 hu h0
    rw [hP.u_]
    rw [hP.k_ u x hu] at h0 ⊢
    by_cases xj : x = j
    · rw [if_pos xj] at h0 ⊢
      rw [xj]
      exact h.up_ j (1 - u) j1 j2 (by omega) h0
    · rw [if_neg xj] at h0 ⊢
      exact h.up_ x u x1 x2 hu h0
  · intro x u x1 x2 hu
    rw [hP.k_ u x hu]
    split
    · exact h.kN j (1 - u) j1 j2 (by omega)
    · exact h.kN x u x1 x2 hu
  · intro x x1 x2; rw [hP.u_]; exact h.uN x x1 x2
  · intro x x1 x2
    rw [hP.y_, hP.m_]
    obtain ⟨a, b⟩ := h.fi_ x x1 x2
    exact ⟨sqP_mem.2 a, fun y hy => b y (sqP_mem.1 hy)⟩
  · intro x x1 x2
    unfold sqP
    split
    · exact (List.reverse_perm _).nodup_iff.2 (h.nd x x1 x2)
    · exact h.nd x x1 x2
  · intro y y1 y2 hy
    exact ⟨y, y1, y2, fun e => hy ((hP.kid y).1 e), sqr y hy, by rw [hP.u_]⟩
  · intro x x1 x2 hx
    have hx' : ¬ Kid M x := fun e => hx ((hP.kid x).2 e)
    exact ⟨x, x1, x2, hx', sqr x hx', by rw [hP.u_]⟩

/-- Node x is as it was. -/
structure Same (M M' : LM) (sq sq' : Nat → List Nat) (x : Nat) : Prop where
  k : ∀ u, u < 2 → M'.k u x = M.k u x
  up : M'.up x = M.up x
  fl : M'.fl x = M.fl x
  fi : M'.fi x = M.fi x
  sq : sq' x = sq x
theorem Same.refl (M : LM) (sq : Nat → List Nat) (x : Nat) : Same M M sq sq x := ⟨fun _ _ => rfl, rfl, rfl, rfl, rfl⟩
theorem Same.trans {M M' M2 : LM} {sq sq' sq2 : Nat → List Nat} {x : Nat} (h : Same M M' sq sq' x) (k : Same M' M2 sq' sq2 x) : Same M M2 sq sq2 x :=
  ⟨fun u hu => (k.k u hu).trans (h.k u hu), k.up.trans h.up, k.fl.trans h.fl, k.fi.trans h.fi, k.sq.trans h.sq⟩
/-- What a splay of a node of the tree S keeps. -/
structure Spl (N : Nat) (M0 M : LM) (sq0 sq : Nat → List Nat) (S : List Nat) : Prop where
  q : Sq N M sq
  rt : Roots N M0 M sq0 sq
  key : M.key = M0.key
  fr : ∀ x, x ∉ S → Same M0 M sq0 sq x
  tr : ∃ r, 1 ≤ r ∧ r ≤ N ∧ ¬ Kid M r ∧ sq r = S
theorem Spl.refl {N : Nat} {M : LM} {sq : Nat → List Nat} {r : Nat} (h : Sq N M sq) (r1 : 1 ≤ r) (r2 : r ≤ N) (hr : ¬ Kid M r) : Spl N M M sq sq (sq r) :=
  ⟨h, Roots.refl N M sq, rfl, fun x _ => Same.refl M sq x, r, r1, r2, hr, rfl⟩
section
variable {N : Nat} {M0 M M' : LM} {sq0 sq : Nat → List Nat} {S : List Nat}
theorem Spl.sub (h : Spl N M0 M sq0 sq S) {x : Nat} (hx : x ∈ S) : 1 ≤ x ∧ x ≤ N ∧ (∀ y ∈ sq x, y ∈ S) ∧ (Kid M x → M.up x ∈ S) := by
  obtain ⟨r, r1, r2, hr, rfl⟩ := h.tr
  obtain ⟨x1, x2⟩ := h.q.rng r r1 r2 x hx
  refine ⟨x1, x2, (h.q.sub r r1 r2 x hx).1, fun hk => ?_⟩
  rcases h.q.gen r r1 r2 x hx with rfl | ⟨_, hu⟩
  · exact absurd hk hr
  · exact hu
theorem Spl.root (h : Spl N M0 M sq0 sq S) {i : Nat} (hi : i ∈ S) (hk : ¬ Kid M i) : sq i = S := by
  obtain ⟨r, r1, r2, hr, rfl⟩ := h.tr
  rcases h.q.gen r r1 r2 i hi with rfl | ⟨hk', _⟩
  · rfl
  · exact absurd hk' hk
theorem Spl.push (h : Spl N M0 M sq0 sq S) {j : Nat} (hj : j ∈ S) (hf : M.fl j = true) (hP : Psh M M' j) : Spl N M0 M' sq0 (sqP M sq j) S := by
  obtain ⟨j1, j2, hs, -⟩ := h.sub hj
  obtain ⟨q', r'⟩ := push_sq h.q j1 j2 hf hP
  have kin : ∀ u, u < 2 → M.k u j ≠ 0 → M.k u j ∈ S := fun u hu h0 => hs _ (h.q.kid_sub j1 j2 hu (h.q.self (by omega) (h.q.kN j u j1 j2 hu)))
  refine ⟨q', h.rt.trans r', by rw [hP.y_, h.key], fun x hx => (h.fr x hx).trans ?_, ?_⟩
  · have xj : x ≠ j := fun e => hx (e ▸ hj)
    have xk : ¬ (x ≠ 0 ∧ (x = M.k 0 j ∨ x = M.k 1 j)) := fun ⟨h0, e⟩ => by
      rcases e with e | e
      · exact hx (by rw [e]; exact kin 0 (by decide) (by rw [← e]; exact h0))
      · exact hx (by rw [e]; exact kin 1 (by decide) (by rw [← e]; exact h0))
    exact ⟨fun u hu => by rw [hP.k_ u x hu, if_neg xj], by rw [hP.u_], by rw [hP.f_, if_neg xj, if_neg xk], by rw [hP.m_], if_neg xk⟩
  · obtain ⟨r, r1, r2, hr, e⟩ := h.tr
    obtain ⟨x, x1, x2, hx, e2, -⟩ := r'.fwd r r1 r2 hr
    exact ⟨x, x1, x2, hx, e2.trans e⟩
theorem Spl.rot (h : Spl N M0 M sq0 sq S) {i p g c s t : Nat} (hi : i ∈ S) (hki : Kid M i) (hp : M.up i = p) (hg : M.up p = g) (hst : (s = 0 ∧ t = 1) ∨ (s = 1 ∧ t = 0)) (hk : M.k s p = i) (hc : M.k t i = c)
    (hfi : M.fl i = false) (hfp : M.fl p = false) (hR : Rot M M' i p g c s t) (hm1 : Fst M.key (M'.fi p) (rsq M sq i p s)) (hm2 : Fst M.key (M'.fi i) (sq p)) : Spl N M0 M' sq0 (sqR M sq i p s) S := by
  obtain ⟨i1, i2, hs, hu⟩ := h.sub hi
  have hpS : p ∈ S := by rw [← hp]; exact hu hki
  obtain ⟨p1, p2, hps, hpu⟩ := h.sub hpS
  obtain ⟨q', r'⟩ := rot_sq h.q i1 i2 p1 p2 hp hg hst hk hc hfi hfp hR hm1 hm2
  have ht : t < 2 := by omega
  have hcS : c ≠ 0 → c ∈ S := fun h0 => hs _ (by
    have := h.q.kid_sub i1 i2 ht (y := c) (by rw [hc]; exact h.q.self (by omega) (by rw [← hc]; exact h.q.kN i t i1 i2 ht))
    exact this)
  have hgS : ∀ u, u < 2 → g ≠ 0 → M.k u g = p → g ∈ S := fun u hu h0 e => by
    have : Kid M p := ⟨by rw [hg]; exact h0, by rw [hg]; exact at01 (P := fun u => M.k u g = p) hu e⟩
    have := hpu this
    rwa [hg] at this
  refine ⟨q', h.rt.trans r', by rw [hR.y_, h.key], fun x hx => (h.fr x hx).trans ?_, ?_⟩
  · have xi : x ≠ i := fun e => hx (e ▸ hi)
    have xp : x ≠ p := fun e => hx (e ▸ hpS)
    refine ⟨fun u hu => ?_, ?_, by rw [hR.f_], hR.m_ x xp xi, ?_⟩
    · rw [hR.k_ u x hu, if_neg (fun e => xi e.1), if_neg (fun e => xp e.1), if_neg (fun e => hx (by rw [e.1]; exact hgS u hu e.2.1 e.2.2))]
    · rw [hR.u_, if_neg xi, if_neg xp, if_neg (fun e => hx (by rw [e.1]; exact hcS e.2))]
    · unfold sqR; rw [if_neg xi, if_neg xp]
  · obtain ⟨r, r1, r2, hr, e⟩ := h.tr
    obtain ⟨x, x1, x2, hx, e2, -⟩ := r'.fwd r r1 r2 hr
    exact ⟨x, x1, x2, hx, e2.trans e⟩
end
/-! ### The way up -/
/-- A way up, from kid to what is above it. -/
def Upp (M : LM) (l : List Nat) : Prop := ∀ t a b, l[t]? = some a → l[t + 1]? = some b → Kid M a ∧ M.up a = b
theorem Upp.len {N : Nat} {M : LM} {sq : Nat → List Nat} {l : List Nat} (hu : Upp M l) (h : Sq N M sq) (hr : ∀ x ∈ l, 1 ≤ x ∧ x ≤ N) : ∀ d t a b, l[t]? = some a → l[t + d + 1]? = some b → (sq a).length < (sq b).length
  | 0, t, a, b, ha, hb => by
    obtain ⟨k, e⟩ := hu t a b ha hb
    obtain ⟨a1, a2⟩ := hr a (List.mem_of_getElem? ha)
    have := (h.kid_in a1 a2 k).2
    rwa [e] at this
  | d + 1, t, a, b, ha, hb => by
    have hlt : t + d + 1 < l.length := by have := (List.getElem?_eq_some_iff.1 hb).1; omega
    obtain ⟨k, e⟩ := hu (t + d + 1) _ b (List.getElem?_eq_getElem hlt) hb
    have h1 := hu.len h hr d t a _ ha (List.getElem?_eq_getElem hlt)
    obtain ⟨a1, a2⟩ := hr _ (List.getElem_mem hlt)
    have := (h.kid_in a1 a2 k).2
    rw [e] at this
    omega
/-- All that i lies below is on its way up. -/
theorem Upp.all {N : Nat} {M : LM} {sq : Nat → List Nat} {l : List Nat} {i z : Nat} (hu : Upp M l) (h : Sq N M sq) (h0 : l[0]? = some i) (hz : l[l.length - 1]? = some z) (hzk : ¬ Kid M z) :
    ∀ a, 1 ≤ a → a ≤ N → i ∈ sq a → a ∈ l := by
  intro a a1 a2 hi
  have key : ∀ (t x : Nat), l[t]? = some x → a ∈ l ∨ x ∈ sq a := by
    intro t
    induction t with
    | zero => intro x hx; rw [h0] at hx; cases hx; exact .inr hi
    | succ t ih =>
      intro x hx
      have hlt : t < l.length := by have := (List.getElem?_eq_some_iff.1 hx).1; omega
      rcases ih _ (List.getElem?_eq_getElem hlt) with e | e
      · exact .inl e
      · obtain ⟨k, e2⟩ := hu t _ x (List.getElem?_eq_getElem hlt) hx
        rcases h.gen a a1 a2 _ e with e3 | ⟨-, e3⟩
        · exact .inl (by rw [← e3]; exact List.getElem_mem hlt)
        · rw [e2] at e3; exact .inr e3
  rcases key _ z hz with e | e
  · exact e
  · rcases h.gen a a1 a2 z e with e2 | ⟨k, -⟩
    · rw [← e2]; exact List.mem_of_getElem? hz
    · exact absurd k hzk
end Go.Proofs.YtoomcgmbaogjbaaDoor
namespace Go.Proofs.YtoomcgmbaogjbaaDoor
set_option linter.unusedVariables false

def itr (par : Nat → Nat) : Nat → Nat → Nat
  | 0, x => x
  | n + 1, x => itr par n (par x)
/-- Every way up ends. -/
def Acy (par : Nat → Nat) : Prop := par 0 = 0 ∧ ∀ x, ∃ n, itr par n x = 0
theorem least_of {P : Nat → Prop} : ∀ n, P n → ∃ m, P m ∧ ∀ k, k < m → ¬ P k := by
  intro n
  induction n using Nat.strongRecOn with
  | _ n ih =>
    intro h
    by_cases e : ∃ k, k < n ∧ P k
    · obtain ⟨k, hk, hp⟩ := e
      exact ih k hk hp
    · exact ⟨n, h, fun k hk hp => e ⟨k, hk, hp⟩⟩
/-- A depth. -/
structure Dep (par d : Nat → Nat) : Prop where
  d0 : d 0 = 0
  dp : ∀ x, x ≠ 0 → d (par x) < d x
theorem Acy.dep {par : Nat → Nat} (h : Acy par) : ∃ d, Dep par d := by
  have hx : ∀ x, ∃ n, itr par n x = 0 ∧ ∀ k, k < n → itr par k x ≠ 0 := fun x => by
    obtain ⟨n, hn⟩ := h.2 x
    exact least_of (P := fun n => itr par n x = 0) n hn
  refine ⟨fun x => Classical.choose (hx x), ?_, fun x x0 => ?_⟩
  · have := (Classical.choose_spec (hx 0)).2
    rcases Nat.eq_zero_or_pos (Classical.choose (hx 0)) with e | e
    · exact e
    · exact absurd rfl (this 0 e)
  · obtain ⟨a1, a2⟩ := Classical.choose_spec (hx x)
    obtain ⟨b1, b2⟩ := Classical.choose_spec (hx (par x))
    show Classical.choose (hx (par x)) < Classical.choose (hx x)
    generalize Classical.choose (hx x) = n at *
    generalize Classical.choose (hx (par x)) = m at *
    cases n with
    | zero => exact absurd a1 x0
    | succ n =>
      rcases Nat.lt_or_ge m (n + 1) with h | h
      · exact h
      · exact absurd a1 (b2 n (by omega))
theorem Chn.split {par : Nat → Nat} : ∀ (A : List Nat) (a x : Nat) (B : List Nat), Chn par a (A ++ x :: B) ↔ Chn par a (A ++ [x]) ∧ Chn par x B
  | [], a, x, B => by simp [Chn]
  | y :: A, a, x, B => by
    show par y = a ∧ Chn par y (A ++ x :: B) ↔ (par y = a ∧ Chn par y (A ++ [x])) ∧ Chn par x B
    rw [Chn.split A y x B, and_assoc]
theorem Chn.deep {par d : Nat → Nat} (hd : Dep par d) : ∀ (l : List Nat) (a : Nat), Chn par a l → (∀ x ∈ l, x ≠ 0) → (∀ x ∈ l, d a < d x) ∧ l.Nodup
  | [], a, _, _ => ⟨by simp, List.nodup_nil⟩
  | y :: l, a, h, h0 => by
    obtain ⟨h1, h2⟩ := h
    obtain ⟨i1, i2⟩ := Chn.deep hd l y h2 (fun x hx => h0 x (by simp [hx]))
    have hy : d a < d y := by rw [← h1]; exact hd.dp y (h0 y (by simp))
    refine ⟨fun x hx => ?_, List.nodup_cons.2 ⟨fun hm => ?_, i2⟩⟩
    · rcases List.mem_cons.1 hx with rfl | hx
      · exact hy
      · have := i1 x hx; omega
    · have := i1 y hm; omega
/-- A label that does not change along edges. -/
def Cst (par lab : Nat → Nat) : Prop := ∀ x, par x ≠ 0 → lab (par x) = lab x
theorem Chn.lab {par lab : Nat → Nat} (hc : Cst par lab) : ∀ (l : List Nat) (a : Nat), Chn par a l → (∀ x ∈ l, x ≠ 0) → a ≠ 0 → ∀ x ∈ l, lab x = lab a
  | [], a, _, _, _ => by simp
  | y :: l, a, h, h0, ha => by
    obtain ⟨h1, h2⟩ := h
    have hy : lab y = lab a := by have := hc y (by rw [h1]; exact ha); rw [h1] at this; exact this.symm
    intro x hx
    rcases List.mem_cons.1 hx with rfl | hx
    · exact hy
    · exact (Chn.lab hc l y h2 (fun x hx => h0 x (by simp [hx])) (h0 y (by simp)) x hx).trans hy
theorem Chn.lab2 {par lab : Nat → Nat} (hc : Cst par lab) {l : List Nat} {a : Nat} (h : Chn par a l) (h0 : ∀ x ∈ l, x ≠ 0) : ∀ x ∈ l, ∀ y ∈ l, lab x = lab y := by
  cases l with
  | nil => simp
  | cons z l =>
    have key : ∀ x ∈ z :: l, lab x = lab z := fun x hx => by
      rcases List.mem_cons.1 hx with rfl | hx
      · rfl
      · exact Chn.lab hc l z h.2 (fun x hx => h0 x (by simp [hx])) (h0 z (by simp)) x hx
    exact fun x hx y hy => (key x hx).trans (key y hy).symm

/-- The nodes stand for the tree of par. -/
structure Lct (N : Nat) (M : LM) (par : Nat → Nat) (sq : Nat → List Nat) : Prop where
  q : Sq N M sq
  ch : ∀ r, 1 ≤ r → r ≤ N → ¬ Kid M r → Chn par (M.up r) (sq r)
  ac : Acy par
theorem Lct.roots {N : Nat} {M M' : LM} {par : Nat → Nat} {sq sq' : Nat → List Nat} (h : Lct N M par sq) (q : Sq N M' sq') (r : Roots N M M' sq sq') : Lct N M' par sq' :=
  ⟨q, fun x x1 x2 hx => by
    obtain ⟨y, y1, y2, hy, e1, e2⟩ := r.bwd x x1 x2 hx
    rw [e1, e2]; exact h.ch y y1 y2 hy, h.ac⟩
/-- What a splay of i gives. -/
structure SplP (N : Nat) (M M' : LM) (sq sq' : Nat → List Nat) (i : Nat) : Prop where
  q : Sq N M' sq'
  rt : Roots N M M' sq sq'
  key : M'.key = M.key
  nk : ¬ Kid M' i
  fl : M'.fl i = false
  at_ : ∃ r, 1 ≤ r ∧ r ≤ N ∧ ¬ Kid M r ∧ i ∈ sq r ∧ sq' i = sq r ∧ M'.up i = M.up r ∧ ∀ x, x ∉ sq r → Same M M' sq sq' x
theorem Spl.fin {N : Nat} {M0 M : LM} {sq0 sq : Nat → List Nat} {r i : Nat} (h0 : Sq N M0 sq0) (r1 : 1 ≤ r) (r2 : r ≤ N) (hr : ¬ Kid M0 r) (hi : i ∈ sq0 r) (h : Spl N M0 M sq0 sq (sq0 r)) (hk : ¬ Kid M i) (hf : M.fl i = false) : SplP N M0 M sq0 sq i := by
  have e := h.root hi hk
  obtain ⟨i1, i2, -, -⟩ := h.sub hi
  obtain ⟨y, y1, y2, hy, e1, e2⟩ := h.rt.bwd i i1 i2 hk
  have : y = r := h0.root_eq y1 y2 r1 r2 hy hr y (h0.self y1 y2) (by rw [← e, e1]; exact h0.self y1 y2)
  subst this
  exact ⟨h.q, h.rt, h.key, hk, hf, y, r1, r2, hr, hi, e, e2, h.fr⟩

/-- Exposing i, on the way: what lies below is a path that ends in i; j is the next. -/
structure Exp (N : Nat) (M0 M : LM) (sq0 sq : Nat → List Nat) (par : Nat → Nat) (i below j : Nat) : Prop where
  l : Lct N M par sq
  key : M.key = M0.key
  jN : j ≤ N
  b0 : below = 0 → j = i
  b1 : below ≠ 0 → below ≤ N ∧ ¬ Kid M below ∧ M.up below = j ∧ ∃ A, sq below = A ++ [i]
  lb : ∀ lab, Cst par lab → j ≠ 0 → lab j = lab i
  fr : ∀ lab, Cst par lab → ∀ x, lab x ≠ lab i → Same M0 M sq0 sq x
theorem Exp.start {N : Nat} {M : LM} {sq : Nat → List Nat} {par : Nat → Nat} {i : Nat} (h : Lct N M par sq) (i2 : i ≤ N) : Exp N M M sq sq par i 0 i :=
  ⟨h, rfl, i2, fun _ => rfl, fun e => absurd rfl e, fun _ _ _ => rfl, fun _ _ x _ => Same.refl M sq x⟩
/-- The right kid of j is replaced. -/
structure Kd1 (M M' : LM) (j below : Nat) : Prop where
  k_ : ∀ u x, u < 2 → M'.k u x = if x = j ∧ u = 1 then below else M.k u x
  u_ : M'.up = M.up
  f_ : M'.fl = M.fl
  y_ : M'.key = M.key
  m_ : ∀ x, x ≠ j → M'.fi x = M.fi x
def sqE (M : LM) (sq : Nat → List Nat) (j below : Nat) : Nat → List Nat := fun x => if x = j then sq (M.k 0 j) ++ j :: sq below else sq x
set_option maxHeartbeats 2000000 in
theorem Exp.step {N : Nat} {M0 M M1 M2 : LM} {sq0 sq sq1 : Nat → List Nat} {par d : Nat → Nat} {i below j : Nat} (h : Exp N M0 M sq0 sq par i below j) (hd : Dep par d) (j0 : j ≠ 0) (hs : SplP N M M1 sq sq1 j) (hk : Kd1 M1 M2 j below) (hm : Fst M1.key (M2.fi j) (sq1 (M1.k 0 j) ++ j :: sq1 below)) :
    Exp N M0 M2 sq0 (sqE M1 sq1 j below) par i j (M2.up j) ∧ d (M2.up j) < d j := by
  obtain ⟨r, r1, r2, hr, hjr, e1, e2, hfr⟩ := hs.at_
  have j1 : 1 ≤ j := by omega
  have j2 := h.jN
  have hl1 := h.l.roots hs.q hs.rt
  have hq := h.l.q
  have hq1 := hs.q
  have nz1 : ∀ x, x ≤ N → ∀ y ∈ sq1 x, y ≠ 0 := fun x x2 y hy => by
    rcases Nat.eq_zero_or_pos x with e | e
    · rw [e, hq1.s0] at hy; cases hy
    · have := hq1.rng x e x2 y hy; omega
  -- below lies apart
  have bo : below ≠ 0 → below ∉ sq r := fun hb hm => by
    obtain ⟨b2, bk, bu, -⟩ := h.b1 hb
    have e := hq.root_eq (by omega) b2 r1 r2 bk hr below (hq.self (by omega) b2) hm
    have hc := h.l.ch below (by omega) b2 bk
    rw [bu] at hc
    have := (hc.deep hd _ _ (fun x hx => by have := hq.rng below (by omega) b2 x hx; omega)).1 j (by rw [e]; exact hjr)
    omega
  have bS : below ≠ 0 → Same M M1 sq sq1 below := fun hb => hfr below (bo hb)
  have bN : below ≤ N := by
    by_cases hb : below = 0
    · omega
    · exact (h.b1 hb).1
  have bj : below ≠ j := fun e => bo (by omega) (e ▸ hjr)
  have bu1 : below ≠ 0 → M1.up below = j := fun hb => (bS hb).up.trans (h.b1 hb).2.2.1
  have ej : sq1 j = sq1 (M1.k 0 j) ++ j :: sq1 (M1.k 1 j) := by
    have := hq1.sx j j1 j2
    rw [hs.fl] at this
    exact this
  have hcj : Chn par (M1.up j) (sq1 (M1.k 0 j) ++ j :: sq1 (M1.k 1 j)) := by rw [← ej]; exact hl1.ch j j1 j2 hs.nk
  obtain ⟨cA, cB⟩ := (Chn.split _ _ _ _).1 hcj
  have cL : Chn par j (sq1 below) := by
    by_cases hb : below = 0
    · rw [hb, hq1.s0]; trivial
    · rw [(bS hb).sq]
      have := h.l.ch below (by omega) bN (h.b1 hb).2.1
      rwa [(h.b1 hb).2.2.1] at this
  have cN : Chn par (M1.up j) (sq1 (M1.k 0 j) ++ j :: sq1 below) := (Chn.split _ _ _ _).2 ⟨cA, cL⟩
  have k0N := hq1.kN j 0 j1 j2 (by decide)
  have k1N := hq1.kN j 1 j1 j2 (by decide)
  have nzN : ∀ x ∈ sq1 (M1.k 0 j) ++ j :: sq1 below, x ≠ 0 := fun x hx => by
    rcases List.mem_append.1 hx with h1 | h1
    · exact nz1 _ k0N x h1
    · rcases List.mem_cons.1 h1 with h1 | h1
      · omega
      · exact nz1 _ bN x h1
  obtain ⟨dN, ndN⟩ := cN.deep hd _ _ nzN
  have notj : ∀ x u, 1 ≤ x → x ≤ N → u < 2 → M1.k u x ≠ j := fun x u x1 x2 hu e => by
    have hup := hq1.up_ x u x1 x2 hu (by omega)
    rw [e] at hup
    exact hs.nk ⟨by omega, by rw [hup]; exact at01 (P := fun v => M1.k v x = j) hu e⟩
  have k2j0 : M2.k 0 j = M1.k 0 j := by rw [hk.k_ 0 j (by decide), if_neg (fun e => by cases e.2)]
  have k2j1 : M2.k 1 j = below := by rw [hk.k_ 1 j (by decide), if_pos ⟨rfl, rfl⟩]
  have k2o : ∀ x u, u < 2 → x ≠ j → M2.k u x = M1.k u x := fun x u hu e => by rw [hk.k_ u x hu, if_neg (fun e2 => e e2.1)]
  have sqj : sqE M1 sq1 j below j = sq1 (M1.k 0 j) ++ j :: sq1 below := if_pos rfl
  have sqo : ∀ x, x ≠ j → sqE M1 sq1 j below x = sq1 x := fun x e => if_neg e
  have hq2 : Sq N M2 (sqE M1 sq1 j below) := by
    refine ⟨?_, ?_, ?_, ?_, ?_, ?_, ?_⟩
    · rw [sqo 0 (by omega)]; exact hq1.s0
    · intro x x1 x2
      rw [hk.f_]
      by_cases xj : x = j
      · subst xj
        rw [sqj, k2j0, k2j1, sqo _ (notj x 0 x1 x2 (by decide)), sqo _ bj, hs.fl]
        rfl
      · rw [sqo x xj, k2o x 0 (by decide) xj, k2o x 1 (by decide) xj, sqo _ (notj x 0 x1 x2 (by decide)), sqo _ (notj x 1 x1 x2 (by decide))]
        exact hq1.sx x x1 x2
    · intro x u x1 x2 hu h0
      rw [hk.u_]
      rw [hk.k_ u x hu] at h0 ⊢
      split at h0
      · rename_i e
        rw [if_pos e, e.1]
        exact bu1 h0
      · rename_i e
        rw [if_neg e]
        exact hq1.up_ x u x1 x2 hu h0
    · intro x u x1 x2 hu
      rw [hk.k_ u x hu]
      split
      · exact bN
      · exact hq1.kN x u x1 x2 hu
    · intro x x1 x2; rw [hk.u_]; exact hq1.uN x x1 x2
    · intro x x1 x2
      rw [hk.y_]
      by_cases xj : x = j
      · subst xj; rw [sqj]; exact hm
      · rw [sqo x xj, hk.m_ x xj]; exact hq1.fi_ x x1 x2
    · intro x x1 x2
      by_cases xj : x = j
      · subst xj; rw [sqj]; exact ndN
      · rw [sqo x xj]; exact hq1.nd x x1 x2
  have nkj : ¬ Kid M2 j := fun ⟨h0, e⟩ => by
    rw [hk.u_] at h0 e
    have key : ∀ u, u < 2 → M2.k u (M1.up j) ≠ j := fun u hu e => by
      by_cases hj : M1.up j = j
      · rw [hj] at e
        rcases (show u = 0 ∨ u = 1 by omega) with rfl | rfl
        · rw [k2j0] at e; exact notj j 0 j1 j2 (by decide) e
        · rw [k2j1] at e; exact bj e
      · rw [k2o _ u hu hj] at e
        exact hs.nk ⟨h0, at01 (P := fun v => M1.k v (M1.up j) = j) hu e⟩
    rcases e with e | e
    · exact key 0 (by decide) e
    · exact key 1 (by decide) e
  refine ⟨⟨⟨hq2, fun x x1 x2 hx => ?_, h.l.ac⟩, by rw [hk.y_, hs.key, h.key], by rw [hk.u_]; exact hq1.uN j j1 j2, fun e => absurd e j0, fun _ => ⟨j2, nkj, rfl, ?_⟩, fun lab hc h0 => ?_, fun lab hc x hx => ?_⟩, ?_⟩
  · rw [hk.u_]
    by_cases xj : x = j
    · subst xj; rw [sqj]; exact cN
    · rw [sqo x xj]
      by_cases hxk : Kid M1 x
      · -- it was the right kid of j
        have ex : M1.up x = j := by
          refine Classical.byContradiction fun e => hx ⟨by rw [hk.u_]; exact hxk.1, ?_⟩
          rw [hk.u_, k2o _ 0 (by decide) e, k2o _ 1 (by decide) e]
          exact hxk.2
        have ek : M1.k 1 j = x := by
          rcases hxk.2 with e | e
          · rw [ex] at e
            exact absurd ⟨by rw [hk.u_, ex]; omega, .inl (by rw [hk.u_, ex, k2j0]; exact e)⟩ hx
          · rw [ex] at e; exact e
        rw [ex, ← ek]; exact cB
      · exact hl1.ch x x1 x2 hxk
  · rw [sqj]
    by_cases hb : below = 0
    · rw [hb, hq1.s0, h.b0 hb]; exact ⟨_, rfl⟩
    · obtain ⟨A, hA⟩ := (h.b1 hb).2.2.2
      rw [(bS hb).sq, hA]
      exact ⟨sq1 (M1.k 0 j) ++ j :: A, by simp⟩
  · rw [hk.u_] at h0 ⊢
    rw [← h.lb lab hc j0]
    exact (Chn.lab hc _ _ cN nzN h0 j (by simp)).symm
  · have xr : x ∉ sq r := fun hm => hx (by
      rw [← h.lb lab hc j0]
      exact Chn.lab2 hc (h.l.ch r r1 r2 hr) (fun y hy => by have := hq.rng r r1 r2 y hy; omega) x hm j hjr)
    have xj : x ≠ j := fun e => xr (e ▸ hjr)
    exact ((h.fr lab hc x hx).trans (hfr x xr)).trans ⟨fun u hu => k2o x u hu xj, by rw [hk.u_], by rw [hk.f_], hk.m_ x xj, sqo x xj⟩
  · rw [hk.u_]
    exact dN j (by simp)
/-- i is exposed: its path begins at the top of its tree and ends in it. -/
structure Exd (N : Nat) (M M' : LM) (sq sq' : Nat → List Nat) (par : Nat → Nat) (i : Nat) : Prop where
  l : Lct N M' par sq'
  key : M'.key = M.key
  nk : ¬ Kid M' i
  u0 : M'.up i = 0
  fl : M'.fl i = false
  en : ∃ A, sq' i = A ++ [i]
  fr : ∀ lab, Cst par lab → ∀ x, lab x ≠ lab i → Same M M' sq sq' x
theorem Exp.fin {N : Nat} {M0 M M1 : LM} {sq0 sq sq1 : Nat → List Nat} {par : Nat → Nat} {i below : Nat} (h : Exp N M0 M sq0 sq par i below 0) (i1 : 1 ≤ i) (hs : SplP N M M1 sq sq1 i) : Exd N M0 M1 sq0 sq1 par i := by
  obtain ⟨r, r1, r2, hr, hir, e1, e2, hfr⟩ := hs.at_
  have hb : below ≠ 0 := fun e => by have := h.b0 e; omega
  obtain ⟨b2, bk, bu, A, hA⟩ := h.b1 hb
  have hq := h.l.q
  have e : r = below := hq.root_eq r1 r2 (by omega) b2 hr bk i hir (by rw [hA]; simp)
  subst e
  refine ⟨h.l.roots hs.q hs.rt, by rw [hs.key, h.key], hs.nk, by rw [e2, bu], hs.fl, ⟨A, by rw [e1, hA]⟩, fun lab hc x hx => (h.fr lab hc x hx).trans (hfr x fun hm => hx ?_)⟩
  exact Chn.lab2 hc (h.l.ch r r1 r2 hr) (fun y hy => by have := hq.rng r r1 r2 y hy; omega) x hm i hir
end Go.Proofs.YtoomcgmbaogjbaaDoor
namespace Go.Proofs.YtoomcgmbaogjbaaDoor
set_option linter.unusedVariables false

/-- What stands ahead of x. -/
def prd : Nat → List Nat → Nat → Option Nat
  | _, [], _ => none
  | a, y :: l, x => if x = y then some a else prd y l x
/-- y stands behind x. -/
def Cns (l : List Nat) (x y : Nat) : Prop := ∃ A B, l = A ++ x :: y :: B
theorem prd_none {x : Nat} : ∀ (l : List Nat) (a : Nat), x ∉ l → prd a l x = none
  | [], _, _ => rfl
  | y :: l, a, h => by
    have h1 : x ≠ y := fun e => h (by simp [e])
    show (if x = y then some a else prd y l x) = none
    rw [if_neg h1]
    exact prd_none l y fun e => h (by simp [e])
theorem prd_cns {x z : Nat} : ∀ (l : List Nat) (a : Nat), prd a l x = some z → (z = a ∧ ∃ B, l = x :: B) ∨ Cns l z x
  | [], _, h => by cases h
  | y :: l, a, h => by
    change (if x = y then some a else prd y l x) = some z at h
    by_cases e : x = y
    · rw [if_pos e] at h
      exact .inl ⟨(Option.some.inj h).symm, l, by rw [e]⟩
    · rw [if_neg e] at h
      rcases prd_cns l y h with ⟨e1, B, e2⟩ | ⟨A, B, e2⟩
      · exact .inr ⟨[], B, by rw [e1, e2]; rfl⟩
      · exact .inr ⟨y :: A, B, by rw [e2]; rfl⟩
theorem cns_prd {x z : Nat} : ∀ (l : List Nat) (a : Nat), l.Nodup → Cns l z x → prd a l x = some z := by
  intro l
  induction l with
  | nil => rintro a - ⟨A, B, e⟩; cases A <;> cases e
  | cons y l ih =>
    rintro a hn ⟨A, B, e⟩
    have hn' := List.nodup_cons.1 hn
    cases A with
    | nil =>
      injection e with e1 e2
      subst e1
      have hx : x ≠ y := fun e3 => hn'.1 (by rw [e2, e3]; simp)
      show (if x = y then some a else prd y l x) = some y
      rw [if_neg hx, e2]
      show (if x = x then some y else _) = some y
      rw [if_pos rfl]
    | cons w A =>
      injection e with e1 e2
      have hx : x ≠ y := fun e3 => hn'.1 (by rw [e2, e3]; simp)
      show (if x = y then some a else prd y l x) = some z
      rw [if_neg hx]
      exact ih y hn'.2 ⟨A, B, e2⟩
theorem Cns.mem {l : List Nat} {x y : Nat} (h : Cns l x y) : x ∈ l ∧ y ∈ l := by
  obtain ⟨A, B, rfl⟩ := h
  simp
theorem Cns.rev {l : List Nat} {x y : Nat} (h : Cns l x y) : Cns l.reverse y x := by
  obtain ⟨A, B, rfl⟩ := h
  exact ⟨B.reverse, A.reverse, by simp⟩
theorem Cns.rev_iff {l : List Nat} {x y : Nat} : Cns l.reverse y x ↔ Cns l x y := ⟨fun h => by have := h.rev; rwa [List.reverse_reverse] at this, fun h => h.rev⟩
theorem chn_prd {par : Nat → Nat} : ∀ (l : List Nat) (a : Nat), Chn par a l → l.Nodup → ∀ x ∈ l, prd a l x = some (par x)
  | [], _, _, _, x, hx => by cases hx
  | y :: l, a, h, hn, x, hx => by
    have hn' := List.nodup_cons.1 hn
    show (if x = y then some a else prd y l x) = some (par x)
    by_cases e : x = y
    · rw [if_pos e, e, h.1]
    · rw [if_neg e]
      refine chn_prd l y h.2 hn'.2 x ?_
      rcases List.mem_cons.1 hx with e2 | e2
      · exact absurd e2 e
      · exact e2
theorem prd_chn {f : Nat → Nat} : ∀ (l : List Nat) (a : Nat), l.Nodup → (∀ x ∈ l, prd a l x = some (f x)) → Chn f a l
  | [], _, _, _ => trivial
  | y :: l, a, hn, h => by
    have hn' := List.nodup_cons.1 hn
    have h1 := h y (by simp)
    change (if y = y then some a else prd y l y) = some (f y) at h1
    rw [if_pos rfl] at h1
    refine ⟨(Option.some.inj h1).symm, prd_chn l y hn'.2 fun x hx => ?_⟩
    have h2 := h x (by simp [hx])
    change (if x = y then some a else prd y l x) = some (f x) at h2
    rwa [if_neg (fun e => hn'.1 (by rw [← e]; exact hx))] at h2
theorem chn_cns {par : Nat → Nat} {l : List Nat} {a x y : Nat} (h : Chn par a l) (hc : Cns l x y) : par y = x := by
  obtain ⟨A, B, rfl⟩ := hc
  exact ((Chn.split A a x (y :: B)).1 h).2.1
theorem cns_chn {par : Nat → Nat} {l : List Nat} {x y : Nat} (h : Chn par 0 l) (hn : l.Nodup) (hy : y ∈ l) (e : par y = x) (hx : x ≠ 0) : Cns l x y := by
  have := chn_prd l 0 h hn y hy
  rw [e] at this
  rcases prd_cns l 0 this with ⟨e1, -⟩ | h2
  · exact absurd e1 hx
  · exact h2
/-- The tree with another top: the list m goes down from it. -/
noncomputable def evp (par : Nat → Nat) (m : List Nat) : Nat → Nat := fun x => (prd 0 m x).getD (par x)
/-- Two nodes are next to each other. -/
def Adj (par : Nat → Nat) (x y : Nat) : Prop := x ≠ 0 ∧ y ≠ 0 ∧ (par x = y ∨ par y = x)
theorem cst_adj {par lab : Nat → Nat} (h0 : par 0 = 0) : Cst par lab ↔ ∀ x y, Adj par x y → lab x = lab y := by
  refine ⟨fun h x y ⟨x0, y0, e⟩ => ?_, fun h x hx => ?_⟩
  · rcases e with e | e
    · rw [← e] at y0 ⊢; exact (h x y0).symm
    · rw [← e] at x0 ⊢; exact h y x0
  · have x0 : x ≠ 0 := fun e => hx (by rw [e]; exact h0)
    exact (h x (par x) ⟨x0, hx, .inl rfl⟩).symm
section
variable {par : Nat → Nat} {l : List Nat}
theorem evp_out {m : List Nat} {x : Nat} (h : x ∉ m) : evp par m x = par x := by unfold evp; rw [prd_none m 0 h]; rfl
theorem evp_chn {m : List Nat} (hn : m.Nodup) : Chn (evp par m) 0 m := prd_chn m 0 hn fun x hx => by
  unfold evp
  have key : ∀ (m : List Nat) (a : Nat), x ∈ m → ∃ z, prd a m x = some z := by
    intro m
    induction m with
    | nil => intro a h; cases h
    | cons y l ih =>
      intro a h
      show ∃ z, (if x = y then some a else prd y l x) = some z
      by_cases e : x = y
      · exact ⟨a, if_pos e⟩
      · rw [if_neg e]
        rcases List.mem_cons.1 h with e2 | e2
        · exact absurd e2 e
        · exact ih y e2
  obtain ⟨z, hz⟩ := key m 0 hx
  rw [hz]; rfl
theorem evp_at (hc : Chn par 0 l) (hn : l.Nodup) {x y : Nat} (hx : x ∈ l) (y0 : y ≠ 0) : evp par l.reverse x = y ↔ Cns l x y := by
  have hn' : l.reverse.Nodup := (List.reverse_perm l).nodup_iff.2 hn
  refine ⟨fun e => Cns.rev_iff.1 (cns_chn (evp_chn hn') hn' (by simpa using hx) e y0), fun h => chn_cns (evp_chn hn') (Cns.rev_iff.2 h)⟩
theorem evp_adj (hc : Chn par 0 l) (hn : l.Nodup) (x y : Nat) : Adj (evp par l.reverse) x y ↔ Adj par x y := by
  have half : ∀ x y, x ≠ 0 → y ≠ 0 → (evp par l.reverse x = y ↔ (x ∈ l ∧ y ∈ l ∧ par y = x) ∨ (x ∉ l ∧ par x = y)) := fun x y x0 y0 => by
    by_cases hx : x ∈ l
    · rw [evp_at hc hn hx y0]
      refine ⟨fun h => .inl ⟨hx, h.mem.2, chn_cns hc h⟩, fun h => ?_⟩
      rcases h with ⟨-, hy, e⟩ | ⟨h, -⟩
      · exact cns_chn hc hn hy e x0
      · exact absurd hx h
    · rw [evp_out (by simpa using hx)]
      refine ⟨fun h => .inr ⟨hx, h⟩, fun h => ?_⟩
      rcases h with ⟨h, -⟩ | ⟨-, h⟩
      · exact absurd h hx
      · exact h
  unfold Adj
  refine and_congr_right fun x0 => and_congr_right fun y0 => ?_
  rw [half x y x0 y0, half y x y0 x0]
  constructor
  · rintro ((⟨-, -, e⟩ | ⟨-, e⟩) | (⟨-, -, e⟩ | ⟨-, e⟩))
    · exact .inr e
    · exact .inl e
    · exact .inl e
    · exact .inr e
  · rintro (e | e)
    · by_cases hx : x ∈ l
      · exact .inr (.inl ⟨(cns_chn hc hn hx e y0).mem.1, hx, e⟩)
      · exact .inl (.inr ⟨hx, e⟩)
    · by_cases hy : y ∈ l
      · exact .inl (.inl ⟨(cns_chn hc hn hy e x0).mem.1, hy, e⟩)
      · exact .inr (.inr ⟨hy, e⟩)
end
theorem itr_end {f : Nat → Nat} : ∀ (l : List Nat) (a : Nat), Chn f a l → (∃ n, itr f n a = 0) → ∀ x ∈ l, ∃ n, itr f n x = 0
  | [], _, _, _, x, hx => by cases hx
  | y :: l, a, h, ⟨n, hn⟩, x, hx => by
    have hy : ∃ n, itr f n y = 0 := ⟨n + 1, by show itr f n (f y) = 0; rw [h.1]; exact hn⟩
    rcases List.mem_cons.1 hx with rfl | hx
    · exact hy
    · exact itr_end l y h.2 hy x hx
theorem itr_zero {f : Nat → Nat} (h : f 0 = 0) : ∀ n, itr f n 0 = 0
  | 0 => rfl
  | n + 1 => by show itr f n (f 0) = 0; rw [h]; exact itr_zero h n
theorem evp_acy {par : Nat → Nat} {l : List Nat} (ha : Acy par) (hn : l.Nodup) (h0 : ∀ x ∈ l, x ≠ 0) : Acy (evp par l.reverse) := by
  have z0 : (0 : Nat) ∉ l.reverse := fun h => h0 0 (by simpa using h) rfl
  have e0 : evp par l.reverse 0 = 0 := by rw [evp_out z0]; exact ha.1
  refine ⟨e0, ?_⟩
  have hn' : l.reverse.Nodup := (List.reverse_perm l).nodup_iff.2 hn
  have hin := itr_end l.reverse 0 (evp_chn (par := par) hn') ⟨0, rfl⟩
  obtain ⟨d, hd⟩ := ha.dep
  have key : ∀ n x, d x ≤ n → ∃ m, itr (evp par l.reverse) m x = 0 := by
    intro n
    induction n with
    | zero =>
      intro x hx
      by_cases x0 : x = 0
      · exact ⟨0, x0⟩
      · have := hd.dp x x0; omega
    | succ n ih =>
      intro x hx
      by_cases x0 : x = 0
      · exact ⟨0, x0⟩
      · by_cases hm : x ∈ l.reverse
        · exact hin x hm
        · have := hd.dp x x0
          obtain ⟨m, hm2⟩ := ih (par x) (by omega)
          exact ⟨m + 1, by show itr _ m (evp par l.reverse x) = 0; rw [evp_out hm]; exact hm2⟩
  exact fun x => key _ x (Nat.le_refl _)
theorem Chn.congr {f g : Nat → Nat} : ∀ (l : List Nat) (a : Nat), (∀ x ∈ l, f x = g x) → (Chn f a l ↔ Chn g a l)
  | [], _, _ => Iff.rfl
  | y :: l, a, h => by
    show f y = a ∧ Chn f y l ↔ g y = a ∧ Chn g y l
    rw [h y (by simp), Chn.congr l y fun x hx => h x (by simp [hx])]

/-- i's reversal is pending. -/
structure Flp (M M' : LM) (i : Nat) : Prop where
  k_ : ∀ u x, u < 2 → M'.k u x = M.k u x
  u_ : M'.up = M.up
  f_ : ∀ x, M'.fl x = if x = i then true else M.fl x
  y_ : M'.key = M.key
  m_ : M'.fi = M.fi
def sqF (sq : Nat → List Nat) (i : Nat) : Nat → List Nat := fun x => if x = i then (sq i).reverse else sq x
theorem Flp.kid {M M' : LM} {i : Nat} (h : Flp M M' i) (x : Nat) : Kid M' x ↔ Kid M x := by
  unfold Kid
  rw [h.u_, h.k_ 0 _ (by decide), h.k_ 1 _ (by decide)]
/-- i leads its tree. -/
theorem lead_law {N : Nat} {M M' : LM} {par : Nat → Nat} {sq : Nat → List Nat} {i : Nat} {A : List Nat} (h : Lct N M par sq) (i1 : 1 ≤ i) (i2 : i ≤ N) (hk : ¬ Kid M i) (hu : M.up i = 0) (hf : M.fl i = false) (he : sq i = A ++ [i]) (hF : Flp M M' i) :
    Lct N M' (evp par (sq i).reverse) (sqF sq i) ∧ ¬ Kid M' i ∧ M'.up i = 0 ∧ sqF sq i i = i :: A.reverse ∧ evp par (sq i).reverse i = 0 ∧ ∀ x y, Adj (evp par (sq i).reverse) x y ↔ Adj par x y := by
  have hq := h.q
  have nz : ∀ x ∈ sq i, x ≠ 0 := fun x hx => by have := hq.rng i i1 i2 x hx; omega
  have hc := h.ch i i1 i2 hk
  rw [hu] at hc
  have hn := hq.nd i i1 i2
  have hn' : (sq i).reverse.Nodup := (List.reverse_perm _).nodup_iff.2 hn
  have sqi : sqF sq i i = (sq i).reverse := if_pos rfl
  have sqo : ∀ x, x ≠ i → sqF sq i x = sq x := fun x e => if_neg e
  have noti : ∀ x u, 1 ≤ x → x ≤ N → u < 2 → M.k u x ≠ i := fun x u x1 x2 hu2 e => by
    have := hq.up_ x u x1 x2 hu2 (by omega)
    rw [e, hu] at this
    omega
  have hq' : Sq N M' (sqF sq i) := by
    refine ⟨?_, ?_, ?_, ?_, ?_, ?_, ?_⟩
    · rw [sqo 0 (by omega)]; exact hq.s0
    · intro x x1 x2
      rw [hF.f_, hF.k_ 0 x (by decide), hF.k_ 1 x (by decide), sqo _ (noti x 0 x1 x2 (by decide)), sqo _ (noti x 1 x1 x2 (by decide))]
      have hx := hq.sx x x1 x2
      by_cases e : x = i
      · subst e
        rw [sqi, if_pos rfl, hx, hf]; rfl
      · rw [sqo x e, if_neg e]; exact hx
    · intro x u x1 x2 hu2 h0
      rw [hF.k_ u x hu2] at h0 ⊢
      rw [hF.u_]; exact hq.up_ x u x1 x2 hu2 h0
    · intro x u x1 x2 hu2; rw [hF.k_ u x hu2]; exact hq.kN x u x1 x2 hu2
    · intro x x1 x2; rw [hF.u_]; exact hq.uN x x1 x2
    · intro x x1 x2
      rw [hF.y_, hF.m_]
      by_cases e : x = i
      · subst e
        rw [sqi]
        obtain ⟨a, b⟩ := hq.fi_ x x1 x2
        exact ⟨by simpa using a, fun y hy => b y (by simpa using hy)⟩
      · rw [sqo x e]; exact hq.fi_ x x1 x2
    · intro x x1 x2
      by_cases e : x = i
      · subst e; rw [sqi]; exact hn'
      · rw [sqo x e]; exact hq.nd x x1 x2
  refine ⟨⟨hq', fun r r1 r2 hr => ?_, evp_acy h.ac hn nz⟩, fun e => hk ((hF.kid i).1 e), by rw [hF.u_, hu], by rw [sqi, he]; simp, ?_, evp_adj hc hn⟩
  · rw [hF.u_]
    have hr' : ¬ Kid M r := fun e => hr ((hF.kid r).2 e)
    by_cases e : r = i
    · subst e; rw [sqi, hu]; exact evp_chn hn'
    · rw [sqo r e]
      refine (Chn.congr _ _ fun x hx => evp_out fun hm => e ?_).2 (h.ch r r1 r2 hr')
      exact hq.root_eq r1 r2 i1 i2 hr' hk x hx (by simpa using hm)
  · have := evp_chn (par := par) hn'
    rw [he] at this ⊢
    rw [List.reverse_append] at this ⊢
    exact this.1
theorem itr_chn {f : Nat → Nat} : ∀ (l : List Nat) (a z : Nat), Chn f a l → (∃ n, itr f n a = z) → ∀ x ∈ l, ∃ n, itr f n x = z
  | [], _, _, _, _, x, hx => by cases hx
  | y :: l, a, z, h, ⟨n, hn⟩, x, hx => by
    have hy : ∃ n, itr f n y = z := ⟨n + 1, by show itr f n (f y) = z; rw [h.1]; exact hn⟩
    rcases List.mem_cons.1 hx with rfl | hx
    · exact hy
    · exact itr_chn l y z h.2 hy x hx
theorem itr_in {f : Nat → Nat} (h0 : f 0 = 0) {l : List Nat} (h : Chn f 0 l) (hn : l.Nodup) : ∀ n x, x ∈ l → itr f n x = 0 ∨ itr f n x ∈ l
  | 0, x, hx => .inr hx
  | n + 1, x, hx => by
    show itr f n (f x) = 0 ∨ itr f n (f x) ∈ l
    by_cases e : f x = 0
    · rw [e]; exact .inl (itr_zero h0 n)
    · exact itr_in h0 h hn n (f x) (cns_chn h hn hx rfl e).mem.1
/-- A label: whether a node lies below z. -/
noncomputable def blw (f : Nat → Nat) (z : Nat) : Nat → Nat := fun x => by
  classical
  exact if ∃ n, itr f n x = z then 1 else 0
theorem blw_one {f : Nat → Nat} {z x : Nat} : blw f z x = 1 ↔ ∃ n, itr f n x = z := by
  unfold blw
  split
  · rename_i h; exact ⟨fun _ => h, fun _ => rfl⟩
  · rename_i h; exact ⟨(fun e => by cases e), fun e => absurd e h⟩
theorem blw_zero {f : Nat → Nat} {z x : Nat} (h : ¬ ∃ n, itr f n x = z) : blw f z x = 0 := by
  unfold blw
  split
  · rename_i e; exact absurd e h
  · rfl
theorem blw_cst {f : Nat → Nat} {z : Nat} (hz : f z = 0) : Cst f (blw f z) := fun x hx => by
  have : (∃ n, itr f n (f x) = z) ↔ ∃ n, itr f n x = z := by
    refine ⟨fun ⟨n, h⟩ => ⟨n + 1, h⟩, fun ⟨n, h⟩ => ?_⟩
    cases n with
    | zero => exact absurd (by change x = z at h; rw [h]; exact hz) hx
    | succ n => exact ⟨n, h⟩
  by_cases e : ∃ n, itr f n x = z
  · rw [blw_one.2 (this.2 e), blw_one.2 e]
  · rw [blw_zero (fun h => e (this.1 h)), blw_zero e]
/-- Of two connected nodes, one of which is exposed, the other has something above it. -/
theorem conn_up {N : Nat} {M : LM} {par : Nat → Nat} {sq : Nat → List Nat} {a b : Nat} (h : Lct N M par sq) (a1 : 1 ≤ a) (a2 : a ≤ N) (b1 : 1 ≤ b) (b2 : b ≤ N) (hab : a ≠ b) (hk : ¬ Kid M b) (hu : M.up b = 0) (hc : ∀ lab, Cst par lab → lab a = lab b) : M.up a ≠ 0 := fun ha => by
  have hka : ¬ Kid M a := fun e => e.1 ha
  have hq := h.q
  have ca := h.ch a a1 a2 hka
  have cb := h.ch b b1 b2 hk
  rw [ha] at ca
  rw [hu] at cb
  have ma := hq.self a1 a2
  cases hs : sq a with
  | nil => rw [hs] at ma; cases ma
  | cons z l =>
    rw [hs] at ca
    have hz0 : par z = 0 := ca.1
    have zz : z ≠ 0 := by have := hq.rng a a1 a2 z (by rw [hs]; simp); omega
    have h1 : blw par z a = 1 := blw_one.2 (by
      rw [hs] at ma
      rcases List.mem_cons.1 ma with e | e
      · exact ⟨0, e⟩
      · exact itr_chn l z z ca.2 ⟨0, rfl⟩ a e)
    rw [hc _ (blw_cst hz0)] at h1
    obtain ⟨n, hn⟩ := blw_one.1 h1
    rcases itr_in h.ac.1 cb (hq.nd b b1 b2) n b (hq.self b1 b2) with e | e
    · omega
    · rw [hn] at e
      exact hab (hq.root_eq a1 a2 b1 b2 hka hk z (by rw [hs]; simp) e)
/-- The path from a, which leads its tree, to b, which is exposed. -/
theorem path_law {N : Nat} {M : LM} {par : Nat → Nat} {sq : Nat → List Nat} {a b : Nat} {A : List Nat} (h : Lct N M par sq) (a1 : 1 ≤ a) (b1 : 1 ≤ b) (b2 : b ≤ N) (ha : par a = 0) (hk : ¬ Kid M b) (hu : M.up b = 0) (he : sq b = A ++ [b]) (hc : ∀ lab, Cst par lab → lab a = lab b) :
    (∃ T, sq b = a :: T) ∧ (sq b).Nodup ∧ (∀ x y, Cns (sq b) x y → Adj par x y) ∧ Fst M.key (M.fi b) (sq b) := by
  have hq := h.q
  have cb := h.ch b b1 b2 hk
  rw [hu] at cb
  have mb := hq.self b1 b2
  refine ⟨?_, hq.nd b b1 b2, fun x y hxy => ?_, hq.fi_ b b1 b2⟩
  · cases hs : sq b with
    | nil => rw [hs] at mb; cases mb
    | cons z l =>
      rw [hs] at cb
      have hz0 : par z = 0 := cb.1
      have zz : z ≠ 0 := by have := hq.rng b b1 b2 z (by rw [hs]; simp); omega
      have h1 : blw par z b = 1 := blw_one.2 (by
        rw [hs] at mb
        rcases List.mem_cons.1 mb with e | e
        · exact ⟨0, e⟩
        · exact itr_chn l z z cb.2 ⟨0, rfl⟩ b e)
      rw [← hc _ (blw_cst hz0)] at h1
      obtain ⟨n, hn⟩ := blw_one.1 h1
      cases n with
      | zero => exact ⟨l, by change a = z at hn; rw [hn]⟩
      | succ n =>
        exfalso
        change itr par n (par a) = z at hn
        rw [ha, itr_zero h.ac.1] at hn
        exact zz hn.symm
  · have h1 := hxy.mem
    exact ⟨by have := hq.rng b b1 b2 x h1.1; omega, by have := hq.rng b b1 b2 y h1.2; omega, .inr (chn_cns cb hxy)⟩
/-- a hangs below b. -/
structure Lnk (M M' : LM) (a b : Nat) : Prop where
  k_ : ∀ u x, u < 2 → M'.k u x = M.k u x
  u_ : ∀ x, M'.up x = if x = a then b else M.up x
  f_ : M'.fl = M.fl
  y_ : M'.key = M.key
  m_ : ∀ x, x ≠ b → M'.fi x = M.fi x
theorem link_law {N : Nat} {M M' : LM} {par : Nat → Nat} {sq : Nat → List Nat} {a b : Nat} {T : List Nat} {lab : Nat → Nat} (h : Lct N M par sq) (a1 : 1 ≤ a) (a2 : a ≤ N) (b1 : 1 ≤ b) (b2 : b ≤ N) (ha : par a = 0) (hu : M.up a = 0) (he : sq a = a :: T) (hc : Cst par lab) (hl : lab a ≠ lab b) (hL : Lnk M M' a b) (hm : Fst M.key (M'.fi b) (sq b)) :
    Lct N M' (upd par a b) sq ∧ ∀ x y, Adj (upd par a b) x y ↔ (Adj par x y ∨ (x = a ∧ y = b) ∨ (x = b ∧ y = a)) := by
  have hq := h.q
  have hka : ¬ Kid M a := fun e => e.1 hu
  have nota : ∀ x u, 1 ≤ x → x ≤ N → u < 2 → M.k u x ≠ a := fun x u x1 x2 hu2 e => by
    have := hq.up_ x u x1 x2 hu2 (by omega)
    rw [e, hu] at this
    omega
  have hq' : Sq N M' sq := by
    refine ⟨hq.s0, ?_, ?_, ?_, ?_, ?_, hq.nd⟩
    · intro x x1 x2
      rw [hL.f_, hL.k_ 0 x (by decide), hL.k_ 1 x (by decide)]; exact hq.sx x x1 x2
    · intro x u x1 x2 hu2 h0
      rw [hL.k_ u x hu2] at h0 ⊢
      rw [hL.u_, if_neg (nota x u x1 x2 hu2)]; exact hq.up_ x u x1 x2 hu2 h0
    · intro x u x1 x2 hu2; rw [hL.k_ u x hu2]; exact hq.kN x u x1 x2 hu2
    · intro x x1 x2
      rw [hL.u_]
      split
      · exact b2
      · exact hq.uN x x1 x2
    · intro x x1 x2
      rw [hL.y_]
      by_cases e : x = b
      · subst e; exact hm
      · rw [hL.m_ x e]; exact hq.fi_ x x1 x2
  have kid_ : ∀ r, 1 ≤ r → r ≤ N → r ≠ a → (Kid M' r ↔ Kid M r) := fun r r1 r2 e => by
    unfold Kid
    rw [hL.u_, if_neg e, hL.k_ 0 _ (by decide), hL.k_ 1 _ (by decide)]
  refine ⟨⟨hq', fun r r1 r2 hr => ?_, ?_⟩, fun x y => ?_⟩
  · rw [hL.u_]
    by_cases e : r = a
    · subst e
      rw [if_pos rfl]
      have hn := hq.nd r r1 r2
      have c := h.ch r r1 r2 hka
      rw [he] at c hn ⊢
      refine ⟨by unfold upd; rw [if_pos rfl], (Chn.congr _ _ fun x hx => ?_).2 c.2⟩
      exact upd_other _ _ fun e2 => (List.nodup_cons.1 hn).1 (by rw [← e2]; exact hx)
    · rw [if_neg e]
      have hr' : ¬ Kid M r := fun e2 => hr ((kid_ r r1 r2 e).2 e2)
      refine (Chn.congr _ _ fun x hx => ?_).2 (h.ch r r1 r2 hr')
      unfold upd
      refine if_neg fun e2 => e ?_
      subst e2
      exact hq.root_eq r1 r2 a1 a2 hr' hka x hx (hq.self a1 a2)
  · have z0 : upd par a b 0 = 0 := by unfold upd; rw [if_neg (by omega)]; exact h.ac.1
    refine ⟨z0, ?_⟩
    -- from b the way does not pass a
    have hb : ∀ n x, lab x = lab b → x ≠ 0 → itr par n x = 0 → ∃ m, itr (upd par a b) m x = 0 := by
      intro n
      induction n with
      | zero => intro x _ x0 e; exact absurd e x0
      | succ n ih =>
        intro x hx x0 e
        have xa : x ≠ a := fun e2 => hl (by rw [← e2]; exact hx)
        have e1 : upd par a b x = par x := if_neg xa
        by_cases p0 : par x = 0
        · exact ⟨1, by show upd par a b x = 0; rw [e1, p0]⟩
        · obtain ⟨m, hm⟩ := ih (par x) (by rw [hc x p0]; exact hx) p0 e
          exact ⟨m + 1, by show itr _ m (upd par a b x) = 0; rw [e1]; exact hm⟩
    obtain ⟨n, hn⟩ := h.ac.2 b
    obtain ⟨m0, hm0⟩ := hb n b rfl (by omega) hn
    obtain ⟨d, hd⟩ := h.ac.dep
    have key : ∀ n x, d x ≤ n → ∃ m, itr (upd par a b) m x = 0 := by
      intro n
      induction n with
      | zero =>
        intro x hx
        by_cases x0 : x = 0
        · exact ⟨0, x0⟩
        · have := hd.dp x x0; omega
      | succ n ih =>
        intro x hx
        by_cases x0 : x = 0
        · exact ⟨0, x0⟩
        · by_cases xa : x = a
          · exact ⟨m0 + 1, by show itr _ m0 (upd par a b x) = 0; unfold upd; rw [if_pos xa]; exact hm0⟩
          · have := hd.dp x x0
            obtain ⟨m, hm⟩ := ih (par x) (by omega)
            exact ⟨m + 1, by show itr _ m (upd par a b x) = 0; rw [show upd par a b x = par x from if_neg xa]; exact hm⟩
    exact fun x => key _ x (Nat.le_refl _)
  · unfold Adj
    have half : ∀ x y, x ≠ 0 → y ≠ 0 → (upd par a b x = y ↔ par x = y ∨ (x = a ∧ y = b)) := fun x y x0 y0 => by
      unfold upd
      by_cases e : x = a
      · rw [if_pos e]
        refine ⟨fun h => .inr ⟨e, h.symm⟩, fun h => ?_⟩
        rcases h with h | h
        · rw [e, ha] at h; exact absurd h.symm y0
        · exact h.2.symm
      · rw [if_neg e]
        exact ⟨fun h => .inl h, fun h => h.elim id fun h => absurd h.1 e⟩
    constructor
    · rintro ⟨x0, y0, e⟩
      rw [half x y x0 y0, half y x y0 x0] at e
      rcases e with (e | e) | (e | e)
      · exact .inl ⟨x0, y0, .inl e⟩
      · exact .inr (.inl e)
      · exact .inl ⟨x0, y0, .inr e⟩
      · exact .inr (.inr ⟨e.2, e.1⟩)
    · rintro (⟨x0, y0, e⟩ | ⟨rfl, rfl⟩ | ⟨rfl, rfl⟩)
      · refine ⟨x0, y0, ?_⟩
        rw [half x y x0 y0, half y x y0 x0]
        exact e.imp .inl .inl
      · refine ⟨by omega, by omega, .inl ?_⟩
        unfold upd; rw [if_pos rfl]
      · refine ⟨by omega, by omega, .inr ?_⟩
        unfold upd; rw [if_pos rfl]
end Go.Proofs.YtoomcgmbaogjbaaDoor
