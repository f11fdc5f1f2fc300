/- plain: the picks as edges of a link-cut forest; what is least on a path between two vertices. -/
import Derived.Test.YtoomcgmbaogjbaaDoorPthL
import Derived.Test.YtoomcgmbaogjbaaDoorLctU
namespace Go.Proofs.YtoomcgmbaogjbaaDoor
set_option linter.unusedVariables false

theorem LfE.congr {w : Go.World} {p : LLoc} {N : Nat} {M : LM} {E E' : Nat → Nat → Prop} (h : LfE w p N M E) (e : ∀ x y, E x y ↔ E' x y) : LfE w p N M E' := by
  obtain ⟨h1, par, sq, h2, h3⟩ := h
  exact ⟨h1, par, sq, h2, fun x y => (h3 x y).trans (e x y)⟩
section
variable {n : Nat} {l : List (Int × Int × Int)} {P : List Nat}
/-- The edges of the picks: a pick is a vertex, between the two that it joins. -/
def EK (l : List (Int × Int × Int)) (P : List Nat) (x y : Nat) : Prop := ∃ i ∈ P, (x = l.length + eU l i + 1 ∧ y = i + 1) ∨ (x = i + 1 ∧ y = l.length + eU l i + 1) ∨ (x = i + 1 ∧ y = l.length + eV l i + 1) ∨ (x = l.length + eV l i + 1 ∧ y = i + 1)
theorem EK_nil (x y : Nat) : (fun _ _ => False) x y ↔ EK l [] x y := ⟨fun h => h.elim, fun ⟨i, h, _⟩ => by cases h⟩
theorem EK_snoc (i x y : Nat) : addE (addE (EK l P) (l.length + eU l i + 1) (i + 1)) (i + 1) (l.length + eV l i + 1) x y ↔ EK l (P ++ [i]) x y := by
  unfold addE EK
  constructor
  · rintro ((⟨j, hj, h⟩ | h) | h)
    · exact ⟨j, by simp [hj], h⟩
    · refine ⟨i, by simp, ?_⟩
      rcases h with h | h
      · exact .inl h
      · exact .inr (.inl h)
    · refine ⟨i, by simp, ?_⟩
      rcases h with h | h
      · exact .inr (.inr (.inl h))
      · exact .inr (.inr (.inr h))
  · rintro ⟨j, hj, h⟩
    rcases List.mem_append.1 hj with hj | hj
    · exact .inl (.inl ⟨j, hj, h⟩)
    · obtain rfl : j = i := by simpa using hj
      rcases h with h | h | h | h
      · exact .inl (.inr (.inl h))
      · exact .inl (.inr (.inr h))
      · exact .inr (.inl h)
      · exact .inr (.inr h)
/-- The labels of all nodes. -/
def lbN (l : List (Int × Int × Int)) (P : List Nat) (x : Nat) : Nat := if x ≤ l.length then pL l P (eU l (x - 1)) else pL l P (x - l.length - 1)
theorem lbN_vert (w : Nat) : lbN l P (l.length + w + 1) = pL l P w := by unfold lbN; rw [if_neg (by omega)]; congr 1; omega
theorem lbN_edge {i : Nat} (h : i < l.length) : lbN l P (i + 1) = pL l P (eU l i) := by unfold lbN; rw [if_pos (by omega)]; rfl
theorem pL_in {i : Nat} (hi : i ∈ P) : pL l P (eU l i) = pL l P (eV l i) := by
  obtain ⟨t, ht, rfl⟩ := List.getElem_of_mem hi
  have h : pL l (P.take (t + 1)) (eU l P[t]) = pL l (P.take (t + 1)) (eV l P[t]) := by
    rw [pL_take ht, merge_eq]
    exact .inr ⟨.inl rfl, .inr rfl⟩
  have := pL_mono (l := l) (P := P) (s := t + 1) P.length (by omega) h
  rwa [List.take_length] at this
theorem lbN_ek (hP : ∀ i ∈ P, i < l.length) : ELab (EK l P) (lbN l P) := by
  rintro x y ⟨i, hi, h⟩
  have h1 := lbN_edge (P := P) (hP i hi)
  have h2 := pL_in (l := l) hi
  rcases h with ⟨rfl, rfl⟩ | ⟨rfl, rfl⟩ | ⟨rfl, rfl⟩ | ⟨rfl, rfl⟩
  · rw [lbN_vert, h1]
  · rw [lbN_vert, h1]
  · rw [lbN_vert, h1, h2]
  · rw [lbN_vert, h1, h2]
/-- The two links of a pick are between trees. -/
theorem ek_one {i : Nat} (hP : ∀ i ∈ P, i < l.length) (hi : i < l.length) (hn : i ∉ P) : ∃ lab, ELab (EK l P) lab ∧ lab (l.length + eU l i + 1) ≠ lab (i + 1) := by
  refine ⟨fun x => if x = i + 1 then 1 else 0, ?_, ?_⟩
  · rintro x y ⟨j, hj, h⟩
    have hji : j ≠ i := fun e => hn (e ▸ hj)
    have := hP j hj
    have hx : x ≠ i + 1 := by omega
    have hy : y ≠ i + 1 := by omega
    show (if x = i + 1 then 1 else 0) = (if y = i + 1 then 1 else 0)
    rw [if_neg hx, if_neg hy]
  · show (if l.length + eU l i + 1 = i + 1 then 1 else 0) ≠ (if i + 1 = i + 1 then 1 else 0)
    rw [if_neg (by omega), if_pos rfl]; omega
theorem ek_two {i : Nat} (hP : ∀ i ∈ P, i < l.length) (hi : i < l.length) (hd : pL l P (eU l i) ≠ pL l P (eV l i)) : ∃ lab, ELab (addE (EK l P) (l.length + eU l i + 1) (i + 1)) lab ∧ lab (i + 1) ≠ lab (l.length + eV l i + 1) := by
  refine ⟨lbN l P, ?_, ?_⟩
  · rintro x y (h | ⟨rfl, rfl⟩ | ⟨rfl, rfl⟩)
    · exact lbN_ek hP x y h
    · rw [lbN_vert, lbN_edge hi]
    · rw [lbN_vert, lbN_edge hi]
  · rw [lbN_vert, lbN_edge hi]; exact hd
theorem ek_no {u v : Nat} (hP : ∀ i ∈ P, i < l.length) (h : pL l P u ≠ pL l P v) : ∃ lab, ELab (EK l P) lab ∧ lab (l.length + u + 1) ≠ lab (l.length + v + 1) :=
  ⟨lbN l P, lbN_ek hP, by rw [lbN_vert, lbN_vert]; exact h⟩
theorem ek_yes (P : List Nat) : ∀ u v, pL l P u = pL l P v → ∀ lab, ELab (EK l P) lab → lab (l.length + u + 1) = lab (l.length + v + 1) := by
  refine list_snoc (p := fun P => ∀ u v, pL l P u = pL l P v → ∀ lab, ELab (EK l P) lab → lab (l.length + u + 1) = lab (l.length + v + 1)) (fun u v h lab _ => ?_) (fun P i ih u v h lab hl => ?_) P
  · rw [pL_nil] at h
    obtain rfl : u = v := h
    rfl
  · have hl' : ELab (EK l P) lab := fun x y ⟨j, hj, h⟩ => hl x y ⟨j, by simp [hj], h⟩
    have e1 : lab (l.length + eU l i + 1) = lab (i + 1) := hl _ _ ⟨i, by simp, .inl ⟨rfl, rfl⟩⟩
    have e2 : lab (i + 1) = lab (l.length + eV l i + 1) := hl _ _ ⟨i, by simp, .inr (.inr (.inl ⟨rfl, rfl⟩))⟩
    rw [pL_snoc, merge_eq] at h
    rcases h with h | ⟨h1, h2⟩
    · exact ih u v h lab hl'
    · rcases h1 with h1 | h1 <;> rcases h2 with h2 | h2
      · rw [ih u _ h1 lab hl', ih v _ h2 lab hl']
      · rw [ih u _ h1 lab hl', ih v _ h2 lab hl', e1, e2]
      · rw [ih u _ h1 lab hl', ih v _ h2 lab hl', e1, e2]
      · rw [ih u _ h1 lab hl', ih v _ h2 lab hl']
theorem cns_const {lab : Nat → Nat} : ∀ (A : List Nat) (a : Nat), (∀ x y, Cns (a :: A) x y → lab x = lab y) → ∀ x ∈ a :: A, lab x = lab a := by
  intro A
  induction A with
  | nil => intro a _ x hx; obtain rfl : x = a := by simpa using hx
           rfl
  | cons b A ih =>
    intro a h x hx
    rcases List.mem_cons.1 hx with rfl | hx
    · rfl
    · rw [ih b (fun x y ⟨C, D, e⟩ => h x y ⟨a :: C, D, by rw [e]; rfl⟩) x hx]
      exact (h a b ⟨[], A, rfl⟩).symm
theorem max_of {Q : Nat → Prop} : ∀ N, (∃ s, s < N ∧ Q s) → ∃ s, s < N ∧ Q s ∧ ∀ r, r < N → Q r → r ≤ s := by
  intro N
  induction N with
  | zero => rintro ⟨s, h, _⟩; omega
  | succ N ih =>
    rintro ⟨s, hs, hq⟩
    by_cases e : Q N
    · exact ⟨N, by omega, e, fun r hr _ => by omega⟩
    · have hsN : s ≠ N := fun e2 => e (e2 ▸ hq)
      obtain ⟨r, h1, h2, h3⟩ := ih ⟨s, by omega, hq⟩
      exact ⟨r, by omega, h2, fun x hx hq => h3 x (by have : x ≠ N := fun e2 => e (e2 ▸ hq)
                                                      omega) hq⟩
/-- The least one on the path between two vertices is a pick that weighs as much as the one that joined them. -/
theorem min_law (hok : GOk n l) (hk : Pk n l P) {key : Nat → Int} {u v x t : Nat} (hu : u < n) (hv : v < n) (huv : u ≠ v) (ht : t < P.length)
    (h1 : pL l (P.take t) u ≠ pL l (P.take t) v) (h2 : pL l (P.take (t + 1)) u = pL l (P.take (t + 1)) v)
    (kE : ∀ i ∈ P, key (i + 1) = - eW l i) (kV : ∀ w, w < n → key (l.length + w + 1) = 4611686018427387904) (hW : ∀ i, i < l.length → -1099511627776 ≤ eW l i)
    (hm : MinAt (EK l P) key (l.length + u + 1) (l.length + v + 1) (x + 1)) : x < l.length ∧ eW l x = eW l P[t] := by
  obtain ⟨Q, ⟨T, hT⟩, ⟨A0, hA0⟩, hnd, hE, hF⟩ := hm
  have mlt : ∀ s (h : s < P.length), P[s] < l.length := fun s h => hk.lt _ (List.getElem_mem h)
  -- every node of the path
  have hall : ∀ z ∈ Q, (∃ w, w < n ∧ z = l.length + w + 1) ∨ ∃ i ∈ P, z = i + 1 := by
    intro z hz
    have hpair : ∃ y, Cns Q z y ∨ Cns Q y z := by
      obtain ⟨B, C, hB⟩ := List.append_of_mem hz
      cases C with
      | cons c C => exact ⟨c, .inl ⟨B, C, hB⟩⟩
      | nil =>
        rcases List.eq_nil_or_concat B with rfl | ⟨B', b, rfl⟩
        · rw [hT] at hB hA0
          injection hB with e1 e2
          subst e2
          cases A0 with
          | nil => injection hA0 with e3 _; omega
          | cons a A0 => injection hA0 with _ e3; simp at e3
        · exact ⟨b, .inr ⟨B', [], by rw [hB]; simp⟩⟩
    obtain ⟨y, hy⟩ := hpair
    have key : ∃ i ∈ P, z = i + 1 ∨ z = l.length + eU l i + 1 ∨ z = l.length + eV l i + 1 := by
      rcases hy with hy | hy
      · obtain ⟨i, hi, h⟩ := hE _ _ hy
        exact ⟨i, hi, by omega⟩
      · obtain ⟨i, hi, h⟩ := hE _ _ hy
        exact ⟨i, hi, by omega⟩
    obtain ⟨i, hi, h⟩ := key
    have := hok.lt (hk.lt i hi)
    rcases h with h | h | h
    · exact .inr ⟨i, hi, h⟩
    · exact .inl ⟨_, this.1, h⟩
    · exact .inl ⟨_, this.2, h⟩
  -- the last pick on it
  have hne : ∃ s, s < P.length ∧ ∃ hs : s < P.length, P[s] + 1 ∈ Q := by
    cases T with
    | nil =>
      rw [hT] at hA0
      cases A0 with
      | nil => injection hA0 with e3 _; omega
      | cons a A0 => injection hA0 with _ e3; simp at e3
    | cons y T =>
      have hc : Cns Q (l.length + u + 1) y := ⟨[], T, hT⟩
      obtain ⟨i, hi, h⟩ := hE _ _ hc
      have hil := hk.lt i hi
      obtain ⟨s, hs, rfl⟩ := List.getElem_of_mem hi
      refine ⟨s, hs, hs, ?_⟩
      have e : P[s] + 1 = y := by omega
      rw [e]; exact hc.mem.2
  obtain ⟨s, hs, ⟨hs0, hsQ⟩, hmax⟩ := max_of P.length hne
  have hsl := mlt s hs
  obtain ⟨A, B, hAB⟩ := List.append_of_mem hsQ
  -- what stands ahead of it, and behind it
  obtain ⟨A', p, rfl⟩ : ∃ A' p, A = A' ++ [p] := by
    rcases List.eq_nil_or_concat A with rfl | ⟨A', p, e⟩
    · rw [hT] at hAB
      injection hAB with e _
      omega
    · exact ⟨A', p, by rw [e]; simp⟩
  obtain ⟨q, B', rfl⟩ : ∃ q B', B = q :: B' := by
    cases B with
    | nil =>
      rw [hA0] at hAB
      have := (List.append_inj' hAB rfl).2
      injection this with e _
      omega
    | cons q B' => exact ⟨q, B', rfl⟩
  have hp : Cns Q p (P[s] + 1) := ⟨A', q :: B', by rw [hAB]; simp⟩
  have hq : Cns Q (P[s] + 1) q := ⟨A' ++ [p], B', hAB⟩
  have ep : p = l.length + eU l P[s] + 1 ∨ p = l.length + eV l P[s] + 1 := by
    obtain ⟨i, hi, h⟩ := hE _ _ hp
    have := hk.lt i hi
    rcases h with h | h | h | h
    · obtain rfl : i = P[s] := by omega
      exact .inl h.1
    · omega
    · omega
    · obtain rfl : i = P[s] := by omega
      exact .inr h.1
  have eq_ : q = l.length + eU l P[s] + 1 ∨ q = l.length + eV l P[s] + 1 := by
    obtain ⟨i, hi, h⟩ := hE _ _ hq
    have := hk.lt i hi
    rcases h with h | h | h | h
    · omega
    · obtain rfl : i = P[s] := by omega
      exact .inl h.2
    · obtain rfl : i = P[s] := by omega
      exact .inr h.2
    · omega
  have hnd2 := hnd
  rw [hAB] at hnd2
  have hnA := List.nodup_append.1 hnd2
  have hpq : p ≠ q := hnA.2.2 p (by simp) q (by simp)
  have hsA : P[s] + 1 ∉ A' ++ [p] := fun h => hnA.2.2 _ h _ (by simp) rfl
  have hsB : P[s] + 1 ∉ q :: B' := (List.nodup_cons.1 hnA.2.1).1
  -- nodes off the last pick know the labels before it
  have hPs : ∀ i ∈ P.take s, i < l.length := fun i hi => hk.lt i (List.mem_of_mem_take hi)
  have hsub : ∀ x y, Cns Q x y → x ≠ P[s] + 1 → y ≠ P[s] + 1 → lbN l (P.take s) x = lbN l (P.take s) y := by
    intro x y hc hx hy
    obtain ⟨i, hi, h⟩ := hE _ _ hc
    obtain ⟨r, hr, rfl⟩ := List.getElem_of_mem hi
    have hin : P[r] + 1 ∈ Q := by
      rcases h with h | h | h | h
      · rw [← h.2]; exact hc.mem.2
      · rw [← h.1]; exact hc.mem.1
      · rw [← h.1]; exact hc.mem.1
      · rw [← h.2]; exact hc.mem.2
    have hrs := hmax r hr ⟨hr, hin⟩
    have hrne : r ≠ s := fun e => by
      subst e
      rcases h with h | h | h | h
      · exact hy h.2
      · exact hx h.1
      · exact hx h.1
      · exact hy h.2
    have him : P[r] ∈ P.take s := by
      have : (P.take s)[r]'(by simp; omega) = P[r] := List.getElem_take
      rw [← this]; exact List.getElem_mem _
    exact lbN_ek hPs x y ⟨_, him, h⟩
  have cA : lbN l (P.take s) p = lbN l (P.take s) (l.length + u + 1) := by
    cases hA : A' ++ [p] with
    | nil => simp at hA
    | cons a0 A2 =>
      have ea : a0 = l.length + u + 1 := by
        rw [hT, hA] at hAB
        injection hAB with e _
        exact e.symm
      subst ea
      refine cns_const A2 _ (fun x y hc => ?_) p (by rw [← hA]; simp)
      rw [← hA] at hc
      have hm := hc.mem
      refine hsub x y ?_ (fun e => hsA (e ▸ hm.1)) (fun e => hsA (e ▸ hm.2))
      obtain ⟨C, D, e⟩ := hc
      exact ⟨C, D ++ (P[s] + 1) :: q :: B', by rw [hAB, e]; simp⟩
  have cB : lbN l (P.take s) (l.length + v + 1) = lbN l (P.take s) q := by
    refine cns_const B' q (fun x y hc => ?_) _ ?_
    · have hm := hc.mem
      refine hsub x y ?_ (fun e => hsB (e ▸ hm.1)) (fun e => hsB (e ▸ hm.2))
      obtain ⟨C, D, e⟩ := hc
      exact ⟨(A' ++ [p]) ++ (P[s] + 1) :: C, D, by rw [hAB, e]; simp⟩
    · have hb : l.length + v + 1 ∈ Q := by rw [hA0]; simp
      rcases List.eq_nil_or_concat (q :: B') with e | ⟨C, c, e⟩
      · cases e
      · have e2 : Q = ((A' ++ [p]) ++ (P[s] + 1) :: C) ++ [c] := by rw [hAB, e]; simp
        rw [hA0] at e2
        have := (List.append_inj' e2 rfl).2
        injection this with e3 _
        rw [e, e3]; simp
  rw [lbN_vert] at cA cB
  have hd := hk.df s hs
  have hjoin : pL l (P.take s) u ≠ pL l (P.take s) v ∧ pL l (P.take (s + 1)) u = pL l (P.take (s + 1)) v := by
    rw [pL_take hs, merge_eq]
    rcases ep with rfl | rfl <;> rcases eq_ with rfl | rfl
    · exact absurd rfl hpq
    · rw [lbN_vert] at cA cB; omega
    · rw [lbN_vert] at cA cB; omega
    · exact absurd rfl hpq
  have est : s = t := by
    rcases Nat.lt_trichotomy s t with h | h | h
    · exact absurd (pL_mono (l := l) (P := P) (s := s + 1) t (by omega) hjoin.2) h1
    · exact h
    · exact absurd (pL_mono (l := l) (P := P) (s := t + 1) s (by omega) h2) hjoin.1
  subst est
  -- the least
  have kx : key (x + 1) ≤ - eW l P[s] := by
    have := hF.2 _ hsQ
    unfold bef at this
    rw [decide_eq_false_iff_not, kE _ (List.getElem_mem hs)] at this
    omega
  rcases hall _ hF.1 with ⟨w, hw, e⟩ | ⟨i, hi, e⟩
  · rw [e, kV w hw] at kx
    have := hW _ hsl
    omega
  · obtain rfl : x = i := by omega
    rw [kE x hi] at kx
    obtain ⟨r, hr, rfl⟩ := List.getElem_of_mem hi
    refine ⟨hk.lt _ hi, ?_⟩
    have hrs := hmax r hr ⟨hr, hF.1⟩
    rcases Nat.lt_or_ge r s with hlt | hge
    · have := List.pairwise_iff_getElem.1 hk.mono r s hr hs hlt
      omega
    · obtain rfl : r = s := by omega
      rfl
end
end Go.Proofs.YtoomcgmbaogjbaaDoor
