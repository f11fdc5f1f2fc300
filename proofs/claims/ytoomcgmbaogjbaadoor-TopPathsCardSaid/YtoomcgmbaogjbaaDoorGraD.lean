/- Plain: distances in a graph: what they are, and two ways to them. Nothing of the program. -/
import Derived.Test.YtoomcgmbaogjbaaDoorGraP
namespace Go.Proofs.YtoomcgmbaogjbaaDoor
open Go.RowKit
set_option linter.unusedVariables false

def updi (f : Nat → Int) (i : Nat) (v : Int) : Nat → Int := fun j => if j = i then v else f j
theorem updi_same (f : Nat → Int) (i : Nat) (v : Int) : updi f i v i = v := if_pos rfl
theorem updi_other (f : Nat → Int) {i j : Nat} (v : Int) (h : j ≠ i) : updi f i v j = f j := if_neg h

/-- What holds of distances that have been found. -/
structure DPre (n : Nat) (l : List (Int × Int × Int)) (v : Nat) (D : Nat → Int) : Prop where
  ok : GOk n l
  vn : v < n
  d0 : D v = 0
  lo : ∀ i, i < n → -1 ≤ D i
  z : ∀ i, i < n → D i = 0 → i = v
  pr : ∀ i, i < n → 1 ≤ D i → ∃ j, j < 2 * l.length ∧ eQ l j = i ∧ D (eP l j) = D i - 1
/-- The distances from v. -/
structure IsDist (n : Nat) (l : List (Int × Int × Int)) (v : Nat) (D : Nat → Int) : Prop extends DPre n l v D where
  st : ∀ j, j < 2 * l.length → 0 ≤ D (eP l j) → 0 ≤ D (eQ l j) ∧ D (eQ l j) ≤ D (eP l j) + 1
section
variable {n : Nat} {l : List (Int × Int × Int)} {v : Nat} {D D' : Nat → Int}
theorem DPre.lev (h : DPre n l v D) : ∀ k : Nat, (∃ i, i < n ∧ D i = (k : Int)) → k + 1 ≤ cnt (fun i => decide (0 ≤ D i ∧ D i ≤ (k : Int))) n := by
  intro k
  induction k with
  | zero =>
    rintro ⟨i, hi, hd⟩
    have := cnt_lt (p := fun _ => false) (q := fun i => decide (0 ≤ D i ∧ D i ≤ ((0 : Nat) : Int))) (n := n) (m := i) (fun _ _ h => by simp at h) hi (by simp) (by simp; omega)
    omega
  | succ k ih =>
    rintro ⟨i, hi, hd⟩
    obtain ⟨j, hj, hq, hp⟩ := h.pr i hi (by omega)
    have h1 := ih ⟨eP l j, (h.ok.P_lt hj).1, by omega⟩
    have := cnt_lt (p := fun i => decide (0 ≤ D i ∧ D i ≤ (k : Int))) (q := fun i => decide (0 ≤ D i ∧ D i ≤ ((k + 1 : Nat) : Int))) (n := n) (m := i) (fun a _ h => by simp at h ⊢; omega) hi (by simp; omega) (by simp; omega)
    omega
theorem DPre.hi (h : DPre n l v D) {i : Nat} (hi : i < n) : D i < (n : Int) := by
  by_cases h0 : 0 ≤ D i
  · have := h.lev (D i).toNat ⟨i, hi, by omega⟩
    have := cnt_le (fun a => decide (0 ≤ D a ∧ D a ≤ ((D i).toNat : Int))) n
    omega
  · have := h.vn; omega
theorem IsDist.le_ (h : IsDist n l v D) (h' : IsDist n l v D') : ∀ k : Nat, ∀ i, i < n → D i = (k : Int) → 0 ≤ D' i ∧ D' i ≤ (k : Int) := by
  intro k
  induction k with
  | zero =>
    intro i hi hd
    obtain rfl := h.z i hi hd
    have := h'.d0; omega
  | succ k ih =>
    intro i hi hd
    obtain ⟨j, hj, hq, hp⟩ := h.pr i hi (by omega)
    have h1 := ih (eP l j) (h.ok.P_lt hj).1 (by omega)
    have h2 := h'.st j hj h1.1
    rw [hq] at h2
    omega
/-- There is just one. -/
theorem IsDist.uniq (h : IsDist n l v D) (h' : IsDist n l v D') : ∀ i, i < n → D i = D' i := by
  intro i hi
  have a := h.lo i hi
  have b := h'.lo i hi
  by_cases h0 : 0 ≤ D i
  · obtain ⟨k, hk⟩ := Int.eq_ofNat_of_zero_le h0
    have h1 := h.le_ h' k i hi hk
    obtain ⟨m, hm⟩ := Int.eq_ofNat_of_zero_le h1.1
    have h2 := h'.le_ h m i hi hm
    omega
  · by_cases h0' : 0 ≤ D' i
    · obtain ⟨m, hm⟩ := Int.eq_ofNat_of_zero_le h0'
      have h2 := h'.le_ h m i hi hm
      omega
    · omega
theorem DPre.put (h : DPre n l v D) {j : Nat} (hj : j < 2 * l.length) (h0 : 0 ≤ D (eP l j)) (h1 : D (eQ l j) < 0) : DPre n l v (updi D (eQ l j) (D (eP l j) + 1)) := by
  have hne : eP l j ≠ eQ l j := fun e => by rw [e] at h0; omega
  refine ⟨h.ok, h.vn, ?_, fun i hi => ?_, fun i hi he => ?_, fun i hi he => ?_⟩
  · by_cases e : v = eQ l j
    · have := h.d0; rw [← e] at h1; omega
    · rw [updi_other _ _ e]; exact h.d0
  · by_cases e : i = eQ l j
    · rw [e, updi_same]; omega
    · rw [updi_other _ _ e]; exact h.lo i hi
  · by_cases e : i = eQ l j
    · rw [e, updi_same] at he; omega
    · rw [updi_other _ _ e] at he; exact h.z i hi he
  · by_cases e : i = eQ l j
    · refine ⟨j, hj, e.symm, ?_⟩
      rw [e, updi_same, updi_other _ _ hne]; omega
    · rw [updi_other _ _ e] at he ⊢
      obtain ⟨j', a, b, c⟩ := h.pr i hi he
      refine ⟨j', a, b, ?_⟩
      rw [updi_other _ _ (fun e' => by rw [← e'] at h1; omega)]
      exact c

/-! ### With a queue -/
/-- What has been reached: dn has been gone over, Q waits. -/
structure Bfs (n : Nat) (l : List (Int × Int × Int)) (v : Nat) (D : Nat → Int) (dn Q : List Nat) : Prop extends DPre n l v D where
  nd : (dn ++ Q).Nodup
  fnd : ∀ i, i < n → (0 ≤ D i ↔ i ∈ dn ++ Q)
  lt : ∀ i ∈ dn ++ Q, i < n
  cl : ∀ j, j < 2 * l.length → eP l j ∈ dn → 0 ≤ D (eQ l j) ∧ D (eQ l j) ≤ D (eP l j) + 1
  so : Q.Pairwise fun a b => D a ≤ D b
  up : ∀ q ∈ Q, ∀ i, i < n → D i ≤ D q + 1
/-- While the vertex u is gone over: the half-edges of A are over. -/
structure Bmid (n : Nat) (l : List (Int × Int × Int)) (v : Nat) (D : Nat → Int) (dn Q : List Nat) (u : Nat) (A : List Nat) : Prop extends DPre n l v D where
  nd : (dn ++ u :: Q).Nodup
  fnd : ∀ i, i < n → (0 ≤ D i ↔ i ∈ dn ++ u :: Q)
  lt : ∀ i ∈ dn ++ u :: Q, i < n
  cl : ∀ j, j < 2 * l.length → eP l j ∈ dn → 0 ≤ D (eQ l j) ∧ D (eQ l j) ≤ D (eP l j) + 1
  so : Q.Pairwise fun a b => D a ≤ D b
  uq : ∀ q ∈ Q, D u ≤ D q
  up : ∀ i, i < n → D i ≤ D u + 1
  al : ∀ j ∈ A, j < 2 * l.length ∧ eP l j = u ∧ 0 ≤ D (eQ l j)
variable {dn Q A : List Nat} {u : Nat}
theorem Bfs.new (hok : GOk n l) (hv : v < n) : Bfs n l v (updi (fun _ => -1) v 0) [] [v] := by
  have key : ∀ i, updi (fun _ => (-1 : Int)) v 0 i = if i = v then 0 else -1 := fun i => rfl
  refine ⟨⟨hok, hv, updi_same _ _ _, fun i _ => by rw [key]; split <;> omega, fun i _ h => by rw [key] at h; by_cases e : i = v; exact e; rw [if_neg e] at h; omega, fun i _ h => by rw [key] at h; split at h <;> omega⟩,
    by simp, fun i _ => by rw [key]; split <;> simp_all, by simpa using hv, by simp, by simp, fun q hq i _ => ?_⟩
  rw [List.mem_singleton.1 hq, updi_same, key]; split <;> omega
theorem Bfs.pop (h : Bfs n l v D dn (u :: Q)) : Bmid n l v D dn Q u [] :=
  ⟨h.toDPre, h.nd, h.fnd, h.lt, h.cl, (List.pairwise_cons.1 h.so).2, (List.pairwise_cons.1 h.so).1, h.up u (by simp), by simp⟩
theorem Bmid.un (h : Bmid n l v D dn Q u A) : u < n ∧ 0 ≤ D u := by
  have hu := h.lt u (by simp)
  exact ⟨hu, (h.fnd u hu).2 (by simp)⟩
theorem Bmid.skip (h : Bmid n l v D dn Q u A) {j : Nat} (hj : j < 2 * l.length) (hp : eP l j = u) (hd : 0 ≤ D (eQ l j)) : Bmid n l v D dn Q u (A ++ [j]) :=
  ⟨h.toDPre, h.nd, h.fnd, h.lt, h.cl, h.so, h.uq, h.up, fun a ha => by
    rcases List.mem_append.1 ha with ha | ha
    · exact h.al a ha
    · rw [List.mem_singleton.1 ha]; exact ⟨hj, hp, hd⟩⟩
theorem Bmid.add (h : Bmid n l v D dn Q u A) {j : Nat} (hj : j < 2 * l.length) (hp : eP l j = u) (hd : D (eQ l j) < 0) : Bmid n l v (updi D (eQ l j) (D u + 1)) dn (Q ++ [eQ l j]) u (A ++ [j]) := by
  obtain ⟨hu, h0⟩ := h.un
  have hq := (h.ok.P_lt hj).2.1
  have hnm : eQ l j ∉ dn ++ u :: Q := fun hm => by have := (h.fnd _ hq).2 hm; omega
  have hne : ∀ i ∈ dn ++ u :: Q, i ≠ eQ l j := fun i hi e => hnm (e ▸ hi)
  have hun : u ≠ eQ l j := hne u (by simp)
  have hold : ∀ i ∈ dn ++ u :: Q, updi D (eQ l j) (D u + 1) i = D i := fun i hi => updi_other _ _ (hne i hi)
  have hpre := h.toDPre.put hj (by rw [hp]; exact h0) hd
  rw [hp] at hpre
  have hassoc : dn ++ u :: (Q ++ [eQ l j]) = (dn ++ u :: Q) ++ [eQ l j] := by simp
  have hmono : ∀ i, D i ≤ updi D (eQ l j) (D u + 1) i := fun i => by
    by_cases e : i = eQ l j
    · rw [e, updi_same]; omega
    · rw [updi_other _ _ e]; exact Int.le_refl _
  have hpos : ∀ i, 0 ≤ D i → updi D (eQ l j) (D u + 1) i = D i := fun i hi => updi_other _ _ (fun e => by rw [e] at hi; omega)
  refine ⟨hpre, ?_, fun i hi => ?_, ?_, fun a ha hm => ?_, ?_, ?_, ?_, ?_⟩
  · rw [hassoc]
    exact List.nodup_append.2 ⟨h.nd, by simp, fun a ha b hb e => by rw [List.mem_singleton.1 hb] at e; exact hne a ha e⟩
  · rw [hassoc, List.mem_append, List.mem_singleton]
    by_cases e : i = eQ l j
    · rw [e, updi_same]; exact ⟨fun _ => .inr rfl, fun _ => by omega⟩
    · rw [updi_other _ _ e, h.fnd i hi]; exact ⟨.inl, fun hh => hh.resolve_right e⟩
  · rw [hassoc]
    intro i hi
    rcases List.mem_append.1 hi with hi | hi
    · exact h.lt i hi
    · rw [List.mem_singleton.1 hi]; exact hq
  · have hc := h.cl a ha hm
    rw [hpos _ hc.1, hold _ (List.mem_append_left _ hm)]
    exact hc
  · refine List.pairwise_append.2 ⟨?_, by simp, fun a ha b hb => ?_⟩
    · refine h.so.imp_of_mem fun {a b} ha hb hab => ?_
      rw [hold a (by simp [ha]), hold b (by simp [hb])]; exact hab
    · rw [List.mem_singleton.1 hb, updi_same, hold a (by simp [ha])]
      exact h.up a (h.lt a (by simp [ha]))
  · intro q hq'
    rw [hold u (by simp)]
    rcases List.mem_append.1 hq' with hq' | hq'
    · exact Int.le_trans (h.uq q hq') (hmono q)
    · rw [List.mem_singleton.1 hq', updi_same]; omega
  · intro i hi
    rw [hold u (by simp)]
    by_cases e : i = eQ l j
    · rw [e, updi_same]; omega
    · rw [updi_other _ _ e]; exact h.up i hi
  · intro a ha
    rcases List.mem_append.1 ha with ha | ha
    · have := h.al a ha
      exact ⟨this.1, this.2.1, Int.le_trans this.2.2 (hmono _)⟩
    · rw [List.mem_singleton.1 ha, updi_same]; exact ⟨hj, hp, by omega⟩
theorem Bmid.done (h : Bmid n l v D dn Q u A) (hA : ∀ j, j < 2 * l.length → eP l j = u → j ∈ A) : Bfs n l v D (dn ++ [u]) Q := by
  have e : dn ++ [u] ++ Q = dn ++ u :: Q := by simp
  refine ⟨h.toDPre, by rw [e]; exact h.nd, by rw [e]; exact h.fnd, by rw [e]; exact h.lt, fun j hj hm => ?_, h.so, fun q hq i hi => ?_⟩
  · rcases List.mem_append.1 hm with hm | hm
    · exact h.cl j hj hm
    · have hp := List.mem_singleton.1 hm
      have := h.al j (hA j hj hp)
      refine ⟨this.2.2, ?_⟩
      rw [hp]
      exact h.up _ (h.ok.P_lt hj).2.1
  · have h1 := h.up i hi
    have h2 := h.uq q hq
    omega
theorem Bfs.fin (h : Bfs n l v D dn []) : IsDist n l v D :=
  ⟨h.toDPre, fun j hj h0 => h.cl j hj (by simpa using (h.fnd _ (h.ok.P_lt hj).1).1 h0)⟩
theorem nodup_lt {n : Nat} {L : List Nat} (hn : L.Nodup) (h : ∀ i ∈ L, i < n) : L.length ≤ n := by
  have h1 : ∀ (L : List Nat), L.Nodup → (∀ i ∈ L, i < n) → L.length ≤ cnt (fun c => L.contains c) n := by
    intro L
    induction L with
    | nil => intro _ _; simp
    | cons x L ih =>
      intro hn hb
      have hnd := List.nodup_cons.1 hn
      have ih := ih hnd.2 fun i hi => hb i (by simp [hi])
      have hlt := cnt_lt (p := fun c => L.contains c) (q := fun c => (x :: L).contains c) (n := n) (m := x) (fun i _ h => by simp at h ⊢; exact .inr h) (hb x (by simp)) (by simpa using hnd.1) (by simp)
      simp only [List.length_cons]; omega
  exact Nat.le_trans (h1 L hn h) (cnt_le _ _)
theorem Bfs.len (h : Bfs n l v D dn Q) : dn.length + Q.length ≤ n := by
  have := nodup_lt h.nd h.lt
  simpa using this
theorem Bmid.len (h : Bmid n l v D dn Q u A) : dn.length + 1 + Q.length ≤ n := by
  have := nodup_lt h.nd h.lt
  simp at this
  omega

/-! ### Round by round -/
/-- In round r, when the edges below k are over. -/
structure Rnd (n : Nat) (l : List (Int × Int × Int)) (v : Nat) (D : Nat → Int) (r k : Nat) : Prop extends DPre n l v D where
  up : ∀ i, i < n → D i ≤ (r : Int) + 1
  cl : ∀ j, j < 2 * l.length → 0 ≤ D (eP l j) → D (eP l j) < r → 0 ≤ D (eQ l j) ∧ D (eQ l j) ≤ D (eP l j) + 1
  ar : ∀ j, j < 2 * k → j < 2 * l.length → D (eP l j) = r → 0 ≤ D (eQ l j)
theorem Rnd.new (hok : GOk n l) (hv : v < n) : Rnd n l v (updi (fun _ => -1) v 0) 0 0 := by
  have h := Bfs.new (n := n) (l := l) hok hv
  have key : ∀ i, updi (fun _ => (-1 : Int)) v 0 i = if i = v then 0 else -1 := fun i => rfl
  exact ⟨h.toDPre, fun i _ => by rw [key]; split <;> omega, fun j _ a b => by omega, fun j a => by omega⟩
variable {r k : Nat}
theorem Rnd.put (h : Rnd n l v D r k) {j : Nat} (hj : j < 2 * l.length) (h0 : D (eP l j) = r) (h1 : D (eQ l j) < 0) : Rnd n l v (updi D (eQ l j) ((r : Int) + 1)) r k := by
  have hpre := h.toDPre.put hj (by omega) h1
  rw [h0] at hpre
  have hpos : ∀ i, 0 ≤ D i → updi D (eQ l j) ((r : Int) + 1) i = D i := fun i hi => updi_other _ _ (fun e => by rw [e] at hi; omega)
  refine ⟨hpre, fun i hi => ?_, fun a ha b c => ?_, fun a ha ha2 hb => ?_⟩
  · by_cases e : i = eQ l j
    · rw [e, updi_same]; omega
    · rw [updi_other _ _ e]; exact h.up i hi
  · by_cases e : eP l a = eQ l j
    · rw [e, updi_same] at c; omega
    · rw [updi_other _ _ e] at b c ⊢
      have := h.cl a ha b c
      rw [hpos _ this.1]; exact this
  · by_cases e : eP l a = eQ l j
    · rw [e, updi_same] at hb; omega
    · rw [updi_other _ _ e] at hb
      have := h.ar a ha ha2 hb
      rw [hpos _ this]; exact this
theorem Rnd.next (h : Rnd n l v D r k) (h1 : D (eU l k) = r → 0 ≤ D (eV l k)) (h2 : D (eV l k) = r → 0 ≤ D (eU l k)) : Rnd n l v D r (k + 1) := by
  refine ⟨h.toDPre, h.up, h.cl, fun j hj hj2 hr => ?_⟩
  by_cases e : j < 2 * k
  · exact h.ar j e hj2 hr
  · have hc : j = 2 * k ∨ j = 2 * k + 1 := by omega
    rcases hc with rfl | rfl
    · rw [eP_even] at hr
      unfold eQ; rw [if_pos (by omega), show 2 * k / 2 = k by omega]; exact h1 hr
    · rw [eP_odd] at hr
      unfold eQ; rw [if_neg (by omega), show (2 * k + 1) / 2 = k by omega]; exact h2 hr
theorem Rnd.over (h : Rnd n l v D r l.length) : Rnd n l v D (r + 1) 0 :=
  ⟨h.toDPre, fun i hi => by have := h.up i hi; omega, fun j hj a b => by
    by_cases e : D (eP l j) < r
    · exact h.cl j hj a e
    · have hr : D (eP l j) = r := by omega
      have h1 := h.ar j hj hj hr
      have := h.up _ (h.ok.P_lt hj).2.1
      exact ⟨h1, by omega⟩, fun j hj => by omega⟩
theorem Rnd.fin (h : Rnd n l v D n 0) : IsDist n l v D := ⟨h.toDPre, fun j hj h0 => h.cl j hj h0 (h.hi (h.ok.P_lt hj).1)⟩
end
/-! ### The edges around a vertex, by half-edges -/
theorem inc_all {l : List (Int × Int × Int)} {u : Nat} : ∀ j, j < 2 * l.length → eP l j = u → j ∈ inc l u := fun j hj hp => inc_mem.2 ⟨hj, hp⟩
end Go.Proofs.YtoomcgmbaogjbaaDoor
