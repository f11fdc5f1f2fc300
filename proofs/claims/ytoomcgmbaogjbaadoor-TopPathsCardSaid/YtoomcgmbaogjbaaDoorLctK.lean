/- lct: splay: the way up, and its elements pushed. lct: splay, walked. lct: expose, walked. -/
import Derived.Test.YtoomcgmbaogjbaaDoorLctH
import Derived.WalkMore
namespace Go.Proofs.YtoomcgmbaogjbaaDoor
open Go.RowKit Go.Shelf
set_option linter.unusedVariables false

/-- side of a kid. -/
theorem lctSideK (w : World) (l : LLoc) (N : Nat) (M : LM) (sq : Nat → List Nat) (i : Nat) (h : Lf w l N M) (hq : Sq N M sq) (i1 : 1 ≤ i) (i2 : i ≤ N) (hk : Kid M i) : ∃ s : Nat, s < 2 ∧ M.k s (M.up i) = i ∧ Calls Tryd.prog 48 #[.pointer (some ⟨l.g, 0, none⟩), .int .i64 (i : Int)] w fun e w' => e = .returned (.tuple #[.int .i64 (s : Int), .bool true]) ∧ w = w' := by
  have hu := hq.uN i i1 i2
  by_cases h0 : M.k 0 (M.up i) = i
  · exact ⟨0, by decide, h0, lctSide_0 w l N M i h i2 hu hk.1 h0⟩
  · have h1 : M.k 1 (M.up i) = i := hk.2.elim (fun e => absurd e h0) id
    exact ⟨1, by decide, h1, lctSide_1 w l N M i h i2 hu hk.1 h0 h1⟩
/-- The way up, so far. -/
structure Way (N : Nat) (M : LM) (sq : Nat → List Nat) (i : Nat) (ps : List Nat) (j : Nat) : Prop where
  up : Upp M (ps ++ [j])
  hd : (ps ++ [j])[0]? = some i
  rg : ∀ x ∈ ps ++ [j], 1 ≤ x ∧ x ≤ N
  ln : ps.length < (sq j).length
theorem Way.start {N : Nat} {M : LM} {sq : Nat → List Nat} {i : Nat} (hq : Sq N M sq) (i1 : 1 ≤ i) (i2 : i ≤ N) : Way N M sq i [] i :=
  ⟨fun t a b _ hb => by
    have := (List.getElem?_eq_some_iff.1 hb).1
    simp at this, rfl, fun x hx => by
    obtain rfl : x = i := by simpa using hx
    exact ⟨i1, i2⟩, by have := hq.len i1 i2; simp; omega⟩
theorem Way.step {N : Nat} {M : LM} {sq : Nat → List Nat} {i j : Nat} {ps : List Nat} (h : Way N M sq i ps j) (hq : Sq N M sq) (hk : Kid M j) : Way N M sq i (ps ++ [j]) (M.up j) ∧ (sq j).length < (sq (M.up j)).length := by
  obtain ⟨j1, j2⟩ := h.rg j (by simp)
  have hl := (hq.kid_in j1 j2 hk).2
  refine ⟨⟨fun t a b ha hb => ?_, ?_, fun x hx => ?_, by have := h.ln; simp; omega⟩, hl⟩
  · have hb1 := (List.getElem?_eq_some_iff.1 hb).1
    simp at hb1
    by_cases e : t + 1 < ps.length + 1
    · have h1 : (ps ++ [j])[t]? = some a := by rwa [List.getElem?_append_left (by simp; omega)] at ha
      have h2 : (ps ++ [j])[t + 1]? = some b := by rwa [List.getElem?_append_left (by simp; omega)] at hb
      exact h.up t a b h1 h2
    · obtain rfl : t = ps.length := by omega
      have h1 : a = j := by
        rw [List.getElem?_append_left (by simp)] at ha
        simpa using ha.symm
      have h2 : b = M.up j := by
        rw [List.getElem?_append_right (by simp)] at hb
        simpa using hb.symm
      rw [h1, h2]
      exact ⟨hk, rfl⟩
  · rw [List.getElem?_append_left (by simp)]; exact h.hd
  · rcases List.mem_append.1 hx with h1 | h1
    · exact h.rg x h1
    · obtain rfl : x = M.up j := by simpa using h1
      have := hk.1
      exact ⟨by omega, hq.uN j j1 j2⟩
theorem Upp.below {N : Nat} {M : LM} {sq : Nat → List Nat} {P : List Nat} {j : Nat} (hu : Upp M P) (hq : Sq N M sq) (hr : ∀ x ∈ P, 1 ≤ x ∧ x ≤ N) (hz : P[P.length - 1]? = some j) (j1 : 1 ≤ j) (j2 : j ≤ N) : ∀ x ∈ P, x ∈ sq j := by
  have key : ∀ (d t x : Nat), t + d + 1 = P.length → P[t]? = some x → x ∈ sq j := by
    intro d
    induction d with
    | zero =>
      intro t x ht hx
      have e : t = P.length - 1 := by omega
      rw [e, hz] at hx
      cases hx
      exact hq.self j1 j2
    | succ d ih =>
      intro t x ht hx
      have hlt : t + 1 < P.length := by omega
      obtain ⟨hk, e⟩ := hu t x _ hx (List.getElem?_eq_getElem hlt)
      have h1 := ih (t + 1) _ (by omega) (List.getElem?_eq_getElem hlt)
      obtain ⟨x1, x2⟩ := hr x (List.mem_of_getElem? hx)
      have h2 := (hq.kid_in x1 x2 hk).1
      rw [e] at h2
      exact (hq.sub j j1 j2 _ h1).1 x h2
  intro x hx
  obtain ⟨t, ht, rfl⟩ := List.getElem_of_mem hx
  exact key (P.length - t - 1) t _ (by omega) (List.getElem?_eq_getElem ht)
/-- The elements of the way from t on are pushed. -/
structure Pw (N : Nat) (M M' : LM) (sq sq' : Nat → List Nat) (P : List Nat) (j t : Nat) : Prop where
  sp : Spl N M M' sq sq' (sq j)
  fl : ∀ (u x : Nat), t ≤ u → P[u]? = some x → M'.fl x = false
  up : Upp M' P
  nk : ¬ Kid M' j
theorem Pw.no {N : Nat} {M M' : LM} {sq sq' : Nat → List Nat} {P : List Nat} {j t x : Nat} (h : Pw N M M' sq sq' P j (t + 1)) (hx : P[t]? = some x) (hf : M'.fl x = false) : Pw N M M' sq sq' P j t :=
  ⟨h.sp, fun u y hu hy => by
    by_cases e : u = t
    · subst e; rw [hx] at hy; cases hy; exact hf
    · exact h.fl u y (by omega) hy, h.up, h.nk⟩
theorem Pw.yes {N : Nat} {M M' M2 : LM} {sq sq' : Nat → List Nat} {P : List Nat} {j t x : Nat} (h : Pw N M M' sq sq' P j (t + 1)) (hS : ∀ x ∈ P, x ∈ sq j) (hx : P[t]? = some x) (hf : M'.fl x = true) (hP : Psh M' M2 x) : Pw N M M2 sq (sqP M' sq' x) P j t := by
  have hxS := hS x (List.mem_of_getElem? hx)
  have hr : ∀ y ∈ P, 1 ≤ y ∧ y ≤ N := fun y hy => by obtain ⟨a, b, -, -⟩ := h.sp.sub (hS y hy); exact ⟨a, b⟩
  obtain ⟨x1, x2⟩ := hr x (List.mem_of_getElem? hx)
  refine ⟨h.sp.push hxS hf hP, fun u y hu hy => ?_, fun a b c ha hb => ?_, fun e => h.nk ((hP.kid j).1 e)⟩
  · rw [hP.f_]
    by_cases e : y = x
    · rw [if_pos e]
    · rw [if_neg e]
      have hut : u ≠ t := fun e2 => e (by rw [e2, hx] at hy; exact (Option.some.inj hy).symm)
      have hl := h.up.len h.sp.q hr (u - t - 1) t x y hx (by rw [show t + (u - t - 1) + 1 = u by omega]; exact hy)
      have hn : ∀ v, v < 2 → y ≠ M'.k v x := fun v hv e2 => by
        have := h.sp.q.kid_len x1 x2 hv
        rw [← e2] at this
        omega
      rw [if_neg (fun e2 => e2.2.elim (hn 0 (by decide)) (hn 1 (by decide)))]
      exact h.fl u y (by omega) hy
  · obtain ⟨k, e⟩ := h.up a b c ha hb
    exact ⟨(hP.kid b).2 k, by rw [hP.u_]; exact e⟩
/-! ### Steps of a splay -/
theorem rot_clr {N : Nat} {M M' : LM} {sq : Nat → List Nat} {y i s t g c : Nat} (hR : Rot M M' y (M.up y) g c s t) (hy : M.fl y = false) (hp : M.fl (M.up y) = false) (h : ∀ a, 1 ≤ a → a ≤ N → i ∈ sq a → M.fl a = false) :
    ∀ a, 1 ≤ a → a ≤ N → i ∈ sqR M sq y (M.up y) s a → M'.fl a = false := fun a a1 a2 ha => by
  rw [hR.f_]
  unfold sqR at ha
  by_cases e1 : a = y
  · rw [e1]; exact hy
  · rw [if_neg e1] at ha
    by_cases e2 : a = M.up y
    · rw [e2]; exact hp
    · rw [if_neg e2] at ha
      exact h a a1 a2 ha
/-- The one above is lifted; i hangs on the same side. -/
theorem rot_zz {N : Nat} {M M' : LM} {sq : Nat → List Nat} {i s s' t' : Nat} (hq : Sq N M sq) (i1 : 1 ≤ i) (i2 : i ≤ N) (hk : Kid M i) (hkp : Kid M (M.up i)) (hs : s < 2) (hks : M.k s (M.up i) = i) (hka : M.k s (M.up (M.up i)) = M.up i)
    (hs' : s' < 2) (hks' : M.k s' (M.up (M.up i)) = M.up i) (hst : (s' = 0 ∧ t' = 1) ∨ (s' = 1 ∧ t' = 0)) (hR : Rot M M' (M.up i) (M.up (M.up i)) (M.up (M.up (M.up i))) (M.k t' (M.up i)) s' t') :
    Kid M' i ∧ sqR M sq (M.up i) (M.up (M.up i)) s' i = sq i := by
  obtain ⟨-, -, -, p1, p2⟩ := hq.kid_at i1 i2 hk
  obtain ⟨-, -, -, g1, g2⟩ := hq.kid_at p1 p2 hkp
  have l1 := (hq.kid_in i1 i2 hk).2
  have l2 := (hq.kid_in p1 p2 hkp).2
  generalize hp : M.up i = p at *
  generalize hg : M.up p = g at *
  have ip : i ≠ p := fun e => by rw [e] at l1; omega
  have ig : i ≠ g := fun e => by rw [← e] at l2; omega
  have hss : s' = s := by
    rcases (show (s' = s) ∨ (s' = 0 ∧ s = 1) ∨ (s' = 1 ∧ s = 0) by omega) with e | ⟨e, e'⟩ | ⟨e, e'⟩
    · exact e
    · rw [e] at hks'; rw [e'] at hka
      exact absurd (hks'.trans hka.symm) (hq.kids_ne g1 g2 (by rw [hks']; omega))
    · rw [e] at hks'; rw [e'] at hka
      exact absurd (hka.trans hks'.symm) (hq.kids_ne g1 g2 (by rw [hka]; omega))
  have hts : s ≠ t' := by omega
  have hic : ¬ (i = M.k t' p ∧ M.k t' p ≠ 0) := fun e => by
    have h0 : M.k 0 p ≠ 0 := by
      rcases hst with ⟨e1, e2⟩ | ⟨e1, e2⟩
      · have h1 : M.k s p ≠ 0 := by rw [hks]; omega
        rw [← hss, e1] at h1; exact h1
      · have h1 := e.2
        rw [e2] at h1; exact h1
    have := hq.kids_ne p1 p2 h0
    rcases hst with ⟨e1, e2⟩ | ⟨e1, e2⟩
    · rw [← hss, e1] at hks; rw [e2] at e; exact this (hks.trans e.1)
    · rw [← hss, e1] at hks; rw [e2] at e; exact this (e.1.symm.trans hks.symm)
  have hu : M'.up i = p := by rw [hR.u_, if_neg ip, if_neg ig, if_neg hic, hp]
  have hkk : M'.k s p = i := by
    rw [hR.k_ s p hs, if_neg (fun e => hts e.2), if_neg (fun e => by have := e.1; rw [← this] at l2; omega), if_neg (fun e => ?_), hks]
    obtain ⟨e1, e2, e3⟩ := e
    have hgN := hq.uN g g1 g2
    have := hq.kid_len (x := M.up g) (by omega) hgN hs
    rw [e3, ← e1] at this
    omega
  refine ⟨⟨by rw [hu]; omega, by rw [hu]; exact at01 (P := fun u => M'.k u p = i) hs hkk⟩, ?_⟩
  unfold sqR
  rw [if_neg ip, if_neg ig]
/-- i is lifted, and hangs below what was two above it. -/
theorem rot_zg {N : Nat} {M M' : LM} {sq : Nat → List Nat} {i a s t c : Nat} (hq : Sq N M sq) (i1 : 1 ≤ i) (i2 : i ≤ N) (hk : Kid M i) (hkp : Kid M (M.up i)) (ha : a < 2) (hka : M.k a (M.up (M.up i)) = M.up i)
    (hR : Rot M M' i (M.up i) (M.up (M.up i)) c s t) : Kid M' i := by
  obtain ⟨-, -, -, p1, p2⟩ := hq.kid_at i1 i2 hk
  obtain ⟨-, -, -, g1, g2⟩ := hq.kid_at p1 p2 hkp
  have l1 := (hq.kid_in i1 i2 hk).2
  have l2 := (hq.kid_in p1 p2 hkp).2
  have hu : M'.up i = M.up (M.up i) := by rw [hR.u_, if_pos rfl]
  have hkk : M'.k a (M.up (M.up i)) = i := by
    rw [hR.k_ a _ ha, if_neg (fun e => by have := e.1; rw [this] at l2; omega), if_neg (fun e => by have := e.1; rw [this] at l2; omega), if_pos ⟨rfl, by omega, hka⟩]
  exact ⟨by rw [hu]; omega, by rw [hu]; exact at01 (P := fun u => M'.k u (M.up (M.up i)) = i) ha hkk⟩
theorem rot_at {M : LM} {sq : Nat → List Nat} {i p s : Nat} : sqR M sq i p s i = sq p := if_pos rfl
/-- As Pw, in memory. -/
structure Jw (w0 : World) (l : LLoc) (N : Nat) (M : LM) (sq : Nat → List Nat) (P : List Nat) (j B b c bx bf t : Nat) (U : World) : Prop where
  st : ∃ M' sq', Lf U l N M' ∧ Pw N M M' sq sq' P j t
  row : U.ownsRow B 3 1 (.slice (some ⟨b, 0, none⟩) P.length c) P.length (nts P)
  hx : Blk U bx 30 #[.slice (some ⟨b, 0, none⟩) P.length c]
  hf : Blk U bf 33 #[.pointer (some ⟨l.g, 0, none⟩)]
  fr : Fr [l.b] w0 U
theorem Jw.cells {w0 : World} {l : LLoc} {N : Nat} {M : LM} {sq : Nat → List Nat} {P : List Nat} {j B b c bx bf t : Nat} {U : World} (h : Jw w0 l N M sq P j B b c bx bf t U) :
    U.cell? ⟨bx, 0, none⟩ = some (.slice (some ⟨b, 0, none⟩) P.length c) ∧ ∀ k (h : k < P.length), U.cell? ⟨b, k, none⟩ = some (.int .i64 (P[k] : Int)) := by
  refine ⟨(h.hx.cell 0).trans rfl, fun k hk => ?_⟩
  obtain ⟨A, c', e, hr, hA, -, -⟩ := own_form h.row
  injection e with e1 e2 e3
  subst e1
  obtain ⟨b', o, e4, -, hc⟩ := hr.2 (by omega)
  injection e4 with e4
  injection e4 with e5 e6
  subst e5 e6
  have := hc k (.int .i64 (P[k] : Int)) (by simp [nts, hk])
  rwa [Nat.zero_add] at this
theorem fr_put2 {W : World} {b : Nat} {r : Loop} (h : W.heap[b]? = some (.loop r)) (o : Obj) : Fr [b] W (W.putObj b o) :=
  ⟨rfl, rfl, rfl, by simp, fun k _ hk => World.putObj_heap_other (by simpa using hk)⟩
theorem not_blk2 {W : World} {b : Nat} {r : Loop} (h : W.heap[b]? = some (.loop r)) {g : Nat} {t : TypeId} {cs : Array Value} (hb : Blk W g t cs) : g ≠ b := by
  rintro rfl
  unfold Blk at hb
  rw [hb] at h
  cases h
/-- The element at t. -/
def pel (P : List Nat) (t : Nat) : Nat := P.getD t 0
theorem pel_at {P : List Nat} {t : Nat} (h : t < P.length) : P[t]? = some (pel P t) := by simp [pel, h]
theorem pel_eq {P : List Nat} {t : Nat} (h : t < P.length) : P[t] = pel P t := by simp [pel, h]
theorem keeps_fr2 {B : Nat} {U V : World} {S : List Nat} (h : Fr S U V) (hS : ∀ b ∈ S, ∃ ty cs, Blk U b ty cs) : KeepsFrom B U V :=
  ⟨h.size, fun k o _ hk ho => (h.block k (Array.getElem?_eq_some_iff.1 hk).1 fun hm => by
    obtain ⟨ty, cs, hc⟩ := hS k hm
    unfold Blk at hc
    rw [hk] at hc
    cases hc
    cases ho).trans hk⟩
theorem Jw.put {w0 : World} {l : LLoc} {N : Nat} {M : LM} {sq : Nat → List Nat} {P : List Nat} {j B b c bx bf t : Nat} {U : World} (h : Jw w0 l N M sq P j B b c bx bf t U) {d : Nat} {r : Loop} (hl : U.heap[d]? = some (.loop r)) (hd : w0.heap.size ≤ d) (o : Obj) : Jw w0 l N M sq P j B b c bx bf t (U.putObj d o) := by
  obtain ⟨⟨M', sq', h1, h2⟩, h3, h4, h5, h6⟩ := h
  have hf := fr_put2 hl o
  have hrow : ∀ b', (Value.slice (some ⟨b, 0, none⟩) P.length c).ownBlock = some b' → b' ∉ [d] := fun b' e hm => by
    simp at hm
    subst hm
    rcases h3.2 with ⟨e1, _⟩ | ⟨g, cap, cur, e1, hb2, hh, -⟩
    · cases e1
    · injection e1 with e2 _ _
      injection e2 with e2
      injection e2 with e2
      injection e with e
      subst e e2
      rw [hh] at hl; cases hl
  obtain ⟨⟨e, hb1⟩, ⟨J, hb2⟩, hn⟩ := h1
  exact ⟨⟨M', sq', ⟨⟨e, hb1.fr hf (by simpa using not_blk2 hl hb1)⟩, ⟨J, hb2.fr hf (by simpa using not_blk2 hl hb2)⟩, hn⟩, h2⟩, own_fr h3 hf hrow, h4.fr hf (by simpa using not_blk2 hl h4), h5.fr hf (by simpa using not_blk2 hl h5),
    ⟨h6.os, h6.tape, h6.output, by simpa using h6.size, fun k hk hn => (World.putObj_heap_other (by omega)).trans (h6.block k hk hn)⟩⟩
theorem Jw.fr0 {w0 : World} {l : LLoc} {N : Nat} {M : LM} {sq : Nat → List Nat} {P : List Nat} {j B b c bx bf t : Nat} {U V : World} (h : Jw w0 l N M sq P j B b c bx bf t U) (hF : Fr [] U V) : Jw w0 l N M sq P j B b c bx bf t V := by
  obtain ⟨⟨M', sq', h1, h2⟩, h3, h4, h5, h6⟩ := h
  exact ⟨⟨M', sq', h1.fr hF (by simp) (by simp), h2⟩, own_fr h3 hF (by simp), h4.fr hF (by simp), h5.fr hF (by simp), h6.trans (hF.mono (by simp))⟩
theorem Jw.push {w0 : World} {l : LLoc} {N : Nat} {M : LM} {sq : Nat → List Nat} {P : List Nat} {j B b c bx bf t t' : Nat} {U V : World} (h : Jw w0 l N M sq P j B b c bx bf t U) (hV : ∃ M' sq', Lf V l N M' ∧ Pw N M M' sq sq' P j t') (hF : Fr [l.b] U V) : Jw w0 l N M sq P j B b c bx bf t' V := by
  obtain ⟨⟨M', sq', h1, h2⟩, h3, h4, h5, h6⟩ := h
  obtain ⟨⟨e, hb1⟩, ⟨J, hb2⟩, hn⟩ := h1
  refine ⟨hV, own_fr h3 hF fun b' e hm => ?_, h4.fr hF (by simpa using h4.ne_ hb2 (by decide)), h5.fr hF (by simpa using h5.ne_ hb2 (by decide)), h6.trans hF⟩
  simp at hm
  subst hm
  rcases h3.2 with ⟨e1, _⟩ | ⟨g, cap, cur, e1, _, hh, -⟩
  · cases e1
  · injection e1 with e2 _ _
    injection e2 with e2
    injection e2 with e2
    injection e with e
    subst e e2
    exact (Blk.ne_ (show Blk U _ 3 cur from hh) hb2 (by decide)) rfl
theorem Lf.putD {w : World} {l : LLoc} {N : Nat} {M : LM} {D : Nat} {x : Option (List Deferred)} (h : Lf w l N M) (hD : w.heap[D]? = some (.deferred x)) (o : Obj) : Lf (w.putObj D o) l N M := by
  have hf : Fr [D] w (w.putObj D o) := ⟨rfl, rfl, rfl, by simp, fun k _ hk => World.putObj_heap_other (by simpa using hk)⟩
  have key : ∀ {g : Nat} {t : TypeId} {cs : Array Value}, Blk w g t cs → g ≠ D := fun hb e => by
    subst e
    unfold Blk at hb
    rw [hb] at hD
    cases hD
  obtain ⟨⟨e, h1⟩, ⟨J, h2⟩, h3⟩ := h
  exact ⟨⟨e, h1.fr hf (by simpa using key h1)⟩, ⟨J, h2.fr hf (by simpa using key h2)⟩, h3⟩
/-- i is lifted, in a splay of i. -/
theorem lctRotI (w : World) (l : LLoc) (N : Nat) (M0 M : LM) (sq0 sq : Nat → List Nat) (S : List Nat) (i : Nat) (h : Lf w l N M) (hS : Spl N M0 M sq0 sq S) (hi : i ∈ S) (hk : Kid M i) (hcl : ∀ a, 1 ≤ a → a ≤ N → i ∈ sq a → M.fl a = false) :
    Calls Tryd.prog 51 #[.pointer (some ⟨l.g, 0, none⟩), .int .i64 (i : Int)] w fun e w' => e = .returned (.tuple #[]) ∧ ∃ M' sq', Lf w' l N M' ∧ Spl N M0 M' sq0 sq' S ∧ (∀ a, 1 ≤ a → a ≤ N → i ∈ sq' a → M'.fl a = false) ∧ (sq i).length < (sq' i).length ∧ (Kid M (M.up i) → Kid M' i) ∧ Fr [l.b] w w' := by
  obtain ⟨i1, i2, -, hu⟩ := hS.sub hi
  have hq := hS.q
  obtain ⟨p1, p2, -, -⟩ := hS.sub (hu hk)
  have hfi := hcl i i1 i2 (hq.self i1 i2)
  have hfp := hcl _ p1 p2 (hq.kid_in i1 i2 hk).1
  refine (lctRotate w l N M0 M sq0 sq S i h hS hi hk hfi hfp).mono ?_
  rintro e w' ⟨rfl, M', s, t, hl, hs, hks, hR, hst, hsp, hf⟩
  refine ⟨rfl, M', _, hl, hsp, rot_clr hR hfi hfp hcl, by rw [rot_at]; exact (hq.kid_in i1 i2 hk).2, fun hkp => ?_, hf⟩
  obtain ⟨a, ha, hka, -, -⟩ := hq.kid_at p1 p2 hkp
  exact rot_zg hq i1 i2 hk hkp ha hka hR
/-- The one above i is lifted, i on the same side, in a splay of i. -/
theorem lctRotP (w : World) (l : LLoc) (N : Nat) (M0 M : LM) (sq0 sq : Nat → List Nat) (S : List Nat) (i s : Nat) (h : Lf w l N M) (hS : Spl N M0 M sq0 sq S) (hi : i ∈ S) (hk : Kid M i) (hkp : Kid M (M.up i)) (hs : s < 2) (hks : M.k s (M.up i) = i) (hka : M.k s (M.up (M.up i)) = M.up i) (hcl : ∀ a, 1 ≤ a → a ≤ N → i ∈ sq a → M.fl a = false) :
    Calls Tryd.prog 51 #[.pointer (some ⟨l.g, 0, none⟩), .int .i64 (M.up i : Int)] w fun e w' => e = .returned (.tuple #[]) ∧ ∃ M' sq', Lf w' l N M' ∧ Spl N M0 M' sq0 sq' S ∧ (∀ a, 1 ≤ a → a ≤ N → i ∈ sq' a → M'.fl a = false) ∧ Kid M' i ∧ sq' i = sq i ∧ Fr [l.b] w w' := by
  obtain ⟨i1, i2, -, hu⟩ := hS.sub hi
  have hq := hS.q
  have hpS := hu hk
  obtain ⟨p1, p2, -, hu2⟩ := hS.sub hpS
  obtain ⟨g1, g2, -, -⟩ := hS.sub (hu2 hkp)
  have hip := (hq.kid_in i1 i2 hk).1
  have hfp := hcl _ p1 p2 hip
  have hfg := hcl _ g1 g2 ((hq.sub _ g1 g2 _ (hq.kid_in p1 p2 hkp).1).1 _ hip)
  refine (lctRotate w l N M0 M sq0 sq S (M.up i) h hS hpS hkp hfp hfg).mono ?_
  rintro e w' ⟨rfl, M', s', t, hl, hs', hks', hR, hst, hsp, hf⟩
  obtain ⟨z1, z2⟩ := rot_zz hq i1 i2 hk hkp hs hks hka hs' hks' hst hR
  exact ⟨rfl, M', _, hl, hsp, rot_clr hR hfp hfg hcl, z1, z2, hf⟩
end Go.Proofs.YtoomcgmbaogjbaaDoor
namespace Go.Proofs.YtoomcgmbaogjbaaDoor
open Go.RowKit Go.Shelf
attribute [local go_sem] Oper.semAt_some
set_option linter.unusedVariables false

set_option maxRecDepth 100000 in
set_option maxHeartbeats 8000000 in
theorem lctSplay (w : World) (l : LLoc) (N : Nat) (M : LM) (sq : Nat → List Nat) (i : Nat) (h : Lf w l N M) (hq : Sq N M sq) (i1 : 1 ≤ i) (i2 : i ≤ N) :
    Calls Tryd.prog 41 #[.pointer (some ⟨l.g, 0, none⟩), .int .i64 (i : Int)] w fun e w' => e = .returned (.tuple #[]) ∧ ∃ M' sq', Lf w' l N M' ∧ SplP N M M' sq sq' i ∧ Fr [l.b] w w' := by
  obtain ⟨i0, hi, hz0, hz1, hz2⟩ := info_parts int_info0
  have hN : N ≤ 1000 := h.nb
  have hb0 : Blk (w.alloc (.cells #[.pointer (some ⟨l.g, 0, none⟩)] 33)) w.heap.size 33 #[.pointer (some ⟨l.g, 0, none⟩)] := Blk.new _ _ _
  have HB0 := hide hb0
  have H0 := hide (h.fr ((Fr.refl [] w).alloc (.cells #[.pointer (some ⟨l.g, 0, none⟩)] 33)) (by simp) (by simp))
  have HF0 := hide ((Fr.refl [] w).alloc (.cells #[.pointer (some ⟨l.g, 0, none⟩)] 33))
  have HQ := hide hq
  clear h hq hb0
  refine (callsIn_wide (n := 3)).1 ?_
  refine callsIn_of_wp_marks Tryd.func41 rfl trivial ?_ rfl
  simp only [Tryd.ntmps41, List.size_toArray, List.length_cons, List.length_nil, Nat.reduceAdd, Nat.reduceSub, Array.replicate_succ, Array.replicate_zero, List.push_toArray, List.append_toArray, List.nil_append, List.cons_append]
  gi_wp2_with fail
  refine wpIn_wide.2 ?_
  generalize w.alloc (.cells #[.pointer (some ⟨l.g, 0, none⟩)] 33) = w1 at *
  go_step3
  go_wp2_with fail
  go_step3
  go_wp2_with fail
  go_loopg [4, 5] (N + 1) (fun gh s4 s5 wr => ∃ (ps : List Nat) (j : Nat), N + 1 ≤ (sq j).length + gh ∧ s5 = .int .i64 (j : Int) ∧ Way N M sq i ps j ∧ wr.ownsRow w1.heap.size 3 1 s4 ps.length (nts ps) ∧ Below w1.heap.size w1 wr)
  case atStart => exact ⟨[], i, by omega, rfl, Way.start HQ.out i1 i2, World.ownsRow_nil _ _ _ _, Below.refl _ _⟩
  case round =>
    obtain ⟨ps, j, hg, rfl, hway, hown, hbe⟩ := hrel
    have HG := hide hg
    have HW := hide hway
    have HBE := hide hbe
    have HO := hide hown
    obtain ⟨j1, j2⟩ := hway.rg j (by simp)
    have hpl : ps.length ≤ 1000 := by have := hway.ln; have := HQ.out.lenN j1 j2; omega
    have c0 : wr.cell? ⟨w.heap.size, 0, none⟩ = some (.pointer (some ⟨l.g, 0, none⟩)) := ((HB0.out.below hbe HB0.out.lt).cell 0).trans rfl
    have hsz := hbe.size
    clear hg hway hown hbe
    go_wp2_with (at_builtin; refine app_one 30 3 Tryd.underlying30 hi hz0 hz1 hz2 rfl (by decide) wr #[.int .i64 (j : Int)] rfl (by simp [Value.oneCell']) rfl _ _ rfl w1.heap.size _ ps.length (nts ps) rfl HO.out rfl (by have : maxLen = 9223372036854775807 := rfl; omega) (by omega) hsz ?_; intro v' w2 hown2 _ _ hb2; have HO2 := hide hown2; have HB2 := hide (HBE.out.trans hb2); have c0b : w2.cell? ⟨w.heap.size, 0, none⟩ = some (.pointer (some ⟨l.g, 0, none⟩)) := ((HB0.out.below HB2.out HB0.out.lt).cell 0).trans rfl; clear hown2 hb2)
    have hl2 : Lf w2 l N M := H0.out.fr (Fr.of_below [] HB2.out) (by simp) (by simp)
    have c1 := hl2.c1
    have cu := hl2.up j2
    have bj : (j : Int) < ((N + 1 : Nat) : Int) := by omega
    have HW2 := HW
    by_cases hk : Kid M j
    · obtain ⟨s, -, -, hs⟩ := lctSideK w2 l N M sq j hl2 HQ.out j1 j2 hk
      obtain ⟨hw', hln⟩ := HW.out.step HQ.out hk
      have HS := hide hs
      have HWN := hide hw'
      have HLN := hide hln
      have hln2 := HQ.out.lenN (x := M.up j) (by have := hk.1; omega) (HQ.out.uN j j1 j2)
      clear hs hw' hk hl2 hln
      go_wp2_with fail
      refine HS.out.mono ?_
      rintro e w3 ⟨rfl, rfl⟩
      go_wp2_with fail
      go_roundg (N + 1 - (sq (M.up j)).length)
      case measure => have := HG.out; have := HLN.out; omega
      case rel => exact ⟨ps ++ [j], M.up j, by omega, rfl, HWN.out, by
        have := HO2.out
        rw [← nts_snoc] at this
        simpa using this, HB2.out⟩
    · have hs := lctSide_no w2 l N M j hl2 j2 (HQ.out.uN j j1 j2) hk
      have HS := hide hs
      have HNK := hide hk
      clear hs hk hl2
      go_wp2_with fail
      refine HS.out.mono ?_
      rintro e w3 ⟨rfl, rfl⟩
      go_wp2_with fail
      obtain ⟨P, hP⟩ : ∃ P, P = ps ++ [j] := ⟨_, rfl⟩
      have hPl : ps.length + 1 = P.length := by rw [hP]; simp
      have ho2 := HO2.out
      rw [show nts ps ++ [Value.int .i64 (j : Int)] = nts P by rw [hP, nts_snoc], hPl] at ho2
      obtain ⟨g', cap', rfl⟩ : ∃ g' cap', v' = .slice (some ⟨g', 0, none⟩) P.length cap' := by
        have := HO2.out
        obtain ⟨g', cap', e⟩ := ownsRow_succ this
        exact ⟨g', cap', by rw [e, hPl]⟩
      refine (bkw w2 _ _ _).mono ?_
      rintro e w3 ⟨rfl, hw3⟩
      have hway := HW.out
      have hPup : Upp M P := by rw [hP]; exact hway.up
      have hPr : ∀ x ∈ P, 1 ≤ x ∧ x ≤ N := by rw [hP]; exact hway.rg
      have hPz : P[P.length - 1]? = some j := by rw [hP]; simp
      have hP0 : P[0]? = some i := by rw [hP]; exact hway.hd
      have hPS : ∀ x ∈ P, x ∈ sq j := hPup.below HQ.out hPr hPz j1 j2
      have hw1s : w.heap.size ≤ w1.heap.size := HF0.out.size
      have hj0 : Jw w l N M sq P j w1.heap.size g' cap' w2.heap.size w.heap.size P.length w3 := by
        rw [hw3]
        refine ⟨⟨M, sq, (H0.out.fr (Fr.of_below [] HB2.out) (by simp) (by simp)).fr ((Fr.refl [] w2).alloc _) (by simp) (by simp), Spl.refl HQ.out j1 j2 HNK.out, fun u x hu hx => ?_, hPup, HNK.out⟩, own_fr ho2 ((Fr.refl [] w2).alloc _) (by simp), Blk.new _ _ _, (HB0.out.below HB2.out HB0.out.lt).alloc _, ?_⟩
        · have := (List.getElem?_eq_some_iff.1 hx).1
          omega
        · exact ((HF0.out.trans (Fr.of_below [] HB2.out)).alloc _).mono (by simp)
      have HJ0 := hide hj0
      have HP := hide hPup
      have HPR := hide hPr
      have HPZ := hide hPz
      have HP0 := hide hP0
      have HPS := hide hPS
      have hPlN : P.length ≤ 1001 := by omega
      have hw2s : w1.heap.size ≤ w2.heap.size := HB2.out.size
      have hw3s : w3.heap.size = w2.heap.size + 1 := by rw [hw3]; simp
      clear hP ho2 hway hPup hPr hPz hP0 hPS hj0 hw3 HW HW2 HO HO2 HB2 HBE HB0 H0 HF0 c0 c0b c1 cu bj HS HG hPl hsz
      go_wp2_with fail
      refine (wpIn_wide (n := 3)).1 ?_
      refine range_mut (n := 3) rfl (by omega) (gf := 64) (lb := #[.pointer (some ⟨w2.heap.size, 0, none⟩)]) rfl trivial (enters_of Tryd.func64 (by kernel_rfl) rfl)
        (fun U => Jw w l N M sq P j w1.heap.size g' cap' w2.heap.size w.heap.size P.length U)
        (fun (t : Nat) U => t < P.length ∧ Jw w l N M sq P j w1.heap.size g' cap' w2.heap.size w.heap.size (t + 1) U)
        (fun (t : Nat) U => Jw w l N M sq P j w1.heap.size g' cap' w2.heap.size w.heap.size t U)
        (fun U => Jw w l N M sq P j w1.heap.size g' cap' w2.heap.size w.heap.size 0 U)
        (fun t => #[.int .i64 (t : Int), .int .i64 (pel P t : Int)]) (fun _ => rfl) HJ0.out
        (fun U o h => h.fr0 ((Fr.refl [] U).alloc o))
        (fun t U o r hl h => ⟨h.1, h.2.put hl (by omega) o⟩)
        (fun t U o r hl h => h.put hl (by omega) o)
        (fun U o r hl h => h.put hl (by omega) o)
        ?clo ?a₁ ?assign ?body ?done
      case clo =>
        intro R U hR h0 hr hY
        refine (bkwClo 2 (by omega) (w3.heap.size + 1) P g' cap' w2.heap.size (by omega) (fun t U => Jw w l N M sq P j w1.heap.size g' cap' w2.heap.size w.heap.size t U) R (fun t U h => h.cells) (fun t ht U hj hr => ?_) U h0 hr).mono fun e V h => h
        rw [pel_eq ht]
        exact hY t U ⟨ht, hj⟩ hr
      case assign =>
        intro L x W K hK
        gi_wp2
        exact hK
      case body =>
        rintro L t U ⟨ht, hj⟩
        have cf : U.cell? ⟨w.heap.size, 0, none⟩ = some (.pointer (some ⟨l.g, 0, none⟩)) := (hj.hf.cell 0).trans rfl
        have HJ := hide hj
        obtain ⟨M', sq', hl, hp⟩ := hj.st
        have e1 : P[t]? = some (pel P t) := pel_at ht
        have hx1 := HPS.out _ (List.mem_of_getElem? e1)
        obtain ⟨x, hx⟩ : ∃ x, x = pel P t := ⟨_, rfl⟩
        rw [← hx] at e1 hx1
        obtain ⟨x1, x2, -, -⟩ := hp.sp.sub hx1
        have HX := hide hx
        clear ht
        have hbn : l.b ≠ l.g := fun e => hl.gb e.symm
        cases hfl : M'.fl x with
        | false =>
          have HC := hide (lctPush_no U l N M' x hl x2 hfl)
          have HP2 := hide (hp.no e1 hfl)
          have HL := hide hl
          clear hj hp hl hfl e1 hx1
          subst hx
          gi_wp2_with fail
          refine ⟨trivial, (CallsIn.inRound L (callsIn_wide.2 HC.out)).mono ?_⟩
          rintro e V ⟨rfl, rfl⟩
          gi_wp2_with fail
          exact ⟨KeepsFrom.refl _ _, ⟨⟨M', sq', HL.out, HP2.out⟩, HJ.out.row, HJ.out.hx, HJ.out.hf, HJ.out.fr⟩⟩
        | true =>
          have HC := hide (lctPush U l N M' x hl x2 hfl (fun s hs => hp.sp.q.kN x s x1 x2 hs))
          have HP2 := hide (hp.yes HPS.out e1 hfl (pshN_psh hp.sp.q x1 x2))
          obtain ⟨-, ⟨Jk, hbk⟩, -⟩ := hl
          have HBK := hide hbk
          clear hj hp hfl e1 hx1 hbk
          subst hx
          gi_wp2_with fail
          refine ⟨trivial, (CallsIn.inRound L (callsIn_wide.2 HC.out)).mono ?_⟩
          rintro e V ⟨rfl, hlv, hf⟩
          have HLV := hide hlv
          have HFV := hide hf
          clear hlv hf
          gi_wp2_with fail
          exact ⟨keeps_fr2 HFV.out (fun b hb => by simp at hb; subst hb; exact ⟨_, _, HBK.out⟩), HJ.out.push ⟨_, _, HLV.out, HP2.out⟩ HFV.out⟩
      case done =>
        rintro U hj hK
        obtain ⟨M2, sq2, hl2, hp2⟩ := hj.st
        have hclr : ∀ a, 1 ≤ a → a ≤ N → i ∈ sq2 a → M2.fl a = false := fun a a1 a2 ha => by
          have := hp2.up.all hp2.sp.q HP0.out HPZ.out hp2.nk a a1 a2 ha
          obtain ⟨t, ht, e⟩ := List.getElem_of_mem this
          exact hp2.fl t a (Nat.zero_le _) (by rw [← e]; exact List.getElem?_eq_getElem ht)
        have hiS : i ∈ sq j := HPS.out i (List.mem_of_getElem? HP0.out)
        have HCLR := hide hclr
        have HL2 := hide hl2
        have HL0 := hide hl2
        have HSP := hide hp2.sp
        have HIS := hide hiS
        have HFRU := hide hj.fr
        have HBF := hide hj.hf
        have HK := hide hK
        have hDge : w.heap.size ≤ w3.heap.size := by omega
        clear hj hK hl2 hp2 hclr hiS HP HPR HPZ HP0 HPS HJ0 hw3s hw2s hw1s
        go_wp2_with fail
        go_loopg [10] (N + 1) (fun gh s10 wv => ∃ M' sq', N + 1 ≤ (sq' i).length + gh ∧ Lf wv l N M' ∧ Spl N M M' sq sq' (sq j) ∧ (∀ a, 1 ≤ a → a ≤ N → i ∈ sq' a → M'.fl a = false) ∧ Fr [l.b] U wv)
        case atStart => exact ⟨M2, sq2, by omega, HL2.out, HSP.out, HCLR.out, Fr.refl _ _⟩
        case round =>
          obtain ⟨M', sq', hg, hl, hsp, hcl, hf⟩ := hrel
          clear HCLR HL2 HSP
          have hiS := HIS.out
          have hq := hsp.q
          have cf : wr.cell? ⟨w.heap.size, 0, none⟩ = some (.pointer (some ⟨l.g, 0, none⟩)) := by
            obtain ⟨-, ⟨J, hb⟩, -⟩ := HL0.out
            exact ((HBF.out.fr hf (by simpa using HBF.out.ne_ hb (by decide))).cell 0).trans rfl
          have c1 := hl.c1
          have cu := hl.up i2
          have bi : (i : Int) < ((N + 1 : Nat) : Int) := by omega
          have hfi : M'.fl i = false := hcl i i1 i2 (hq.self i1 i2)
          have HG := hide hg
          have HL := hide hl
          have HSPL := hide hsp
          have HCL := hide hcl
          have HFV := hide hf
          by_cases hk : Kid M' i
          · obtain ⟨s, hs2, hks, hcs⟩ := lctSideK wr l N M' sq' i hl hq i1 i2 hk
            obtain ⟨p1, p2, -, -⟩ := hsp.sub ((hsp.sub hiS).2.2.2 hk)
            have HCS := hide hcs
            have hk2 : M'.up i ≤ N := p2
            by_cases hkp : Kid M' (M'.up i)
            · obtain ⟨a, ha2, hka, hca⟩ := lctSideK wr l N M' sq' (M'.up i) hl hq p1 p2 hkp
              have HCA := hide hca
              by_cases hsa : s = a
              · subst hsa
                have HRP := hide (lctRotP wr l N M M' sq sq' (sq j) i s hl hsp hiS hk hkp hs2 hks hka hcl)
                clear hcs hca hl hsp hcl hf hq hg hk hkp hks hka hfi
                generalize M'.up i = pp at *
                go_wp2_with fail
                refine HCS.out.mono ?_
                rintro e wx ⟨rfl, rfl⟩
                go_wp2_with fail
                refine HCA.out.mono ?_
                rintro e wx ⟨rfl, rfl⟩
                go_wp2_with fail
                refine HRP.out.mono ?_
                rintro e w5 ⟨rfl, M5, sq5, hl5, hsp5, hcl5, hk5, he5, hf5⟩
                have HRI := hide (lctRotI w5 l N M M5 sq sq5 (sq j) i hl5 hsp5 hiS hk5 hcl5)
                have cf5 : w5.cell? ⟨w.heap.size, 0, none⟩ = some (.pointer (some ⟨l.g, 0, none⟩)) := by
                  obtain ⟨-, ⟨J, hb⟩, -⟩ := HL0.out
                  exact ((HBF.out.fr (HFV.out.trans hf5) (by simpa using HBF.out.ne_ hb (by decide))).cell 0).trans rfl
                have HF5 := hide (HFV.out.trans hf5)
                have HE5 := hide he5
                clear hl5 hsp5 hcl5 hk5 he5 hf5 c1 cu cf
                go_wp2_with fail
                refine HRI.out.mono ?_
                rintro e w6 ⟨rfl, M6, sq6, hl6, hsp6, hcl6, hlt6, -, hf6⟩
                have HL6 := hide hl6
                have HSP6 := hide hsp6
                have HCL6 := hide hcl6
                have HLT6 := hide hlt6
                have HF6 := hide (HF5.out.trans hf6)
                clear hl6 hsp6 hcl6 hlt6 hf6 cf5
                go_wp2_with fail
                go_roundg (N + 1 - (sq6 i).length)
                case measure =>
                  have h1 := HG.out
                  have h2 := HLT6.out
                  rw [HE5.out] at h2
                  have h3 := HSP6.out.q.lenN i1 i2
                  omega
                case rel =>
                  have h3 := HSP6.out.q.lenN i1 i2
                  exact ⟨M6, sq6, by omega, HL6.out, HSP6.out, HCL6.out, HF6.out⟩
              · have HRI0 := hide (lctRotI wr l N M M' sq sq' (sq j) i hl hsp hiS hk hcl)
                have HKP := hide hkp
                have hsa2 : ¬ (s : Int) = (a : Int) := by omega
                clear hcs hca hl hsp hcl hf hq hg hk hkp hks hka hfi
                generalize M'.up i = pp at *
                go_wp2_with fail
                refine HCS.out.mono ?_
                rintro e wx ⟨rfl, rfl⟩
                go_wp2_with fail
                refine HCA.out.mono ?_
                rintro e wx ⟨rfl, rfl⟩
                go_wp2_with fail
                refine HRI0.out.mono ?_
                rintro e w5 ⟨rfl, M5, sq5, hl5, hsp5, hcl5, hlt5, hk5, hf5⟩
                have HRI := hide (lctRotI w5 l N M M5 sq sq5 (sq j) i hl5 hsp5 hiS (hk5 HKP.out) hcl5)
                have cf5 : w5.cell? ⟨w.heap.size, 0, none⟩ = some (.pointer (some ⟨l.g, 0, none⟩)) := by
                  obtain ⟨-, ⟨J, hb⟩, -⟩ := HL0.out
                  exact ((HBF.out.fr (HFV.out.trans hf5) (by simpa using HBF.out.ne_ hb (by decide))).cell 0).trans rfl
                have HF5 := hide (HFV.out.trans hf5)
                have HE5 := hide hlt5
                clear hl5 hsp5 hcl5 hk5 hlt5 hf5 c1 cu cf
                go_wp2_with fail
                refine HRI.out.mono ?_
                rintro e w6 ⟨rfl, M6, sq6, hl6, hsp6, hcl6, hlt6, -, hf6⟩
                have HL6 := hide hl6
                have HSP6 := hide hsp6
                have HCL6 := hide hcl6
                have HLT6 := hide hlt6
                have HF6 := hide (HF5.out.trans hf6)
                clear hl6 hsp6 hcl6 hlt6 hf6 cf5
                go_wp2_with fail
                go_roundg (N + 1 - (sq6 i).length)
                case measure =>
                  have h1 := HG.out
                  have h2 := HLT6.out
                  have h4 := HE5.out
                  have h3 := HSP6.out.q.lenN i1 i2
                  omega
                case rel =>
                  have h3 := HSP6.out.q.lenN i1 i2
                  exact ⟨M6, sq6, by omega, HL6.out, HSP6.out, HCL6.out, HF6.out⟩
            · have HCA := hide (lctSide_no wr l N M' (M'.up i) hl p2 (hq.uN _ p1 p2) hkp)
              have HRI0 := hide (lctRotI wr l N M M' sq sq' (sq j) i hl hsp hiS hk hcl)
              clear hcs hl hsp hcl hf hq hg hk hkp hks hfi
              generalize M'.up i = pp at *
              go_wp2_with fail
              refine HCS.out.mono ?_
              rintro e wx ⟨rfl, rfl⟩
              go_wp2_with fail
              refine HCA.out.mono ?_
              rintro e wx ⟨rfl, rfl⟩
              go_wp2_with fail
              refine HRI0.out.mono ?_
              rintro e w5 ⟨rfl, M5, sq5, hl5, hsp5, hcl5, hlt5, -, hf5⟩
              have HL6 := hide hl5
              have HSP6 := hide hsp5
              have HCL6 := hide hcl5
              have HLT6 := hide hlt5
              have HF6 := hide (HFV.out.trans hf5)
              clear hl5 hsp5 hcl5 hlt5 hf5 c1 cu cf
              go_wp2_with fail
              go_roundg (N + 1 - (sq5 i).length)
              case measure =>
                have h1 := HG.out
                have h2 := HLT6.out
                have h3 := HSP6.out.q.lenN i1 i2
                omega
              case rel =>
                have h3 := HSP6.out.q.lenN i1 i2
                exact ⟨M5, sq5, by omega, HL6.out, HSP6.out, HCL6.out, HF6.out⟩
          · have HSN := hide (lctSide_no wr l N M' i hl i2 (hq.uN i i1 i2) hk)
            have hfin := hsp.fin HQ.out j1 j2 HNK.out hiS hk hfi
            have HFIN := hide hfin
            clear hg hl hsp hcl hf hk hq hfin hfi hiS c1 cu
            go_wp2_with fail
            refine HSN.out.mono ?_
            rintro e wx ⟨rfl, rfl⟩
            go_wp2_with fail
            rw [Exit.noGoto_ret]
            gi_wp2_with fail
            have hKr : wr.heap[w3.heap.size]? = some (.deferred (some [])) := by
              obtain ⟨-, ⟨J, hb⟩, -⟩ := HL0.out
              have hk := HK.out
              refine (HFV.out.block _ (Array.getElem?_eq_some_iff.1 hk).1 fun hm => ?_).trans hk
              simp at hm
              unfold Blk at hb
              rw [← hm, hk] at hb
              cases hb
            refine ⟨by simp, .inl ⟨_, _, rfl, run_takeDeferred hKr, ?_⟩⟩
            refine ⟨_, results_none rfl _ _ _, rfl, M', sq', HL.out.putD hKr _, HFIN.out, ?_⟩
            have hfr : Fr [l.b] w wr := HFRU.out.trans HFV.out
            exact ⟨hfr.os, hfr.tape, hfr.output, by simpa using hfr.size, fun k hk hn => (World.putObj_heap_other (by omega)).trans (hfr.block k hk hn)⟩
end Go.Proofs.YtoomcgmbaogjbaaDoor
namespace Go.Proofs.YtoomcgmbaogjbaaDoor
open Go.RowKit
set_option linter.unusedVariables false

theorem Exp.ne {N : Nat} {M0 M : LM} {sq0 sq : Nat → List Nat} {par d : Nat → Nat} {i below j : Nat} (h : Exp N M0 M sq0 sq par i below j) (hd : Dep par d) (j0 : j ≠ 0) : below ≠ j := fun e => by
  have hb : below ≠ 0 := by omega
  obtain ⟨b2, bk, bu, -⟩ := h.b1 hb
  have hc := h.l.ch below (by omega) b2 bk
  rw [bu] at hc
  have := (hc.deep hd _ _ (fun x hx => by have := h.l.q.rng below (by omega) b2 x hx; omega)).1 below (h.l.q.self (by omega) b2)
  rw [e] at this
  omega
theorem Exp.bN {N : Nat} {M0 M : LM} {sq0 sq : Nat → List Nat} {par : Nat → Nat} {i below j : Nat} (h : Exp N M0 M sq0 sq par i below j) : below ≤ N := by
  by_cases hb : below = 0
  · omega
  · exact (h.b1 hb).1
/-- The node with its new right kid. -/
def kdM (M : LM) (j below : Nat) : LM := (M.setK 1 j below).setFi j (rfr (M.setK 1 j below) j)
theorem kdM_kd (M : LM) (j below : Nat) : Kd1 M (kdM M j below) j below :=
  ⟨fun u x hu => rfl, rfl, rfl, rfl, fun x hx => if_neg hx⟩
theorem kdM_rk {N : Nat} {M : LM} {sq : Nat → List Nat} {j below : Nat} (h : Sq N M sq) (j1 : 1 ≤ j) (j2 : j ≤ N) (b2 : below ≤ N) (hb : below ≠ j) : RK (M.setK 1 j below) N j := fun u hu => by
  have fN : ∀ x, x ≠ 0 → x ≤ N → M.fi x ≤ N := fun x x0 xN => (h.rng x (by omega) xN _ (h.fi_ x (by omega) xN).1).2
  obtain rfl | rfl : u = 0 ∨ u = 1 := by omega
  · have e : (M.setK 1 j below).k 0 j = M.k 0 j := if_neg (fun e => by cases e.2)
    rw [e]
    exact ⟨h.kN j 0 j1 j2 (by decide), fun h0 => ⟨h.kid_ne j1 j2 (by decide), fN _ h0 (h.kN j 0 j1 j2 (by decide))⟩⟩
  · have e : (M.setK 1 j below).k 1 j = below := if_pos ⟨rfl, rfl⟩
    rw [e]
    exact ⟨b2, fun h0 => ⟨hb, fN _ h0 b2⟩⟩
theorem kdM_fst {N : Nat} {M : LM} {sq : Nat → List Nat} {j below : Nat} (h : Sq N M sq) (j1 : 1 ≤ j) (j2 : j ≤ N) (b2 : below ≤ N) : Fst M.key ((kdM M j below).fi j) (sq (M.k 0 j) ++ j :: sq below) := by
  have e : (kdM M j below).fi j = rfr (M.setK 1 j below) j := if_pos rfl
  rw [e]
  have e0 : (M.setK 1 j below).k 0 j = M.k 0 j := if_neg (fun e => by cases e.2)
  have e1 : (M.setK 1 j below).k 1 j = below := if_pos ⟨rfl, rfl⟩
  exact rfr_fst (M := M.setK 1 j below) (i := j) (L := fun u => if u = 0 then sq (M.k 0 j) else sq below)
    (fun u hu h0 => by
      obtain rfl | rfl : u = 0 ∨ u = 1 := by omega
      · rw [e0] at h0; simp only [if_true]; rw [h0]; exact h.s0
      · rw [e1] at h0; simp only [Nat.one_ne_zero, if_false]; rw [h0]; exact h.s0)
    (fun u hu h0 => by
      obtain rfl | rfl : u = 0 ∨ u = 1 := by omega
      · rw [e0] at h0 ⊢; simp only [if_true]; exact h.fi_ _ (by omega) (h.kN j 0 j1 j2 (by decide))
      · rw [e1] at h0 ⊢; simp only [Nat.one_ne_zero, if_false]; exact h.fi_ _ (by omega) b2)
    (fun y => by simp [or_left_comm])

set_option maxRecDepth 100000 in
set_option maxHeartbeats 8000000 in
theorem lctExpose (w : World) (l : LLoc) (N : Nat) (M : LM) (sq : Nat → List Nat) (par : Nat → Nat) (i : Nat) (h : Lf w l N M) (hq : Lct N M par sq) (i1 : 1 ≤ i) (i2 : i ≤ N) :
    Calls Tryd.prog 20 #[.pointer (some ⟨l.g, 0, none⟩), .int .i64 (i : Int)] w fun e w' => ∃ b : Int, e = .returned (.int .i64 b) ∧ ∃ M' sq', Lf w' l N M' ∧ Exd N M M' sq sq' par i ∧ Fr [l.b] w w' := by
  obtain ⟨d, hd⟩ := hq.ac.dep
  have HD := hide hd
  have HX0 := hide (Exp.start hq i2)
  have H0 := hide h
  clear h hq hd
  go_enter Tryd.func20, Tryd.ntmps20
  go_wp2_with fail
  go_loopg [5, 6] (d i + 1) (fun gh s5 s6 wr => ∃ (M1 : LM) (sq1 : Nat → List Nat) (below j : Nat), d j + 1 ≤ gh ∧ s5 = .int .i64 (below : Int) ∧ s6 = .int .i64 (j : Int) ∧ Exp N M M1 sq sq1 par i below j ∧ Lf wr l N M1 ∧ Fr [l.b] w wr)
  case atStart => exact ⟨M, sq, 0, i, Nat.le_refl _, rfl, rfl, HX0.out, H0.out, Fr.refl _ _⟩
  case round =>
    obtain ⟨M1, sq1, below, j, hg, rfl, rfl, hx, hl, hf⟩ := hrel
    have HG := hide hg
    have HX := hide hx
    have HL := hide hl
    have HF := hide hf
    clear HX0 H0 hg hf
    by_cases hj : j = 0
    · subst hj
      have HSP := hide (lctSplay wr l N M1 sq1 i hl hx.l.q i1 i2)
      clear hx hl
      go_wp2_with fail
      refine HSP.out.mono ?_
      rintro e w2 ⟨rfl, M2, sq2, hl2, hs2, hf2⟩
      have HL2 := hide hl2
      have HE := hide (HX.out.fin i1 hs2)
      have HF2 := hide (HF.out.trans hf2)
      clear hl2 hs2 hf2
      go_wp2_with fail
      go_ret
      exact ⟨_, rfl, M2, sq2, HL2.out, HE.out, HF2.out⟩
    · have j1 : 1 ≤ j := by omega
      have j2 := hx.jN
      have b2 := hx.bN
      have bj := hx.ne HD.out hj
      have hj' : ¬ (j : Int) = 0 := by omega
      have HSP := hide (lctSplay wr l N M1 sq1 j hl hx.l.q j1 j2)
      clear hx hl
      go_wp2_with fail
      refine HSP.out.mono ?_
      rintro e w2 ⟨rfl, M2, sq2, hl2, hs2, hf2⟩
      have hq2 := hs2.q
      have k1N := hq2.kN j 1 j1 j2 (by decide)
      have c1 := hl2.c1
      have bb : (j : Int) < ((N + 1 : Nat) : Int) := by omega
      have bb2 : (j : Int) < (N : Int) + 1 := by omega
      have bb3 : (0 : Int) ≤ (j : Int) := by omega
      have bk2 : (M2.k 1 j : Int) < (N : Int) + 1 := by omega
      have bk1 : (M2.k 1 j : Int) < ((N + 1 : Nat) : Int) := by omega
      have bk3 : (0 : Int) ≤ (M2.k 1 j : Int) := by omega
      have bw1 : (below : Int) < ((N + 1 : Nat) : Int) := by omega
      have bw2 : (below : Int) < (N : Int) + 1 := by omega
      have bw3 : (0 : Int) ≤ (below : Int) := by omega
      have ck := hl2.k1 j2
      obtain ⟨l7, c7⟩ := hl2.ji (c := 7) j2 (by omega)
      obtain ⟨t1, ct1⟩ := hl2.ji (c := 8) k1N (by omega)
      obtain ⟨t2, ct2⟩ := hl2.ji (c := 8) b2 (by omega)
      have HX3 := hide (HX.out.step HD.out hj hs2 (kdM_kd M2 j below) (kdM_fst hq2 j1 j2 b2))
      have HRK := hide (kdM_rk hq2 j1 j2 b2 bj)
      have HL2 := hide hl2
      have HF2 := hide (HF.out.trans hf2)
      have huN := hq2.uN j j1 j2
      clear hl2 hs2 hf2 hq2 HX HF HL
      generalize M2.k 1 j = kk at *
      go_wp2_with fail
      go_still_tail 28, (by kernel_rfl)
      change wpList _ _ _ _ _ (w2.drewN 1)
      have h3 := HL2.out.drew1
      have hf3 := HF2.out.drewN 1
      have c1' := h3.c1
      have ck' : (w2.drewN 1).cell? ⟨l.b, j * 9 + 1, none⟩ = some (.int .i64 (kk : Int)) := ck
      have c7' : (w2.drewN 1).cell? ⟨l.b, j * 9 + 7, none⟩ = some (.int .i64 l7) := c7
      have ct1' : (w2.drewN 1).cell? ⟨l.b, kk * 9 + 8, none⟩ = some (.int .i64 t1) := ct1
      have ct2' : (w2.drewN 1).cell? ⟨l.b, below * 9 + 8, none⟩ = some (.int .i64 t2) := ct2
      clear c1 ck c7 ct1 ct2
      generalize w2.drewN 1 = w3 at *
      have z7 := h3.frz (j * 9 + 7)
      have h4 := h3.setJ j2 (c := 7) (by omega) (wrap64 (l7 + wrap64 (t1 - t2)))
      have hf4 := hf3.setCell (p := ⟨l.b, j * 9 + 7, none⟩) (.inl (by simp)) (.int .i64 (wrap64 (l7 + wrap64 (t1 - t2))))
      have k4 := h4.k1 j2
      have z4 := h4.frz (j * 9 + 1)
      have h5 := h4.setK1 j2 below
      have hf5 := hf4.setCell (p := ⟨l.b, j * 9 + 1, none⟩) (.inl (by simp)) (.int .i64 (below : Int))
      have H5 := hide h5
      have HF5 := hide hf5
      clear h3 hf3 h4 hf4 h5 hf5
      go_wp2_with fail
      refine (lctRefresh _ l N (M2.setK 1 j below) j H5.out j2 HRK.out).mono ?_
      rintro e w6 ⟨rfl, h6, hf6⟩
      have hu6 : w6.cell? ⟨l.b, j * 9 + 2, none⟩ = some (.int .i64 (M2.up j : Int)) := h6.up j2
      have c6 := h6.c1
      have H6 := hide h6
      have HF6 := hide (HF5.out.trans hf6)
      clear h6 hf6 c1' ck' c7' ct1' ct2' z7 k4 z4
      go_wp2_with fail
      go_roundg (d (M2.up j) + 1)
      case measure =>
        have h1 : d (M2.up j) < d j := HX3.out.2
        have := HG.out
        omega
      case rel => exact ⟨kdM M2 j below, _, j, M2.up j, Nat.le_refl _, rfl, rfl, HX3.out.1, H6.out, HF6.out⟩
end Go.Proofs.YtoomcgmbaogjbaaDoor
