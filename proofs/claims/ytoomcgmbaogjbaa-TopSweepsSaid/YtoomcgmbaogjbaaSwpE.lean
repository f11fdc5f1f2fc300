/- sweep: collect. sweep: collect, walked. -/
import Derived.Test.YtoomcgmbaogjbaaSwpC
import Derived.Laws.MakeOwn
import Derived.RangeFuncBound
namespace Go.Proofs.Ytoomcgmbaogjbaa
open Go.RowKit Go.Shelf
attribute [local go_sem] Oper.semAt_some
set_option linter.unusedVariables false

/-- The rows of the first k edges, for the first so many k. -/
def rws (n : Nat) (es : List (Int × Int × Int)) (k : Nat) : List Value := (List.range k).flatMap fun j => rowC n (gLb n (es.take j))
theorem rws_succ (n : Nat) (es : List (Int × Int × Int)) (k : Nat) : rws n es (k + 1) = rws n es k ++ rowC n (gLb n (es.take k)) := by
  simp [rws, List.range_succ]
theorem rws_len (n : Nat) (es : List (Int × Int × Int)) (k : Nat) : (rws n es k).length = k * 3 := by
  induction k with
  | zero => simp [rws]
  | succ k ih => rw [rws_succ, List.length_append, ih]; simp [rowC]; omega
/-- The boxes of collect, and the rows so far. -/
structure Rws (W : World) (n : Nat) (es : List (Int × Int × Int)) (B br b4 b7 g k : Nat) : Prop where
  row : ∃ V, Blk W br 25 #[V] ∧ W.ownsRow B 37 3 V k (rws n es k)
  p4 : Blk W b4 51 #[.pointer (some ⟨g, 0, none⟩)]
  p7 : Blk W b7 55 #[.func (.func 19) #[] #[]]
theorem own_ty {w : World} {B k sz : Nat} {E : TypeId} {V : Value} {xs : List Value} (h : w.ownsRow B E sz V k xs) : ∀ b, V.ownBlock = some b → B ≤ b ∧ ∃ cs, Blk w b E cs := fun b hb => by
  rcases h.2 with ⟨e, _⟩ | ⟨g, cap, cur, e, hb2, hh, r⟩
  · rw [e] at hb; cases hb
  · rw [e] at hb
    injection hb with hb
    subst hb
    exact ⟨hb2, cur, hh⟩
theorem Rws.fr {U V : World} {n B br b4 b7 g k : Nat} {es : List (Int × Int × Int)} (h : Rws U n es B br b4 b7 g k) {S : List Nat} (hF : Fr S U V) (hS : ∀ b ∈ S, ∀ ty cs, Blk U b ty cs → ty ≠ 25 ∧ ty ≠ 37 ∧ ty ≠ 51 ∧ ty ≠ 55) : Rws V n es B br b4 b7 g k := by
  obtain ⟨⟨v, h1, h2⟩, h3, h4⟩ := h
  refine ⟨⟨v, h1.fr hF fun hm => (hS _ hm _ _ h1).1 rfl, own_fr h2 hF fun b hb hm => ?_⟩, h3.fr hF fun hm => (hS _ hm _ _ h3).2.2.1 rfl, h4.fr hF fun hm => (hS _ hm _ _ h4).2.2.2 rfl⟩
  obtain ⟨-, cs, hc⟩ := own_ty h2 b hb
  exact (hS _ hm _ _ hc).2.1 rfl
theorem Blk.uniq {w : World} {g : Nat} {t t' : TypeId} {cs cs' : Array Value} (h : Blk w g t cs) (h' : Blk w g t' cs') : t = t' := by
  rcases Nat.lt_or_ge 0 1 with _ | h0
  · refine Classical.byContradiction fun hn => ?_
    exact h.ne_ h' hn rfl
  · omega
theorem Rws.tb {U V : World} {n B br b4 b7 g k : Nat} {es : List (Int × Int × Int)} (h : Rws U n es B br b4 b7 g k) {S : List Nat} (hF : Fr S U V) (hS : ∀ b ∈ S, ∃ ty cs, Blk U b ty cs ∧ TB ty) : Rws V n es B br b4 b7 g k :=
  h.fr hF fun b hb ty cs hc => by
    obtain ⟨ty', cs', h', ht⟩ := hS b hb
    obtain rfl := hc.uniq h'
    unfold TB at ht
    refine ⟨?_, ?_, ?_, ?_⟩ <;> (rintro rfl; revert ht; decide)
/-- An object that is no block of cells may turn. -/
theorem fr_put {W : World} {b : Nat} {r : Loop} (h : W.heap[b]? = some (.loop r)) (o : Obj) : Fr [b] W (W.putObj b o) :=
  ⟨rfl, rfl, rfl, by simp, fun k _ hk => World.putObj_heap_other (by simpa using hk)⟩
theorem not_blk {W : World} {b : Nat} {r : Loop} (h : W.heap[b]? = some (.loop r)) {g : Nat} {t : TypeId} {cs : Array Value} (hb : Blk W g t cs) : g ≠ b := by
  rintro rfl
  unfold Blk at hb
  rw [hb] at h
  cases h
theorem Rws.put {W : World} {n B br b4 b7 g k : Nat} {es : List (Int × Int × Int)} (h : Rws W n es B br b4 b7 g k) {b : Nat} {r : Loop} (hl : W.heap[b]? = some (.loop r)) (o : Obj) : Rws (W.putObj b o) n es B br b4 b7 g k :=
  h.fr (fr_put hl o) fun c hc ty cs hb => by
    simp at hc; subst hc
    exact absurd rfl (not_blk hl hb)
theorem Bx.put {W : World} {bt be bo g : Nat} {A O : Option Addr} {ml cl mo co : Nat} (h : Bx W bt be bo g A O ml cl mo co) {b : Nat} {r : Loop} (hl : W.heap[b]? = some (.loop r)) (o : Obj) : Bx (W.putObj b o) bt be bo g A O ml cl mo co :=
  ⟨h.t.fr (fr_put hl o) (by simpa using not_blk hl h.t), h.e.fr (fr_put hl o) (by simpa using not_blk hl h.e), h.o.fr (fr_put hl o) (by simpa using not_blk hl h.o)⟩
theorem Core.put {q : TL} {n : Nat} {es : List (Int × Int × Int)} {w0 W : World} {k : Nat} {t : BT} {f : Nat → Nat} (h : Core q n es w0 W k t f) {b : Nat} {r : Loop} (hl : W.heap[b]? = some (.loop r)) (hb : w0.heap.size ≤ b) (o : Obj) : Core q n es w0 (W.putObj b o) k t f :=
  ⟨h.tly.fr (fr_put hl o) (fun c hc => by
      obtain ⟨ty, cs, hk, -⟩ := h.tly.tb c hc
      simpa using not_blk hl hk), Fr.lift h.bel (fr_put hl o) (by simpa using hb) h.bel.size, h.fresh⟩
theorem keeps_fr {B : Nat} {U V : World} {S : List Nat} (h : Fr S U V) (hS : ∀ b ∈ S, ∃ ty cs, Blk U b ty cs) : KeepsFrom B U V :=
  ⟨h.size, fun k o _ hk ho => (h.block k (Array.getElem?_eq_some_iff.1 hk).1 fun hm => by
    obtain ⟨ty, cs, hc⟩ := hS k hm
    unfold Blk at hc
    rw [hk] at hc
    cases hc
    cases ho).trans hk⟩
/-- A round's end. -/
theorem Rws.step {W V' : World} {n B br b4 b7 g k : Nat} {es : List (Int × Int × Int)} {V v' : Value} {S : List Nat} (h4 : Blk W b4 51 #[.pointer (some ⟨g, 0, none⟩)]) (h7 : Blk W b7 55 #[.func (.func 19) #[] #[]])
    (hr : Blk W br 25 #[V]) (ho : W.ownsRow B 37 3 V k (rws n es k)) (ho' : V'.ownsRow B 37 3 v' (k + 1) (rws n es k ++ rowC n (gLb n (es.take k)))) (hb' : Blk V' br 25 #[v']) (hF : Fr S W V') (hS : ∀ b ∈ S, b = br ∨ V.ownBlock = some b) :
    Rws V' n es B br b4 b7 g (k + 1) := by
  refine ⟨⟨v', hb', by rw [rws_succ]; exact ho'⟩, h4.fr hF fun hm => ?_, h7.fr hF fun hm => ?_⟩
  · rcases hS _ hm with e | e
    · subst e; exact absurd (h4.uniq hr) (by decide)
    · obtain ⟨-, cs, hc⟩ := own_ty ho _ e
      exact absurd (h4.uniq hc) (by decide)
  · rcases hS _ hm with e | e
    · subst e; exact absurd (h7.uniq hr) (by decide)
    · obtain ⟨-, cs, hc⟩ := own_ty ho _ e
      exact absurd (h7.uniq hc) (by decide)
theorem col_far {W : World} {br B k n : Nat} {es : List (Int × Int × Int)} {V : Value} {S : List Nat} (hr : Blk W br 25 #[V]) (ho : W.ownsRow B 37 3 V k (rws n es k)) (hS : ∀ b ∈ S, b = br ∨ V.ownBlock = some b) :
    ∀ b ∈ S, ∃ ty cs, Blk W b ty cs ∧ (ty = 25 ∨ ty = 37) := fun b hb => by
  rcases hS b hb with rfl | e
  · exact ⟨_, _, hr, .inl rfl⟩
  · obtain ⟨-, cs, hc⟩ := own_ty ho _ e
    exact ⟨_, cs, hc, .inr rfl⟩
theorem Core.col {q : TL} {n : Nat} {es : List (Int × Int × Int)} {w0 W V' : World} {k : Nat} {t : BT} {f : Nat → Nat} (h : Core q n es w0 W k t f) {S : List Nat} (hF : Fr S W V') (hS : ∀ b ∈ S, ∃ ty cs, Blk W b ty cs ∧ (ty = 25 ∨ ty = 37)) (hB : ∀ b ∈ S, w0.heap.size ≤ b) : Core q n es w0 V' k t f :=
  ⟨h.tly.fr hF (fun c hc hm => by
      obtain ⟨ty, cs, hk, ht⟩ := h.tly.tb c hc
      obtain ⟨ty', cs', hk', ht'⟩ := hS c hm
      obtain rfl := hk.uniq hk'
      unfold TB at ht
      rcases ht' with rfl | rfl <;> (revert ht; decide)), Fr.lift h.bel hF hB h.bel.size, h.fresh⟩
theorem Bx.col {U V : World} {bt be bo g : Nat} {A O : Option Addr} {ml cl mo co : Nat} (h : Bx U bt be bo g A O ml cl mo co) {S : List Nat} (hF : Fr S U V) (hS : ∀ b ∈ S, ∃ ty cs, Blk U b ty cs ∧ (ty = 25 ∨ ty = 37)) : Bx V bt be bo g A O ml cl mo co := by
  have key : ∀ {b : Nat} {ty : TypeId} {cs : Array Value}, Blk U b ty cs → ty ≠ 25 → ty ≠ 37 → b ∉ S := fun hb h1 h2 hm => by
    obtain ⟨ty', cs', hk', ht'⟩ := hS _ hm
    obtain rfl := hb.uniq hk'
    rcases ht' with rfl | rfl
    · exact h1 rfl
    · exact h2 rfl
  exact ⟨h.t.fr hF (key h.t (by decide) (by decide)), h.e.fr hF (key h.e (by decide) (by decide)), h.o.fr hF (key h.o (by decide) (by decide))⟩
end Go.Proofs.Ytoomcgmbaogjbaa
namespace Go.Proofs.Ytoomcgmbaogjbaa
open Go.RowKit Go.Shelf
attribute [local go_sem] Oper.semAt_some
set_option linter.unusedVariables false

set_option maxRecDepth 100000 in
set_option maxHeartbeats 8000000 in
theorem swCollect (w0 w : World) (q : TL) (t0 : BT) (f0 : Nat → Nat) (n : Nat) (l : List (Int × Int × Int)) (od : List Nat) (A O : Option Addr) (ml cl mo co : Nat)
    (hn : n ≤ 100) (hgl : GOk n l) (hod : ∀ i ∈ od, i < l.length) (hA : Rd w0 A ml 3 (ecs l)) (hml : l.length = ml) (hml2 : ml ≤ 900) (hO : Rd w0 O mo 1 (nvs od)) (hmo : od.length = mo) (hmo2 : mo ≤ 900)
    (h0 : Core q n (esO l od) w0 w 0 t0 f0) :
    Calls Try.prog 18 #[.pointer (some ⟨q.g, 0, none⟩), .slice A ml cl, .slice O mo co, .func (.func 19) #[] #[]] w
      fun e w' => ∃ V, e = .returned V ∧ w'.ownsRow w.heap.size 37 3 V (mo + 1) (rws n (esO l od) (mo + 1)) ∧ Below w0.heap.size w0 w' := by
  obtain ⟨i0, hi, hz0, hz1, hz2⟩ := info_parts row_info
  have hmk := fun W : World => run_make (P := Try.prog) W 25 37 i0 _ Try.underlying25 hi hz0 .i64 .i64 0 ((mo : Int) + 1) (by omega) (by omega) (by rw [hz2]; omega) (by omega)
  rw [hz1] at hmk
  have e1 : ((mo : Int) + 1).toNat = mo + 1 := by omega
  simp only [e1, Int.toNat_zero] at hmk
  have hk1 : IntKind.i64.wrap ((mo : Int) + 1) = (mo : Int) + 1 := IntWalk.i64_in _ (by omega)
  have HGL := hide hgl
  have HOD := hide hod
  have HA := hide hA
  have HML := hide hml
  have HO := hide hO
  have HMO := hide hmo
  have H0 := hide h0
  have HI := hide hi
  clear hgl hod hA hml hO hmo h0 e1 hi hz0 hz1 hz2
  refine (callsIn_wide (n := 3)).1 ?_
  refine callsIn_of_wp_marks Try.func18 rfl trivial ?_ rfl
  simp only [Try.ntmps18, List.size_toArray, List.length_cons, List.length_nil, Nat.reduceAdd, Nat.reduceSub, Array.replicate_succ, Array.replicate_zero, List.push_toArray, List.append_toArray, List.nil_append, List.cons_append]
  gi_wp2_with fail
  refine ⟨trivial, (callsIn_wide.2 (swSteps _ (some ⟨q.g, 0, none⟩) A O ml cl mo co)).mono ?_⟩
  rintro e w7 ⟨rfl, hw7⟩
  simp only [World.size_alloc] at hw7 ⊢
  have hz7 : w7.heap.size = w.heap.size + 7 := by rw [hw7]; simp
  have hF7 : Fr [] w w7 := by rw [hw7]; exact (((((((Fr.refl [] w).alloc _).alloc _).alloc _).alloc _).alloc _).alloc _).alloc _
  have hX0 : Rws w7 n (esO l od) w.heap.size (w.heap.size + 1 + 1 + 1) w.heap.size (w.heap.size + 1) q.g 0 := by
    refine ⟨⟨.slice (some ⟨w.heap.size + 1 + 1, 0, none⟩) 0 (mo + 1), ?_, ?_⟩, ?_, ?_⟩
    · rw [hw7]
      have := Blk.new (((w.alloc (.cells #[.pointer (some ⟨q.g, 0, none⟩)] 51)).alloc (.cells #[.func (.func 19) #[] #[]] 55)).alloc (.cells (madeCells #[.int .i64 0, .int .i64 0, .int .i64 0] ((mo + 1) * 3)) 37)) 25 #[.slice (some ⟨w.heap.size + 1 + 1, 0, none⟩) 0 (mo + 1)]
      simp only [World.size_alloc] at this
      exact ((this.alloc _).alloc _).alloc _
    · have := World.ownsRow_made (base := w.heap.size) (e := 37) (size := 3) ((w.alloc (.cells #[.pointer (some ⟨q.g, 0, none⟩)] 51)).alloc (.cells #[.func (.func 19) #[] #[]] 55)) (madeCells #[.int .i64 0, .int .i64 0, .int .i64 0] ((mo + 1) * 3)) (mo + 1) (by simp; omega) (by have : maxLen = 9223372036854775807 := rfl; omega) (by rw [size_madeCells])
      simp only [World.size_alloc] at this
      rw [hw7]
      exact (((this.alloc _).alloc _).alloc _).alloc _
    · rw [hw7]
      exact ((((((Blk.new w 51 #[.pointer (some ⟨q.g, 0, none⟩)]).alloc _).alloc _).alloc _).alloc _).alloc _).alloc _
    · have := Blk.new (w.alloc (.cells #[.pointer (some ⟨q.g, 0, none⟩)] 51)) 55 #[.func (.func 19) #[] #[]]
      simp only [World.size_alloc] at this
      rw [hw7]
      exact ((((this.alloc _).alloc _).alloc _).alloc _).alloc _
  have hB0 : Bx w7 (w.heap.size + 1 + 1 + 1 + 1) (w.heap.size + 1 + 1 + 1 + 1 + 1) (w.heap.size + 1 + 1 + 1 + 1 + 1 + 1) q.g A O ml cl mo co := by
    refine ⟨?_, ?_, ?_⟩ <;> rw [hw7]
    · have := Blk.new ((((w.alloc (.cells #[.pointer (some ⟨q.g, 0, none⟩)] 51)).alloc (.cells #[.func (.func 19) #[] #[]] 55)).alloc (.cells (madeCells #[.int .i64 0, .int .i64 0, .int .i64 0] ((mo + 1) * 3)) 37)).alloc (.cells #[.slice (some ⟨w.heap.size + 1 + 1, 0, none⟩) 0 (mo + 1)] 25)) 51 #[.pointer (some ⟨q.g, 0, none⟩)]
      simp only [World.size_alloc] at this
      exact (this.alloc _).alloc _
    · have := Blk.new (((((w.alloc (.cells #[.pointer (some ⟨q.g, 0, none⟩)] 51)).alloc (.cells #[.func (.func 19) #[] #[]] 55)).alloc (.cells (madeCells #[.int .i64 0, .int .i64 0, .int .i64 0] ((mo + 1) * 3)) 37)).alloc (.cells #[.slice (some ⟨w.heap.size + 1 + 1, 0, none⟩) 0 (mo + 1)] 25)).alloc (.cells #[.pointer (some ⟨q.g, 0, none⟩)] 51)) 22 #[.slice A ml cl]
      simp only [World.size_alloc] at this
      exact this.alloc _
    · have := Blk.new ((((((w.alloc (.cells #[.pointer (some ⟨q.g, 0, none⟩)] 51)).alloc (.cells #[.func (.func 19) #[] #[]] 55)).alloc (.cells (madeCells #[.int .i64 0, .int .i64 0, .int .i64 0] ((mo + 1) * 3)) 37)).alloc (.cells #[.slice (some ⟨w.heap.size + 1 + 1, 0, none⟩) 0 (mo + 1)] 25)).alloc (.cells #[.pointer (some ⟨q.g, 0, none⟩)] 51)).alloc (.cells #[.slice A ml cl] 22)) 29 #[.slice O mo co]
      simp only [World.size_alloc] at this
      exact this
  have hC0 := H0.out.fr hF7
  have HX0 := hide hX0
  have HB0 := hide hB0
  have HC0 := hide hC0
  have hsz0 : w0.heap.size ≤ w.heap.size := H0.out.bel.size
  clear hX0 hB0 hC0 hw7 hmk hk1 H0 hF7
  gi_wp2_with fail
  refine range_mut rfl (by omega) (gf := 39) (lb := #[.pointer (some ⟨w.heap.size + 1 + 1 + 1 + 1 + 1 + 1, 0, none⟩), .pointer (some ⟨w.heap.size + 1 + 1 + 1 + 1, 0, none⟩), .pointer (some ⟨w.heap.size + 1 + 1 + 1 + 1 + 1, 0, none⟩)]) rfl trivial (enters_of Try.func39 (by kernel_rfl) rfl)
    (fun W => Core q n (esO l od) w0 W 0 t0 f0 ∧ Bx W (w.heap.size + 1 + 1 + 1 + 1) (w.heap.size + 1 + 1 + 1 + 1 + 1) (w.heap.size + 1 + 1 + 1 + 1 + 1 + 1) q.g A O ml cl mo co ∧ Rws W n (esO l od) w.heap.size (w.heap.size + 1 + 1 + 1) w.heap.size (w.heap.size + 1) q.g 0)
    (fun (s : Nat × BT × (Nat → Nat)) W => s.1 ≤ mo ∧ Core q n (esO l od) w0 W s.1 s.2.1 s.2.2 ∧ Bx W (w.heap.size + 1 + 1 + 1 + 1) (w.heap.size + 1 + 1 + 1 + 1 + 1) (w.heap.size + 1 + 1 + 1 + 1 + 1 + 1) q.g A O ml cl mo co ∧ Rws W n (esO l od) w.heap.size (w.heap.size + 1 + 1 + 1) w.heap.size (w.heap.size + 1) q.g s.1)
    (fun (s : Nat × BT × (Nat → Nat)) W => Core q n (esO l od) w0 W s.1 s.2.1 s.2.2 ∧ Bx W (w.heap.size + 1 + 1 + 1 + 1) (w.heap.size + 1 + 1 + 1 + 1 + 1) (w.heap.size + 1 + 1 + 1 + 1 + 1 + 1) q.g A O ml cl mo co ∧ Rws W n (esO l od) w.heap.size (w.heap.size + 1 + 1 + 1) w.heap.size (w.heap.size + 1) q.g (s.1 + 1))
    (fun W => Rws W n (esO l od) w.heap.size (w.heap.size + 1 + 1 + 1) w.heap.size (w.heap.size + 1) q.g (mo + 1) ∧ Below w0.heap.size w0 W)
    (fun s => #[.int .i64 (s.1 : Int)]) (fun _ => rfl) ⟨HC0.out, HB0.out, HX0.out⟩
    (fun W o h => ⟨h.1.fr ((Fr.refl [] W).alloc o), h.2.1.fr ((Fr.refl [] W).alloc o) (by simp), h.2.2.fr ((Fr.refl [] W).alloc o) (by simp)⟩)
    (fun s W o r hl h => ⟨h.1, h.2.1.put hl (by omega) o, h.2.2.1.put hl o, h.2.2.2.put hl o⟩)
    (fun s W o r hl h => ⟨h.1.put hl (by omega) o, h.2.1.put hl o, h.2.2.put hl o⟩)
    (fun W o r hl h => ⟨h.1.put hl o, Fr.lift h.2 (fr_put hl o) (by simp; omega) h.2.size⟩)
    ?clo
    ?a₁ ?assign ?body ?done
  case clo =>
    intro R W hR h0 hr hY
    refine (swClo 2 (by omega) (w7.heap.size + 1) q n l od A O ml cl mo co _ _ _ w0 hn HGL.out HOD.out HA.out HML.out (by omega) HO.out HMO.out (by omega)
      (fun k V => Rws V n (esO l od) w.heap.size (w.heap.size + 1 + 1 + 1) w.heap.size (w.heap.size + 1) q.g k) (fun k U V S h hF hS => h.tb hF hS) R hR
      (fun k t f U hk hc hb hx hr => YieldAt.mono (hY (k, t, f) U ⟨hk, hc, hb, hx⟩ hr) fun e V h => ⟨h.1, ⟨h.2.1.1, h.2.1.2.1, h.2.1.2.2⟩, h.2.2⟩) W t0 f0 h0.1 h0.2.1 h0.2.2 hr).mono ?_
    exact fun e V h => h
  case assign =>
    intro L x W K hK
    gi_wp2
    exact hK
  case body =>
    rintro L ⟨k, t, f⟩ W ⟨hk, hc, hb, ⟨V, hv, hrow⟩, h4, h7⟩
    simp only at hk hc hrow
    have HC := hide hc
    have HB := hide hb
    have HV := hide hv
    have HROW := hide hrow
    have H4 := hide h4
    have H7 := hide h7
    clear hc hb hv hrow h4 h7 HGL HOD HA HML HO HMO HI HX0 HB0 HC0
    gi_wp2_with fail
    refine colStep _ rfl L _ W q t n _ f HC.out.tly (w.heap.size + 1 + 1 + 1) w.heap.size (w.heap.size + 1) k V w.heap.size _ HV.out H4.out H7.out HROW.out (by omega) (by have := HV.out.lt; omega) _ _ _ _ _ _ _ _ _ _ _ _ _ _ _ _ _ _ _ _ _ _ _ _ ?_
    rintro a V' ⟨v', S, ho', hb', hF, hS⟩
    have hfar := col_far HV.out HROW.out hS
    refine ⟨rfl, keeps_fr hF fun b hb => (hfar b hb).elim fun ty h => ⟨ty, h.elim fun cs h => ⟨cs, h.1⟩⟩, HC.out.col hF hfar fun b hb => ?_, HB.out.col hF hfar, Rws.step H4.out H7.out HV.out HROW.out ho' hb' hF hS⟩
    rcases hS b hb with rfl | e
    · omega
    · have := (own_ty HROW.out b e).1
      omega
  case done =>
    rintro W ⟨⟨⟨V, hv, hrow⟩, h4, h7⟩, hbel⟩ hK
    have hc : W.cell? ⟨w.heap.size + 1 + 1 + 1, 0, none⟩ = some V := (hv.cell 0).trans rfl
    have HROW := hide hrow
    have HBEL := hide hbel
    have HK := hide hK
    clear hrow hbel hK hv h4 h7 HGL HOD HA HML HO HMO HI HX0 HB0 HC0
    gi_wp2_with fail
    refine ⟨by simp, .inl ⟨_, _, rfl, run_takeDeferred HK.out, ?_⟩⟩
    exact ⟨_, results_tmp rfl _ _ _, V, rfl, ownsRow_putObj HROW.out _ HK.out rfl, Fr.lift HBEL.out (S := [w7.heap.size]) ⟨rfl, rfl, rfl, by simp, fun k _ hk => World.putObj_heap_other (by simpa using hk)⟩ (by simp; omega) HBEL.out.size⟩
end Go.Proofs.Ytoomcgmbaogjbaa
