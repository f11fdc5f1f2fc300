/- A range over a function that writes memory between its yields (no break out of the loop). -/
import Derived.RangeFuncWrites
import Derived.Test.YtoomcgmbaogjbaaDoorMem
namespace Go.Proofs.YtoomcgmbaogjbaaDoor
open Go.RowKit
set_option linter.unusedVariables false

theorem range_mut {σ : Type} {F : Fence} {n : Nat} {P : Program} {g : Operand} {ps : Array Tmp} {assign body : Code} {Q : Exit → Act → World → Prop} {a : Act} {w : World}
    (hro : F.round = none) (h1 : 1 ≤ n) {gf : Nat} {lb : Array Value} (hg : a.eval g = .func (.func gf) #[] lb) (hFg : F.fn gf) (eg : ∀ args w, (callFunc gf args).run P w = .ok (.enter gf args) w)
    (A0 : World → Prop) (Y A : σ → World → Prop) (E : World → Prop) (enc : σ → Array Value) (hps : ∀ s, (enc s).size = ps.size) (h0 : A0 w) (hA0 : ∀ W o, A0 W → A0 (W.alloc o))
    (hY : ∀ s W o r, W.heap[w.heap.size + 1]? = some (.loop r) → Y s W → Y s (W.putObj (w.heap.size + 1) o)) (hA : ∀ s W o r, W.heap[w.heap.size + 1]? = some (.loop r) → A s W → A s (W.putObj (w.heap.size + 1) o))
    (hE : ∀ W o r, W.heap[w.heap.size + 1]? = some (.loop r) → E W → E (W.putObj (w.heap.size + 1) o))
    (hseq : ∀ (R : World → Prop) (W : World), (∀ U V S, R U → Fr S U V → (∀ b ∈ S, ∃ cs t z, U.heap[b]? = some (.cells cs t z)) → R V) → A0 W → R W →
      (∀ s U, Y s U → R U → YieldAt F (n - 1 - 1) P (w.heap.size + 1) (enc s) U fun e V => e = .returned (.bool true) ∧ A s V ∧ R V) →
      CallsIn F (n - 1) P gf (#[.func (.yield (w.heap.size + 1)) #[] #[]] ++ lb) W fun e V => (∃ v, e = .returned v) ∧ E V ∧ R V)
    (a₁ : σ → Act) (hassign : ∀ (l : Nat) (s : σ) (W : World) (K : Act → World → Prop), K (a₁ s) W →
      assign.wpIn (F.inRound l) (n - 1 - 1) P (Exit.then K (fun _ _ _ => False)) { tmps := (ps.zip (enc s)).foldl (fun t (p, v) => t.setIfInBounds p v) a.tmps, defers := [] } W)
    (hbody : ∀ (l : Nat) (s : σ) (W : World), Y s W → body.wpIn (F.inRound l) (n - 1 - 1) P (fun e _ V => e = .normal ∧ KeepsFrom w.heap.size W V ∧ A s V) (a₁ s) W)
    (hdone : ∀ W : World, E W → W.heap[w.heap.size]? = some (.deferred (some [])) → Q .normal { a with defers := { target := .collected w.heap.size, args := #[] } :: a.defers } W) :
    (Code.rangeFunc g ps assign body).wpIn F n P Q a w := by
  refine wpIn_rangeFunc fun fn hfn => ?_
  rw [hro]
  let rec0 : LoopState → Loop := fun st => { state := st, pending := none, fn := fn, tmps := a.tmps, params := ps, assign := assign, body := body, defers := w.heap.size }
  let R : World → Prop := fun W => W.heap[w.heap.size + 1]? = some (.loop (rec0 .ready)) ∧ W.heap[w.heap.size]? = some (.deferred (some []))
  have hsz : (w.alloc (.deferred (some []))).heap.size = w.heap.size + 1 := by simp
  have hRw : R ((w.alloc (.deferred (some []))).alloc (.loop (rec0 .ready))) := by
    refine ⟨?_, (Below.heap_alloc _ _ _ (by rw [hsz]; omega)).trans (World.alloc_heap_new w _)⟩
    have := World.alloc_heap_new (w.alloc (.deferred (some []))) (.loop (rec0 .ready))
    rwa [hsz] at this
  have hRs : ∀ U V S, R U → Fr S U V → (∀ b ∈ S, ∃ cs t z, U.heap[b]? = some (.cells cs t z)) → R V := fun U V S hU hF hS => by
    have key : ∀ k o, U.heap[k]? = some o → (∀ cs t z, o ≠ Obj.cells cs t z) → V.heap[k]? = some o := fun k o hk ho =>
      (hF.block k (Array.getElem?_eq_some_iff.1 hk).1 fun hm => by
        obtain ⟨cs, t, z, e⟩ := hS k hm
        rw [e] at hk
        exact ho cs t z (Option.some.inj hk).symm).trans hk
    exact ⟨key _ _ hU.1 (by simp), key _ _ hU.2 (by simp)⟩
  refine ⟨w.heap.size + 1, _, _, { target := .fn (.func gf) lb, args := #[.func (.yield (w.heap.size + 1)) #[] #[]] }, (w.alloc (.deferred (some []))).alloc (.loop (rec0 .ready)), gf,
    #[.func (.yield (w.heap.size + 1)) #[] #[]] ++ lb, (w.alloc (.deferred (some []))).alloc (.loop (rec0 .ready)), run_enterLoop_outer _ _ _ _ _, ?_, ?_, ?_, fun _ => h1, ?_⟩
  · simp only [resolve, hg]
    simp [go_sem, rec0]
  · intro f' hf'
    simp [Target.leads] at hf'
    subst hf'
    exact hFg
  · simp [invoke, go_sem, eg]
  · refine (hseq R _ hRs (hA0 _ _ (hA0 _ _ h0)) hRw ?_).mono ?_
    · rintro s U hy ⟨hl, hk⟩
      have hlt := (Array.getElem?_eq_some_iff.1 hl).1
      refine ⟨fn, _, assign, body, run_yield (r := rec0 .ready) hl (hps s), roundIn_of_wpIn hfn (hassign _ s U _ ⟨_, run_beginRound hl rfl, ?_⟩)⟩
      refine wpIn_mono (hbody _ s _ (hY s U _ _ hl hy)) ?_
      rintro e a3 V ⟨rfl, hkp, ha⟩
      have hl2 : V.heap[w.heap.size + 1]? = some (.loop (rec0 .busy)) := hkp.same _ _ (by omega) (World.putObj_heap_same hlt) rfl
      have hk2 : V.heap[w.heap.size]? = some (.deferred (some [])) := hkp.same _ _ (Nat.le_refl _) ((World.putObj_heap_other (by omega)).trans hk) rfl
      exact ⟨_, _, run_endRound none hl2, rfl, hA s V _ _ hl2 ha, World.putObj_heap_same (Array.getElem?_eq_some_iff.1 hl2).1, (World.putObj_heap_other (by omega)).trans hk2⟩
    · rintro e V ⟨⟨v, rfl⟩, hE2, hl, hk⟩
      exact ⟨none, _, run_endLoop hl (by simp [rec0]), hdone _ (hE V _ _ hl hE2) ((World.putObj_heap_other (by omega)).trans hk)⟩
end Go.Proofs.YtoomcgmbaogjbaaDoor
