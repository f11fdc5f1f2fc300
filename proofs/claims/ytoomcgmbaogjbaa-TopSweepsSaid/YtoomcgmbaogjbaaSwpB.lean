/- sweep: the closure of steps. sweep: the closure of steps, walked. -/
import Derived.Test.YtoomcgmbaogjbaaSwpP
import Derived.Test.YtoomcgmbaogjbaaRngM
import Derived.StillTailTactics
import Derived.LoopIn
import Derived.OwnWalkIn
namespace Go.Proofs.Ytoomcgmbaogjbaa
open Go.RowKit
set_option linter.unusedVariables false

/-- The edges of an order. -/
def esO (l : List (Int × Int × Int)) (od : List Nat) : List (Int × Int × Int) := od.map fun i => l[i]?.getD (0, 0, 0)
def nvs (od : List Nat) : List Value := od.map fun (i : Nat) => Value.int .i64 (i : Int)
theorem Rd.ntv {w : World} {A : Option Addr} {n : Nat} {od : List Nat} (h : Rd w A n 1 (nvs od)) (j : Nat) (hj : j < od.length) (hn : od.length = n) :
    ∃ b q, A = some ⟨b, q, none⟩ ∧ b < w.heap.size ∧ w.cell? ⟨b, q + j, none⟩ = some (.int .i64 (od[j] : Int)) := by
  obtain ⟨b, q, h1, h2, h3⟩ := h.2 (by omega)
  exact ⟨b, q, h1, h2, h3 j _ (by simp [nvs, hj])⟩
/-- The types of a tally's blocks. -/
def TB (ty : TypeId) : Prop := ty = 83 ∨ ty = 77 ∨ ty = 3 ∨ ty = 2 ∨ ty = 92 ∨ ty = 101
theorem Tly.tb {w : World} {q : TL} {t : BT} {n : Nat} {L f : Nat → Nat} (h : Tly w q t n L f) : ∀ b ∈ q.S t, ∃ ty cs, Blk w b ty cs ∧ TB ty := by
  obtain ⟨up, least, size, rep, ρ, M, c, hd, hs, hl⟩ := h.dsu
  intro b hb
  simp only [TL.S, List.mem_cons] at hb
  rcases hb with rfl | rfl | rfl | rfl | rfl | rfl | rfl | hb
  · exact ⟨_, _, h.blk, .inl rfl⟩
  · exact ⟨_, _, hd.hg, .inr (.inl rfl)⟩
  · exact ⟨_, _, hd.hu, .inr (.inr (.inl rfl))⟩
  · exact ⟨_, _, hd.hl, .inr (.inr (.inl rfl))⟩
  · exact ⟨_, _, hd.hz, .inr (.inr (.inl rfl))⟩
  · exact ⟨_, _, h.row, .inr (.inr (.inr (.inl rfl)))⟩
  · exact ⟨_, _, h.bag.blk, .inr (.inr (.inr (.inr (.inl rfl))))⟩
  · obtain ⟨cs, hc⟩ := h.bag.tr.node b hb
    exact ⟨_, _, hc, .inr (.inr (.inr (.inr (.inr rfl))))⟩
structure Core (q : TL) (n : Nat) (es : List (Int × Int × Int)) (w0 W : World) (k : Nat) (t : BT) (f : Nat → Nat) : Prop where
  tly : Tly W q t n (gLb n (es.take k)) f
  bel : Below w0.heap.size w0 W
  fresh : ∀ b ∈ q.S t, w0.heap.size ≤ b
/-- The closure's variables. -/
structure Bx (W : World) (bt be bo : Nat) (g : Nat) (A O : Option Addr) (ml cl mo co : Nat) : Prop where
  t : Blk W bt 51 #[.pointer (some ⟨g, 0, none⟩)]
  e : Blk W be 22 #[.slice A ml cl]
  o : Blk W bo 29 #[.slice O mo co]
theorem far_tb {U : World} {b : Nat} {ty : TypeId} {cs : Array Value} (h : Blk U b ty cs) (hne : ¬ TB ty) {S : List Nat} (hS : ∀ b ∈ S, ∃ ty cs, Blk U b ty cs ∧ TB ty) : b ∉ S := fun hm => by
  obtain ⟨ty', cs', h', ht⟩ := hS b hm
  exact h.ne_ h' (fun e => hne (e ▸ ht)) rfl
theorem Bx.fr {U V : World} {bt be bo g : Nat} {A O : Option Addr} {ml cl mo co : Nat} (h : Bx U bt be bo g A O ml cl mo co) {S : List Nat} (hF : Fr S U V) (hS : ∀ b ∈ S, ∃ ty cs, Blk U b ty cs ∧ TB ty) : Bx V bt be bo g A O ml cl mo co :=
  ⟨h.t.fr hF (far_tb h.t (by unfold TB; decide) hS), h.e.fr hF (far_tb h.e (by unfold TB; decide) hS), h.o.fr hF (far_tb h.o (by unfold TB; decide) hS)⟩
theorem Core.step {q : TL} {n : Nat} {es : List (Int × Int × Int)} {w0 W V : World} {k : Nat} {t t' : BT} {f f' : Nat → Nat} (h : Core q n es w0 W k t f) (hk : k < es.length)
    (ht : Tly V q t' n (unionL n (gLb n (es.take k)) es[k].1 es[k].2.1) f') (hn : ∀ b ∈ t'.bl, b ∈ t.bl ∨ W.heap.size ≤ b) (hF : Fr (q.S t) W V) : Core q n es w0 V (k + 1) t' f' := by
  refine ⟨?_, Fr.lift h.bel hF h.fresh h.bel.size, ?_⟩
  · rw [List.take_succ_eq_append_getElem hk, gLb_snoc]; exact ht
  · intro b hb
    have hs := h.bel.size
    by_cases hbt : b ∈ t'.bl
    · rcases hn b hbt with h1 | h1
      · exact h.fresh b (by simp [TL.S, h1])
      · omega
    · refine h.fresh b ?_
      simp only [TL.S, List.mem_cons] at hb ⊢
      rcases hb with h | h | h | h | h | h | h | h
      · exact .inl h
      · exact .inr (.inl h)
      · exact .inr (.inr (.inl h))
      · exact .inr (.inr (.inr (.inl h)))
      · exact .inr (.inr (.inr (.inr (.inl h))))
      · exact .inr (.inr (.inr (.inr (.inr (.inl h)))))
      · exact .inr (.inr (.inr (.inr (.inr (.inr (.inl h))))))
      · exact absurd h hbt
theorem Core.fr {q : TL} {n : Nat} {es : List (Int × Int × Int)} {w0 W V : World} {k : Nat} {t : BT} {f : Nat → Nat} (h : Core q n es w0 W k t f) (hF : Fr [] W V) : Core q n es w0 V k t f :=
  ⟨h.tly.fr hF (by simp), Fr.lift h.bel hF (by simp) h.bel.size, h.fresh⟩
end Go.Proofs.Ytoomcgmbaogjbaa
namespace Go.Proofs.Ytoomcgmbaogjbaa
open Go.RowKit
set_option linter.unusedVariables false

set_option maxRecDepth 100000 in
set_option maxHeartbeats 8000000 in
theorem swClo (N : Nat) (hN : 1 ≤ N) (L : Nat) (q : TL) (n : Nat) (l : List (Int × Int × Int)) (od : List Nat) (A O : Option Addr) (ml cl mo co bt be bo : Nat) (w0 : World)
    (hn : n ≤ 100) (hgl : GOk n l) (hod : ∀ i ∈ od, i < l.length) (hA : Rd w0 A ml 3 (ecs l)) (hml : l.length = ml) (hml2 : ml ≤ 1000) (hO : Rd w0 O mo 1 (nvs od)) (hmo : od.length = mo) (hmo2 : mo ≤ 1000)
    (X : Nat → World → Prop) (hX : ∀ k U V S, X k U → Fr S U V → (∀ b ∈ S, ∃ ty cs, Blk U b ty cs ∧ TB ty) → X k V)
    (R : World → Prop) (hR : ∀ U V S, R U → Fr S U V → (∀ b ∈ S, ∃ cs t z, U.heap[b]? = some (.cells cs t z)) → R V)
    (hY : ∀ (k : Nat) (t : BT) (f : Nat → Nat) U, k ≤ mo → Core q n (esO l od) w0 U k t f → Bx U bt be bo q.g A O ml cl mo co → X k U → R U → YieldAt Fence.wide (N - 1) Try.prog L #[.int .i64 (k : Int)] U fun e V => e = .returned (.bool true) ∧
      (Core q n (esO l od) w0 V k t f ∧ Bx V bt be bo q.g A O ml cl mo co ∧ X (k + 1) V) ∧ R V)
    (W : World) (t0 : BT) (f0 : Nat → Nat) (h0 : Core q n (esO l od) w0 W 0 t0 f0) (hB0 : Bx W bt be bo q.g A O ml cl mo co) (hX0 : X 0 W) (hR0 : R W) :
    CallsIn Fence.wide N Try.prog 39 #[.func (.yield L) #[] #[], .pointer (some ⟨bo, 0, none⟩), .pointer (some ⟨bt, 0, none⟩), .pointer (some ⟨be, 0, none⟩)] W
      fun e V => (∃ v, e = .returned v) ∧ (X (mo + 1) V ∧ Below w0.heap.size w0 V) ∧ R V := by
  have HY := hide hY
  have HX := hide hX
  have HRR := hide hR
  have HGL := hide hgl
  have HOD := hide hod
  have HA := hide hA
  have HML := hide hml
  have HO := hide hO
  have HMO := hide hmo
  have HY0 := hide (hY 0 t0 f0 W (by omega) h0 hB0 hX0 hR0)
  clear hY hX hR hgl hod hA hml hO hmo h0 hB0 hX0 hR0
  obtain ⟨fn, tmps, assign, body, hy, hRn⟩ := HY0.out
  try dsimp only at hy
  have HRn := hide hRn
  clear HY0 hRn
  refine callsIn_of_wp Try.func39 rfl trivial ?_ rfl
  simp only [Try.ntmps39, List.size_toArray, List.length_cons, List.length_nil, Nat.reduceAdd, Nat.reduceSub, Array.replicate_succ, Array.replicate_zero, List.push_toArray, List.append_toArray, List.nil_append, List.cons_append]
  have hy0 : (Instr.yield L #[.int .i64 0]).run Try.prog W = .ok (.round L fn tmps assign body) W := hy
  clear hy
  gi_wp2_with fail
  refine HRn.out.mono ?_
  rintro e W1 ⟨rfl, ⟨hc1, hb1, hx1⟩, hr1⟩
  have HC1 := hide hc1
  have HB1 := hide hb1
  have HX1 := hide hx1
  have HR1 := hide hr1
  have cO1 : W1.cell? ⟨bo, 0, none⟩ = some (.slice O mo co) := (hb1.o.cell 0).trans rfl
  clear hc1 hb1 hx1 hr1 hy0 HRn
  gi_wp2_with fail
  gi_loopw [12] (fun i wr => ∃ (k : Nat) (t : BT) (f : Nat → Nat), k ≤ mo ∧ i = .int .i64 (k : Int) ∧ Core q n (esO l od) w0 wr k t f ∧ Bx wr bt be bo q.g A O ml cl mo co ∧ X (k + 1) wr ∧ R wr) (fun i _ => mo - (intOf i).toNat)
  case atStart => exact ⟨0, t0, f0, Nat.zero_le _, rfl, HC1.out, HB1.out, HX1.out, HR1.out⟩
  case round =>
    obtain ⟨k, t, f, hk, rfl, hc, hb, hx, hr⟩ := hrel
    have HC := hide hc
    have HB := hide hb
    have HXX := hide hx
    have HR := hide hr
    clear hc hb hx hr HC1 HB1 HX1 HR1
    by_cases hlt : k < mo
    · have hkl : k < od.length := by rw [HMO.out]; exact hlt
      obtain ⟨b, o, rfl, hbl, cO⟩ := ((HO.out.below HC.out.bel).ntv k hkl HMO.out)
      have hi := HOD.out od[k] (List.getElem_mem hkl)
      obtain ⟨b2, o2, rfl, hbl2, e0, e1, e2⟩ := ((HA.out.below HC.out.bel).edge od[k] hi HML.out)
      have hes : (esO l od).length = mo := by rw [esO, List.length_map, HMO.out]
      have hek : k < (esO l od).length := by rw [hes]; exact hlt
      have hee : (esO l od)[k] = l[od[k]] := by simp [esO, hi]
      obtain ⟨g1, g2, g3, g4, -⟩ := HGL.out l[od[k]] (List.getElem_mem hi)
      have cT : wr.cell? ⟨bt, 0, none⟩ = some (.pointer (some ⟨q.g, 0, none⟩)) := (HB.out.t.cell 0).trans rfl
      have cE : wr.cell? ⟨be, 0, none⟩ = some (.slice (some ⟨b2, o2, none⟩) ml cl) := (HB.out.e.cell 0).trans rfl
      have HSTEP := hide fun (V : World) (t' : BT) (f' : Nat → Nat) => HC.out.step (V := V) (t' := t') (f' := f') hek
      rw [hee] at HSTEP
      rw [HML.out] at hi
      have hdw : mo - k = mo - (k + 1) + 1 := by omega
      generalize l[od[k]] = e at *
      generalize od[k] = i at *
      clear hek hes hee hkl
      obtain ⟨e1', e2', e3'⟩ := e
      obtain ⟨u, rfl⟩ : ∃ u : Nat, e1' = (u : Int) := ⟨e1'.toNat, by simp at g1; omega⟩
      obtain ⟨v, rfl⟩ : ∃ v : Nat, e2' = (v : Int) := ⟨e2'.toNat, by simp at g3; omega⟩
      simp only at e0 e1 g2 g4 HSTEP
      have hu : u < n := by omega
      have hv : v < n := by omega
      have HU := hide fun (U : World) (hU : Dr wr U) => tlyUnion U q t n _ f (HC.out.tly.dr hU) u v hu hv
      clear g1 g2 g3 g4 e2 hbl hbl2
      gi_wp2_with fail
      refine wpIn_wide.2 ?_
      go_still_tail 11, (by kernel_rfl)
      change wpList _ _ _ _ _ (wr.drewN 1)
      have HW2 : Hid (Dr wr (wr.drewN 1)) := hide ⟨1, rfl⟩
      generalize wr.drewN 1 = w2 at *
      go_wp2_with fail
      refine (HU.out _ HW2.out).mono ?_
      rintro e w3 ⟨⟨vr, rfl⟩, t3, f3, ht3, hn3, hf3⟩
      have hF3 := (HW2.out.fr (q.S t)).trans hf3
      have hsz : w2.heap.size = wr.heap.size := by obtain ⟨j, hj⟩ := HW2.out; rw [hj]; rfl
      have hC3 := HSTEP.out w3 t3 f3 ht3 (fun b hb => by rw [← hsz]; exact hn3 b hb) hF3
      have htb := HC.out.tly.tb
      have hB3 := HB.out.fr hF3 htb
      have hX3 := HX.out _ _ _ _ HXX.out hF3 htb
      have hR3 := HRR.out _ _ _ HR.out hF3 (fun b hb => by obtain ⟨ty, cs, h, -⟩ := htb b hb; exact ⟨cs, ty, _, h⟩)
      have HY1 := hide (HY.out (k + 1) t3 f3 w3 (by omega) hC3 hB3 hX3 hR3)
      clear ht3 hn3 hf3 hF3 hsz hC3 htb hB3 hX3 hR3 cT cE cO e0 e1 HU HSTEP HC HB HXX HR
      obtain ⟨fn, tmps, assign, body, hy, hRn⟩ := HY1.out
      have HRn := hide hRn
      have hy0 : (Instr.yield L #[.int .i64 ((k : Int) + 1)]).run Try.prog w3 = .ok (.round L fn tmps assign body) w3 := hy
      clear HY1 hRn hy
      have hk1 : (k : Int) + 1 ≤ 1000 := by omega
      go_wp2_with fail
      gi_wp2_with fail
      refine HRn.out.mono ?_
      rintro e W4 ⟨rfl, ⟨hc1, hb1, hx1⟩, hr1⟩
      have HC4 := hide hc1
      have HB4 := hide hb1
      have HX4 := hide hx1
      have HR4 := hide hr1
      clear hc1 hb1 hx1 hr1 hy0 HRn
      gi_wp2_with fail
      go_roundw
      case rel => exact ⟨k + 1, t3, f3, by omega, by go_num, HC4.out, HB4.out, HX4.out, HR4.out⟩
      case measure => simp [intOf]; omega
    · obtain rfl : k = mo := by omega
      gi_wp2_with fail
      go_end0
      exact ⟨⟨_, rfl⟩, ⟨HXX.out, HC.out.bel⟩, HR.out⟩
end Go.Proofs.Ytoomcgmbaogjbaa
