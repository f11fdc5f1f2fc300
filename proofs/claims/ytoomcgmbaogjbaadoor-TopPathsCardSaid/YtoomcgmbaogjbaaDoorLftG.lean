/- lift: Len, has, ones. lift: Up. lift: Common. -/
import Derived.Test.YtoomcgmbaogjbaaDoorLftD
import Derived.Test.YtoomcgmbaogjbaaDoorTzA
import Derived.LaidEqlPtr
import Derived.Laws.Pointers
import Derived.Test.YtoomcgmbaogjbaaDoorLctK
namespace Go.Proofs.YtoomcgmbaogjbaaDoor
open Go.RowKit Go.Shelf
attribute [local go_sem] Oper.semAt_some
set_option linter.unusedVariables false

set_option maxRecDepth 100000 in
theorem lftLen (w : World) (g bd B N : Nat) (par : Nat → Int) (bj : Nat → Nat) (h : TT w g bd B N par bj 13 13) :
    Calls Tryd.prog 66 #[.pointer (some ⟨g, 0, none⟩)] w fun e w' => e = .returned (.int .i64 (N : Int)) ∧ w = w' := by
  have c0 := h.c0
  have c1 := h.c1
  clear h
  go_enter Tryd.func66, Tryd.ntmps66
  go_wp2_with fail
  go_ret
  exact ⟨rfl, rfl⟩
set_option maxRecDepth 100000 in
theorem lftHas (w : World) (g bd B N : Nat) (par : Nat → Int) (bj : Nat → Nat) (v : Nat) (h : TT w g bd B N par bj 13 13) (hv : v < N) :
    Calls Tryd.prog 52 #[.pointer (some ⟨g, 0, none⟩), .int .i64 (v : Int)] w fun e w' => e = .returned (.bool true) ∧ w = w' := by
  have HL := hide (lftLen w g bd B N par bj h)
  have b1 : (v : Int) < (N : Int) := by omega
  have b0 : (0 : Int) ≤ (v : Int) := by omega
  clear h
  go_enter Tryd.func52, Tryd.ntmps52
  go_wp2_with fail
  refine HL.out.mono ?_
  rintro e w1 ⟨rfl, rfl⟩
  go_wp2_with fail
  go_ret
  exact ⟨rfl, rfl⟩
theorem lftOnes (W : World) (k : Nat) : Calls Tryd.prog 67 #[.int .i64 (k : Int)] W fun e w' => e = .returned (.func (.func 73) #[] #[.pointer (some ⟨W.heap.size, 0, none⟩)]) ∧ w' = W.alloc (.cells #[.int .i64 (k : Int)] 3) := by
  go_enter Tryd.func67, Tryd.ntmps67
  go_wp2_with fail
  go_ret
  exact ⟨rfl, rfl⟩
set_option maxRecDepth 100000 in
set_option maxHeartbeats 4000000 in
/-- The closure of ones: J t: what holds when t is left. -/
theorem onesClo (N : Nat) (hN : 2 ≤ N) (L k bx : Nat) (hk : k < 8192) (J : Nat → World → Prop) (R : World → Prop)
    (hJ : ∀ t U, J t U → TabW U) (hc : ∀ U, J k U → U.cell? ⟨bx, 0, none⟩ = some (.int .i64 (k : Int)))
    (hY : ∀ t U, t ≠ 0 → t < 8192 → J t U → R U → YieldAt Fence.wide (N - 1) Tryd.prog L #[.int .i64 (Lib.ctz 64 t : Int)] U fun e V => e = .returned (.bool true) ∧ J (t - 2 ^ Lib.ctz 64 t) V ∧ R V)
    (W : World) (h0 : J k W) (hr : R W) :
    CallsIn Fence.wide N Tryd.prog 73 #[.func (.yield L) #[] #[], .pointer (some ⟨bx, 0, none⟩)] W fun e V => (∃ v, e = .returned v) ∧ J 0 V ∧ R V := by
  have HJ := hide hJ
  have HY := hide hY
  have H0 := hide h0
  have HR := hide hr
  have cB := hc _ h0
  have hw1 : IntKind.u64.wrap (k : Int) = (k : Int) := by rw [IntKind.wrap_u64]; omega
  clear hJ hY h0 hr hc
  refine callsIn_of_wp Tryd.func73 rfl trivial ?_ rfl
  simp only [Tryd.ntmps73, List.size_toArray, List.length_cons, List.length_nil, Nat.reduceAdd, Nat.reduceSub, Array.replicate_succ, Array.replicate_zero, List.push_toArray, List.append_toArray, List.nil_append, List.cons_append]
  gi_wp2_with fail
  gi_loopw [3] (fun i wr => ∃ t : Nat, t ≤ k ∧ i = .int .u64 (t : Int) ∧ J t wr ∧ R wr) (fun i _ => (intOf i).toNat)
  case atStart => exact ⟨k, Nat.le_refl _, rfl, H0.out, HR.out⟩
  case round =>
    obtain ⟨t, ht, rfl, hj, hr⟩ := hrel
    clear H0 HR cB hw1
    by_cases h0 : t = 0
    · subst h0
      have HJ0 := hide hj
      have HR0 := hide hr
      clear hj hr
      gi_wp2_with fail
      go_end0
      exact ⟨⟨_, rfl⟩, HJ0.out, HR0.out⟩
    · have ht0 : ((t : Int) != 0) = true := by simpa using h0
      have ht0' : ¬ (t : Int) = 0 := by omega
      have HTZ := hide (tz wr t (by omega) h0 (HJ.out _ _ hj))
      obtain ⟨hc13, hcl, hand⟩ := ctz_law h0 (show t < 8192 by omega)
      have HY1 := hide (HY.out t wr h0 (by omega) hj hr)
      have e1 : IntKind.u64.wrap ((t : Int) - 1) = ((t - 1 : Nat) : Int) := by rw [IntKind.wrap_u64]; omega
      have e2 : bits BinOp.and IntKind.u64 (t : Int) ((t - 1 : Nat) : Int) = ((t - 2 ^ Lib.ctz 64 t : Nat) : Int) := by rw [bits_and_u64_nat t _ (by omega) (by omega), hand]
      have hp : 0 < 2 ^ Lib.ctz 64 t := Nat.two_pow_pos _
      clear hj hr hand
      generalize 2 ^ Lib.ctz 64 t = d at *
      generalize Lib.ctz 64 t = c at *
      have HCL := hide hcl
      have HP := hide hp
      have HT0 := hide h0
      clear hcl hp h0
      obtain ⟨fn, tmps, assign, body, hy, hRn⟩ := HY1.out
      have HRn := hide hRn
      have hy0 : (Instr.yield L #[.int .i64 (c : Int)]).run Tryd.prog wr = .ok (.round L fn tmps assign body) wr := hy
      clear HY1 hRn hy
      gi_wp2_with fail
      refine ⟨trivial, fun _ => by omega, (callsIn_wide.2 HTZ.out).mono ?_⟩
      rintro e W0 ⟨rfl, rfl⟩
      gi_wp2_with fail
      refine ⟨fun _ => by omega, HRn.out.mono ?_⟩
      rintro e W1 ⟨rfl, hj1, hr1⟩
      have HJ1 := hide hj1
      have HR1 := hide hr1
      clear hj1 hr1 hy0 HRn
      gi_wp2_with fail
      go_roundw
      case rel => exact ⟨t - d, by omega, rfl, HJ1.out, HR1.out⟩
      case measure =>
        have := HCL.out
        have := HP.out
        have := HT0.out
        simp [intOf]; omega
end Go.Proofs.YtoomcgmbaogjbaaDoor
namespace Go.Proofs.YtoomcgmbaogjbaaDoor
open Go.RowKit Go.Shelf
attribute [local go_sem] Oper.semAt_some
set_option linter.unusedVariables false

/-- The climb on its way: t is left to climb from x. -/
structure Ju (g bd B N : Nat) (par : Nat → Int) (bj : Nat → Nat) (W0 : Nat) (y : Nat) (bx k : Nat) (t : Nat) (w U : World) : Prop where
  tt : TT U g bd B N par bj 13 13
  tab : TabW U
  bt : Blk U W0 48 #[.pointer (some ⟨g, 0, none⟩)]
  bk : Blk U bx 3 #[.int .i64 (k : Int)]
  st : ∃ x : Nat, x < N ∧ Blk U (W0 + 1) 3 #[.int .i64 (x : Int)] ∧ anI par t (x : Int) = (y : Int) ∧ t ≤ dp N par x
  fr : Fr [] w U
theorem Ju.fr0 {g bd B N W0 y bx k t : Nat} {par : Nat → Int} {bj : Nat → Nat} {w U V : World} (h : Ju g bd B N par bj W0 y bx k t w U) (f : Fr [] U V) : Ju g bd B N par bj W0 y bx k t w V := by
  obtain ⟨x, hx, hb, h1, h2⟩ := h.st
  exact ⟨h.tt.fr f (by simp) (by simp) (by simp), h.tab.fr f (by simp), h.bt.fr f (by simp), h.bk.fr f (by simp), ⟨x, hx, hb.fr f (by simp), h1, h2⟩, h.fr.trans f⟩
theorem Blk.put_ {w : World} {g t : Nat} {cs : Array Value} (h : Blk w g t cs) {b : Nat} {r : Loop} (hl : w.heap[b]? = some (.loop r)) (o : Obj) : Blk (w.putObj b o) g t cs := by
  refine (World.putObj_heap_other fun e => ?_).trans h
  subst e
  unfold Blk at h
  rw [hl] at h
  cases h
theorem Ju.put {g bd B N W0 y bx k t : Nat} {par : Nat → Int} {bj : Nat → Nat} {w U : World} (h : Ju g bd B N par bj W0 y bx k t w U) {b : Nat} {r : Loop} (hl : U.heap[b]? = some (.loop r)) (hb : w.heap.size ≤ b) (o : Obj) : Ju g bd B N par bj W0 y bx k t w (U.putObj b o) := by
  obtain ⟨x, hx, hbx, h1, h2⟩ := h.st
  refine ⟨⟨h.tt.hg.put_ hl o, h.tt.hd.put_ hl o, fun i hi => ⟨(h.tt.hj i hi).1, (h.tt.hj i hi).2.put_ hl o⟩, h.tt.gb, h.tt.db⟩, ⟨by simpa using h.tab.1, fun j hj => ?_⟩, h.bt.put_ hl o, h.bk.put_ hl o, ⟨x, hx, hbx.put_ hl o, h1, h2⟩, ⟨h.fr.os, h.fr.tape, h.fr.output, by simpa using h.fr.size, fun i hi hn => (World.putObj_heap_other (by omega)).trans (h.fr.block i hi hn)⟩⟩
  refine (World.cell?_of_block (World.putObj_heap_other fun e => ?_)).trans (h.tab.2 j hj)
  have h3 := h.tab.2 j hj
  have e' : 1 = b := e
  rw [e'] at h3
  unfold World.cell? at h3
  simp [hl] at h3
set_option maxRecDepth 100000 in
set_option maxHeartbeats 4000000 in
theorem lftUp (w : World) (g bd B N : Nat) (par : Nat → Int) (bj : Nat → Nat) (v k y : Nat) (h : TT w g bd B N par bj 13 13) (hT : TabW w) (ht : Tr N par) (hN : N ≤ 8192) (hv : v < N) (hk : k ≤ dp N par v) (hy : anI par k (v : Int) = (y : Int)) :
    Calls Tryd.prog 53 #[.pointer (some ⟨g, 0, none⟩), .int .i64 (v : Int), .int .i64 (k : Int)] w fun e w' => e = .returned (.tuple #[.int .i64 (y : Int), .bool true]) ∧ Fr [] w w' := by
  have hdl := dp_le ht hv
  have hmx : Tryd.prog.follows .mixedOrders = true := by kernel_rfl
  have HLT := hide (show g < w.heap.size ∧ bd < w.heap.size ∧ (∀ i, i < 13 → bj i < w.heap.size) ∧ 1 < w.heap.size from ⟨h.hg.lt, h.hd.lt, fun i hi => (h.hj i hi).2.lt, hT.1⟩)
  have hf0 : Fr [] w ((w.alloc (.cells #[.pointer (some ⟨g, 0, none⟩)] 48)).alloc (.cells #[.int .i64 (v : Int)] 3)) := ((Fr.refl [] w).alloc _).alloc _
  have h0 := h.fr hf0 (by simp) (by simp) (by simp)
  have hT0 := hT.fr hf0 (by simp)
  have hb0 := (Blk.new w 48 #[.pointer (some ⟨g, 0, none⟩)]).alloc (.cells #[.int .i64 (v : Int)] 3)
  have hb1 := Blk.new (w.alloc (.cells #[.pointer (some ⟨g, 0, none⟩)] 48)) 3 #[.int .i64 (v : Int)]
  rw [show (w.alloc (.cells #[.pointer (some ⟨g, 0, none⟩)] 48)).heap.size = w.heap.size + 1 by simp] at hb1
  clear h hT
  refine (callsIn_wide (n := 4)).1 ?_
  refine callsIn_of_wp_marks Tryd.func53 rfl trivial ?_ rfl
  simp only [Tryd.ntmps53, List.size_toArray, List.length_cons, List.length_nil, Nat.reduceAdd, Nat.reduceSub, Array.replicate_succ, Array.replicate_zero, List.push_toArray, List.append_toArray, List.nil_append, List.cons_append]
  gi_wp2_with fail
  refine wpIn_wide.2 ?_
  generalize (w.alloc (.cells #[.pointer (some ⟨g, 0, none⟩)] 48)).alloc (.cells #[.int .i64 (v : Int)] 3) = w1 at *
  have cb0 : w1.cell? ⟨w.heap.size, 0, none⟩ = some (.pointer (some ⟨g, 0, none⟩)) := hb0.get 0 _ rfl
  have cb1 : w1.cell? ⟨w.heap.size + 1, 0, none⟩ = some (.int .i64 (v : Int)) := hb1.get 0 _ rfl
  have cd := h0.c1
  have cdv := h0.dep hv
  have HH := hide fun n => lftHas (w1.drewN n) g bd B N par bj v (h0.drewN n) hv
  have hk0 : ¬ (k : Int) < 0 := by omega
  have hk1 : ¬ (dp N par v : Int) < (k : Int) := by omega
  have hkb : k < 8192 := by omega
  have HT := hide ht
  have HK := hide hk
  have HY := hide hy
  have H0 := hide h0
  have HT0 := hide hT0
  have HB0 := hide hb0
  have HB1 := hide hb1
  have HF0 := hide hf0
  clear ht hk hy h0 hT0 hb0 hb1 hf0 hdl
  generalize hdv : dp N par v = dv at cdv hk1
  have HDV := hide hdv
  clear hdv
  go_quiet (first | (go_at_call 52; first | exact quiet_any2 (quiet_eq (HH.out _)) | exact quiet_any1 (quiet_eq (HH.out _))))
  have h0 := H0.out.drewN nq
  have hT0 := HT0.out.fr ((Fr.refl [] w1).drewN nq) (by simp)
  have hb0 := HB0.out.drewN nq
  have hb1 := HB1.out.drewN nq
  have hf0 := HF0.out.drewN nq
  clear cb0 cb1 cd cdv HH H0 HT0 HB0 HB1 HF0
  generalize w1.drewN nq = w2 at *
  have H0 := hide h0
  have HT0 := hide hT0
  have HB0 := hide hb0
  have HB1 := hide hb1
  have HF0 := hide hf0
  clear h0 hT0 hb0 hb1 hf0
  gi_wp2_with fail
  refine ⟨trivial, (callsIn_wide.2 (lftOnes w2 k)).mono ?_⟩
  rintro e w3 ⟨rfl, hw3⟩
  have hj0 : Ju g bd B N par bj w.heap.size y w2.heap.size k k w w3 := by
    have hf : Fr [] w2 w3 := by rw [hw3]; exact (Fr.refl [] w2).alloc _
    exact ⟨H0.out.fr hf (by simp) (by simp) (by simp), HT0.out.fr hf (by simp), HB0.out.fr hf (by simp), by rw [hw3]; exact Blk.new _ _ _, ⟨v, hv, HB1.out.fr hf (by simp), HY.out, HK.out⟩, HF0.out.trans hf⟩
  have HJ0 := hide hj0
  have hsz := hj0.fr.size
  have hsz2 : w.heap.size + 2 ≤ w2.heap.size := HB1.out.lt
  clear hw3 H0 HT0 HB0 HB1 HF0 hj0
  gi_wp2_with fail
  refine range_mut (n := 4) rfl (by omega) (gf := 73) (lb := #[.pointer (some ⟨w2.heap.size, 0, none⟩)]) rfl trivial (enters_of Tryd.func73 (by kernel_rfl) rfl)
    (fun U => Ju g bd B N par bj w.heap.size y w2.heap.size k k w U)
    (fun (t : Nat) U => (t ≠ 0 ∧ t < 8192) ∧ Ju g bd B N par bj w.heap.size y w2.heap.size k t w U)
    (fun (t : Nat) U => Ju g bd B N par bj w.heap.size y w2.heap.size k (t - 2 ^ Lib.ctz 64 t) w U)
    (fun U => Ju g bd B N par bj w.heap.size y w2.heap.size k 0 w U)
    (fun t => #[.int .i64 (Lib.ctz 64 t : Int)]) (fun _ => rfl) HJ0.out
    (fun U o h => h.fr0 ((Fr.refl [] U).alloc o))
    (fun t U o r hl h => ⟨h.1, h.2.put hl (by omega) o⟩)
    (fun t U o r hl h => h.put hl (by omega) o)
    (fun U o r hl h => h.put hl (by omega) o)
    ?clo ?a₁ ?assign ?body ?done
  case clo =>
    intro R U hR h0 hr hY
    refine (onesClo 3 (by omega) (w3.heap.size + 1) k w2.heap.size hkb (fun t U => Ju g bd B N par bj w.heap.size y w2.heap.size k t w U) R (fun t U h => h.tab) (fun U h => h.bk.get 0 _ rfl) (fun t U h0 ht hj hr => ?_) U h0 hr).mono fun e V h => h
    exact hY t U ⟨⟨h0, ht⟩, hj⟩ hr
  case assign =>
    intro L x W K hK
    gi_wp2
    exact hK
  case body =>
    rintro L t U ⟨⟨t0, t8⟩, hj⟩
    obtain ⟨x, hx, hbx, he, hle⟩ := hj.st
    obtain ⟨hc13, hcl, -⟩ := ctz_law t0 t8
    obtain ⟨z, hz, hzN, -, hzd⟩ := anI_le HT.out hx (2 ^ Lib.ctz 64 t) (by omega)
    have cbt := hj.bt.get 0 _ rfl
    have cbx := hbx.get 0 _ rfl
    have zbx := hbx.frozen 0
    have cgj := hj.tt.cj (j := Lib.ctz 64 t) hc13 hc13
    have cjx := hj.tt.jmp (j := Lib.ctz 64 t) hc13 hx
    rw [hz] at cjx
    have hc13' : (Lib.ctz 64 t : Int) < 13 := by omega
    have HJ := hide hj
    have HE := hide he
    have HZ := hide hz
    have HZD := hide hzd
    have HLE := hide hle
    have HCL := hide hcl
    have HBX := hide hbx
    have hf2 : Fr [w.heap.size + 1] U (U.setCell ⟨w.heap.size + 1, 0, none⟩ (.int .i64 (z : Int))).drew := ((Fr.refl _ U).setCell (p := ⟨w.heap.size + 1, 0, none⟩) (.inl (by simp)) _).drew
    have hj2 : Ju g bd B N par bj w.heap.size y w2.heap.size k (t - 2 ^ Lib.ctz 64 t) w (U.setCell ⟨w.heap.size + 1, 0, none⟩ (.int .i64 (z : Int))).drew := by
      obtain ⟨l1, l2, l3, l4⟩ := HLT.out
      refine ⟨hj.tt.fr hf2 (by simp; omega) (by simp; omega) (fun i hi => by have := l3 i hi; simp; omega), hj.tab.fr hf2 (fun e => by have := List.mem_singleton.1 e; omega), hj.bt.fr hf2 (by simp), hj.bk.fr hf2 (by simp; omega), ⟨z, hzN, ?_, ?_, by omega⟩, ?_⟩
      · have := hbx.set_ 0 (.int .i64 (z : Int))
        exact this
      · rw [← hz, ← anI_add, show t - 2 ^ Lib.ctz 64 t + 2 ^ Lib.ctz 64 t = t by omega, he]
      · exact (hj.fr.setCell (p := ⟨w.heap.size + 1, 0, none⟩) (.inr (Nat.le_succ _)) _).drew
    have HJ2 := hide hj2
    have HKP := hide (keeps_fr2 (B := w3.heap.size) hf2 (fun b hb => by
      obtain rfl : b = w.heap.size + 1 := by simpa using hb
      exact ⟨_, _, hbx⟩))
    clear hf2 hj2
    clear hj he hz hzd hle hcl hbx
    generalize hc : Lib.ctz 64 t = c at *
    have HC := hide hc
    clear hc
    gi_wp2_with fail
    gi_region_o
    all_goals exact ⟨rfl, HKP.out, HJ2.out⟩
  case done =>
    rintro U hj hK
    obtain ⟨x, hx, hbx, he, -⟩ := hj.st
    obtain rfl : x = y := by
      have he' : ((x : Int)) = (y : Int) := he
      omega
    have cx := hbx.get 0 _ rfl
    have HF := hide hj.fr
    have HK := hide hK
    clear hj hK he
    gi_wp2_with fail
    refine ⟨by simp, .inl ⟨_, _, rfl, run_takeDeferred HK.out, ?_⟩⟩
    refine ⟨_, results_tmp2 rfl _ _ _, rfl, ?_⟩
    have hf := HF.out
    exact ⟨hf.os, hf.tape, hf.output, by simpa using hf.size, fun i hi hn => (World.putObj_heap_other (by omega)).trans (hf.block i hi hn)⟩
end Go.Proofs.YtoomcgmbaogjbaaDoor
namespace Go.Proofs.YtoomcgmbaogjbaaDoor
open Go.RowKit
set_option linter.unusedVariables false

set_option maxRecDepth 100000 in
set_option maxHeartbeats 4000000 in
theorem lftCommon (w : World) (g bd B N : Nat) (par : Nat → Int) (bj : Nat → Nat) (u v : Nat) (h : TT w g bd B N par bj 13 13) (hT : TabW w) (ht : Tr N par) (hN : N ≤ 8192) (hu : u < N) (hv : v < N) :
    Calls Tryd.prog 42 #[.pointer (some ⟨g, 0, none⟩), .int .i64 (u : Int), .int .i64 (v : Int)] w fun e w' => Fr [] w w' ∧ ((∃ c : Nat, Meets par u v c ∧ e = .returned (.tuple #[.int .i64 (c : Int), .bool true])) ∨ ((∀ y, ¬ (Anc par u y ∧ Anc par v y)) ∧ e = .returned (.tuple #[.int .i64 0, .bool false]))) := by
  have hu0 := dp_le ht hu
  have hv0 := dp_le ht hv
  obtain ⟨i, hi⟩ : ∃ i, i + min (dp N par u) (dp N par v) = dp N par u := ⟨dp N par u - min (dp N par u) (dp N par v), by omega⟩
  obtain ⟨j, hj⟩ : ∃ j, j + min (dp N par u) (dp N par v) = dp N par v := ⟨dp N par v - min (dp N par u) (dp N par v), by omega⟩
  obtain ⟨a, ha, haN, -, had⟩ := anI_le ht hu i (by omega)
  obtain ⟨b, hb, hbN, -, hbd⟩ := anI_le ht hv j (by omega)
  have hcm := Cm.start ht hu hv hi hj ha hb (B := 2 ^ (12 + 1)) (by omega)
  have HUa := hide fun (W : World) h hT => lftUp W g bd B N par bj u i a h hT ht hN hu (by omega) ha
  have HUb := hide fun (W : World) h hT => lftUp W g bd B N par bj v j b h hT ht hN hv (by omega) hb
  have HHu := hide (lftHas w g bd B N par bj u h hu)
  have HHv := hide (lftHas w g bd B N par bj v h hv)
  have c1 := h.c1
  have du := h.dep hu
  have dv := h.dep hv
  have HT := hide ht
  have H := hide h
  have HTB := hide hT
  have HCM := hide hcm
  clear ht ha hb had hbd h hT hcm
  generalize hxx : dp N par u = x at *
  generalize hyy : dp N par v = y at *
  have HXX := hide hxx
  have HYY := hide hyy
  clear hxx hyy
  have em : (if y < x then (y : Int) else (x : Int)) = ((min x y : Nat) : Int) := by split <;> omega
  generalize min x y = m at *
  have ei : IntKind.i64.wrap ((x : Int) - (m : Int)) = (i : Int) := by rw [IntWalk.i64_in _ (by omega)]; omega
  have ej : IntKind.i64.wrap ((y : Int) - (m : Int)) = (j : Int) := by rw [IntWalk.i64_in _ (by omega)]; omega
  have EM := hide em
  clear hi hj em
  go_enter Tryd.func42, Tryd.ntmps42
  go_wp2_with fail
  refine HHu.out.mono ?_
  rintro e w1 ⟨rfl, rfl⟩
  go_wp2_with fail
  refine HHv.out.mono ?_
  rintro e w1 ⟨rfl, rfl⟩
  go_wp2_with fail
  go_quiet (fail)
  rw [EM.out]
  have hf1 : Fr [] w (w.drewN nq) := (Fr.refl [] w).drewN nq
  have h1 := H.out.fr hf1 (by simp) (by simp) (by simp)
  have hT1 := HTB.out.fr hf1 (by simp)
  clear c1 du dv H HTB HHu HHv EM
  generalize w.drewN nq = w1 at *
  have c1 := h1.c1
  have du := h1.dep hu
  have dv := h1.dep hv
  rw [HXX.out] at du
  rw [HYY.out] at dv
  have H1 := hide h1
  have HT1 := hide hT1
  have HF1 := hide hf1
  clear h1 hT1 hf1
  go_wp2_with fail
  refine (HUa.out w1 H1.out HT1.out).mono ?_
  rintro e w2 ⟨rfl, hf2⟩
  have h2 := H1.out.fr hf2 (by simp) (by simp) (by simp)
  have hT2 := HT1.out.fr hf2 (by simp)
  have HF2 := hide (HF1.out.trans hf2)
  clear c1 du dv H1 HT1 HF1 hf2 HUa
  have c1 := h2.c1
  have dv := h2.dep hv
  rw [HYY.out] at dv
  have H2 := hide h2
  have HT2 := hide hT2
  clear h2 hT2
  go_wp2_with fail
  refine (HUb.out w2 H2.out HT2.out).mono ?_
  rintro e w3 ⟨rfl, hf3⟩
  have h3 := H2.out.fr hf3 (by simp) (by simp) (by simp)
  have HF3 := hide (HF2.out.trans hf3)
  have H3 := hide h3
  clear c1 dv H2 HT2 HF2 hf3 HUb h3
  rcases HCM.out with ⟨hab, hm⟩ | hcm
  · subst hab
    have HM := hide hm
    clear HCM hm
    go_wp2_with fail
    go_ret2
    exact ⟨HF3.out, .inl ⟨a, HM.out, rfl⟩⟩
  · have hne : ((a : Int) == (b : Int)) = false := by simpa using fun e : (a : Int) = (b : Int) => hcm.ne (by omega)
    have hne' := hcm.ne
    have HC := hide hcm
    clear HCM hcm
    have HNE := hide hne'
    clear hne'
    go_wp2_with fail
    go_loopg [1, 2, 9] 13 (fun gh s1 s2 s9 wr => ∃ (q a b : Nat), q = gh ∧ q ≤ 13 ∧ s1 = .int .i64 (a : Int) ∧ s2 = .int .i64 (b : Int) ∧ s9 = .int .i64 ((q : Int) - 1) ∧ Cm N par u v a b (2 ^ q) ∧ Fr [] w3 wr)
    case atStart => exact ⟨13, a, b, rfl, by omega, rfl, rfl, rfl, HC.out, Fr.refl _ _⟩
    case round =>
    clear HC HNE hne haN hbN
    obtain ⟨q, a, b, hq, hq13, rfl, rfl, rfl, hcm, hf⟩ := hrel
    have HQ := hide hq
    clear hq
    have h4 := H3.out.fr hf (by simp) (by simp) (by simp)
    have haN := hcm.aN
    have hbN := hcm.bN
    have HF := hide hf
    clear hf
    cases q with
    | zero =>
      have hfin := hcm.fin HT.out
      have c2 : wr.cell? ⟨g, 2, none⟩ = some (.slice (some ⟨bj 0, 0, none⟩) N N) := h4.cj (j := 0) (by omega) (by omega)
      have ca := h4.jmp (j := 0) (by omega) haN
      rw [show anI par (2 ^ 0) (a : Int) = up1 par (a : Int) from rfl, up1_nat] at ca
      have HFR := hide (HF3.out.trans HF.out)
      clear h4 hcm
      rcases hfin with ⟨hpa, hno⟩ | ⟨c, hpa, hm⟩
      · rw [hpa] at ca
        have HNO := hide hno
        clear hpa hno
        go_wp2_with fail
        go_ret2
        exact ⟨HFR.out, .inr ⟨HNO.out, rfl⟩⟩
      · rw [hpa] at ca
        have HM := hide hm
        clear hpa hm
        go_wp2_with fail
        go_ret2
        exact ⟨HFR.out, .inl ⟨c, HM.out, rfl⟩⟩
    | succ j =>
      have c2 := h4.cj (j := j) (by omega) (by omega)
      have ca := h4.jmp (j := j) (by omega) haN
      have cb := h4.jmp (j := j) (by omega) hbN
      have e1 : ((j + 1 : Nat) : Int) - 1 = (j : Int) := by omega
      rw [e1]
      have hj13 : (j : Int) < 13 := by omega
      have e2 : IntKind.i64.wrap ((j : Int) - 1) = (j : Int) - 1 := IntWalk.i64_in _ (by omega)
      by_cases hx : anI par (2 ^ j) (a : Int) = anI par (2 ^ j) (b : Int)
      · have HCS := hide (hcm.same hx)
        rw [hx] at ca
        clear h4 hcm hx e1
        generalize anI par (2 ^ j) (b : Int) = z at *
        go_wp2_with fail
        go_quiet (fail)
        go_wp2_with fail
        go_roundg j
        case measure => have := HQ.out; omega
        case rel => exact ⟨j, a, b, rfl, by omega, rfl, rfl, rfl, HCS.out, HF.out.drewN nq⟩
      · obtain ⟨x', y', hx', hy', hcm'⟩ := hcm.move HT.out hx
        rw [hx'] at ca
        rw [hy'] at cb
        have hne2 : ((x' : Int) == (y' : Int)) = false := by simpa using fun e : (x' : Int) = (y' : Int) => hcm'.ne (by omega)
        have HCM' := hide hcm'
        clear h4 hcm hx e1 hx' hy' hcm'
        go_wp2_with fail
        go_quiet (fail)
        go_wp2_with fail
        go_roundg j
        case measure => have := HQ.out; omega
        case rel => exact ⟨j, x', y', rfl, by omega, rfl, rfl, rfl, HCM'.out, HF.out.drewN nq⟩
end Go.Proofs.YtoomcgmbaogjbaaDoor
