/- wrapping.Torus in memory; valid, has, Wraps, Count; find and its closure. -/
import Derived.Test.YtnkkdoookhhhaaaRows
import Derived.Test.YtnkkdoookhhhaaaWrapT
import Derived.LaidEqlPtr
import Derived.Laws.Pointers
namespace Go.Proofs.Ytnkkdoookhhhaaa
open Go.RowKit
set_option linter.unusedVariables false

/-- n integers as the cells of a block. -/
def arz (n : Nat) (f : Nat → Int) : Array Value := ((List.range n).map fun i => Value.int .i64 (f i)).toArray
theorem arz_size (n : Nat) (f : Nat → Int) : (arz n f).size = n := by simp [arz]
theorem arz_get {n i : Nat} (f : Nat → Int) (h : i < n) : (arz n f)[i]? = some (.int .i64 (f i)) := by simp [arz, h]
theorem arz_set (n : Nat) (f : Nat → Int) (i : Nat) (v : Int) : (arz n f).setIfInBounds i (.int .i64 v) = arz n (updz f i v) := by
  apply Array.ext_getElem?
  intro j
  rw [Array.getElem?_setIfInBounds]
  by_cases hj : j < n
  · rw [arz_get _ hj, arz_get _ hj, arz_size]
    by_cases he : i = j
    · subst he; simp [hj, updz_same]
    · rw [if_neg he, updz_other _ _ (fun e => he e.symm)]
  · have e1 : (arz n f)[j]? = none := by simp [arz]; omega
    have e2 : (arz n (updz f i v))[j]? = none := by simp [arz]; omega
    rw [e1, e2, arz_size]
    split
    · rw [if_neg (by omega)]
    · rfl
theorem Blk.intz {w : World} {g t n : Nat} {f : Nat → Int} (h : Blk w g t (arz n f)) {i : Nat} (hi : i < n) : w.cell? ⟨g, i, none⟩ = some (.int .i64 (f i)) := by
  rw [h.cell, arz_get f hi]
theorem Blk.setIntz {w : World} {g t n : Nat} {f : Nat → Int} (h : Blk w g t (arz n f)) (i : Nat) (v : Int) : Blk (w.setCell ⟨g, i, none⟩ (.int .i64 v)) g t (arz n (updz f i v)) := by
  have := h.set_ i (.int .i64 v)
  rwa [arz_set] at this

/-- Where a torus lies. -/
structure TLoc where
  g : Nat
  bp : Nat
  bf : Nat
  bz : Nat
  bw : Nat
def TLoc.bl (p : TLoc) : List Nat := [p.g, p.bp, p.bf, p.bz, p.bw]
def TLoc.from_ (p : TLoc) (B : Nat) : Prop := ∀ k ∈ p.bl, B ≤ k
def tHead (p : TLoc) (W H n : Nat) (ax dn : Bool) (c : Nat) : Array Value :=
  #[.int .i64 (W : Int), .int .i64 (H : Int), .slice (some ⟨p.bp, 0, none⟩) n n, .slice (some ⟨p.bf, 0, none⟩) n n, .slice (some ⟨p.bz, 0, none⟩) n n, .slice (some ⟨p.bw, 0, none⟩) n n, .bool ax, .bool dn, .int .i64 (c : Int)]
/-- A torus in memory. -/
structure TS (w : World) (p : TLoc) (W H n : Nat) (up : Nat → Nat) (F : Nat → Int) (size : Nat → Nat) (V : Nat → Bool) (ax dn : Bool) (c : Nat) : Prop where
  hg : Blk w p.g 59 (tHead p W H n ax dn c)
  hp : Blk w p.bp 3 (arr n up)
  hf : Blk w p.bf 69 (arz (n * 2) F)
  hz : Blk w p.bz 3 (arr n size)
  hw : Blk w p.bw 72 (arb (n * 2) V)
  pz : p.bp ≠ p.bz
  nW : 1 ≤ W ∧ W ≤ 4096
  nH : 1 ≤ H ∧ H ≤ 4096
  nn : n = W * H
  nb : n ≤ 4096
section
variable {w w' : World} {p : TLoc} {W H n c : Nat} {up size : Nat → Nat} {F : Nat → Int} {V : Nat → Bool} {ax dn : Bool}
theorem TS.gp (h : TS w p W H n up F size V ax dn c) : p.g ≠ p.bp := h.hg.ne_ h.hp (by decide)
theorem TS.gf (h : TS w p W H n up F size V ax dn c) : p.g ≠ p.bf := h.hg.ne_ h.hf (by decide)
theorem TS.gz (h : TS w p W H n up F size V ax dn c) : p.g ≠ p.bz := h.hg.ne_ h.hz (by decide)
theorem TS.gw (h : TS w p W H n up F size V ax dn c) : p.g ≠ p.bw := h.hg.ne_ h.hw (by decide)
theorem TS.pf (h : TS w p W H n up F size V ax dn c) : p.bp ≠ p.bf := h.hp.ne_ h.hf (by decide)
theorem TS.pw (h : TS w p W H n up F size V ax dn c) : p.bp ≠ p.bw := h.hp.ne_ h.hw (by decide)
theorem TS.fz (h : TS w p W H n up F size V ax dn c) : p.bf ≠ p.bz := h.hf.ne_ h.hz (by decide)
theorem TS.fw (h : TS w p W H n up F size V ax dn c) : p.bf ≠ p.bw := h.hf.ne_ h.hw (by decide)
theorem TS.zw (h : TS w p W H n up F size V ax dn c) : p.bz ≠ p.bw := h.hz.ne_ h.hw (by decide)
theorem TS.cells (h : TS w p W H n up F size V ax dn c) : w.cell? ⟨p.g, 0, none⟩ = some (.int .i64 (W : Int)) ∧ w.cell? ⟨p.g, 1, none⟩ = some (.int .i64 (H : Int)) ∧ w.cell? ⟨p.g, 2, none⟩ = some (.slice (some ⟨p.bp, 0, none⟩) n n) ∧
    w.cell? ⟨p.g, 3, none⟩ = some (.slice (some ⟨p.bf, 0, none⟩) n n) ∧ w.cell? ⟨p.g, 4, none⟩ = some (.slice (some ⟨p.bz, 0, none⟩) n n) ∧ w.cell? ⟨p.g, 5, none⟩ = some (.slice (some ⟨p.bw, 0, none⟩) n n) ∧
    w.cell? ⟨p.g, 6, none⟩ = some (.bool ax) ∧ w.cell? ⟨p.g, 7, none⟩ = some (.bool dn) ∧ w.cell? ⟨p.g, 8, none⟩ = some (.int .i64 (c : Int)) :=
  ⟨(h.hg.cell 0).trans rfl, (h.hg.cell 1).trans rfl, (h.hg.cell 2).trans rfl, (h.hg.cell 3).trans rfl, (h.hg.cell 4).trans rfl, (h.hg.cell 5).trans rfl, (h.hg.cell 6).trans rfl, (h.hg.cell 7).trans rfl, (h.hg.cell 8).trans rfl⟩
theorem TS.drewN (h : TS w p W H n up F size V ax dn c) (k : Nat) : TS (w.drewN k) p W H n up F size V ax dn c := ⟨h.hg, h.hp, h.hf, h.hz, h.hw, h.pz, h.nW, h.nH, h.nn, h.nb⟩
theorem TS.drew (h : TS w p W H n up F size V ax dn c) : TS w.drew p W H n up F size V ax dn c := ⟨h.hg, h.hp, h.hf, h.hz, h.hw, h.pz, h.nW, h.nH, h.nn, h.nb⟩
theorem TS.lt (h : TS w p W H n up F size V ax dn c) : ∀ k ∈ p.bl, k < w.heap.size := by
  intro k hk
  simp only [TLoc.bl, List.mem_cons, List.not_mem_nil, or_false] at hk
  rcases hk with rfl | rfl | rfl | rfl | rfl
  · exact h.hg.lt
  · exact h.hp.lt
  · exact h.hf.lt
  · exact h.hz.lt
  · exact h.hw.lt
theorem TS.fr {S : List Nat} (h : TS w p W H n up F size V ax dn c) (k : Fr S w w') (hS : ∀ b ∈ p.bl, b ∉ S) : TS w' p W H n up F size V ax dn c :=
  ⟨h.hg.fr k (hS _ (by simp [TLoc.bl])), h.hp.fr k (hS _ (by simp [TLoc.bl])), h.hf.fr k (hS _ (by simp [TLoc.bl])), h.hz.fr k (hS _ (by simp [TLoc.bl])), h.hw.fr k (hS _ (by simp [TLoc.bl])), h.pz, h.nW, h.nH, h.nn, h.nb⟩
theorem TS.fresh (h : TS w p W H n up F size V ax dn c) (k : Below w.heap.size w w') : TS w' p W H n up F size V ax dn c := h.fr (Fr.of_below [] k) (by simp)
theorem TS.setUp (h : TS w p W H n up F size V ax dn c) (i v : Nat) : TS (w.setCell ⟨p.bp, i, none⟩ (.int .i64 (v : Int))) p W H n (upd up i v) F size V ax dn c :=
  ⟨h.hg.far (p := ⟨p.bp, i, none⟩) h.gp _, h.hp.setInt i v, h.hf.far (p := ⟨p.bp, i, none⟩) h.pf.symm _, h.hz.far (p := ⟨p.bp, i, none⟩) h.pz.symm _, h.hw.far (p := ⟨p.bp, i, none⟩) h.pw.symm _, h.pz, h.nW, h.nH, h.nn, h.nb⟩
theorem TS.setFrom (h : TS w p W H n up F size V ax dn c) (i : Nat) (v : Int) : TS (w.setCell ⟨p.bf, i, none⟩ (.int .i64 v)) p W H n up (updz F i v) size V ax dn c :=
  ⟨h.hg.far (p := ⟨p.bf, i, none⟩) h.gf _, h.hp.far (p := ⟨p.bf, i, none⟩) h.pf _, h.hf.setIntz i v, h.hz.far (p := ⟨p.bf, i, none⟩) h.fz.symm _, h.hw.far (p := ⟨p.bf, i, none⟩) h.fw.symm _, h.pz, h.nW, h.nH, h.nn, h.nb⟩
theorem TS.setSize (h : TS w p W H n up F size V ax dn c) (i v : Nat) : TS (w.setCell ⟨p.bz, i, none⟩ (.int .i64 (v : Int))) p W H n up F (upd size i v) V ax dn c :=
  ⟨h.hg.far (p := ⟨p.bz, i, none⟩) h.gz _, h.hp.far (p := ⟨p.bz, i, none⟩) h.pz _, h.hf.far (p := ⟨p.bz, i, none⟩) h.fz _, h.hz.setInt i v, h.hw.far (p := ⟨p.bz, i, none⟩) h.zw.symm _, h.pz, h.nW, h.nH, h.nn, h.nb⟩
theorem TS.setWind (h : TS w p W H n up F size V ax dn c) (i : Nat) (v : Bool) : TS (w.setCell ⟨p.bw, i, none⟩ (.bool v)) p W H n up F size (updb V i v) ax dn c :=
  ⟨h.hg.far (p := ⟨p.bw, i, none⟩) h.gw _, h.hp.far (p := ⟨p.bw, i, none⟩) h.pw _, h.hf.far (p := ⟨p.bw, i, none⟩) h.fw _, h.hz.far (p := ⟨p.bw, i, none⟩) h.zw _, h.hw.setBool i v, h.pz, h.nW, h.nH, h.nn, h.nb⟩
theorem TS.setHead (h : TS w p W H n up F size V ax dn c) (i : Nat) (u : Value) {ax' dn' : Bool} {c' : Nat} (e : (tHead p W H n ax dn c).setIfInBounds i u = tHead p W H n ax' dn' c') : TS (w.setCell ⟨p.g, i, none⟩ u) p W H n up F size V ax' dn' c' :=
  ⟨by have := h.hg.set_ i u; rwa [e] at this, h.hp.far (p := ⟨p.g, i, none⟩) h.gp.symm _, h.hf.far (p := ⟨p.g, i, none⟩) h.gf.symm _, h.hz.far (p := ⟨p.g, i, none⟩) h.gz.symm _, h.hw.far (p := ⟨p.g, i, none⟩) h.gw.symm _, h.pz, h.nW, h.nH, h.nn, h.nb⟩
theorem TS.n1 (h : TS w p W H n up F size V ax dn c) : 1 ≤ n := by rw [h.nn]; exact Nat.mul_pos h.nW.1 h.nH.1
end
/-- What 'from' holds: the differences of the displacements from the roots. -/
def FromOk (n : Nat) (up : Nat → Nat) (pX pY F : Nat → Int) : Prop := ∀ i, i < n → F (i * 2) = pX i - pX (up i) ∧ F (i * 2 + 1) = pY i - pY (up i)
theorem FromOk.set_ {n : Nat} {up : Nat → Nat} {pX pY F : Nat → Int} (h : FromOk n up pX pY F) {i r : Nat} {x y : Int} (hx : x = pX i - pX r) (hy : y = pY i - pY r) (hir : ∀ j, j < n → up j = i → j = i ∨ True) :
    FromOk n (upd up i r) pX pY (updz (updz F (i * 2) x) (i * 2 + 1) y) := by
  intro j hj
  by_cases e : j = i
  · subst e
    rw [updz_other _ _ (by omega), updz_same, updz_same, upd_same]
    exact ⟨hx, hy⟩
  · rw [updz_other _ _ (by omega), updz_other _ _ (by omega), updz_other _ _ (by omega), updz_other _ _ (by omega), upd_other _ _ e]
    exact h j hj

theorem Fr.trans_new {S S' : List Nat} {w w' w2 : World} (h : Fr S w w') (k : Fr S' w' w2) (hS : ∀ b ∈ S', b ∈ S ∨ w.heap.size ≤ b) : Fr S w w2 :=
  ⟨k.os.trans h.os, k.tape.trans h.tape, k.output.trans h.output, Nat.le_trans h.size k.size, fun i hi hn => (k.block i (Nat.lt_of_lt_of_le hi h.size) (fun hm => by
    rcases hS i hm with h1 | h1
    · exact hn h1
    · omega)).trans (h.block i hi hn)⟩
theorem pair_info : (Try.prog.info? 69).map (fun i => (i.zero, i.size, i.bytes)) = some (some (.agg #[.int .i64 0, .int .i64 0]), 2, 16) := by kernel_rfl
def two (x y : Int) : Array Value := #[.int .i64 x, .int .i64 y]
set_option maxHeartbeats 2000000 in
theorem wrAdd (w : World) (sg a b x y : Int) (g : Nat) (hs : sg = 1 ∨ sg = -1) (h : Blk w g 69 (two x y)) (ba : -100000 ≤ a ∧ a ≤ 100000) (bb : -100000 ≤ b ∧ b ≤ 100000) (bx : -100000 ≤ x ∧ x ≤ 100000) (by_ : -100000 ≤ y ∧ y ≤ 100000) :
    Calls Try.prog 44 #[.int .i64 sg, .agg #[.int .i64 a, .int .i64 b], .pointer (some ⟨g, 0, none⟩)] w
      fun e w' => e = .returned (.tuple #[]) ∧ Blk w' g 69 (two (x + sg * a) (y + sg * b)) ∧ Fr [g] w w' := by
  obtain ⟨ba1, ba2⟩ := ba
  obtain ⟨bb1, bb2⟩ := bb
  obtain ⟨bx1, bx2⟩ := bx
  obtain ⟨by1, by2⟩ := by_
  have hb := h.alloc (.cells #[.int .i64 a, .int .i64 b] 69)
  have c0 : (w.alloc (.cells #[.int .i64 a, .int .i64 b] 69)).cell? ⟨g, 0, none⟩ = some (.int .i64 x) := (hb.cell 0).trans rfl
  have c1 : (w.alloc (.cells #[.int .i64 a, .int .i64 b] 69)).cell? ⟨g, 1, none⟩ = some (.int .i64 y) := (hb.cell 1).trans rfl
  have f0 := hb.frozen 0
  have f1 := hb.frozen 1
  have hlt : g ≠ w.heap.size := Nat.ne_of_lt h.lt
  have hlt' := hlt.symm
  have hfr : Fr [g] w (w.alloc (.cells #[.int .i64 a, .int .i64 b] 69)) := (Fr.refl [g] w).alloc _
  have HB := hide hb
  have HFR := hide hfr
  clear h hb hfr
  rcases hs with rfl | rfl
  · go_enter Try.func44, Try.ntmps44
    go_wp2_with fail
    go_end0
    rw [Int.one_mul, Int.one_mul]
    exact ⟨rfl, (HB.out.set_ 0 (.int .i64 (x + a))).set_ 1 (.int .i64 (y + b)), (HFR.out.setCell (p := ⟨g, 0, none⟩) (.inl (by simp)) _).setCell (p := ⟨g, 1, none⟩) (.inl (by simp)) _⟩
  · go_enter Try.func44, Try.ntmps44
    go_wp2_with fail
    go_end0
    rw [show x + -1 * a = x + -a by omega, show y + -1 * b = y + -b by omega]
    exact ⟨rfl, (HB.out.set_ 0 (.int .i64 (x + -a))).set_ 1 (.int .i64 (y + -b)), (HFR.out.setCell (p := ⟨g, 0, none⟩) (.inl (by simp)) _).setCell (p := ⟨g, 1, none⟩) (.inl (by simp)) _⟩

set_option maxHeartbeats 2000000 in
theorem wrValid0 (w : World) (p : TLoc) (W H n c : Nat) (up size : Nat → Nat) (F : Nat → Int) (V : Nat → Bool) (ax dn : Bool) (h : TS w p W H n up F size V ax dn c) :
    Calls Try.prog 33 #[.pointer (some ⟨p.g, 0, none⟩)] w fun e w' => e = .returned (.bool true) ∧ w = w' := by
  obtain ⟨c0, c1, c2, _⟩ := h.cells
  have n1 := h.n1
  have nb := h.nb
  clear h c0 c1
  go_enter Try.func33, Try.ntmps33
  go_wp2_with fail
  go_ret
  exact ⟨ret_bool (by simp; omega), rfl⟩
set_option maxHeartbeats 2000000 in
theorem wrHas0 (w : World) (a : Int) (p : TLoc) (W H n c : Nat) (up size : Nat → Nat) (F : Nat → Int) (V : Nat → Bool) (ax dn : Bool) (h : TS w p W H n up F size V ax dn c) :
    Calls Try.prog 34 #[.pointer (some ⟨p.g, 0, none⟩), .int .i64 a] w fun e w' => e = .returned (.bool (inB n a)) ∧ w = w' := by
  have V := wrValid0 w p W H n c up size F V ax dn h
  obtain ⟨c0, c1, c2, _⟩ := h.cells
  have nb := h.nb
  have HV := hide V
  clear h c0 c1 V
  by_cases h0 : 0 ≤ a
  · go_enter Try.func34, Try.ntmps34
    go_wp2_with (go_at_call 33; refine HV.out.mono ?_; rintro e w' ⟨rfl, rfl⟩)
    go_ret
    exact ⟨ret_bool (by simp [inB, h0]), rfl⟩
  · go_enter Try.func34, Try.ntmps34
    go_wp2_with (go_at_call 33; refine HV.out.mono ?_; rintro e w' ⟨rfl, rfl⟩)
    go_ret
    exact ⟨ret_bool (by symm; simp [inB]; omega), rfl⟩

set_option maxRecDepth 100000 in
set_option maxHeartbeats 8000000 in
theorem wrFind (w : World) (v : Nat) (p : TLoc) (W H n c M : Nat) (up size rep ρ : Nat → Nat) (F pX pY : Nat → Int) (V : Nat → Bool) (ax dn : Bool) (h : TS w p W H n up F size V ax dn c) (hf : Forest n up rep ρ M)
    (hF : FromOk n up pX pY F) (hrx : ∀ i, i < n → pX (rep i) = 0 ∧ pY (rep i) = 0) (hbd : ∀ i j, i < n → j < n → rep i = rep j → pX i - pX j ≤ 4096 ∧ pY i - pY j ≤ 4096) (hv : v < n) :
    Calls Try.prog 35 #[.pointer (some ⟨p.g, 0, none⟩), .int .i64 (v : Int)] w
      fun e w' => e = .returned (.tuple #[.int .i64 (rep v : Int), .agg #[.int .i64 (pX v), .int .i64 (pY v)]]) ∧ ∃ up' F', TS w' p W H n up' F' size V ax dn c ∧ Forest n up' rep ρ M ∧ FromOk n up' pX pY F' ∧ Fr [p.bp, p.bf] w w' := by
  have nb := h.nb
  have lts := h.lt
  have gp := h.gp
  have gf := h.gf
  have pf := h.pf
  have HT := hide h
  have HFO := hide hf
  have HFR := hide hF
  have HRX := hide hrx
  have HBD := hide hbd
  have HLT := hide lts
  clear h hf hF hrx hbd lts
  go_enter Try.func35, Try.ntmps35
  go_wp2_with fail
  have hR0 : Blk ((w.alloc (.cells (two 0 0) 69)).alloc (.cells (two 0 0) 69)) w.heap.size 69 (two 0 0) := (Blk.new w _ _).alloc _
  have hT0 : Blk ((w.alloc (.cells (two 0 0) 69)).alloc (.cells (two 0 0) 69)) (w.heap.size + 1) 69 (two 0 0) := by
    have := Blk.new (w.alloc (.cells (two 0 0) 69)) 69 (two 0 0)
    simpa using this
  have hfr0 : Fr [p.bp, p.bf] w ((w.alloc (.cells (two 0 0) 69)).alloc (.cells (two 0 0) 69)) := ((Fr.refl _ w).alloc _).alloc _
  have hts0 := (HT.out.fr ((Fr.refl [] w).alloc (.cells (two 0 0) 69)) (by simp))
  have hts1 := (hts0.fr ((Fr.refl [] _).alloc (.cells (two 0 0) 69)) (by simp))
  have hw0 : (w.alloc (.cells #[.int .i64 0, .int .i64 0] 69)).alloc (.cells #[.int .i64 0, .int .i64 0] 69) = (w.alloc (.cells (two 0 0) 69)).alloc (.cells (two 0 0) 69) := rfl
  rw [hw0]
  clear hw0 hts0
  generalize (w.alloc (.cells (two 0 0) 69)).alloc (.cells (two 0 0) 69) = w0 at *
  generalize hrr : w.heap.size = R at *
  have HRR := hide hrr
  have HR0 := hide hR0
  have HT0 := hide hT0
  have HF0 := hide hfr0
  have HS0 := hide hts1
  clear hR0 hT0 hfr0 hrr hts1
  have hvv : pX v - pX v = 0 ∧ pY v - pY v = 0 := by omega
  have HVV := hide hvv
  clear hvv
  go_loopg [6] (M - ρ v) (fun k s wr => ∃ x : Nat, x < n ∧ s = .int .i64 (x : Int) ∧ rep x = rep v ∧ M - ρ x ≤ k ∧ TS wr p W H n up F size V ax dn c ∧ Blk wr R 69 (two 0 0) ∧ Blk wr (R + 1) 69 (two (pX v - pX x) (pY v - pY x)) ∧ Fr [p.bp, p.bf] w wr)
  case atStart => exact ⟨v, hv, rfl, rfl, Nat.le_refl _, HS0.out, HR0.out, by rw [HVV.out.1, HVV.out.2]; exact HT0.out, HF0.out⟩
  case round =>
    obtain ⟨x, hx, rfl, hrep, hk, hd, hbR, hbT, hfr⟩ := hrel
    obtain ⟨_, _, c2, c3, _⟩ := hd.cells
    have cx := hd.hp.int hx
    have cf0 := hd.hf.intz (i := x * 2) (by omega)
    have cf1 := hd.hf.intz (i := x * 2 + 1) (by omega)
    have hp := HFO.out.up_lt x hx
    have HREP := hide hrep
    have HK := hide hk
    have HD := hide hd
    have HBR := hide hbR
    have HBT := hide hbT
    have HFRR := hide hfr
    clear hrep hd hbR hbT hfr hk
    by_cases he : up x = x
    · have he' : ((up x : Int) != (x : Int)) = false := by simp [he]
      obtain rfl : x = rep v := by rw [← HREP.out]; exact (HFO.out.root x hx he).symm
      have h0 := HRX.out v hv
      have hT2 := HBT.out
      rw [h0.1, h0.2, Int.sub_zero, Int.sub_zero] at hT2
      have t0 : wr.cell? ⟨R + 1, 0, none⟩ = some (.int .i64 (pX v)) := (hT2.cell 0).trans rfl
      have t1 : wr.cell? ⟨R + 1, 1, none⟩ = some (.int .i64 (pY v)) := (hT2.cell 1).trans rfl
      have HT2 := hide hT2
      clear he h0 hT2
      go_wp2_with fail
      obtain ⟨wo, rfl⟩ : ∃ wo : World, wo = wr := ⟨_, rfl⟩
      have hw1 : wo.alloc (.cells #[.int .i64 (pX v), .int .i64 (pY v)] 69) = wo.alloc (.cells (two (pX v) (pY v)) 69) := rfl
      rw [hw1]
      clear hw1
      have hbW := Blk.new wo 69 (two (pX v) (pY v))
      have hd1 := HD.out.fr ((Fr.refl [] wo).alloc (.cells (two (pX v) (pY v)) 69)) (by simp)
      have hR1 := HBR.out.alloc (.cells (two (pX v) (pY v)) 69)
      have hT1 := HT2.out.alloc (.cells (two (pX v) (pY v)) 69)
      have hf1 := HFRR.out.alloc (.cells (two (pX v) (pY v)) 69)
      have hqq : R + 1 < wo.heap.size := HT2.out.lt
      clear HD HBR HBT HT2 HFRR HR0 HT0 HF0 HS0 c2 c3 cx cf0 cf1 t0 t1
      generalize wo.alloc (.cells (two (pX v) (pY v)) 69) = w1 at *
      generalize wo.heap.size = Q at *
      have HBW := hide hbW
      have HD1 := hide hd1
      have HR1 := hide hR1
      have HT1 := hide hT1
      have HF1 := hide hf1
      have HREP0 := hide HREP.out
      clear hbW hd1 hR1 hT1 hf1 he' HREP HK hp hx
      go_loopg [10] (M - ρ v) (fun k s wr => ∃ (x : Nat) (up' : Nat → Nat) (F' : Nat → Int), x < n ∧ s = .int .i64 (x : Int) ∧ rep x = rep v ∧ M - ρ x ≤ k ∧ TS wr p W H n up' F' size V ax dn c ∧ Forest n up' rep ρ M ∧ FromOk n up' pX pY F' ∧
        Blk wr R 69 (two 0 0) ∧ Blk wr (R + 1) 69 (two (pX x) (pY x)) ∧ Blk wr Q 69 (two (pX v) (pY v)) ∧ Fr [p.bp, p.bf] w wr)
      case atStart => exact ⟨v, up, F, hv, rfl, rfl, Nat.le_refl _, HD1.out, HFO.out, HFR.out, HR1.out, HT1.out, HBW.out, HF1.out⟩
      case round =>
        obtain ⟨x, up', F', hx, rfl, hrep, hk, hd, hfo, hfrm, hbR, hbT, hbW, hfr⟩ := hrel
        obtain ⟨_, _, c2, c3, _⟩ := hd.cells
        have cx := hd.hp.int hx
        have cf0 := hd.hf.intz (i := x * 2) (by omega)
        have cf1 := hd.hf.intz (i := x * 2 + 1) (by omega)
        have hp := hfo.up_lt x hx
        have t0 : wr.cell? ⟨R + 1, 0, none⟩ = some (.int .i64 (pX x)) := (hbT.cell 0).trans rfl
        have t1 : wr.cell? ⟨R + 1, 1, none⟩ = some (.int .i64 (pY x)) := (hbT.cell 1).trans rfl
        have HREP := hide hrep
        have HK := hide hk
        have HD := hide hd
        have HFO2 := hide hfo
        have HFR2 := hide hfrm
        have HBR := hide hbR
        have HBT := hide hbT
        have HBW2 := hide hbW
        have HFRR := hide hfr
        by_cases he : x = rep v
        · have he' : ((x : Int) != (rep v : Int)) = false := by simp [he]
          have q0 : wr.cell? ⟨Q, 0, none⟩ = some (.int .i64 (pX v)) := (hbW.cell 0).trans rfl
          have q1 : wr.cell? ⟨Q, 1, none⟩ = some (.int .i64 (pY v)) := (hbW.cell 1).trans rfl
          have r0 : wr.cell? ⟨R, 0, none⟩ = some (.int .i64 0) := (hbR.cell 0).trans rfl
          have r1 : wr.cell? ⟨R, 1, none⟩ = some (.int .i64 0) := (hbR.cell 1).trans rfl
          have fr0 := hbR.frozen 0
          have fr1 := hbR.frozen 1
          have hfin : TS ((wr.setCell ⟨R, 0, none⟩ (.int .i64 (pX v))).setCell ⟨R, 1, none⟩ (.int .i64 (pY v))) p W H n up' F' size V ax dn c :=
            hd.fr (((Fr.refl [R] wr).setCell (p := ⟨R, 0, none⟩) (.inl (by simp)) _).setCell (p := ⟨R, 1, none⟩) (.inl (by simp)) _) (fun b hb hm => by have := HLT.out b hb; rw [List.mem_singleton.1 hm] at this; omega)
          have hRf : Blk ((wr.setCell ⟨R, 0, none⟩ (.int .i64 (pX v))).setCell ⟨R, 1, none⟩ (.int .i64 (pY v))) R 69 (two (pX v) (pY v)) := (hbR.set_ 0 _).set_ 1 _
          have z0 : ((wr.setCell ⟨R, 0, none⟩ (.int .i64 (pX v))).setCell ⟨R, 1, none⟩ (.int .i64 (pY v))).cell? ⟨R, 0, none⟩ = some (.int .i64 (pX v)) := (hRf.cell 0).trans rfl
          have z1 : ((wr.setCell ⟨R, 0, none⟩ (.int .i64 (pX v))).setCell ⟨R, 1, none⟩ (.int .i64 (pY v))).cell? ⟨R, 1, none⟩ = some (.int .i64 (pY v)) := (hRf.cell 1).trans rfl
          have hQl : Q ≠ R := by omega
          have HFI := hide hfin
          have Z0 := hide z0
          have Z1 := hide z1
          clear hd hbR hbT hbW hfr hk he c2 c3 cx cf0 cf1 t0 t1 hfin hRf z0 z1 hfo hfrm hrep
          go_wp2_with fail
          go_region
          go_wp2_with fail
          have z0 := Z0.out
          have z1 := Z1.out
          refine bodyPost_ret (v := .tuple #[.int .i64 (rep v : Int), .agg #[.int .i64 (pX v), .int .i64 (pY v)]]) (by simp [results, Try.results35, go_sem, z0, z1]) rfl ⟨rfl, up', F', HFI.out.drew, HFO2.out, HFR2.out, ?_⟩
          exact ((HFRR.out.setCell (p := ⟨R, 0, none⟩) (.inr (by rw [HRR.out]; exact Nat.le_refl _)) _).setCell (p := ⟨R, 1, none⟩) (.inr (by rw [HRR.out]; exact Nat.le_refl _)) _).drew
        · have he' : ((x : Int) != (rep v : Int)) = true := by simpa using fun e : (x : Int) = (rep v : Int) => he (by omega)
          have hux : up' x ≠ x := fun e => he (by rw [← hrep]; exact (hfo.root x hx e).symm)
          have HE := hide he
          have HUX := hide hux
          have fz := hd.hp.frozen x
          have ff0 := hd.hf.frozen (x * 2)
          have ff1 := hd.hf.frozen (x * 2 + 1)
          have l1 := hd.hg.lt
          have l2 := hd.hp.lt
          have l3 := hd.hf.lt
          have l4 := hbT.lt
          have l5 := hbW.lt
          have l6 := hbR.lt
          clear hrep hd hbR hbT hbW hfr hk hfo hfrm he hux
          go_wp2_with fail
          go_region
          go_wp2_with fail
          obtain ⟨wo, rfl⟩ : ∃ wo : World, wo = wr := ⟨_, rfl⟩
          have hw2 : (wo.alloc (.cells #[.int .i64 (F' (x * 2)), .int .i64 (F' (x * 2 + 1))] 69)).drew = ((wo.alloc (.cells (two (F' (x * 2)) (F' (x * 2 + 1))) 69)).drewN 1) := rfl
          rw [hw2]
          clear hw2
          have hbD := (Blk.new wo 69 (two (F' (x * 2)) (F' (x * 2 + 1)))).drewN 1
          have hd1 := (HD.out.fr ((Fr.refl [] wo).alloc (.cells (two (F' (x * 2)) (F' (x * 2 + 1))) 69)) (by simp)).drewN 1
          have hR1 := (HBR.out.alloc (.cells (two (F' (x * 2)) (F' (x * 2 + 1))) 69)).drewN 1
          have hT1 := (HBT.out.alloc (.cells (two (F' (x * 2)) (F' (x * 2 + 1))) 69)).drewN 1
          have hW1 := (HBW2.out.alloc (.cells (two (F' (x * 2)) (F' (x * 2 + 1))) 69)).drewN 1
          have hf1 := (HFRR.out.alloc (.cells (two (F' (x * 2)) (F' (x * 2 + 1))) 69)).drewN 1
          have hRl := HBR.out.lt
          have hTl := HBT.out.lt
          have hWl := HBW2.out.lt
          clear HD HBR HBT HBW2 HFRR c2 c3 cx cf0 cf1 t0 t1 fz ff0 ff1 l1 l2 l3 l4 l5 l6 HD1 HR1 HT1 HF1 HBW
          generalize (wo.alloc (.cells (two (F' (x * 2)) (F' (x * 2 + 1))) 69)).drewN 1 = w2 at *
          generalize wo.heap.size = D at *
          obtain ⟨_, _, c2, c3, _⟩ := hd1.cells
          have cx := hd1.hp.int hx
          have cf0 := hd1.hf.intz (i := x * 2) (by omega)
          have cf1 := hd1.hf.intz (i := x * 2 + 1) (by omega)
          have fz := hd1.hp.frozen x
          have ff0 := hd1.hf.frozen (x * 2)
          have ff1 := hd1.hf.frozen (x * 2 + 1)
          have t0 : w2.cell? ⟨R + 1, 0, none⟩ = some (.int .i64 (pX x)) := (hT1.cell 0).trans rfl
          have t1 : w2.cell? ⟨R + 1, 1, none⟩ = some (.int .i64 (pY x)) := (hT1.cell 1).trans rfl
          have hneT : R + 1 ≠ p.bp := by have := HLT.out p.bp (by simp [TLoc.bl]); omega
          have hneF : R + 1 ≠ p.bf := by have := HLT.out p.bf (by simp [TLoc.bl]); omega
          have hneT' := hneT.symm
          have hneF' := hneF.symm
          have hneD : D ≠ p.bp := by have := HLT.out p.bp (by simp [TLoc.bl]); omega
          have hneE : D ≠ p.bf := by have := HLT.out p.bf (by simp [TLoc.bl]); omega
          have hneR : R ≠ p.bp := by have := HLT.out p.bp (by simp [TLoc.bl]); omega
          have hneS : R ≠ p.bf := by have := HLT.out p.bf (by simp [TLoc.bl]); omega
          have hneQ : Q ≠ p.bp := by have := HLT.out p.bp (by simp [TLoc.bl]); omega
          have hneP : Q ≠ p.bf := by have := HLT.out p.bf (by simp [TLoc.bl]); omega
          have HD := hide hd1
          have HBR := hide hR1
          have HBT := hide hT1
          have HBW2 := hide hW1
          have HBD2 := hide hbD
          have HFRR := hide hf1
          clear hd1 hR1 hT1 hW1 hbD hf1
          have hDl := HBD2.out.lt
          have hbl : ∀ b ∈ p.bl, b < R := HLT.out
          have hB2 := HBD.out v x hv hx HREP.out.symm
          have hB3 := HBD.out x v hx hv HREP.out
          have hB4 := HBD.out x (up' x) hx hp (HFO2.out.rep_up x hx).symm
          have hB5 := HBD.out (up' x) x hp hx (HFO2.out.rep_up x hx)
          have hB6 := HBD.out x (rep v) hx (HFO.out.rep_lt v hv) (by rw [HFO.out.rep_rep hv]; exact HREP.out)
          have hB7 := HBD.out (rep v) x (HFO.out.rep_lt v hv) hx (by rw [HFO.out.rep_rep hv]; exact HREP.out.symm)
          have h0 := HRX.out v hv
          have hfo := HFR2.out x hx
          have HB := hide (And.intro hB2 (And.intro hB3 (And.intro hB4 (And.intro hB5 (And.intro hB6 (And.intro hB7 (And.intro h0 hfo)))))))
          clear hB2 hB3 hB4 hB5 hB6 hB7 h0 hfo
          go_region
          all_goals
            have hd3 := (((HD.out.setUp x (rep v)).setFrom (x * 2) (pX x)).setFrom (x * 2 + 1) (pY x)).drew
            have hR3 := (((HBR.out.far (p := ⟨p.bp, x, none⟩) hneR (.int .i64 (rep v : Int))).far (p := ⟨p.bf, x * 2, none⟩) hneS (.int .i64 (pX x))).far (p := ⟨p.bf, x * 2 + 1, none⟩) hneS (.int .i64 (pY x))).drew
            have hT3 := (((HBT.out.far (p := ⟨p.bp, x, none⟩) hneT (.int .i64 (rep v : Int))).far (p := ⟨p.bf, x * 2, none⟩) hneF (.int .i64 (pX x))).far (p := ⟨p.bf, x * 2 + 1, none⟩) hneF (.int .i64 (pY x))).drew
            have hQ3 := (((HBW2.out.far (p := ⟨p.bp, x, none⟩) hneQ (.int .i64 (rep v : Int))).far (p := ⟨p.bf, x * 2, none⟩) hneP (.int .i64 (pX x))).far (p := ⟨p.bf, x * 2 + 1, none⟩) hneP (.int .i64 (pY x))).drew
            have hD3 := (((HBD2.out.far (p := ⟨p.bp, x, none⟩) hneD (.int .i64 (rep v : Int))).far (p := ⟨p.bf, x * 2, none⟩) hneE (.int .i64 (pX x))).far (p := ⟨p.bf, x * 2 + 1, none⟩) hneE (.int .i64 (pY x))).drew
            have hf3 := (((HFRR.out.setCell (p := ⟨p.bp, x, none⟩) (.inl (by simp)) (.int .i64 (rep v : Int))).setCell (p := ⟨p.bf, x * 2, none⟩) (.inl (by simp)) (.int .i64 (pX x))).setCell (p := ⟨p.bf, x * 2 + 1, none⟩) (.inl (by simp)) (.int .i64 (pY x))).drew
            clear HD HBR HBT HBW2 HBD2 HFRR c2 c3 cx cf0 cf1 fz ff0 ff1 t0 t1
            generalize (((w2.setCell ⟨p.bp, x, none⟩ (.int .i64 (rep v : Int))).setCell ⟨p.bf, x * 2, none⟩ (.int .i64 (pX x))).setCell ⟨p.bf, x * 2 + 1, none⟩ (.int .i64 (pY x))).drew = w3 at *
            have d0 : w3.cell? ⟨D, 0, none⟩ = some (.int .i64 (F' (x * 2))) := (hD3.cell 0).trans rfl
            have d1 : w3.cell? ⟨D, 1, none⟩ = some (.int .i64 (F' (x * 2 + 1))) := (hD3.cell 1).trans rfl
            have HD := hide hd3
            have HBR := hide hR3
            have HBT := hide hT3
            have HBW2 := hide hQ3
            have HFRR := hide hf3
            clear hd3 hR3 hT3 hQ3 hf3 hD3
            go_wp2_with fail
            refine (wrAdd _ (-1) _ _ _ _ _ (.inr rfl) HBT.out (by have := HB.out; omega) (by have := HB.out; omega) (by have := HB.out; omega) (by have := HB.out; omega)).mono ?_
            rintro e w4 ⟨rfl, hT4, hf4⟩
            have hd4 := HD.out.fr hf4 (fun b hb hm => by have := HLT.out b hb; rw [List.mem_singleton.1 hm] at this; omega)
            have hR4 := HBR.out.fr hf4 (by simp)
            have hQ4 := HBW2.out.fr hf4 (by simp; omega)
            have HT4 := hide hT4
            have HR4 := hide hR4
            have HQ4 := hide hQ4
            have HF4 := hide hf4
            have HD4 := hide hd4
            clear hT4 hR4 hQ4 hf4 hd4 d0 d1
            go_wp2_with fail
            go_roundg (M - ρ (up' x))
            case measure =>
              have r1 := HFO2.out.rank x hx
              have r2 := HFO2.out.rank _ hp
              have h1 := r1.2 HUX.out
              have := HK.out
              omega
            case rel =>
              have e1 : pX (up' x) = pX x + -1 * F' (x * 2) := by rw [HB.out.2.2.2.2.2.2.2.1]; omega
              have e2 : pY (up' x) = pY x + -1 * F' (x * 2 + 1) := by rw [HB.out.2.2.2.2.2.2.2.2]; omega
              have hcf := HFO2.out.compress hx HUX.out
              rw [HREP.out] at hcf
              refine ⟨up' x, _, _, hp, rfl, by rw [HFO2.out.rep_up x hx]; exact HREP.out, Nat.le_refl _, HD4.out, hcf, HFR2.out.set_ (by rw [HB.out.2.2.2.2.2.2.1.1]; omega) (by rw [HB.out.2.2.2.2.2.2.1.2]; omega) (fun _ _ _ => .inr trivial), HR4.out, ?_, HQ4.out,
                HFRR.out.trans_new HF4.out (fun b hb => .inr (by rw [List.mem_singleton.1 hb, HRR.out]; omega))⟩
              rw [e1, e2]; exact HT4.out
    · have he' : ((up x : Int) != (x : Int)) = true := by simpa using fun e : (up x : Int) = (x : Int) => he (by omega)
      have HE := hide he
      clear he
      have b1 := HBD.out v x hv hx HREP.out.symm
      have b2 := HBD.out x v hx hv HREP.out
      have b3 := HBD.out x (up x) hx hp (HFO.out.rep_up x hx).symm
      have b4 := HBD.out (up x) x hp hx (HFO.out.rep_up x hx)
      have hfo := HFR.out x hx
      have HB := hide (And.intro b1 (And.intro b2 (And.intro b3 (And.intro b4 hfo))))
      clear b1 b2 b3 b4 hfo
      go_wp2_with fail
      refine (wrAdd _ 1 _ _ _ _ _ (.inl rfl) HBT.out (by have := HB.out; omega) (by have := HB.out; omega) (by have := HB.out; omega) (by have := HB.out; omega)).mono ?_
      rintro e w1 ⟨rfl, hT1, hfr1⟩
      have hd1 := HD.out.fr hfr1 (fun b hb hm => by have := HLT.out b hb; rw [List.mem_singleton.1 hm] at this; omega)
      have hR1 := HBR.out.fr hfr1 (by simp)
      obtain ⟨_, _, c2', c3', _⟩ := hd1.cells
      have cx' := hd1.hp.int hx
      have HT1 := hide hT1
      have HR1 := hide hR1
      have HF1 := hide hfr1
      have HD1 := hide hd1
      clear hT1 hR1 hfr1 hd1 c2 c3 cx cf0 cf1
      go_wp2_with fail
      go_roundg (M - ρ (up x))
      case measure =>
        have r1 := HFO.out.rank x hx
        have r2 := HFO.out.rank _ hp
        have h1 := r1.2 HE.out
        have := HK.out
        omega
      case rel =>
        refine ⟨up x, hp, rfl, by rw [HFO.out.rep_up x hx]; exact HREP.out, Nat.le_refl _, HD1.out, HR1.out, ?_, HFRR.out.trans_new HF1.out (fun b hb => .inr (by rw [List.mem_singleton.1 hb, HRR.out]; omega))⟩
        have e1 : pX v - pX (up x) = pX v - pX x + 1 * F (x * 2) := by rw [HB.out.2.2.2.2.1]; omega
        have e2 : pY v - pY (up x) = pY v - pY x + 1 * F (x * 2 + 1) := by rw [HB.out.2.2.2.2.2]; omega
        rw [e1, e2]; exact HT1.out
end Go.Proofs.Ytnkkdoookhhhaaa
