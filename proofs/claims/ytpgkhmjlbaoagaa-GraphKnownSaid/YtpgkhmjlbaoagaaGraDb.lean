/- graph: Dist: the loop over the edges around a vertex. -/
import Derived.Test.YtpgkhmjlbaoagaaGraDs
import Derived.Test.YtpgkhmjlbaoagaaGraQ
namespace Go.Proofs.Ytpgkhmjlbaoagaa
open Go.RowKit Go.Shelf
attribute [local go_sem] Oper.semAt_some
set_option linter.unusedVariables false

theorem grown_cellsOn {n₀ : Nat} {W W' : World} {row : Option Nat} (hn : n₀ ≤ W.heap.size) (hg : W.grownBy W' row) (hr : ∀ r, row = some r → n₀ ≤ r ∧ ∃ o : Obj, W.heap[r]? = some o ∧ o.isCells = false) : CellsOn n₀ W W' :=
  ⟨fun b hb => (by
    obtain ⟨o, ho, hc⟩ := hb
    refine hg.block b (Array.getElem?_eq_some_iff.1 ho).1 (fun e => ?_)
    obtain ⟨_, o', ho', hc'⟩ := hr b e.symm
    rw [ho] at ho'
    injection ho' with ho'
    rw [← ho', hc] at hc'
    cases hc'), (Below.refl n₀ W).grown hg hn (fun k e => (hr k e).1)⟩
/-- The memory of Dist. -/
structure DSt (w W : World) (n bd bD bQ g : Nat) (D : Nat → Int) (V : Value) (Q Ds : List Nat) : Prop where
  hA : Blk W bd 3 (ari n D)
  hD : Boxed W bD 40 (.slice (some ⟨bd, 0, none⟩) n n)
  hQ : Boxed W bQ 40 V
  hq : QB 3 W w.heap.size g V Q
  gd : g ≠ bd
  bel : Below w.heap.size w W
  mrk : Mk W w.heap.size Ds
theorem DSt.on {w W W' : World} {n bd bD bQ g : Nat} {D : Nat → Int} {V : Value} {Q Ds : List Nat} (h : DSt w W n bd bD bQ g D V Q Ds) (k : CellsOn w.heap.size W W') (hm : Mk W' w.heap.size Ds) : DSt w W' n bd bD bQ g D V Q Ds :=
  ⟨(k.1 bd ⟨_, h.hA, rfl⟩).trans h.hA, (k.1 bD ⟨_, h.hD, rfl⟩).trans h.hD, (k.1 bQ ⟨_, h.hQ, rfl⟩).trans h.hQ, h.hq.kept (k.1 g h.hq.cells), h.gd, h.bel.trans k.2, hm⟩
theorem DSt.fresh {w W W' : World} {n bd bD bQ g : Nat} {D : Nat → Int} {V : Value} {Q Ds : List Nat} (h : DSt w W n bd bD bQ g D V Q Ds) (k : Below W.heap.size W W') : DSt w W' n bd bD bQ g D V Q Ds :=
  h.on ⟨fun b hb => k.block b (by obtain ⟨o, ho, _⟩ := hb; exact (Array.getElem?_eq_some_iff.1 ho).1), k.mono h.bel.size⟩ ⟨h.mrk.nd, fun D hD => ⟨(h.mrk.at_ D hD).1, (k.block D (h.mrk.lt D hD)).trans (h.mrk.at_ D hD).2⟩⟩
theorem Boxed_on {n₀ : Nat} {W W' : World} {B : Nat} {t : TypeId} {v : Value} (h : Boxed W B t v) (k : CellsOn n₀ W W') : Boxed W' B t v := (k.1 B ⟨_, h, rfl⟩).trans h
theorem Mk.lt_ {w W : World} {n bd bD bQ g : Nat} {D : Nat → Int} {V : Value} {Q Ds : List Nat} (h : DSt w W n bd bD bQ g D V Q Ds) : ∀ D ∈ Ds, D < W.heap.size := h.mrk.lt
/-- The memory while the edges around u are gone over. -/
structure DMid (w W : World) (n : Nat) (l : List (Int × Int × Int)) (v bd bD bQ bu bg bv gp : Nat) (u : Nat) (dn : List Nat) (A : List Nat) (Ds : List Nat) : Prop where
  ex : ∃ (D : Nat → Int) (Q : List Nat) (g : Nat) (V : Value), DSt w W n bd bD bQ g D V Q Ds ∧ Bmid n l v D dn Q u A ∧ g ≠ bu ∧ g ≠ bv
  hu : Boxed W bu 3 (.int .i64 (u : Int))
  hg : Boxed W bg 25 (.pointer (some ⟨gp, 0, none⟩))
  hv : Boxed W bv 3 (.int .i64 (u : Int))
theorem DMid.own {w : World} {n : Nat} {l : List (Int × Int × Int)} {v bd bD bQ bu bg bv gp u : Nat} {dn Ds : List Nat} {β : Type} (f : β → List Nat) (Bl : Nat) (h0 : w.heap.size ≤ Bl) (hD : ∀ D ∈ Ds, D < Bl) :
    OwnFrom Bl (fun (pre : β) W => DMid w W n l v bd bD bQ bu bg bv gp u dn (f pre) Ds) := fun s A B row hs hg hr => by
  obtain ⟨⟨D, Q, g, V, hS, hb, h1, h2⟩, a, b, c⟩ := hs
  have k := grown_cellsOn hS.bel.size hg (fun r e => ⟨Nat.le_trans h0 (hr r e).1, (hr r e).2⟩)
  exact ⟨⟨D, Q, g, V, hS.on k (Mk.own w.heap.size Bl Ds hD s A B row hS.mrk hg hr), hb, h1, h2⟩, Boxed_on a k, Boxed_on b k, Boxed_on c k⟩

set_option maxRecDepth 100000 in
set_option maxHeartbeats 4000000 in
theorem distRange (c : Code) (hc : (Try.f23.body.bind fstRange) = some c) (w w4 : World) (p : GLoc) (n B : Nat) (l : List (Int × Int × Int)) (v bd bD bQ bu bg u : Nat) (dn Ds : List Nat) (h : Gr w p n B l)
    (hbel : Below w.heap.size w w4) (hM0 : DMid w w4 n l v bd bD bQ bu bg (bg + 1) p.g u dn [] Ds) (hlt : bu < w4.heap.size ∧ bg + 1 < w4.heap.size) (hds : ∀ D ∈ Ds, D < w4.heap.size) (hn : w.heap.size ≤ bd ∧ w.heap.size ≤ bD ∧ w.heap.size ≤ bQ) (hne : bD ≠ bd ∧ bQ ≠ bd ∧ bQ ≠ bD ∧ bu ≠ bd ∧ bu ≠ bQ ∧ bg ≠ bd ∧ bg ≠ bQ ∧ bg + 1 ≠ bd ∧ bg + 1 ≠ bQ)
    (hun : u < n) (u0 u1 u2 u3 u4 u6 u9 u10 u11 u12 u13 u14 u15 u16 u17 u18 u19 u20 u21 u22 u23 u24 u25 u26 u27 u28 u29 u30 u31 u32 u33 u34 u35 u36 u37 u38 u39 u40 u41 u43 u44 u45 u46 u47 u48 u49 u50 u51 u52 u53 u54 u55 u56 u57 u58 u59 u60 u61 u62 : Value) (ds : List Deferred) (Q : Exit → Act → World → Prop)
    (hdone : ∀ D' W5, w4.heap.size ≤ D' → DMid w W5 n l v bd bD bQ bu bg (bg + 1) p.g u dn (inc l u) Ds → W5.heap[D']? = some (.deferred (some [])) → Q .normal { tmps := #[u0, u1, u2, u3, u4, .pointer (some ⟨bD, 0, none⟩), u6, .pointer (some ⟨bQ, 0, none⟩), .pointer (some ⟨bu, 0, none⟩), u9, u10, u11, u12, u13, u14, u15, u16, u17, u18, u19, u20, u21, u22, u23, u24, u25, u26, u27, u28, u29, u30, u31, u32, u33, u34, u35, u36, u37, u38, u39, u40, u41, .func (.func 50) #[] #[.pointer (some ⟨bg, 0, none⟩), .pointer (some ⟨bg + 1, 0, none⟩)], u43, u44, u45, u46, u47, u48, u49, u50, u51, u52, u53, u54, u55, u56, u57, u58, u59, u60, u61, u62], defers := { target := .collected D', args := #[] } :: ds } W5) :
    c.wpIn Fence.wide 3 Try.prog Q { tmps := #[u0, u1, u2, u3, u4, .pointer (some ⟨bD, 0, none⟩), u6, .pointer (some ⟨bQ, 0, none⟩), .pointer (some ⟨bu, 0, none⟩), u9, u10, u11, u12, u13, u14, u15, u16, u17, u18, u19, u20, u21, u22, u23, u24, u25, u26, u27, u28, u29, u30, u31, u32, u33, u34, u35, u36, u37, u38, u39, u40, u41, .func (.func 50) #[] #[.pointer (some ⟨bg, 0, none⟩), .pointer (some ⟨bg + 1, 0, none⟩)], u43, u44, u45, u46, u47, u48, u49, u50, u51, u52, u53, u54, u55, u56, u57, u58, u59, u60, u61, u62], defers := ds } w4 := by
  obtain rfl := Option.some.inj hc
  clear hc
  have HG := hide h
  have HM0 := hide hM0
  obtain ⟨i0, hi, hz0, hz1, hz2⟩ := info_parts int_info0
  clear h hM0
  refine wpIn_rangeFunc_ownG rfl (by omega) (gf := 50) (lb := #[.pointer (some ⟨bg, 0, none⟩), .pointer (some ⟨bg + 1, 0, none⟩)]) rfl trivial (enters_of Try.func50 (by kernel_rfl) rfl)
    (graAround_stops 2 (by omega) bg (bg + 1) p n B l (u : Int) w w4 HG.out hbel HM0.out.hg.cell HM0.out.hv.cell) KpA.t (KpA.b hbel.size (by simp; omega)) (Below.refl _ _) (fun _ => rfl)
    (fun pre Wb => DMid w Wb n l v bd bD bQ bu bg (bg + 1) p.g u dn (hvals pre) Ds) (fun _ _ _ => False)
    (DMid.own _ _ hbel.size hds) (fun _ _ _ _ _ hs _ _ => hs) HM0.out ?a₁ ?assign ?body ?done ?stop
  case assign =>
    intro L x W K hK
    gi_wp2
    exact hK
  case body =>
    rintro L pre x Wb hMid hlt
    obtain ⟨⟨D1, Q1, g1, V1, hS1, hb1, hgu1, hgv1⟩, hu1, hg1, hv1⟩ := hMid
    have hxn : eQ l x.1 < n := (hb1.ok.P_lt x.2.1).2.1
    have hmu := hb1.un
    have hDu := hb1.hi hmu.1
    have hmu0 := hmu.2
    have hn4 := HG.out.ok.2.1
    have cD := hS1.hD.cell
    have cx := hS1.hA.inti hxn
    have cuu := hS1.hA.inti hmu.1
    have cub := hu1.cell
    have HS1 := hide hS1
    have HB1' := hide hb1
    clear hS1 hb1 hmu
    by_cases hneg : D1 (eQ l x.1) < 0
    · have fx := HS1.out.hA.frozen (eQ l x.1)
      have hmu' : D1 u < 4096 := by omega
      gi_wp2_with fail
      refine distStep _ rfl L _ Wb bD bd bu n (eQ l x.1) u (D1 u) _ hn4 hxn hun hmu0 hmu' cD cx cuu cub fx _ _ _ _ _ _ _ _ _ _ _ _ _ _ _ _ _ _ _ _ _ _ _ _ _ _ _ _ _ _ _ _ _ _ _ _ _ _ _ _ _ _ _ _ _ _ _ _ _ _ _ _ _ _ _ _ _ _ _ _ _ ?_
      obtain ⟨W6, hW6⟩ : ∃ W6, W6 = (Wb.setCell ⟨bd, eQ l x.1, none⟩ (.int .i64 (D1 u + 1))).drewN 1 := ⟨_, rfl⟩
      have hb6 := HB1'.out.add x.2.1 x.2.2 hneg
      have hQ6 : Boxed W6 bQ 40 V1 := by rw [hW6]; exact Boxed_far HS1.out.hQ (p := ⟨bd, eQ l x.1, none⟩) hne.2.1 _
      have hD6 : Boxed W6 bD 40 (.slice (some ⟨bd, 0, none⟩) n n) := by rw [hW6]; exact Boxed_far HS1.out.hD (p := ⟨bd, eQ l x.1, none⟩) hne.1 _
      have hu6 : Boxed W6 bu 3 (.int .i64 (u : Int)) := by rw [hW6]; exact Boxed_far hu1 (p := ⟨bd, eQ l x.1, none⟩) hne.2.2.2.1 _
      have hg6 : Boxed W6 bg 25 (.pointer (some ⟨p.g, 0, none⟩)) := by rw [hW6]; exact Boxed_far hg1 (p := ⟨bd, eQ l x.1, none⟩) hne.2.2.2.2.2.1 _
      have hv6 : Boxed W6 (bg + 1) 3 (.int .i64 (u : Int)) := by rw [hW6]; exact Boxed_far hv1 (p := ⟨bd, eQ l x.1, none⟩) hne.2.2.2.2.2.2.2.1 _
      have hA6 : Blk W6 bd 3 (ari n (updi D1 (eQ l x.1) (D1 u + 1))) := by rw [hW6]; exact HS1.out.hA.setInti _ _
      have hq6 : QB 3 W6 w.heap.size g1 V1 Q1 := by rw [hW6]; exact (HS1.out.hq.far (p := ⟨bd, eQ l x.1, none⟩) HS1.out.gd _).drewN 1
      have hbel6 : Below w.heap.size w W6 := by rw [hW6]; exact (HS1.out.bel.setCell (p := ⟨bd, eQ l x.1, none⟩) hn.1 _).drewN 1
      have hk6 : KeepsOthers Wb W6 := by rw [hW6]; exact (KeepsOthers.setCell _ _ _).trans (KeepsOthers.drew _)
      have hb6' : Below w.heap.size Wb W6 := by rw [hW6]; exact ((Below.refl _ _).setCell (p := ⟨bd, eQ l x.1, none⟩) hn.1 _).drewN 1
      have hl6 : Q1.length < 1000000 := by have := HB1'.out.len; omega
      have c6 := hQ6.cell
      have hsz6 := hbel6.size
      rw [← hW6]
      clear hW6 cD cx cuu cub fx
      have hgQ : g1 ≠ bQ := hq6.ne_ hQ6 (by decide)
      have hgD : g1 ≠ bD := hq6.ne_ hD6 (by decide)
      have hgG : g1 ≠ bg := hq6.ne_ hg6 (by decide)
      have HG1 := hide (And.intro hg1 hv1)
      have HQ6 := hide hq6
      have HK6 := hide hk6
      have HB6 := hide hb6
      have HR6 := hide (And.intro hb6' (And.intro hbel6 (And.intro hA6 (And.intro hD6 (And.intro hQ6 (And.intro hu6 (And.intro hg6 hv6)))))))
      clear hq6 hk6 hb6 hb6' hbel6 hA6 hD6 hQ6 hu6 hg6 hv6 hu1 hg1 hv1
      gi_wp2_with (gi_at_builtin; refine wpListIn_push Try.underlying40 hi hz0 hz1 hz2 rfl _ _ rfl HQ6.out (eQ l x.1) hsz6 hl6 rfl rfl ?_; intro v' w1 g' hq' hgr hg' hgn; have HQ' := hide hq'; have HGR := hide hgr; have hQ7 := (HR6.out.2.2.2.2.1.alloc (.cells #[.int .i64 (eQ l x.1 : Int)] 3)).kept hgr (by simp; exact fun e => hgQ e.symm); have c7 := hQ7.cell; have f7 := hQ7.frozen; have HQ7 := hide hQ7; obtain ⟨o', c', cur', rfl, -⟩ := hq'; clear hgr hQ7)
      obtain ⟨r1, r2, r3, r4, r5, r6, r7, r8⟩ := HR6.out
      have hlt6 := r3.lt
      have hltu := r6.lt
      have hltv := r8.lt
      have HQ2 : Hid (QB 3 w1 w.heap.size g' (.slice (some ⟨g', o', none⟩) (Q1.length + 1) c') (Q1 ++ [eQ l x.1])) := by
        have h9 := HQ'.out
        rw [show (Q1 ++ [eQ l x.1]).length = Q1.length + 1 by simp] at h9
        exact h9
      have hg'Q : g' ≠ bQ := HQ'.out.ne_ HQ7.out (by decide)
      obtain ⟨o1, ho1, hc1⟩ := HQ6.out.cells
      have hgl := HQ6.out.lt
      have hk7 : KeepsOthers W6 w1 := (KeepsOthers.alloc _ _).trans (KeepsOthers.of_grownBy HGR.out (fun j oo ej hj => by
        have ej : g1 = j := by simpa using ej
        subst ej
        rw [Below.heap_alloc _ _ _ hgl, ho1] at hj
        injection hj with hj
        rw [← hj]; exact hc1))
      have hn0 : w.heap.size ≤ g1 := by obtain ⟨_, _, _, _, h2, _⟩ := HQ6.out; exact h2
      have hb7 : Below w.heap.size W6 w1 := ((Below.refl _ W6).alloc hsz6 (.cells #[.int .i64 (eQ l x.1 : Int)] 3)).grown HGR.out (by simp; omega) (fun j ej => (by have e9 : g1 = j := (by simpa using ej); omega))
      have bx : ∀ (b : Nat) (t : TypeId) (u : Value), Boxed W6 b t u → b ≠ g1 → b ≠ bQ → ∀ v', Boxed (w1.setCell ⟨bQ, 0, none⟩ v') b t u := fun b t u hb h1 h2 v' =>
        Boxed_far ((hb.alloc _).kept HGR.out (by simpa using h1)) (p := ⟨bQ, 0, none⟩) h2 _
      have hall : KeepsOthers Wb (w1.setCell ⟨bQ, 0, none⟩ (.slice (some ⟨g', o', none⟩) (Q1.length + 1) c')) := (HK6.out.trans hk7).trans (KeepsOthers.setCell _ _ _)
      have hA7 : Blk (w1.setCell ⟨bQ, 0, none⟩ (.slice (some ⟨g', o', none⟩) (Q1.length + 1) c')) bd 3 (ari n (updi D1 (eQ l x.1) (D1 u + 1))) :=
        ((r3.alloc _).grown HGR.out (by simpa using HS1.out.gd)).far (p := ⟨bQ, 0, none⟩) (fun e => hne.2.1 e.symm) _
      have s1 := bx bD _ _ r4 (fun e => hgD e.symm) (fun e => hne.2.2.1 e.symm) (.slice (some ⟨g', o', none⟩) (Q1.length + 1) c')
      have s2 := bx bu _ _ r6 (fun e => hgu1 e.symm) hne.2.2.2.2.1 (.slice (some ⟨g', o', none⟩) (Q1.length + 1) c')
      have s3 := bx bg _ _ r7 (fun e => hgG e.symm) hne.2.2.2.2.2.2.1 (.slice (some ⟨g', o', none⟩) (Q1.length + 1) c')
      have s4 := bx (bg + 1) _ _ r8 (fun e => hgv1 e.symm) hne.2.2.2.2.2.2.2.2 (.slice (some ⟨g', o', none⟩) (Q1.length + 1) c')
      have hb8 : Below w.heap.size Wb (w1.setCell ⟨bQ, 0, none⟩ (.slice (some ⟨g', o', none⟩) (Q1.length + 1) c')) := (r1.trans hb7).setCell (p := ⟨bQ, 0, none⟩) hn.2.2 _
      have hbb := HS1.out.bel.trans hb8
      have g'n : g' ≠ bd ∧ g' ≠ bu ∧ g' ≠ bg + 1 := by
        rcases hg' with rfl | hg'
        · exact ⟨HS1.out.gd, hgu1, hgv1⟩
        · omega
      refine ⟨hall.from _, ⟨hb8, fun b hb => ?_⟩, ⟨updi D1 (eQ l x.1) (D1 u + 1), Q1 ++ [eQ l x.1], g', _, ⟨hA7, s1, HQ7.out.set _, HQ2.out.far (p := ⟨bQ, 0, none⟩) hg'Q _, g'n.1, hbb, HS1.out.mrk.kept hall⟩, ?_, g'n.2.1, g'n.2.2⟩, s2, s3, s4⟩
      · simp at hb
        rcases hb with e | e
        · rw [e]; exact s3.trans (show Wb.heap[bg]? = _ from HG1.out.1).symm
        · rw [e]; exact s4.trans (show Wb.heap[bg + 1]? = _ from HG1.out.2).symm
      · rw [hvals_snoc]; exact HB6.out
    · gi_wp2_with fail
      refine ⟨KeepsFrom.refl _ _, KpA.refl _ _ _, ⟨D1, Q1, g1, V1, HS1.out, ?_, hgu1, hgv1⟩, hu1, hg1, hv1⟩
      rw [hvals_snoc]
      exact HB1'.out.skip x.2.1 x.2.2 (by omega)
  case done =>
    rintro D' xs W5 hD5 hxs hMid hK5
    rw [hes_nat hun] at hxs
    rw [show hvals xs = inc l u from hxs] at hMid
    exact hdone D' W5 hD5 hMid hK5
  case stop =>
    rintro D c pre W _ _ h _
    exact h.elim
end Go.Proofs.Ytpgkhmjlbaoagaa
