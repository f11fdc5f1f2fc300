/- GraphHands: the loop over the edges around a vertex. Printed by gen_hands.py. -/
import Derived.Test.YtpgkhmjlbaoagaaQuR
import Derived.Test.YtpgkhmjlbaoagaaGraHp
import Derived.Test.YtpgkhmjlbaoagaaGraDb
namespace Go.Proofs.Ytpgkhmjlbaoagaa
open Go.RowKit Go.Shelf
attribute [local go_sem] Oper.semAt_some
set_option linter.unusedVariables false

theorem Boxed_belH {W W' : World} {B : Nat} {t : TypeId} {v : Value} (h : Boxed W B t v) (k : Below W.heap.size W W') : Boxed W' B t v := (k.block B h.lt).trans h
theorem own_same {w w' : World} {B n sz : Nat} {E : TypeId} {V : Value} {xs : List Value} (h : w.ownsRow B E sz V n xs) (k : ∀ g, V.ownBlock = some g → w'.heap[g]? = w.heap[g]?) : w'.ownsRow B E sz V n xs := by
  refine ⟨h.1, ?_⟩
  rcases h.2 with hn | ⟨g, cap, cur, rfl, hb, hh, r⟩
  · exact .inl hn
  · exact .inr ⟨g, cap, cur, rfl, hb, (k g rfl).trans hh, r⟩
theorem own_cellsB {w : World} {B n sz : Nat} {E : TypeId} {V : Value} {xs : List Value} (h : w.ownsRow B E sz V n xs) {g : Nat} (hg : V.ownBlock = some g) : ∃ o : Obj, w.heap[g]? = some o ∧ o.isCells = true := by
  rcases h.2 with ⟨rfl, _⟩ | ⟨g', cap, cur, rfl, hb, hh, r⟩
  · cases hg
  · obtain rfl : g' = g := by simpa [Value.ownBlock] using hg
    exact ⟨_, hh, rfl⟩
theorem OwnE.rdE {w : World} {B : Nat} {A : Option Addr} {n c : Nat} {l : List (Int × Int × Int)} (h : OwnE w B (.slice A n c) l) : Rd w A l.length 3 (ecs l) := by
  obtain ⟨A', c', e, hr, _, _⟩ := own_form h
  injection e with e1 _ _
  subst e1; exact hr
/-- The memory of the loop over the vertices: all the edges, how often each has been met, the vertex. -/
structure HSt (w W : World) (l : List (Int × Int × Int)) (EA : Option Addr) (m cA B0 bA bT bi tb : Nat) (T : Nat → Nat) (k : Nat) (Ds : List Nat) : Prop where
  hA : Boxed W bA 22 (.slice EA m cA)
  hE : OwnE W B0 (.slice EA m cA) l
  hT : Boxed W bT 40 (.slice (some ⟨tb, 0, none⟩) m m)
  ht : Blk W tb 3 (arr m T)
  hi : Boxed W bi 3 (.int .i64 (k : Int))
  bel : Below w.heap.size w W
  mrk : Mk W w.heap.size Ds
section
variable {w W W' : World} {l : List (Int × Int × Int)} {EA : Option Addr} {m cA B0 bA bT bi tb bl bg gp k : Nat} {T T' : Nat → Nat} {js js' Ds : List Nat}
theorem HSt.on (h : HSt w W l EA m cA B0 bA bT bi tb T k Ds) (c : CellsOn w.heap.size W W') (hm : Mk W' w.heap.size Ds) : HSt w W' l EA m cA B0 bA bT bi tb T k Ds :=
  ⟨(c.1 bA ⟨_, h.hA, rfl⟩).trans h.hA, own_same h.hE fun g e => c.1 g (own_cellsB h.hE e), (c.1 bT ⟨_, h.hT, rfl⟩).trans h.hT, (c.1 tb ⟨_, h.ht, rfl⟩).trans h.ht, (c.1 bi ⟨_, h.hi, rfl⟩).trans h.hi, h.bel.trans c.2, hm⟩
theorem HSt.fresh (h : HSt w W l EA m cA B0 bA bT bi tb T k Ds) (c : Below W.heap.size W W') : HSt w W' l EA m cA B0 bA bT bi tb T k Ds :=
  h.on ⟨fun b hb => c.block b (by obtain ⟨o, ho, _⟩ := hb; exact (Array.getElem?_eq_some_iff.1 ho).1), c.mono h.bel.size⟩ ⟨h.mrk.nd, fun D hD => ⟨(h.mrk.at_ D hD).1, (c.block D (h.mrk.lt D hD)).trans (h.mrk.at_ D hD).2⟩⟩
theorem HSt.upd_ (h : HSt w W l EA m cA B0 bA bT bi tb T k Ds) {z : Int} (hz : Boxed W bl 3 (.int .i64 z)) (z' : Int) (x i : Nat) (h1 : w.heap.size ≤ bl) (h2 : w.heap.size ≤ tb) (ho : w.heap.size ≤ tb ∧ bA < tb ∧ tb < bT ∧ bT < bi ∧ bi < bl ∧ bl < bg) (h3 : w.heap.size ≤ tb) (hE : ∀ g, (Value.slice EA m cA).ownBlock = some g → g < bA) :
    HSt w ((W.setCell ⟨bl, 0, none⟩ (.int .i64 z')).setCell ⟨tb, i, none⟩ (.int .i64 (x : Int))) l EA m cA B0 bA bT bi tb (upd T i x) k Ds ∧ Boxed ((W.setCell ⟨bl, 0, none⟩ (.int .i64 z')).setCell ⟨tb, i, none⟩ (.int .i64 (x : Int))) bl 3 (.int .i64 z') := by
  refine ⟨⟨Boxed_far (Boxed_far h.hA (p := ⟨bl, 0, none⟩) (by show bA ≠ bl; omega) _) (p := ⟨tb, i, none⟩) (by show bA ≠ tb; omega) _, own_same h.hE fun g e => ?_, Boxed_far (Boxed_far h.hT (p := ⟨bl, 0, none⟩) (by show bT ≠ bl; omega) _) (p := ⟨tb, i, none⟩) (by show bT ≠ tb; omega) _, ?_, Boxed_far (Boxed_far h.hi (p := ⟨bl, 0, none⟩) (by show bi ≠ bl; omega) _) (p := ⟨tb, i, none⟩) (by show bi ≠ tb; omega) _, (h.bel.setCell (p := ⟨bl, 0, none⟩) h1 _).setCell (p := ⟨tb, i, none⟩) h2 _, (h.mrk.kept (KeepsOthers.setCell _ _ _)).kept (KeepsOthers.setCell _ _ _)⟩, Boxed_far (hz.set _) (p := ⟨tb, i, none⟩) (by show bl ≠ tb; omega) _⟩
  · have := hE g e
    rw [Below.heap_setCell _ _ _ g (by show g ≠ tb; omega), Below.heap_setCell _ _ _ g (by show g ≠ bl; omega)]
  · exact (h.ht.far (p := ⟨bl, 0, none⟩) (by show tb ≠ bl; omega) _).setInt i x
/-- The memory while the edges around a vertex are gone over. -/
structure HMid (w W : World) (l : List (Int × Int × Int)) (EA : Option Addr) (m cA B0 bA bT bi tb bl bg gp k : Nat) (js Ds : List Nat) : Prop where
  ex : ∃ (T : Nat → Nat) (z : Int), HSt w W l EA m cA B0 bA bT bi tb T k Ds ∧ Boxed W bl 3 (.int .i64 z) ∧ (∀ i, T i ≤ 4 + js.length) ∧ (js <+: inc l k → z = lastI js ∧ ∀ i, i < m → T i = tmL l k js i)
  hg : Boxed W bg 25 (.pointer (some ⟨gp, 0, none⟩))
  hv : Boxed W (bg + 1) 3 (.int .i64 (k : Int))
theorem HMid.own {β : Type} (f : β → List Nat) (Bl : Nat) (h0 : w.heap.size ≤ Bl) (hD : ∀ D ∈ Ds, D < Bl) :
    OwnFrom Bl (fun (pre : β) W => HMid w W l EA m cA B0 bA bT bi tb bl bg gp k (f pre) Ds) := fun s A B row hs hg hr => by
  obtain ⟨⟨T, z, h1, h2, h3, h4⟩, a, b⟩ := hs
  have c := grown_cellsOn h1.bel.size hg (fun r e => ⟨Nat.le_trans h0 (hr r e).1, (hr r e).2⟩)
  exact ⟨⟨T, z, h1.on c (Mk.own w.heap.size Bl Ds hD s A B row h1.mrk hg hr), Boxed_on h2 c, h3, h4⟩, Boxed_on a c, Boxed_on b c⟩
theorem HMid.drewN (h : HMid w W l EA m cA B0 bA bT bi tb bl bg gp k js Ds) (n : Nat) : HMid w (W.drewN n) l EA m cA B0 bA bT bi tb bl bg gp k js Ds := by
  obtain ⟨⟨T, z, h1, h2, h3⟩, a, b⟩ := h
  exact ⟨⟨T, z, h1.fresh ((Below.refl _ _).drewN n), h2, h3⟩, a, b⟩
end

set_option maxRecDepth 100000 in
set_option maxHeartbeats 8000000 in
theorem handsRange (c : Code) (hc : (Try.f5.body.bind fstRange) = some c) (w w4 : World) (p : GLoc) (B : Nat) (l : List (Int × Int × Int)) (R : Nat) (EA : Option Addr) (m cA B0 bA bT bi tb bl bg k : Nat) (Ds : List Nat) (h : Gr w p 40 B l) (hml : l.length = m) (hm : m ≤ 150)
    (hR : Boxed w R 4 (.bool false)) (hEb : ∀ g, (Value.slice EA m cA).ownBlock = some g → g < bA) (hord : w.heap.size ≤ tb ∧ bA < tb ∧ tb < bT ∧ bT < bi ∧ bi < bl ∧ bl < bg)
    (hbel : Below w.heap.size w w4) (hM0 : HMid w w4 l EA m cA B0 bA bT bi tb bl bg p.g k [] Ds) (hds : ∀ D ∈ Ds, D < w4.heap.size) (hlt : bg + 1 < w4.heap.size)
    (hk : k < 40) (u0 u1 u6 u9 u10 u11 u12 u13 u14 u15 u16 u17 u18 u19 u20 u21 u22 u23 u24 u25 u26 u27 u28 u29 u30 u31 u32 u33 u34 u35 u37 u38 u39 u40 u41 u42 u43 u44 u45 u46 u47 u48 u49 u50 u51 u52 u53 u54 u55 u56 u57 u58 u59 u60 u61 u62 u63 u64 u65 u66 u67 u68 u69 u70 u71 u72 u73 u74 u75 u76 u77 u78 u79 u80 u81 u82 u83 u84 u85 u86 u87 u88 u89 u90 u91 u92 u93 u94 u95 u96 u97 u98 u99 u100 u101 u102 u103 u104 u105 u106 u107 u108 u109 : Value) (ds : List Deferred) (Q : Exit → Act → World → Prop)
    (hdone : ∀ D' W5, w4.heap.size ≤ D' → HMid w W5 l EA m cA B0 bA bT bi tb bl bg p.g k (inc l k) Ds → W5.heap[D']? = some (.deferred (some [])) → Q .normal { tmps := List.toArray (u0 :: u1 :: .pointer (some ⟨R, 0, none⟩) :: .pointer (some ⟨p.g, 0, none⟩) :: .pointer (some ⟨bA, 0, none⟩) :: .pointer (some ⟨bT, 0, none⟩) :: u6 :: .pointer (some ⟨bi, 0, none⟩) :: .pointer (some ⟨bl, 0, none⟩) :: u9 :: u10 :: u11 :: u12 :: u13 :: u14 :: u15 :: u16 :: u17 :: u18 :: u19 :: u20 :: u21 :: u22 :: u23 :: u24 :: u25 :: u26 :: u27 :: u28 :: u29 :: u30 :: u31 :: u32 :: u33 :: u34 :: u35 :: .func (.func 50) #[] #[.pointer (some ⟨bg, 0, none⟩), .pointer (some ⟨bg + 1, 0, none⟩)] :: u37 :: u38 :: u39 :: u40 :: u41 :: u42 :: u43 :: u44 :: u45 :: u46 :: u47 :: u48 :: u49 :: u50 :: u51 :: u52 :: u53 :: u54 :: u55 :: u56 :: u57 :: u58 :: u59 :: u60 :: u61 :: u62 :: u63 :: u64 :: u65 :: u66 :: u67 :: u68 :: u69 :: u70 :: u71 :: u72 :: u73 :: u74 :: u75 :: u76 :: u77 :: u78 :: u79 :: u80 :: u81 :: u82 :: u83 :: u84 :: u85 :: u86 :: u87 :: u88 :: u89 :: u90 :: u91 :: u92 :: u93 :: u94 :: u95 :: u96 :: u97 :: u98 :: u99 :: u100 :: u101 :: u102 :: u103 :: u104 :: u105 :: u106 :: u107 :: u108 :: u109 :: []), defers := { target := .collected D', args := #[] } :: ds } W5) :
    c.wpIn Fence.wide 3 Try.prog Q { tmps := List.toArray (u0 :: u1 :: .pointer (some ⟨R, 0, none⟩) :: .pointer (some ⟨p.g, 0, none⟩) :: .pointer (some ⟨bA, 0, none⟩) :: .pointer (some ⟨bT, 0, none⟩) :: u6 :: .pointer (some ⟨bi, 0, none⟩) :: .pointer (some ⟨bl, 0, none⟩) :: u9 :: u10 :: u11 :: u12 :: u13 :: u14 :: u15 :: u16 :: u17 :: u18 :: u19 :: u20 :: u21 :: u22 :: u23 :: u24 :: u25 :: u26 :: u27 :: u28 :: u29 :: u30 :: u31 :: u32 :: u33 :: u34 :: u35 :: .func (.func 50) #[] #[.pointer (some ⟨bg, 0, none⟩), .pointer (some ⟨bg + 1, 0, none⟩)] :: u37 :: u38 :: u39 :: u40 :: u41 :: u42 :: u43 :: u44 :: u45 :: u46 :: u47 :: u48 :: u49 :: u50 :: u51 :: u52 :: u53 :: u54 :: u55 :: u56 :: u57 :: u58 :: u59 :: u60 :: u61 :: u62 :: u63 :: u64 :: u65 :: u66 :: u67 :: u68 :: u69 :: u70 :: u71 :: u72 :: u73 :: u74 :: u75 :: u76 :: u77 :: u78 :: u79 :: u80 :: u81 :: u82 :: u83 :: u84 :: u85 :: u86 :: u87 :: u88 :: u89 :: u90 :: u91 :: u92 :: u93 :: u94 :: u95 :: u96 :: u97 :: u98 :: u99 :: u100 :: u101 :: u102 :: u103 :: u104 :: u105 :: u106 :: u107 :: u108 :: u109 :: []), defers := ds } w4 := by
  obtain rfl := Option.some.inj hc
  clear hc
  have HG := hide h
  have HM0 := hide hM0
  have HML := hide hml
  have HEB := hide hEb
  have HR := hide hR
  have HOK := hide h.ok.1
  clear h hM0 hml hEb hR
  refine wpIn_rangeFunc_ownG rfl (by omega) (gf := 50) (lb := #[.pointer (some ⟨bg, 0, none⟩), .pointer (some ⟨bg + 1, 0, none⟩)]) rfl trivial (enters_of Try.func50 (by kernel_rfl) rfl)
    (graAround_stops 2 (by omega) bg (bg + 1) p 40 B l (k : Int) w w4 HG.out hbel HM0.out.hg.cell HM0.out.hv.cell) KpA.t (KpA.b hbel.size (by simp; omega)) (Below.refl _ _) (fun _ => rfl)
    (fun pre Wb => HMid w Wb l EA m cA B0 bA bT bi tb bl bg p.g k (hvals pre) Ds) (fun c pre _ => c = .ret ∧ ¬ hvals pre <+: inc l k)
    (HMid.own _ _ hbel.size hds) (fun _ _ _ _ _ hs _ _ => hs) HM0.out ?a₁ ?assign ?body ?done ?stop
  case assign =>
    intro L x W K hK
    gi_wp2
    exact hK
  case body =>
    rintro L pre x Wb hMid hlt2
    have hxe : eP l x.1 = k := x.2.2
    have hxm : x.1 / 2 < m := by have := x.2.1; have := HML.out; omega
    have hxl : x.1 / 2 < l.length := by have := x.2.1; omega
    obtain ⟨z1, z2, z3, z4, z5⟩ := HOK.out.at_ hxl
    have hcs : (eU l (x.1 / 2) = k ∧ eV l (x.1 / 2) = eQ l x.1 ∧ eQ l x.1 ≠ k) ∨ (eV l (x.1 / 2) = k ∧ eU l (x.1 / 2) = eQ l x.1 ∧ eQ l x.1 ≠ k) := by
      have hj2 := hxe
      unfold eP at hj2
      unfold eQ
      by_cases hpar : x.1 % 2 = 0
      · rw [if_pos hpar] at hj2 ⊢
        exact .inl ⟨hj2, rfl, by omega⟩
      · rw [if_neg hpar] at hj2 ⊢
        exact .inr ⟨hj2, rfl, by omega⟩
    have hN : (hes 40 l (k : Int)).length ≤ 300 := by
      rw [hes_nat hk]
      have := stt_end (l := l) k
      have := stt_le2 (l := l) (k + 1)
      have := HML.out
      omega
    have hpl : (hvals pre).length < 300 := by rw [hvals_len]; omega
    obtain ⟨⟨T, z, hS, hz, hTb, hP⟩, hg, hv⟩ := hMid
    have HHG := hide (And.intro hg hv)
    have HTB := hide hTb
    have HP := hide hP
    have hTi := hTb (x.1 / 2)
    have cAA := hS.hA.cell
    have cI := hS.hi.cell
    have cZ := hz.cell
    obtain ⟨b, o, e1, hbl, e0, e1', e2⟩ := hS.hE.rdE.edge (x.1 / 2) hxl rfl
    rw [z1] at e0
    rw [z2] at e1'
    have HS := hide hS
    have HZ := hide hz
    have hmx : hvals (pre ++ [x]) = hvals pre ++ [x.1] := hvals_snoc pre x
    have HHX := hide hmx
    clear z1 z2 z5 hg hv hTb hP hmx e2
    have hdiv : ((x.1 : Nat) : Int) / 2 = ((x.1 / 2 : Nat) : Int) := by omega
    simp only [hdiv]
    clear hdiv
    generalize hi : x.1 / 2 = i at *
    have HII := hide hi
    clear hi
    generalize hy : eQ l x.1 = y at *
    have HY := hide hy
    clear hy
    subst e1
    have dm : decide (m ≤ i) = false := by simp; omega
    have hy40 : y < 40 := by omega
    have w1 : IntKind.i64.wrap ((k : Int) + (y : Int)) = (k : Int) + (y : Int) := IntWalk.i64_in _ (by omega)
    have w2 : IntKind.i64.wrap ((y : Int) + (k : Int)) = (y : Int) + (k : Int) := IntWalk.i64_in _ (by omega)
    have w3 : IntKind.i64.wrap ((T i : Int) + 1) = (T i : Int) + 1 := IntWalk.i64_in _ (by omega)
    have hne1 : ((k : Int) + (y : Int) != (y : Int) + (k : Int)) = false := by simp; omega
    have hne2 : ((y : Int) + (k : Int) != (y : Int) + (k : Int)) = false := by simp
    have hyk2 : y ≠ k := by omega
    have hyk : ((y : Int) != (k : Int)) = true := by simp; omega
    have hkk : ((k : Int) != (k : Int)) = false := by simp
    have hHT := HS.out.bel.size
    have hzc : (decide ((i : Int) ≤ z) = true ∧ (i : Int) ≤ z) ∨ (decide ((i : Int) ≤ z) = false) := by
      by_cases h : (i : Int) ≤ z
      · exact .inl ⟨by simpa using h, h⟩
      · exact .inr (by simpa using h)
    have HMX := hide hxm
    have hRl : R < w.heap.size := HR.out.lt
    have hbl2 := hz.lt
    clear hS hz hbl hN
    rcases hcs with ⟨g1, g2, g3⟩ | ⟨g1, g2, g3⟩ <;> rcases hzc with ⟨dz, hz⟩ | dz
    all_goals
      first | (rw [g1] at e0; rw [g2] at e1') | (rw [g2] at e0; rw [g1] at e1')
      gi_wp2_with fail
      refine wpIn_region_quiet_round rfl rfl (by kernel_rfl) (by kernel_rfl) ?_
      repeat (gi_big_quiet_step (fail))
      refine wpQuietIn_nil ?_
      intro _ hw'
      obtain ⟨nq, hw''⟩ := hw'
      subst hw''
      have HS2 : Hid (HSt w (Wb.drewN nq) l (some ⟨b, o, none⟩) m cA B0 bA bT bi tb T k Ds) := HS.out.fresh ((Below.refl _ _).drewN nq)
      have HZ2 : Hid (Boxed (Wb.drewN nq) bl 3 (.int .i64 z)) := HZ.out
      have HK2 : Hid (KeepsOthers Wb (Wb.drewN nq) ∧ KpA w.heap.size [bg, bg + 1] Wb (Wb.drewN nq) ∧ Boxed (Wb.drewN nq) bg 25 (.pointer (some ⟨p.g, 0, none⟩)) ∧ Boxed (Wb.drewN nq) (bg + 1) 3 (.int .i64 (k : Int))) := ⟨⟨Nat.le_refl _, fun _ _ h _ => h⟩, ⟨(Below.refl _ _).drewN nq, fun _ _ => rfl⟩, HHG.out.1, HHG.out.2⟩
      clear cAA cI cZ e0 e1' hbl2
      generalize Wb.drewN nq = W2 at *
      have hR2 := (HS2.out.bel.block R hRl).trans HR.out
      have cR := (show Boxed W2 R 4 (.bool false) from hR2).cell
      have fR := (show Boxed W2 R 4 (.bool false) from hR2).frozen
      have cL := HZ2.out.cell
      have fL := HZ2.out.frozen
      have cTT := HS2.out.hT.cell
      have ct := HS2.out.ht.int hxm
      have ft := HS2.out.ht.frozen i
      clear hR2
      gi_wp2_with fail
    · refine ⟨(HK2.out.1.trans (KeepsOthers.setCell _ _ _)).from _, rfl, fun hp => ?_⟩
      rw [HHX.out] at hp
      have hl1 := lastI_lt HOK.out hp
      rw [HII.out] at hl1
      have hl2 := (HP.out ((List.prefix_append _ _).trans hp)).1
      omega
    · have hS3 := HS2.out.upd_ HZ2.out (i : Int) (T i + 1) i (by omega) (by omega) hord hord.1 HEB.out
      refine ⟨((HK2.out.1.trans (KeepsOthers.setCell _ _ _)).trans (KeepsOthers.setCell _ _ _)).from _, HK2.out.2.1.t ⟨((Below.refl _ _).setCell (p := ⟨bl, 0, none⟩) (by show w.heap.size ≤ bl; omega) _).setCell (p := ⟨tb, i, none⟩) hord.1 _, fun b hb => ?_⟩, ⟨upd T i (T i + 1), (i : Int), hS3.1, hS3.2, fun q => ?_, fun hp => ?_⟩, ?_, ?_⟩
      · simp at hb
        rw [Below.heap_setCell _ _ _ b (by rcases hb with rfl | rfl <;> (show _ ≠ tb; omega)), Below.heap_setCell _ _ _ b (by rcases hb with rfl | rfl <;> (show _ ≠ bl; omega))]
      · have h9 := HTB.out q
        have h8 := HTB.out i
        rw [HHX.out, List.length_append]
        unfold upd
        split
        · simp only [List.length_cons, List.length_nil]; omega
        · omega
      · rw [HHX.out] at hp ⊢
        have hn := inc_new HOK.out hp
        obtain ⟨_, h7⟩ := HP.out ((List.prefix_append _ _).trans hp)
        refine ⟨by rw [lastI_snoc, HII.out], fun q hq => ?_⟩
        rw [tmL_step l k _ _ q hn, HII.out]
        unfold upd
        split
        · rw [h7 i hxm]
        · exact h7 q hq
      · exact Boxed_far (Boxed_far HK2.out.2.2.1 (p := ⟨bl, 0, none⟩) (by show bg ≠ bl; omega) _) (p := ⟨tb, i, none⟩) (by show bg ≠ tb; omega) _
      · exact Boxed_far (Boxed_far HK2.out.2.2.2 (p := ⟨bl, 0, none⟩) (by show bg + 1 ≠ bl; omega) _) (p := ⟨tb, i, none⟩) (by show bg + 1 ≠ tb; omega) _
    · refine ⟨(HK2.out.1.trans (KeepsOthers.setCell _ _ _)).from _, rfl, fun hp => ?_⟩
      rw [HHX.out] at hp
      have hl1 := lastI_lt HOK.out hp
      rw [HII.out] at hl1
      have hl2 := (HP.out ((List.prefix_append _ _).trans hp)).1
      omega
    · have hS3 := HS2.out.upd_ HZ2.out (i : Int) (T i + 1) i (by omega) (by omega) hord hord.1 HEB.out
      refine ⟨((HK2.out.1.trans (KeepsOthers.setCell _ _ _)).trans (KeepsOthers.setCell _ _ _)).from _, HK2.out.2.1.t ⟨((Below.refl _ _).setCell (p := ⟨bl, 0, none⟩) (by show w.heap.size ≤ bl; omega) _).setCell (p := ⟨tb, i, none⟩) hord.1 _, fun b hb => ?_⟩, ⟨upd T i (T i + 1), (i : Int), hS3.1, hS3.2, fun q => ?_, fun hp => ?_⟩, ?_, ?_⟩
      · simp at hb
        rw [Below.heap_setCell _ _ _ b (by rcases hb with rfl | rfl <;> (show _ ≠ tb; omega)), Below.heap_setCell _ _ _ b (by rcases hb with rfl | rfl <;> (show _ ≠ bl; omega))]
      · have h9 := HTB.out q
        have h8 := HTB.out i
        rw [HHX.out, List.length_append]
        unfold upd
        split
        · simp only [List.length_cons, List.length_nil]; omega
        · omega
      · rw [HHX.out] at hp ⊢
        have hn := inc_new HOK.out hp
        obtain ⟨_, h7⟩ := HP.out ((List.prefix_append _ _).trans hp)
        refine ⟨by rw [lastI_snoc, HII.out], fun q hq => ?_⟩
        rw [tmL_step l k _ _ q hn, HII.out]
        unfold upd
        split
        · rw [h7 i hxm]
        · exact h7 q hq
      · exact Boxed_far (Boxed_far HK2.out.2.2.1 (p := ⟨bl, 0, none⟩) (by show bg ≠ bl; omega) _) (p := ⟨tb, i, none⟩) (by show bg ≠ tb; omega) _
      · exact Boxed_far (Boxed_far HK2.out.2.2.2 (p := ⟨bl, 0, none⟩) (by show bg + 1 ≠ bl; omega) _) (p := ⟨tb, i, none⟩) (by show bg + 1 ≠ tb; omega) _
  case done =>
    rintro D' xs W5 hD5 hxs hMid hK5
    rw [hes_nat hk] at hxs
    rw [show hvals xs = inc l k from hxs] at hMid
    exact hdone D' W5 hD5 hMid hK5
  case stop =>
    rintro D c pre W _ hp ⟨_, h⟩ _
    rw [hes_nat hk] at hp
    exact (h hp).elim
end Go.Proofs.Ytpgkhmjlbaoagaa
