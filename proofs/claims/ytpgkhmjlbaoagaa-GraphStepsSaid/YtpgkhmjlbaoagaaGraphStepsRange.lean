/- GraphSteps: the loop over the edges around a vertex. Printed by gen_steps.py. -/
import Derived.Test.YtpgkhmjlbaoagaaQuR
import Derived.Test.YtpgkhmjlbaoagaaGraSx
import Derived.Test.YtpgkhmjlbaoagaaGraDb
namespace Go.Proofs.Ytpgkhmjlbaoagaa
open Go.RowKit Go.Shelf
attribute [local go_sem] Oper.semAt_some
set_option linter.unusedVariables false

theorem Boxed_bel {W W' : World} {B : Nat} {t : TypeId} {v : Value} (h : Boxed W B t v) (k : Below W.heap.size W W') : Boxed W' B t v := (k.block B h.lt).trans h
/-- The memory of the loop over the vertices. -/
structure SSt (w W : World) (bd bi b : Nat) (D : Nat → Int) (k : Nat) (Ds : List Nat) : Prop where
  hd : Boxed W bd 40 (.slice (some ⟨b, 0, none⟩) 40 40)
  hi : Boxed W bi 3 (.int .i64 (k : Int))
  hA : Blk W b 3 (ari 40 D)
  bel : Below w.heap.size w W
  mrk : Mk W w.heap.size Ds
theorem SSt.on {w W W' : World} {bd bi b k : Nat} {D : Nat → Int} {Ds : List Nat} (h : SSt w W bd bi b D k Ds) (c : CellsOn w.heap.size W W') (hm : Mk W' w.heap.size Ds) : SSt w W' bd bi b D k Ds :=
  ⟨(c.1 bd ⟨_, h.hd, rfl⟩).trans h.hd, (c.1 bi ⟨_, h.hi, rfl⟩).trans h.hi, (c.1 b ⟨_, h.hA, rfl⟩).trans h.hA, h.bel.trans c.2, hm⟩
theorem SSt.fresh {w W W' : World} {bd bi b k : Nat} {D : Nat → Int} {Ds : List Nat} (h : SSt w W bd bi b D k Ds) (c : Below W.heap.size W W') : SSt w W' bd bi b D k Ds :=
  h.on ⟨fun b hb => c.block b (by obtain ⟨o, ho, _⟩ := hb; exact (Array.getElem?_eq_some_iff.1 ho).1), c.mono h.bel.size⟩ ⟨h.mrk.nd, fun D hD => ⟨(h.mrk.at_ D hD).1, (c.block D (h.mrk.lt D hD)).trans (h.mrk.at_ D hD).2⟩⟩
/-- The memory while the edges around a vertex are gone over. -/
structure SMid (w W : World) (l : List (Int × Int × Int)) (bd bi b bn bg gp : Nat) (D : Nat → Int) (k : Nat) (js Ds : List Nat) : Prop where
  st : SSt w W bd bi b D k Ds
  hn : Boxed W bn 4 (.bool (near l D k js))
  hg : Boxed W bg 25 (.pointer (some ⟨gp, 0, none⟩))
  hv : Boxed W (bg + 1) 3 (.int .i64 (k : Int))
theorem SMid.own {w : World} {l : List (Int × Int × Int)} {bd bi b bn bg gp k : Nat} {D : Nat → Int} {Ds : List Nat} {β : Type} (f : β → List Nat) (Bl : Nat) (h0 : w.heap.size ≤ Bl) (hD : ∀ D ∈ Ds, D < Bl) :
    OwnFrom Bl (fun (pre : β) W => SMid w W l bd bi b bn bg gp D k (f pre) Ds) := fun s A B row hs hg hr => by
  have c := grown_cellsOn hs.st.bel.size hg (fun r e => ⟨Nat.le_trans h0 (hr r e).1, (hr r e).2⟩)
  exact ⟨hs.st.on c (Mk.own w.heap.size Bl Ds hD s A B row hs.st.mrk hg hr), Boxed_on hs.hn c, Boxed_on hs.hg c, Boxed_on hs.hv c⟩

theorem SMid.drewN {w W : World} {l : List (Int × Int × Int)} {bd bi b bn bg gp k : Nat} {D : Nat → Int} {js Ds : List Nat} (h : SMid w W l bd bi b bn bg gp D k js Ds) (m : Nat) : SMid w (W.drewN m) l bd bi b bn bg gp D k js Ds :=
  ⟨h.st.fresh ((Below.refl _ _).drewN m), h.hn, h.hg, h.hv⟩

theorem SMid.set {w W : World} {l : List (Int × Int × Int)} {bd bi b bn bg gp k : Nat} {D : Nat → Int} {js js' Ds : List Nat} (h : SMid w W l bd bi b bn bg gp D k js Ds) (hne : bn ≠ bd ∧ bn ≠ bi ∧ bn ≠ b ∧ bn ≠ bg ∧ bn ≠ bg + 1) (hnw : w.heap.size ≤ bn) (hn : near l D k js' = true) :
    SMid w (W.setCell ⟨bn, 0, none⟩ (.bool true)) l bd bi b bn bg gp D k js' Ds :=
  ⟨⟨Boxed_far h.st.hd (p := ⟨bn, 0, none⟩) (fun e => hne.1 e.symm) _, Boxed_far h.st.hi (p := ⟨bn, 0, none⟩) (fun e => hne.2.1 e.symm) _, h.st.hA.far (p := ⟨bn, 0, none⟩) (fun e => hne.2.2.1 e.symm) _, h.st.bel.setCell (p := ⟨bn, 0, none⟩) hnw _, h.st.mrk.kept (KeepsOthers.setCell _ _ _)⟩,
    by rw [hn]; exact h.hn.set _, Boxed_far h.hg (p := ⟨bn, 0, none⟩) (fun e => hne.2.2.2.1 e.symm) _, Boxed_far h.hv (p := ⟨bn, 0, none⟩) (fun e => hne.2.2.2.2 e.symm) _⟩
theorem SMid.nr {w W : World} {l : List (Int × Int × Int)} {bd bi b bn bg gp k : Nat} {D : Nat → Int} {js js' Ds : List Nat} (h : SMid w W l bd bi b bn bg gp D k js Ds) (e : near l D k js' = near l D k js) : SMid w W l bd bi b bn bg gp D k js' Ds :=
  ⟨h.st, by rw [e]; exact h.hn, h.hg, h.hv⟩

set_option maxRecDepth 100000 in
set_option maxHeartbeats 8000000 in
theorem stepsRange (c : Code) (hc : (Try.f4.body.bind fstRange) = some c) (w w4 : World) (p : GLoc) (B : Nat) (l : List (Int × Int × Int)) (v x R bd bi b bn bg k : Nat) (D : Nat → Int) (Ds : List Nat) (h : Gr w p 40 B l) (hD : IsDist 40 l v D)
    (hbel : Below w.heap.size w w4) (hM0 : SMid w w4 l bd bi b bn bg p.g D k [] Ds) (hds : ∀ D ∈ Ds, D < w4.heap.size) (hlt : bg + 1 < w4.heap.size) (hnw : w.heap.size ≤ bn) (hne : bn ≠ bd ∧ bn ≠ bi ∧ bn ≠ b ∧ bn ≠ bg ∧ bn ≠ bg + 1)
    (hk : k < 40) (u0 u2 u3 u9 u10 u11 u12 u13 u14 u15 u16 u17 u18 u19 u20 u21 u22 u23 u24 u25 u26 u27 u28 u29 u30 u31 u32 u33 u34 u35 u36 u37 u38 u39 u40 u41 u42 u43 u44 u45 u46 u48 u49 u50 u51 u52 u53 u54 u55 u56 u57 u58 u59 u60 u61 u62 u63 u64 u65 u66 u67 u68 u69 u70 u71 u72 u73 u74 u75 u76 u77 u78 u79 u80 u81 u82 u83 u84 u85 u86 u87 u88 u89 u90 u91 u92 u93 u94 u95 u96 u97 u98 u99 u100 u101 u102 u103 u104 u105 u106 u107 u108 u109 u110 u111 u112 u113 u114 u115 u116 u117 u118 u119 u120 : Value) (ds : List Deferred) (Q : Exit → Act → World → Prop)
    (hdone : ∀ D' W5, w4.heap.size ≤ D' → SMid w W5 l bd bi b bn bg p.g D k (inc l k) Ds → W5.heap[D']? = some (.deferred (some [])) → Q .normal { tmps := List.toArray (u0 :: .int .u8 (x : Int) :: u2 :: u3 :: .pointer (some ⟨R, 0, none⟩) :: .pointer (some ⟨p.g, 0, none⟩) :: .pointer (some ⟨bd, 0, none⟩) :: .pointer (some ⟨bi, 0, none⟩) :: .pointer (some ⟨bn, 0, none⟩) :: u9 :: u10 :: u11 :: u12 :: u13 :: u14 :: u15 :: u16 :: u17 :: u18 :: u19 :: u20 :: u21 :: u22 :: u23 :: u24 :: u25 :: u26 :: u27 :: u28 :: u29 :: u30 :: u31 :: u32 :: u33 :: u34 :: u35 :: u36 :: u37 :: u38 :: u39 :: u40 :: u41 :: u42 :: u43 :: u44 :: u45 :: u46 :: .func (.func 50) #[] #[.pointer (some ⟨bg, 0, none⟩), .pointer (some ⟨bg + 1, 0, none⟩)] :: u48 :: u49 :: u50 :: u51 :: u52 :: u53 :: u54 :: u55 :: u56 :: u57 :: u58 :: u59 :: u60 :: u61 :: u62 :: u63 :: u64 :: u65 :: u66 :: u67 :: u68 :: u69 :: u70 :: u71 :: u72 :: u73 :: u74 :: u75 :: u76 :: u77 :: u78 :: u79 :: u80 :: u81 :: u82 :: u83 :: u84 :: u85 :: u86 :: u87 :: u88 :: u89 :: u90 :: u91 :: u92 :: u93 :: u94 :: u95 :: u96 :: u97 :: u98 :: u99 :: u100 :: u101 :: u102 :: u103 :: u104 :: u105 :: u106 :: u107 :: u108 :: u109 :: u110 :: u111 :: u112 :: u113 :: u114 :: u115 :: u116 :: u117 :: u118 :: u119 :: u120 :: []), defers := { target := .collected D', args := #[] } :: ds } W5) :
    c.wpIn Fence.wide 3 Try.prog Q { tmps := List.toArray (u0 :: .int .u8 (x : Int) :: u2 :: u3 :: .pointer (some ⟨R, 0, none⟩) :: .pointer (some ⟨p.g, 0, none⟩) :: .pointer (some ⟨bd, 0, none⟩) :: .pointer (some ⟨bi, 0, none⟩) :: .pointer (some ⟨bn, 0, none⟩) :: u9 :: u10 :: u11 :: u12 :: u13 :: u14 :: u15 :: u16 :: u17 :: u18 :: u19 :: u20 :: u21 :: u22 :: u23 :: u24 :: u25 :: u26 :: u27 :: u28 :: u29 :: u30 :: u31 :: u32 :: u33 :: u34 :: u35 :: u36 :: u37 :: u38 :: u39 :: u40 :: u41 :: u42 :: u43 :: u44 :: u45 :: u46 :: .func (.func 50) #[] #[.pointer (some ⟨bg, 0, none⟩), .pointer (some ⟨bg + 1, 0, none⟩)] :: u48 :: u49 :: u50 :: u51 :: u52 :: u53 :: u54 :: u55 :: u56 :: u57 :: u58 :: u59 :: u60 :: u61 :: u62 :: u63 :: u64 :: u65 :: u66 :: u67 :: u68 :: u69 :: u70 :: u71 :: u72 :: u73 :: u74 :: u75 :: u76 :: u77 :: u78 :: u79 :: u80 :: u81 :: u82 :: u83 :: u84 :: u85 :: u86 :: u87 :: u88 :: u89 :: u90 :: u91 :: u92 :: u93 :: u94 :: u95 :: u96 :: u97 :: u98 :: u99 :: u100 :: u101 :: u102 :: u103 :: u104 :: u105 :: u106 :: u107 :: u108 :: u109 :: u110 :: u111 :: u112 :: u113 :: u114 :: u115 :: u116 :: u117 :: u118 :: u119 :: u120 :: []), defers := ds } w4 := by
  obtain rfl := Option.some.inj hc
  clear hc
  have HG := hide h
  have HD := hide hD
  have HM0 := hide hM0
  clear h hM0 hD
  refine wpIn_rangeFunc_ownG rfl (by omega) (gf := 50) (lb := #[.pointer (some ⟨bg, 0, none⟩), .pointer (some ⟨bg + 1, 0, none⟩)]) rfl trivial (enters_of Try.func50 (by kernel_rfl) rfl)
    (graAround_stops 2 (by omega) bg (bg + 1) p 40 B l (k : Int) w w4 HG.out hbel HM0.out.hg.cell HM0.out.hv.cell) KpA.t (KpA.b hbel.size (by simp; omega)) (Below.refl _ _) (fun _ => rfl)
    (fun pre Wb => SMid w Wb l bd bi b bn bg p.g D k (hvals pre) Ds) (fun _ _ _ => False)
    (SMid.own _ _ hbel.size hds) (fun _ _ _ _ _ hs _ _ => hs) HM0.out ?a₁ ?assign ?body ?done ?stop
  case assign =>
    intro L x W K hK
    gi_wp2
    exact hK
  case body =>
    rintro L pre x Wb hMid hlt2
    obtain ⟨n1, n2, n3, n4⟩ := HD.out.nb x.2.1
    have hxe : eP l x.1 = k := x.2.2
    rw [hxe] at n2 n3 n4
    have hlo := HD.out.lo k hk
    have hlo2 := HD.out.lo _ n1
    have hhi := HD.out.hi hk
    have hhi2 := HD.out.hi n1
    have cd := hMid.st.hd.cell
    have ci := hMid.st.hi.cell
    have ck := hMid.st.hA.inti hk
    have cx := hMid.st.hA.inti n1
    have cn := hMid.hn.cell
    have fn := hMid.hn.frozen
    have HMid := hide hMid
    have HSN := hide (near_snoc (l := l) (D := D) k (hvals pre) x.1)
    clear hMid
    generalize hy : eQ l x.1 = y at *
    generalize hdk : D k = dk at *
    generalize hdx : D y = dx at *
    have HDK := hide hdk
    have HDX := hide hdx
    have HY := hide hy
    clear hdk hdx hy
    have d0 : decide ((y : Int) < 0) = false := by simp
    have d1 : decide ((40 : Int) ≤ (y : Int)) = false := by simp; omega
    have d2 : decide (1 < dx - dk) = false := by simp; omega
    have d3 : decide (1 < dk - dx) = false := by simp; omega
    have w1 : IntKind.i64.wrap (dx - dk) = dx - dk := IntWalk.i64_in _ (by omega)
    have w2 : IntKind.i64.wrap (dk - dx) = dk - dx := IntWalk.i64_in _ (by omega)
    have w3 : IntKind.i64.wrap (dk - 1) = dk - 1 := IntWalk.i64_in _ (by omega)
    have hcs : (decide (dk < 0) = true ∧ decide (dx < 0) = true) ∨ (decide (dk < 0) = false ∧ decide (dx < 0) = false) := by
      by_cases h : dk < 0
      · exact .inl ⟨by simpa using h, by simpa using n2.1 h⟩
      · exact .inr ⟨by simpa using h, by simpa using fun e => h (n2.2 e)⟩
    have hes : ((dx == dk - 1) = true) ∨ ((dx == dk - 1) = false) := by cases (dx == dk - 1) <;> simp
    rcases hcs with ⟨e1, e2⟩ | ⟨e1, e2⟩ <;> rcases hes with e3 | e3
    all_goals
      gi_wp2_with fail
      refine wpIn_region_quiet_round rfl rfl (by kernel_rfl) (by kernel_rfl) ?_
      repeat (gi_big_quiet_step (fail))
      refine wpQuietIn_nil ?_
      intro _ hw'
      obtain ⟨nq, hw''⟩ := hw'
      subst hw''
      have HMid2 := hide (SMid.drewN HMid.out nq)
      have HK2 : Hid (KeepsOthers Wb (Wb.drewN nq) ∧ KpA w.heap.size [bg, bg + 1] Wb (Wb.drewN nq)) := ⟨⟨Nat.le_refl _, fun _ _ h _ => h⟩, (Below.refl _ _).drewN nq, fun _ _ => rfl⟩
      clear cd ci ck cx cn fn
      generalize Wb.drewN nq = W2 at *
      have cd := HMid2.out.st.hd.cell
      have ci := HMid2.out.st.hi.cell
      have ck := HMid2.out.st.hA.inti hk
      have cx := HMid2.out.st.hA.inti n1
      rw [HDK.out] at ck
      rw [HDX.out] at cx
      gi_wp2_with fail
      refine wpIn_region_quiet_round rfl rfl (by kernel_rfl) (by kernel_rfl) ?_
      repeat (gi_big_quiet_step (fail))
      refine wpQuietIn_nil ?_
      intro _ hw'
      obtain ⟨nq, hw''⟩ := hw'
      subst hw''
      have HMid3 := hide (SMid.drewN HMid2.out nq)
      have HK3 : Hid (KeepsOthers Wb (W2.drewN nq) ∧ KpA w.heap.size [bg, bg + 1] Wb (W2.drewN nq)) := ⟨HK2.out.1.trans ⟨Nat.le_refl _, fun _ _ h _ => h⟩, HK2.out.2.t ⟨(Below.refl _ _).drewN nq, fun _ _ => rfl⟩⟩
      clear cd ci ck cx HMid2 HK2
      generalize W2.drewN nq = W3 at *
      have cn := HMid3.out.hn.cell
      have fn := HMid3.out.hn.frozen
      gi_wp2_with fail
    · exact ⟨(HK3.out.1.trans (KeepsOthers.setCell _ _ _)).from _, HK3.out.2.t ⟨(Below.refl _ _).setCell (p := ⟨bn, 0, none⟩) hnw _, fun b hb => Below.heap_setCell _ _ _ b (by simp at hb; rcases hb with rfl | rfl; exact fun e => hne.2.2.2.1 e.symm; exact fun e => hne.2.2.2.2 e.symm)⟩, by show SMid w _ l bd bi b bn bg p.g D k (hvals (pre ++ [x])) Ds; rw [hvals_snoc]; exact HMid3.out.set hne hnw (by rw [HSN.out, e3, Bool.or_true])⟩
    · exact ⟨HK3.out.1.from _, HK3.out.2, by show SMid w _ l bd bi b bn bg p.g D k (hvals (pre ++ [x])) Ds; rw [hvals_snoc]; exact HMid3.out.nr (by rw [HSN.out, e3, Bool.or_false])⟩
    · exact ⟨(HK3.out.1.trans (KeepsOthers.setCell _ _ _)).from _, HK3.out.2.t ⟨(Below.refl _ _).setCell (p := ⟨bn, 0, none⟩) hnw _, fun b hb => Below.heap_setCell _ _ _ b (by simp at hb; rcases hb with rfl | rfl; exact fun e => hne.2.2.2.1 e.symm; exact fun e => hne.2.2.2.2 e.symm)⟩, by show SMid w _ l bd bi b bn bg p.g D k (hvals (pre ++ [x])) Ds; rw [hvals_snoc]; exact HMid3.out.set hne hnw (by rw [HSN.out, e3, Bool.or_true])⟩
    · exact ⟨HK3.out.1.from _, HK3.out.2, by show SMid w _ l bd bi b bn bg p.g D k (hvals (pre ++ [x])) Ds; rw [hvals_snoc]; exact HMid3.out.nr (by rw [HSN.out, e3, Bool.or_false])⟩
  case done =>
    rintro D' xs W5 hD5 hxs hMid hK5
    rw [hes_nat hk] at hxs
    rw [show hvals xs = inc l k from hxs] at hMid
    exact hdone D' W5 hD5 hMid hK5
  case stop =>
    rintro D c pre W _ _ h _
    exact h.elim
end Go.Proofs.Ytpgkhmjlbaoagaa
