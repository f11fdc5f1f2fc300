/- The walk of GraphHands. Printed by gen_hands2.py. -/
import Derived.Test.YtpgkhmjlbaoagaaGraphHandsRange
import Derived.Test.YtpgkhmjlbaoagaaFrm
import Derived.Test.YtpgkhmjlbaoagaaGraMa
import Derived.Test.YtpgkhmjlbaoagaaGraWk
import Derived.Test.YtpgkhmjlbaoagaaGraDw
namespace Go.Proofs.Ytpgkhmjlbaoagaa
open Go.RowKit Go.Shelf
attribute [local go_sem] Oper.semAt_some
set_option linter.unusedVariables false

/-- The loop over the vertices. -/
def HandsInv (w1 : World) (l : List (Int × Int × Int)) (R pg : Nat) (EA : Option Addr) (m cA B0 bA bT tb : Nat) (q : Nat) (a : Act) (W : World) : Prop :=
  ∃ (k bi : Nat) (Ds : List Nat), a.tmps.size = 110 ∧ a.tmps[2]? = some (.pointer (some ⟨R, 0, none⟩)) ∧ a.tmps[3]? = some (.pointer (some ⟨pg, 0, none⟩)) ∧ a.tmps[4]? = some (.pointer (some ⟨bA, 0, none⟩)) ∧ a.tmps[5]? = some (.pointer (some ⟨bT, 0, none⟩)) ∧ a.tmps[6]? = some (.int .i64 (stt (2 * l.length) (eP l) k : Int)) ∧ a.tmps[7]? = some (.pointer (some ⟨bi, 0, none⟩)) ∧ a.defers = mks Ds ∧ q + k = 40 ∧ HSt w1 W l EA m cA B0 bA bT bi tb (tmL l k []) k Ds ∧ bT < bi
/-- The loop over the edges. -/
def HandsEnd (w1 : World) (l : List (Int × Int × Int)) (R : Nat) (EA : Option Addr) (m cA B0 bA bT bi tb : Nat) (T : Nat → Nat) (Ds : List Nat) (q : Nat) (a : Act) (W : World) : Prop :=
  ∃ (i : Nat), a.tmps.size = 110 ∧ a.tmps[2]? = some (.pointer (some ⟨R, 0, none⟩)) ∧ a.tmps[4]? = some (.pointer (some ⟨bA, 0, none⟩)) ∧ a.tmps[5]? = some (.pointer (some ⟨bT, 0, none⟩)) ∧ a.tmps[6]? = some (.int .i64 ((2 * m : Nat) : Int)) ∧ a.tmps[11]? = some (.int .i64 (i : Int)) ∧ a.defers = mks Ds ∧ q + i = m ∧ HSt w1 W l EA m cA B0 bA bT bi tb T 40 Ds
theorem HSt.congr {w W : World} {l : List (Int × Int × Int)} {EA : Option Addr} {m cA B0 bA bT bi tb k : Nat} {T T' : Nat → Nat} {Ds : List Nat} (h : HSt w W l EA m cA B0 bA bT bi tb T k Ds) (e : ∀ i, i < m → T i = T' i) : HSt w W l EA m cA B0 bA bT bi tb T' k Ds :=
  ⟨h.hA, h.hE, h.hT, by rw [← arr_congr e]; exact h.ht, h.hi, h.bel, h.mrk⟩
theorem HSt.next {w W : World} {l : List (Int × Int × Int)} {EA : Option Addr} {m cA B0 bA bT bi tb k : Nat} {T : Nat → Nat} {Ds Ds' : List Nat} (h : HSt w W l EA m cA B0 bA bT bi tb T k Ds) (hm : Mk W w.heap.size Ds') :
    HSt w (W.alloc (.cells #[.int .i64 ((k : Int) + 1)] 3)) l EA m cA B0 bA bT W.heap.size tb T (k + 1) Ds' :=
  ⟨h.hA.alloc _, own_same h.hE fun g e => Below.heap_alloc _ _ _ (by obtain ⟨o, ho, _⟩ := own_cellsB h.hE e; exact (Array.getElem?_eq_some_iff.1 ho).1), h.hT.alloc _, h.ht.alloc _, by have := Boxed.new W 3 (.int .i64 ((k : Int) + 1)); exact this, h.bel.alloc h.bel.size _, hm.kept (KeepsOthers.alloc _ _)⟩

theorem own_belowA {w : World} {B n sz : Nat} {E : TypeId} {V : Value} {xs : List Value} (h : w.ownsRow B E sz V n xs) (o : Obj) : (w.alloc o).ownsRow B E sz V n xs := own_below h ((Below.refl w.heap.size w).alloc (Nat.le_refl _) o)

set_option maxRecDepth 100000 in
set_option maxHeartbeats 8000000 in
theorem graphHands_ok (A : Option Addr) (m0 c : Nat) (l0 : List (Int × Int × Int)) (W : World) (hr : Rd W A m0 3 (lcs l0)) (hl : l0.length = m0) (hok : ∀ a ∈ l0, LinkOk a) (hm : m0 ≤ 150) :
    Calls Try.prog 5 #[.slice A m0 c] W fun e W' => e = .returned (.bool true) ∧ Below W.heap.size W W' := by
  have HMd := fun w (h : Below W.heap.size W w) => made40 w A m0 c l0 (hr.below h) hl hok hm
  have HMd := hide HMd
  have hlen := bltL_len l0
  have hle150 : (bltL l0).length ≤ 150 := by omega
  generalize bltL l0 = l at *
  obtain ⟨m, hml⟩ : ∃ m, l.length = m := ⟨_, rfl⟩
  have hm150 : m ≤ 150 := by omega
  have HML := hide hml
  obtain ⟨i0, hi, hz0, hz1, hz2⟩ := info_parts int_info0
  have hmk := fun W => run_make_ints 40 3 i0 Try.underlying40 hi hz0 hz1 hz2 m (by omega) W
  clear hr hl hok hlen hi hz0 hz1 hz2
  refine (callsIn_wide (n := 3)).1 ?_
  refine callsIn_of_wp_marks Try.func5 rfl trivial ?_ rfl
  simp only [Try.ntmps5, List.size_toArray, List.length_cons, List.length_nil, Nat.reduceAdd, Nat.reduceSub, Array.replicate_succ, Array.replicate_zero, List.push_toArray, List.append_toArray, List.nil_append, List.cons_append]
  gi_wp2_with fail
  obtain ⟨w0, R, hw0, hR, HR, HB0⟩ : ∃ (w0 : World) (R : Nat), w0 = W.alloc (.cells #[.bool false] 4) ∧ R = W.heap.size ∧ Hid (Boxed w0 R 4 (.bool false)) ∧ Hid (Below W.heap.size W w0) :=
    ⟨_, _, rfl, rfl, Boxed.new W 4 (.bool false), (Below.refl _ _).alloc (Nat.le_refl _) _⟩
  rw [← hw0, ← hR]
  have hRl : R < w0.heap.size := HR.out.lt
  have HRW := hide hR
  clear hw0 hR
  refine ⟨trivial, (callsIn_wide.2 (HMd.out _ HB0.out)).mono ?_⟩
  rintro e w1 ⟨p, B, rfl, hG, hBB, hb1⟩
  have HG1 := hide hG
  have HR1 := hide (Boxed_belH HR.out hb1)
  have HB1 := hide (HB0.out.trans (hb1.mono HB0.out.size))
  have hR1 : R < w1.heap.size := HR1.out.lt
  clear hG hBB hb1 HMd HR
  have HED := graEdges w1 p 40 B l HG1.out
  rw [hml] at HED
  have HED := hide HED
  clear hml
  gi_wp2_with fail
  refine ⟨trivial, (callsIn_wide.2 HED.out).mono ?_⟩
  rintro e w2 ⟨EA, cA, rfl, hO, hb2⟩
  have HO := hide hO
  have HB21 := hide hb2
  clear hO hb2 HED
  gi_wp2_with fail
  obtain ⟨w3, s, hw3, hs, HS0, HB3⟩ : ∃ (w3 : World) (s : Nat), w3 = (((w2.alloc (.cells #[.slice EA m cA] 22)).alloc (.cells (arr m fun _ => 0) 3)).alloc (.cells #[.slice (some ⟨w2.heap.size + 1, 0, none⟩) m m] 40)).alloc (.cells #[.int .i64 0] 3) ∧ s = w2.heap.size ∧
      Hid (HSt w1 w3 l EA m cA w1.heap.size s (s + 1 + 1) (s + 1 + 1 + 1) (s + 1) (fun _ => 0) 0 []) ∧ Hid (Below w1.heap.size w1 w3) := by
    have hb := ((((HB21.out.alloc HB21.out.size (.cells #[.slice EA m cA] 22)).alloc (by simp; have := HB21.out.size; omega) (.cells (arr m fun _ => 0) 3)).alloc (by simp; have := HB21.out.size; omega) (.cells #[.slice (some ⟨w2.heap.size + 1, 0, none⟩) m m] 40)).alloc (by simp; have := HB21.out.size; omega) (.cells #[.int .i64 0] 3))
    have b1 := Boxed.new w2 22 (.slice EA m cA)
    have b2 := Blk.new (w2.alloc (.cells #[.slice EA m cA] 22)) 3 (arr m fun _ => 0)
    have b3 := Boxed.new ((w2.alloc (.cells #[.slice EA m cA] 22)).alloc (.cells (arr m fun _ => 0) 3)) 40 (.slice (some ⟨w2.heap.size + 1, 0, none⟩) m m)
    have b4 := Boxed.new (((w2.alloc (.cells #[.slice EA m cA] 22)).alloc (.cells (arr m fun _ => 0) 3)).alloc (.cells #[.slice (some ⟨w2.heap.size + 1, 0, none⟩) m m] 40)) 3 (.int .i64 0)
    simp only [World.size_alloc] at b2 b3 b4
    exact ⟨_, _, rfl, rfl, ⟨((b1.alloc _).alloc _).alloc _, own_belowA (own_belowA (own_belowA (own_belowA HO.out _) _) _) _, b3.alloc _, (b2.alloc _).alloc _, b4, hb, Mk.nil _ _⟩, hb⟩
  have hEb : ∀ g, (Value.slice EA m cA).ownBlock = some g → g < s := fun g e => by rw [hs]; exact (HO.out.lt g e).2
  rw [← hw3, ← hs]
  have hsw := HB21.out.size
  rw [← hs] at hsw
  have HEB := hide hEb
  clear hw3 hs HO HB21 hmk hEb
  refine wpIn_loop_ghost (HandsInv w1 l R p.g EA m cA w1.heap.size s (s + 1 + 1) (s + 1)) 40 ?start ?round
  case start => exact ⟨0, s + 1 + 1 + 1, [], rfl, rfl, rfl, rfl, rfl, by rw [stt_zero]; rfl, rfl, rfl, rfl, HS0.out.congr fun i hi => (tmL_zero l i).symm, by omega⟩
  case round =>
    rintro q ⟨tm, df⟩ W7 ⟨k, bi, Ds, hsz, h2, h3, h4, h5, h6, h7, hdf, hq, hS, hbi⟩
    obtain ⟨g, rfl⟩ := arr110 tm hsz
    simp only [List.getElem?_toArray, List.getElem?_cons_zero, List.getElem?_cons_succ, Option.some.injEq] at h2 h3 h4 h5 h6 h7
    simp only [] at hdf
    subst hdf
    rw [h2, h3, h4, h5, h6, h7]
    clear hsz h2 h3 h4 h5 h6 h7
    have HQ := hide hq
    have ci := hS.hi.cell
    have HS := hide hS
    clear HS0
    have hst := stt_le2 (l := l) k
    rw [HML.out] at hst ⊢
    by_cases hk : k < 40
    · have hse := stt_end (l := l) k
      have hst2 := stt_le2 (l := l) (k + 1)
      rw [HML.out] at hse hst2
      have HDG := graDegree W7 (k : Int) p 40 B l (HG1.out.fresh hS.bel)
      rw [show gdeg 40 l (k : Int) = (inc l k).length by unfold gdeg; rw [inB_nat hk]; rfl] at HDG
      have HDG := hide HDG
      have hwr : IntKind.i64.wrap ((stt (2 * m) (eP l) k : Int) + ((inc l k).length : Int)) = (stt (2 * m) (eP l) (k + 1) : Int) := by rw [IntWalk.i64_in _ (by omega), hse]; push_cast; rfl
      have hlt1 := hS.hi.lt
      generalize stt (2 * m) (eP l) k = s1 at *
      generalize hs2 : stt (2 * m) (eP l) (k + 1) = s2 at *
      generalize (inc l k).length = dg at *
      have HS2 := hide hs2
      clear hS hse hs2
      gi_wp2_with fail
      refine ⟨trivial, (callsIn_wide.2 HDG.out).mono ?_⟩
      rintro e W8 ⟨rfl, kd, rfl⟩
      have hS8 := HS.out.fresh ((Below.refl _ _).drewN kd)
      have ci8 := hS8.hi.cell
      generalize W7.drewN kd = W8 at *
      obtain ⟨Wn, hWn⟩ : ∃ Wn, Wn = W8.alloc (.cells #[.int .i64 (-1)] 3) := ⟨_, rfl⟩
      have hSn := hS8.fresh (W' := Wn) (by rw [hWn]; exact (Below.refl _ _).alloc (Nat.le_refl _) _)
      have cin := hSn.hi.cell
      have bL := Boxed.new W8 3 (.int .i64 (-1))
      rw [← hWn] at bL
      rw [hWn] at cin
      have hl2 := hS8.hi.lt
      have hs1 := hS8.bel.size
      have HSn := hide hSn
      have HBL := hide bL
      clear hS8 hSn bL ci HDG HS
      gi_wp2_with fail
      rw [← hWn]
      refine ⟨trivial, (callsIn_wide.2 (graAround Wn p.g (k : Int))).mono ?_⟩
      rintro e w4 ⟨rfl, hw4⟩
      have bG0 := Boxed.new Wn 25 (.pointer (some ⟨p.g, 0, none⟩))
      have bV0 := Boxed.new (Wn.alloc (.cells #[.pointer (some ⟨p.g, 0, none⟩)] 25)) 3 (.int .i64 (k : Int))
      rw [World.size_alloc] at bV0
      have hb4 : Below Wn.heap.size Wn w4 := by rw [hw4]; exact ((Below.refl _ _).alloc (Nat.le_refl _) _).alloc (by simp) _
      have hsz4 : w4.heap.size = Wn.heap.size + 2 := by rw [hw4]; simp
      have hszn : Wn.heap.size = W8.heap.size + 1 := by rw [hWn]; simp
      have hM0 : HMid w1 w4 l EA m cA w1.heap.size s (s + 1 + 1) bi (s + 1) W8.heap.size Wn.heap.size p.g k [] Ds :=
        ⟨⟨_, -1, HSn.out.fresh hb4, Boxed_belH HBL.out hb4, fun i => by have := tmL_le l k [] i; simpa using this, fun _ => ⟨rfl, fun _ _ => rfl⟩⟩, by rw [hw4]; exact bG0.alloc _, by rw [hw4]; exact bV0⟩
      have hDs : ∀ D ∈ Ds, D < w4.heap.size := fun D hD => by have := HSn.out.mrk.lt D hD; omega
      have hbel4 : Below w1.heap.size w1 w4 := HSn.out.bel.trans (hb4.mono HSn.out.bel.size)
      rw [hszn] at hM0
      have HM0 := hide hM0
      clear bG0 bV0 hb4 hM0 hw4 hWn cin ci8 HBL HSn
      gi_wp2_with fail
      refine handsRange _ rfl w1 w4 p B l R EA m cA w1.heap.size s (s + 1 + 1) bi (s + 1) W8.heap.size (W8.heap.size + 1) k Ds HG1.out HML.out hm150 HR1.out HEB.out (by omega) hbel4 HM0.out hDs (by omega) hk _ _ _ _ _ _ _ _ _ _ _ _ _ _ _ _ _ _ _ _ _ _ _ _ _ _ _ _ _ _ _ _ _ _ _ _ _ _ _ _ _ _ _ _ _ _ _ _ _ _ _ _ _ _ _ _ _ _ _ _ _ _ _ _ _ _ _ _ _ _ _ _ _ _ _ _ _ _ _ _ _ _ _ _ _ _ _ _ _ _ _ _ _ _ _ _ _ _ _ _ _ _ _ _ _ ?_
      intro D' W5 hD5 hMid hK5
      obtain ⟨⟨T2, z2, hS5, -, -, hP5⟩, -, -⟩ := hMid
      obtain ⟨-, hT5⟩ := hP5 (List.prefix_refl _)
      have hmk : Mk W5 w1.heap.size (D' :: Ds) := hS5.mrk.cons (fun hm => by have := hDs D' hm; omega) (by have := hbel4.size; omega) hK5
      have ci := hS5.hi.cell
      have hsz5 : bi < W5.heap.size := hS5.hi.lt
      have HST := hide hS5
      have HMK := hide hmk
      have HT5 : Hid (∀ i, i < m → T2 i = tmL l (k + 1) [] i) := fun i hi => by rw [hT5 i hi, tmL_done HG1.out.ok.1 k i (by have := HML.out; omega)]
      clear hS5 hmk HM0 hT5
      gi_wp2_with fail
      exact ⟨q - 1, by have := HQ.out; omega, k + 1, W5.heap.size, D' :: Ds, rfl, rfl, rfl, rfl, rfl, by rw [HML.out, HS2.out]; rfl, rfl, rfl, by have := HQ.out; omega, (HST.out.next HMK.out).congr HT5.out, by omega⟩
    · obtain rfl : k = 40 := by have := HQ.out; omega
      have hall := stt_all HG1.out.ok.1
      rw [HML.out] at hall
      rw [hall]
      have HT2 : Hid (∀ i, i < m → tmL l 40 [] i = 2) := fun i hi => tmL_full HG1.out.ok.1 i (by have := HML.out; omega)
      clear hS hst hall
      gi_wp2_with fail
      refine wpIn_loop_ghost (HandsEnd w1 l R EA m cA w1.heap.size s (s + 1 + 1) bi (s + 1) (tmL l 40 []) Ds) m ?start2 ?round2
      case start2 => exact ⟨0, rfl, rfl, rfl, rfl, rfl, rfl, rfl, by omega, HS.out⟩
      case round2 =>
        rintro q2 ⟨tm, df⟩ W9 ⟨i, hsz, h2, h4, h5, h6, h11, hdf, hq2, hS⟩
        obtain ⟨g2, rfl⟩ := arr110 tm hsz
        simp only [List.getElem?_toArray, List.getElem?_cons_zero, List.getElem?_cons_succ, Option.some.injEq] at h2 h4 h5 h6 h11
        simp only [] at hdf
        subst hdf
        rw [h2, h4, h5, h6, h11]
        clear hsz h2 h4 h5 h6 h11
        have HQ2 := hide hq2
        have cT := hS.hT.cell
        by_cases hi : i < m
        · have ct := hS.ht.int hi
          rw [HT2.out i hi] at ct
          have ct2 : W9.cell? ⟨s + 1, i, none⟩ = some (.int .i64 2) := ct
          have HS9 := hide hS
          clear hS ct HS
          gi_wp2_with fail
          exact ⟨q2 - 1, by have := HQ2.out; omega, i + 1, rfl, rfl, rfl, rfl, rfl, rfl, rfl, by have := HQ2.out; omega, HS9.out⟩
        · obtain rfl : i = m := by have := HQ2.out; omega
          have cAA := hS.hA.cell
          have hw2 : IntKind.i64.wrap (2 * (i : Int)) = ((2 * i : Nat) : Int) := by rw [IntWalk.i64_in _ (by omega)]; push_cast; rfl
          have hM := hS.mrk
          have hBW := HB1.out.trans (hS.bel.mono HB1.out.size)
          have hRW := (hS.bel.block R hR1).trans HR1.out
          have hs7 := hS.bel.size
          have HM := hide hM
          have HBW := hide hBW
          have HRR := hide hRW
          clear hS hM hBW hRW HS
          generalize 2 * i = z at *
          gi_wp2_with fail
          refine ⟨trivial, (callsIn_wide.2 (works13 _)).mono ?_⟩
          rintro e W8 ⟨rfl, hb8⟩
          have HR8 := hide (Boxed_belH (show Boxed W9 R 4 (.bool false) from HRR.out) hb8)
          have cR := HR8.out.cell
          have fR := HR8.out.frozen
          have HM8 : Hid (Mk W8 w1.heap.size Ds) := ⟨HM.out.nd, fun D hD => ⟨(HM.out.at_ D hD).1, (hb8.block D (HM.out.lt D hD)).trans (HM.out.at_ D hD).2⟩⟩
          have HB8 := hide (HBW.out.trans (hb8.mono HBW.out.size))
          have hs8 : w1.heap.size ≤ W8.heap.size := Nat.le_trans hs7 hb8.size
          clear hb8 HM HBW HRR
          gi_wp2_with fail
          have cF := (HR8.out.set (.bool true)).cell
          have hb9 : Below W.heap.size W (W8.setCell ⟨R, 0, none⟩ (.bool true)) := HB8.out.setCell (p := ⟨R, 0, none⟩) (by have := HRW.out; show W.heap.size ≤ R; omega) _
          have hsz9 : (W8.setCell ⟨R, 0, none⟩ (.bool true)).heap.size = W8.heap.size := by simp
          refine Mk.leave Ds _ (HM8.out.kept (KeepsOthers.setCell _ _ _)) (by rw [hsz9]; exact hs8) (fun W' k => ?_)
          have hcb := k.1 R ⟨_, HR8.out.set (.bool true), rfl⟩
          have cL : W'.cell? ⟨R, 0, none⟩ = some (.bool true) := (World.cell?_of_block hcb).trans cF
          exact ⟨_, results_cell_bool (P := Try.prog) rfl _ _ R true Try.underlying4 rfl cL, rfl, hb9.trans (k.2.mono HB1.out.size)⟩
set_option maxRecDepth 100000 in
theorem graphHands_walk (v0 : Value) (l : List (Int × Int × Int)) (W : World) (w0 : IsLinks W v0 l) :
    Calls Try.prog 5 #[v0] W fun e W' => e = .returned (.bool true) ∧ Below W.heap.size W W' := by
  obtain ⟨A, m, c, rfl, hm, hl, hok, hr⟩ := w0
  have hm9 : m ≤ 9223372036854775807 := by unfold maxLen at hm; omega
  by_cases h150 : m ≤ 150
  · exact graphHands_ok A m c l W hr hl hok h150
  · clear hr hl hok
    go_enter Try.func5, Try.ntmps5
    go_wp2_with fail
    have hR := Boxed.new W 4 (.bool false)
    have hb0 := (Below.refl W.heap.size W).alloc (Nat.le_refl _) (.cells #[.bool false] 4)
    have HR := hide hR
    have HB0 := hide hb0
    clear hR hb0
    generalize W.alloc (.cells #[.bool false] 4) = wa at *
    refine (works13 _).mono ?_
    rintro e w9 ⟨rfl, hb9⟩
    have HR9 := hide (Boxed_belH HR.out hb9)
    have HB9 := hide (HB0.out.trans (hb9.mono HB0.out.size))
    have cR := HR9.out.cell
    have fR := HR9.out.frozen
    clear hb9
    go_wp2_with fail
    refine bodyPost_ret (results_cell_bool (P := Try.prog) rfl _ _ W.heap.size true Try.underlying4 rfl (HR9.out.set (.bool true)).cell) rfl ?_
    exact ⟨rfl, HB9.out.setCell (p := ⟨W.heap.size, 0, none⟩) (Nat.le_refl _) _⟩
end Go.Proofs.Ytpgkhmjlbaoagaa
