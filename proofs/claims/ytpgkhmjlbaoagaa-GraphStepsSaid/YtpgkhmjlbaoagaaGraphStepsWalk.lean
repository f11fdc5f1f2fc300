/- The walk of GraphSteps. -/
import Derived.Test.YtpgkhmjlbaoagaaGraphStepsRange
import Derived.Test.YtpgkhmjlbaoagaaFrm
import Derived.Test.YtpgkhmjlbaoagaaGraMa
import Derived.Test.YtpgkhmjlbaoagaaGraWk
import Derived.Test.YtpgkhmjlbaoagaaGraDw
namespace Go.Proofs.Ytpgkhmjlbaoagaa
open Go.RowKit Go.Shelf
attribute [local go_sem] Oper.semAt_some
set_option linter.unusedVariables false

/-- The loop over the vertices. -/
def StepsInv (w1 : World) (A : Option Addr) (m c x R pg bd b : Nat) (D : Nat → Int) (q : Nat) (a : Act) (W7 : World) : Prop :=
  ∃ (k bi : Nat) (Ds : List Nat), a.tmps.size = 121 ∧ a.tmps[0]? = some (.slice A m c) ∧ a.tmps[1]? = some (.int .u8 (x : Int)) ∧ a.tmps[4]? = some (.pointer (some ⟨R, 0, none⟩)) ∧ a.tmps[5]? = some (.pointer (some ⟨pg, 0, none⟩)) ∧ a.tmps[6]? = some (.pointer (some ⟨bd, 0, none⟩)) ∧ a.tmps[7]? = some (.pointer (some ⟨bi, 0, none⟩)) ∧ a.defers = mks Ds ∧ q + k = 40 ∧ SSt w1 W7 bd bi b D k Ds
theorem SSt.next {w W : World} {bd bi b k : Nat} {D : Nat → Int} {Ds Ds' : List Nat} (h : SSt w W bd bi b D k Ds) (hm : Mk W w.heap.size Ds') : SSt w (W.alloc (.cells #[.int .i64 ((k : Int) + 1)] 3)) bd W.heap.size b D (k + 1) Ds' :=
  ⟨h.hd.alloc _, by have := Boxed.new W 3 (.int .i64 ((k : Int) + 1)); exact this, h.hA.alloc _, h.bel.alloc h.bel.size _, hm.kept (KeepsOthers.alloc _ _)⟩

set_option maxRecDepth 100000 in
set_option maxHeartbeats 8000000 in
theorem graphSteps_ok (x : Nat) (hx : x < 256) (A : Option Addr) (m c : Nat) (l : List (Int × Int × Int)) (W : World) (hr : Rd W A m 3 (lcs l)) (hl : l.length = m) (hok : ∀ a ∈ l, LinkOk a) (hm : m ≤ 150) :
    Calls Try.prog 4 #[.slice A m c, .int .u8 (x : Int)] W fun e W' => e = .returned (.bool true) ∧ Below W.heap.size W W' := by
  have HMd := fun w (h : Below W.heap.size W w) => made40 w A m c l (hr.below h) hl hok hm
  have HMd := hide HMd
  have hlen := bltL_len l
  have hle150 : (bltL l).length ≤ 150 := by omega
  generalize bltL l = ls at *
  clear hr hl hok hlen
  have q1 : ((x : Int)).tmod 40 = ((x % 40 : Nat) : Int) := by rw [Int.tmod_eq_emod_of_nonneg (by omega)]; omega
  have q2 : IntKind.i64.wrap ((x : Int)) = (x : Int) := IntWalk.i64_in _ (by omega)
  have hv40 : x % 40 < 40 := by omega
  have q3 : IntKind.i64.wrap (((x % 40 : Nat) : Int)) = ((x % 40 : Nat) : Int) := IntWalk.i64_in _ (by omega)
  have q4 : (x : Int) % 40 = ((x % 40 : Nat) : Int) := by omega
  generalize x % 40 = v at *
  refine (callsIn_wide (n := 3)).1 ?_
  refine callsIn_of_wp_marks Try.func4 rfl trivial ?_ rfl
  simp only [Try.ntmps4, List.size_toArray, List.length_cons, List.length_nil, Nat.reduceAdd, Nat.reduceSub, Array.replicate_succ, Array.replicate_zero, List.push_toArray, List.append_toArray, List.nil_append, List.cons_append]
  gi_wp2_with fail
  obtain ⟨w0, R, hw0, hR, HR, HB0⟩ : ∃ (w0 : World) (R : Nat), w0 = W.alloc (.cells #[.bool false] 4) ∧ R = W.heap.size ∧ Hid (Boxed w0 R 4 (.bool false)) ∧ Hid (Below W.heap.size W w0) :=
    ⟨_, _, rfl, rfl, Boxed.new W 4 (.bool false), (Below.refl _ _).alloc (Nat.le_refl _) _⟩
  rw [← hw0, ← hR]
  have hRl : R < w0.heap.size := HR.out.lt
  have HRW := hide hR
  clear hw0 hR
  refine ⟨trivial, (callsIn_wide.2 (HMd.out _ HB0.out)).mono ?_⟩
  rintro e w1 ⟨p, B, rfl, hG, hBB, hb1⟩
  have HG1 := hide hG
  have HR1 := hide (Boxed_bel HR.out hb1)
  have HB1 := hide (HB0.out.trans (hb1.mono HB0.out.size))
  have hR1 : R < w1.heap.size := HR1.out.lt
  clear hG hBB hb1 HMd HR
  gi_wp2_with fail
  refine ⟨trivial, (callsIn_wide.2 (graDist w1 v p 40 B ls HG1.out hv40)).mono ?_⟩
  rintro e w2 ⟨b, D, rfl, hD, hA, hbw, hb2⟩
  have HD := hide hD
  have HA2 := hide hA
  have HG2 := hide (HG1.out.fresh hb2)
  have HR2 := hide (Boxed_bel HR1.out hb2)
  have HB2 := hide (HB1.out.trans (hb2.mono HB1.out.size))
  have HB21 := hide hb2
  have hRb : R < b := by omega
  have hd0 := hD.d0
  have hbw2 : W.heap.size ≤ b := Nat.le_trans HB1.out.size hbw
  have c2 := (hA.alloc (.cells #[.slice (some ⟨b, 0, none⟩) 40 40] 40)).inti hv40
  rw [hd0] at c2
  clear hD hA hb2 hbw
  gi_wp2_with fail
  obtain ⟨w3, bd, bi, hw3, hbd, hbi, HDB, HIB, HA3, HG3, HR3, HB3, HB31⟩ : ∃ (w3 : World) (bd bi : Nat), w3 = (w2.alloc (.cells #[.slice (some ⟨b, 0, none⟩) 40 40] 40)).alloc (.cells #[.int .i64 0] 3) ∧ bd = w2.heap.size ∧ bi = w2.heap.size + 1 ∧ Hid (Boxed w3 bd 40 (.slice (some ⟨b, 0, none⟩) 40 40)) ∧ Hid (Boxed w3 bi 3 (.int .i64 (((0 : Nat) : Int)))) ∧ Hid (Blk w3 b 3 (ari 40 D)) ∧ Hid (Gr w3 p 40 B ls) ∧ Hid (Boxed w3 R 4 (.bool false)) ∧ Hid (Below W.heap.size W w3) ∧ Hid (Below w1.heap.size w1 w3) := by
    refine ⟨_, _, _, rfl, rfl, rfl, (Boxed.new _ _ _).alloc _, ?_, (HA2.out.alloc _).alloc _, HG2.out.fresh (((Below.refl _ _).alloc (Nat.le_refl _) _).alloc (by simp) _), (HR2.out.alloc _).alloc _, (HB2.out.alloc HB2.out.size _).alloc (by simp; have := HB2.out.size; omega) _, (HB21.out.alloc HB21.out.size _).alloc (by simp; have := HB21.out.size; omega) _⟩
    have := Boxed.new (w2.alloc (.cells #[.slice (some ⟨b, 0, none⟩) 40 40] 40)) 3 (.int .i64 0)
    rw [World.size_alloc] at this
    exact this
  have hbl := HA2.out.lt
  rw [← hw3, ← hbi, ← hbd]
  have hbbd : b < bd ∧ b < bi ∧ bd < bi := by omega
  clear hw3 hbd hbi HA2 HG2 HR2 HB2 hbl c2
  have HS0 : Hid (SSt w1 w3 bd bi b D 0 []) := ⟨HDB.out, HIB.out, HA3.out, HB31.out, Mk.nil _ _⟩
  clear HDB HIB HA3 HG3 HR3
  refine wpIn_loop_ghost (StepsInv w1 A m c x R p.g bd b D) 40 ?start ?round
  case start => exact ⟨0, bi, [], rfl, rfl, rfl, rfl, rfl, rfl, rfl, rfl, rfl, HS0.out⟩
  case round =>
    rintro q ⟨tm, df⟩ W7 ⟨k, bi, Ds, hsz, h0, h1, h4, h5, h6, h7, hdf, hq, hS⟩
    obtain ⟨g, rfl⟩ := arr121 tm hsz
    simp only [List.getElem?_toArray, List.getElem?_cons_zero, List.getElem?_cons_succ, Option.some.injEq] at h0 h1 h4 h5 h6 h7
    simp only [] at hdf
    subst hdf
    rw [h0, h1, h4, h5, h6, h7]
    clear hsz h0 h1 h4 h5 h6 h7
    have HQ := hide hq
    have ci := hS.hi.cell
    have HS := hide hS
    clear HS0
    by_cases hk : k < 40
    · have cd := hS.hd.cell
      have ck := hS.hA.inti hk
      have hSl := hS.hi.lt
      have hlo := HD.out.lo k hk
      have hhi := HD.out.hi hk
      have HNR := hide (HD.out.near_ hk)
      have HZ := hide (HD.out.z k hk)
      have HN0 := hide (near_nil (l := ls) (D := D) k)
      generalize hdk : D k = dk at *
      have HDK := hide hdk
      obtain ⟨Wn, hWn⟩ : ∃ Wn, Wn = W7.alloc (.cells #[.bool (decide (dk ≤ 0))] 4) := ⟨_, rfl⟩
      have hSn := hS.fresh (W' := Wn) (by rw [hWn]; exact (Below.refl _ _).alloc (Nat.le_refl _) _)
      have ci2 := hSn.hi.cell
      have bN := Boxed.new W7 4 (.bool (decide (dk ≤ 0)))
      rw [← hWn] at bN
      rw [hWn] at ci2
      have hl1 := hS.hd.lt
      have hl2 := hS.hi.lt
      have hl3 := hS.hA.lt
      have HSn := hide hSn
      have HBN := hide bN
      clear hS hSn bN hdk hq
      gi_wp2_with fail
      rw [← hWn]
      refine ⟨trivial, (callsIn_wide.2 (graAround Wn p.g (k : Int))).mono ?_⟩
      rintro e w4 ⟨rfl, hw4⟩
      have bG0 := Boxed.new Wn 25 (.pointer (some ⟨p.g, 0, none⟩))
      have bV0 := Boxed.new (Wn.alloc (.cells #[.pointer (some ⟨p.g, 0, none⟩)] 25)) 3 (.int .i64 (k : Int))
      rw [World.size_alloc] at bV0
      have hb4 : Below Wn.heap.size Wn w4 := by rw [hw4]; exact ((Below.refl _ _).alloc (Nat.le_refl _) _).alloc (by simp) _
      have hsz4 : w4.heap.size = Wn.heap.size + 2 := by rw [hw4]; simp
      have hszn : Wn.heap.size = W7.heap.size + 1 := by rw [hWn]; simp
      have hM0 : SMid w1 w4 ls bd bi b W7.heap.size Wn.heap.size p.g D k [] Ds :=
        ⟨HSn.out.fresh hb4, by rw [HN0.out]; exact Boxed_bel HBN.out hb4, by rw [hw4]; exact bG0.alloc _, by rw [hw4]; exact bV0⟩
      have hDs : ∀ D ∈ Ds, D < w4.heap.size := fun D hD => by have := HSn.out.mrk.lt D hD; omega
      have hbel4 : Below w1.heap.size w1 w4 := HSn.out.bel.trans (hb4.mono HSn.out.bel.size)
      have hs1 := HS.out.bel.size
      rw [hszn] at hM0
      have HM0 := hide hM0
      clear bG0 bV0 hb4 hM0 hw4 hWn ci2 ci cd ck HBN HSn
      gi_wp2_with fail
      refine stepsRange _ rfl w1 w4 p B ls v x R bd bi b W7.heap.size (W7.heap.size + 1) k D Ds HG1.out HD.out hbel4 HM0.out hDs (by omega) hs1 (by omega) hk _ _ _ _ _ _ _ _ _ _ _ _ _ _ _ _ _ _ _ _ _ _ _ _ _ _ _ _ _ _ _ _ _ _ _ _ _ _ _ _ _ _ _ _ _ _ _ _ _ _ _ _ _ _ _ _ _ _ _ _ _ _ _ _ _ _ _ _ _ _ _ _ _ _ _ _ _ _ _ _ _ _ _ _ _ _ _ _ _ _ _ _ _ _ _ _ _ _ _ _ _ _ _ _ _ _ _ _ _ _ _ _ _ _ _ _ ?_
      intro D' W5 hD5 hMid hK5
      have hmk : Mk W5 w1.heap.size (D' :: Ds) := hMid.st.mrk.cons (fun hm => by have := hDs D' hm; omega) (by have := hbel4.size; omega) hK5
      have cn := hMid.hn.cell
      rw [HNR.out] at cn
      have ci := hMid.st.hi.cell
      have cd := hMid.st.hd.cell
      have ck := hMid.st.hA.inti hk
      rw [HDK.out] at ck
      have HST := hide hMid.st
      have HMK := hide hmk
      clear hMid hmk HM0
      have hz : ((dk == 0) = true ∧ k = v) ∨ ((dk == 0) = false) := by
        by_cases h0 : dk = 0
        · exact .inl ⟨by simpa using h0, HZ.out h0⟩
        · exact .inr (by simpa using h0)
      rcases hz with ⟨e1, e2⟩ | e1
      · subst e2
        gi_wp2_with fail
        exact ⟨q - 1, by have := HQ.out; omega, k + 1, W5.heap.size, D' :: Ds, rfl, rfl, rfl, rfl, rfl, rfl, rfl, rfl, by have := HQ.out; omega, HST.out.next HMK.out⟩
      · gi_wp2_with fail
        exact ⟨q - 1, by have := HQ.out; omega, k + 1, W5.heap.size, D' :: Ds, rfl, rfl, rfl, rfl, rfl, rfl, rfl, rfl, by have := HQ.out; omega, HST.out.next HMK.out⟩
    · obtain rfl : k = 40 := by have := HQ.out; omega
      have hM := hS.mrk
      have hBW := HB1.out.trans (hS.bel.mono HB1.out.size)
      have hRW := (hS.bel.block R hR1).trans HR1.out
      have hs7 := hS.bel.size
      have HM := hide hM
      have HBW := hide hBW
      have HRR := hide hRW
      clear hS hM hBW hRW HS
      gi_wp2_with fail
      refine ⟨trivial, (callsIn_wide.2 (works13 _)).mono ?_⟩
      rintro e W8 ⟨rfl, hb8⟩
      have HR8 := hide (Boxed_bel (show Boxed W7 R 4 (.bool false) from HRR.out) hb8)
      have cR := HR8.out.cell
      have fR := HR8.out.frozen
      have HM8 : Hid (Mk W8 w1.heap.size Ds) := ⟨HM.out.nd, fun D hD => ⟨(HM.out.at_ D hD).1, (hb8.block D (HM.out.lt D hD)).trans (HM.out.at_ D hD).2⟩⟩
      have HB8 := hide (HBW.out.trans (hb8.mono HBW.out.size))
      have hs8 : w1.heap.size ≤ W8.heap.size := Nat.le_trans hs7 hb8.size
      clear hb8 HM HBW HRR
      gi_wp2_with fail
      have cF := (HR8.out.set (.bool true)).cell
      have hb9 : Below W.heap.size W (W8.setCell ⟨R, 0, none⟩ (.bool true)) := HB8.out.setCell (p := ⟨R, 0, none⟩) (by have := HRW.out; show W.heap.size ≤ R; omega) _
      have hsz9 : (W8.setCell ⟨R, 0, none⟩ (.bool true)).heap.size = W8.heap.size := by simp
      refine Mk.leave Ds _ (HM8.out.kept (KeepsOthers.setCell _ _ _)) (by rw [hsz9]; exact hs8) (fun W' k => ?_)
      have hcb := k.1 R ⟨_, HR8.out.set (.bool true), rfl⟩
      have cL : W'.cell? ⟨R, 0, none⟩ = some (.bool true) := (World.cell?_of_block hcb).trans cF
      exact ⟨_, results_cell_bool (P := Try.prog) rfl _ _ R true Try.underlying4 rfl cL, rfl, hb9.trans (k.2.mono HB1.out.size)⟩
set_option maxRecDepth 100000 in
theorem graphSteps_walk (v0 : Value) (l : List (Int × Int × Int)) (a1 : Int) (W : World) (w0 : IsLinks W v0 l) (w1 : (Lit.int .u8 a1).wf = true) :
    Calls Try.prog 4 #[v0, .int .u8 a1] W fun e W' => e = .returned (.bool true) ∧ Below W.heap.size W W' := by
  obtain ⟨A, m, c, rfl, hm, hl, hok, hr⟩ := w0
  have hm9 : m ≤ 9223372036854775807 := by unfold maxLen at hm; omega
  by_cases h150 : m ≤ 150
  · obtain ⟨h0, h1⟩ := u8_bd13 w1
    obtain ⟨x, rfl⟩ := Int.eq_ofNat_of_zero_le h0
    exact graphSteps_ok x (by omega) A m c l W hr hl hok h150
  · clear hr hl hok w1
    go_enter Try.func4, Try.ntmps4
    go_wp2_with fail
    have hR := Boxed.new W 4 (.bool false)
    have hb0 := (Below.refl W.heap.size W).alloc (Nat.le_refl _) (.cells #[.bool false] 4)
    have HR := hide hR
    have HB0 := hide hb0
    clear hR hb0
    generalize W.alloc (.cells #[.bool false] 4) = wa at *
    refine (works13 _).mono ?_
    rintro e w9 ⟨rfl, hb9⟩
    have HR9 := hide (Boxed_bel HR.out hb9)
    have HB9 := hide (HB0.out.trans (hb9.mono HB0.out.size))
    have cR := HR9.out.cell
    have fR := HR9.out.frozen
    clear hb9
    go_wp2_with fail
    refine bodyPost_ret (results_cell_bool (P := Try.prog) rfl _ _ W.heap.size true Try.underlying4 rfl (HR9.out.set (.bool true)).cell) rfl ?_
    exact ⟨rfl, HB9.out.setCell (p := ⟨W.heap.size, 0, none⟩) (Nat.le_refl _) _⟩
end Go.Proofs.Ytpgkhmjlbaoagaa
