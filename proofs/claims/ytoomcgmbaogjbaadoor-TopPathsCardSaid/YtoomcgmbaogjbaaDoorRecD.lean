/- recon: Build. -/
import Derived.Test.YtoomcgmbaogjbaaDoorRecC
import Derived.Test.YtoomcgmbaogjbaaDoorKruF
namespace Go.Proofs.YtoomcgmbaogjbaaDoor
open Go.RowKit
set_option linter.unusedVariables false

set_option maxRecDepth 100000 in
set_option maxHeartbeats 4000000 in
theorem recBuild_no (w : World) (n : Int) (m c : Nat) (A : Option Addr) (l : List (Int × Int × Int)) (hr : Rd w A m 3 (ecs l)) (ll : l.length = m) (hm9 : m ≤ 9223372036854775807) (hE : newE n l ≠ 0) :
    Calls Tryd.prog 12 #[.int .i64 n, .slice A m c] w fun e w' => e = .returned (.tuple #[.agg zeroT, .int .i64 (newE n l)]) ∧ Below w.heap.size w w' := by
  have HG := hide (kruForest_no (w.alloc (.cells zeroT 45)) n m c A l (hr.alloc _) ll hm9 hE)
  clear hr ll
  have HB0 := hide ((Below.refl w.heap.size w).alloc (Nat.le_refl _) (.cells zeroT 45))
  have HK0 := hide (Blk.new w 45 zeroT)
  generalize newE n l = E at *
  go_enter Tryd.func12, Tryd.ntmps12
  go_wp2_with fail
  refine HG.out.mono ?_
  rintro e w1 ⟨rfl, hb⟩
  have HB := hide (HB0.out.trans (hb.mono (by simp)))
  have hk := HK0.out.below hb HK0.out.lt
  have c0 := hk.get 0 _ rfl
  have c1 := hk.get 1 _ rfl
  have c2 := hk.get 2 _ rfl
  have c3 := hk.get 3 _ rfl
  have c4 := hk.get 4 _ rfl
  have c5 := hk.get 5 _ rfl
  have z := hk.frozen
  have HK := hide hk
  clear hb hk
  go_wp2_with fail
  refine bodyPost_ret (results_cell_tmp (P := Tryd.prog) rfl _ _ w.heap.size 45 zeroT (0, 0) _ rfl ((((((HK.out.set_ 0 (.int .i64 0)).set_ 1 (.slice none 0 0)).set_ 2 (.slice none 0 0)).set_ 3 (.slice none 0 0)).set_ 4 (.slice none 0 0)).set_ 5 (.slice none 0 0)) Tryd.underlying45 rfl (by kernel_rfl)) rfl ?_
  exact ⟨rfl, (((((HB.out.setCell (p := ⟨w.heap.size, 0, none⟩) (Nat.le_refl _) _).setCell (p := ⟨w.heap.size, 1, none⟩) (Nat.le_refl _) _).setCell (p := ⟨w.heap.size, 2, none⟩) (Nat.le_refl _) _).setCell (p := ⟨w.heap.size, 3, none⟩) (Nat.le_refl _) _).setCell (p := ⟨w.heap.size, 4, none⟩) (Nat.le_refl _) _).setCell (p := ⟨w.heap.size, 5, none⟩) (Nat.le_refl _) _⟩
theorem made_prs (n : Nat) : madeCells #[.int .i64 0, .int .i64 0] (n * 2) = prs n (fun _ => 0) fun _ => 0 := by
  apply Array.ext_getElem?
  intro j
  by_cases hj : j < n * 2
  · rw [prs_at _ _ hj]
    have e : (madeCells #[.int .i64 0, .int .i64 0] (n * 2))[j]? = some (#[Value.int .i64 0, .int .i64 0][j % 2]!) := by simp [madeCells, hj]
    rw [e]
    rcases (show j % 2 = 0 ∨ j % 2 = 1 by omega) with h | h <;> rw [h] <;> rfl
  · have e1 : (prs n (fun _ => 0) fun _ => 0)[j]? = none := by simp [prs]; omega
    have e2 : (madeCells #[.int .i64 0, .int .i64 0] (n * 2))[j]? = none := by simp [madeCells]; omega
    rw [e1, e2]
theorem pair_info : (Tryd.prog.info? 75).map (fun i => (i.zero, i.size, i.bytes)) = some (some (.agg #[.int .i64 0, .int .i64 0]), 2, 16) := by kernel_rfl
def m1 (k : Nat) : Nat → Int := fun x => if x < k then -1 else 0
theorem m1_succ (k : Nat) : updi (m1 k) k (-1) = m1 (k + 1) := by
  funext i
  unfold updi m1
  by_cases e : i = k
  · rw [if_pos e, if_pos (by omega)]
  · rw [if_neg e]
    by_cases e2 : i < k
    · rw [if_pos e2, if_pos (by omega)]
    · rw [if_neg e2, if_neg (by omega)]
theorem TB.congrP {w : World} {q : TLoc} {n N : Nat} {fL fR par hgt fS : Nat → Int} {up rt : Nat → Nat} (h : TB w q n N fL fR par hgt fS up rt) {par' : Nat → Int} (e : ∀ i, i < N → par i = par' i) : TB w q n N fL fR par' hgt fS up rt :=
  ⟨h.ht, h.hL, h.hR, by have := h.hP; rwa [ari_congr e] at this, h.hH, h.hS, h.hU, h.LR, h.LP, h.LS, h.RP, h.RS, h.PS⟩
theorem TB.congrU {w : World} {q : TLoc} {n N : Nat} {fL fR par hgt fS : Nat → Int} {up rt : Nat → Nat} (h : TB w q n N fL fR par hgt fS up rt) {up' rt' : Nat → Nat} (e : ∀ i, i < n → up i = up' i ∧ rt i = rt' i) : TB w q n N fL fR par hgt fS up' rt' :=
  ⟨h.ht, h.hL, h.hR, h.hP, h.hH, h.hS, by have := h.hU; rwa [prs_congr e] at this, h.LR, h.LP, h.LS, h.RP, h.RS, h.PS⟩
/-- What the six blocks are when they are made. -/
def NB (w wx : World) (s9 : Value) (n N : Nat) : Prop := ∃ t bL bR bP bH bS : Nat, s9 = .pointer (some ⟨t, 0, none⟩) ∧
  Blk wx t 45 #[.int .i64 (n : Int), .slice (some ⟨bL, 0, none⟩) N N, .slice (some ⟨bR, 0, none⟩) N N, .slice (some ⟨bP, 0, none⟩) N N, .slice (some ⟨bH, 0, none⟩) N N, .slice (some ⟨bS, 0, none⟩) N N] ∧
  Blk wx bL 3 (ari N fun _ => 0) ∧ Blk wx bR 3 (ari N fun _ => 0) ∧ Blk wx bP 3 (ari N fun _ => 0) ∧ Blk wx bH 2 (ari N fun _ => 0) ∧ Blk wx bS 3 (ari N fun _ => 0) ∧
  (bL ≠ bR ∧ bL ≠ bP ∧ bL ≠ bS ∧ bR ≠ bP ∧ bR ≠ bS ∧ bP ≠ bS) ∧ (w.heap.size ≤ t ∧ w.heap.size ≤ bL ∧ w.heap.size ≤ bR ∧ w.heap.size ≤ bP ∧ w.heap.size ≤ bH ∧ w.heap.size ≤ bS) ∧ Below w.heap.size w wx
/-- What Build answers. -/
def BuildPost (n : Nat) (l : List (Int × Int × Int)) (P : List Nat) (w : World) (e : Ending) (w' : World) : Prop := ∃ (bL bR bP bH bS : Nat) (par hgt : Nat → Int) (rt : Nat → Nat), e = .returned (.tuple #[.agg #[.int .i64 (n : Int), .slice (some ⟨bL, 0, none⟩) (n + P.length) (n + P.length), .slice (some ⟨bR, 0, none⟩) (n + P.length) (n + P.length), .slice (some ⟨bP, 0, none⟩) (n + P.length) (n + P.length), .slice (some ⟨bH, 0, none⟩) (n + P.length) (n + P.length), .slice (some ⟨bS, 0, none⟩) (n + P.length) (n + P.length)], .int .i64 0]) ∧
      w.heap.size ≤ bP ∧ w.heap.size ≤ bH ∧ Blk w' bP 3 (ari (n + P.length) par) ∧ Blk w' bH 2 (ari (n + P.length) hgt) ∧ Rc n l P par rt ∧ (∀ s (h : s < P.length), hgt (n + s) = eW l P[s]) ∧ Below w.heap.size w w'
set_option maxRecDepth 100000 in
set_option maxHeartbeats 8000000 in
theorem recBuild_ok (w : World) (n m c : Nat) (A : Option Addr) (l : List (Int × Int × Int)) (hr : Rd w A m 3 (ecs l)) (ll : l.length = m) (hok : GOk n l) (hn : n ≤ 4096) (hm : m ≤ 16384) (hE : newE (n : Int) l = 0) :
    Calls Tryd.prog 12 #[.int .i64 (n : Int), .slice A m c] w fun e w' => BuildPost n l (picks l) w e w' := by
  have HG := hide (kruForest_ok (w.alloc (.cells zeroT 45)) n m c A l (hr.alloc _) ll hok hn hm hE)
  have HB0 := hide ((Below.refl w.heap.size w).alloc (Nat.le_refl _) (.cells zeroT 45))
  have HK0 := hide (Blk.new w 45 zeroT)
  have HR := hide hr
  have HLL := hide ll
  have HOK := hide hok
  have hPk := picks_pk (n := n) (l := l)
  have hPl := hPk.le hok
  have HPK := hide hPk
  obtain ⟨i0, hi, hz0, hz1, hz2⟩ := info_parts pair_info
  have hmk := fun W : World => run_make (P := Tryd.prog) W 82 75 i0 _ Tryd.underlying82 hi hz0 .i64 .i64 (n : Int) (n : Int) (by omega) (by omega) (by rw [hz2]; omega) (by omega)
  rw [hz1] at hmk
  have en : ((n : Int)).toNat = n := by omega
  simp only [en] at hmk
  have hmk2 : ∀ W : World, (Instr.makeSlice 82 (.int .i64 (n : Int)) (.int .i64 (n : Int))).run Tryd.prog W = .ok (.slice (some ⟨W.heap.size, 0, none⟩) n n) (W.alloc (.cells (prs n (fun _ => 0) fun _ => 0) 75)) := fun W => by
    rw [hmk W, ← made_prs n]; rfl
  have HMK := hide hmk2
  clear hr ll hok hE hPk hmk hmk2 hi hz0 hz1 hz2 en
  generalize picks l = P at *
  go_enter Tryd.func12, Tryd.ntmps12
  go_wp2_with fail
  refine HG.out.mono ?_
  rintro e w1 ⟨V, rfl, ho, hb⟩
  obtain ⟨VA, vc, rfl, hvr, hvb, -⟩ := own_form ho
  have HVR := hide hvr
  have HVB := hide hvb
  have HB := hide (HB0.out.trans (hb.mono (by simp)))
  have HK := hide (HK0.out.below hb HK0.out.lt)
  have ew : IntKind.i64.wrap ((n : Int) + (P.length : Int)) = ((n + P.length : Nat) : Int) := by rw [IntWalk.i64_in _ (by omega)]; omega
  clear hb ho hvr hvb
  go_upto_region 5 with fail
  go_cut [9] from 20 (fun s9 wx => NB w1 wx s9 n (n + P.length))
  case first =>
    refine bldReg 5 _ rfl _ _ _ n (n + P.length) rfl rfl ?_ (by omega) ?_
    · show Value.int .i64 ((n : Int) + (P.length : Int)) = _
      rw [Int.natCast_add]
    · intro L a w2 V g h hall
      have hfin : NB w1 w2 (V 12) n (n + P.length) := by
        obtain ⟨y0, y1, y2⟩ := h.v12 (hall 12 (by omega))
        rw [if_pos (hall 13 (by omega))] at y2
        have V0 := h.v0 (hall 0 (by omega))
        obtain ⟨a2, b2, c2⟩ := h.vb 2 (.inl rfl) (hall 2 (by omega))
        obtain ⟨a4, b4, c4⟩ := h.vb 4 (.inr (.inl rfl)) (hall 4 (by omega))
        obtain ⟨a6, b6, c6⟩ := h.vb 6 (.inr (.inr (.inl rfl))) (hall 6 (by omega))
        obtain ⟨a8, b8, c8⟩ := h.vb 8 (.inr (.inr (.inr (.inl rfl)))) (hall 8 (by omega))
        obtain ⟨a10, b10, c10⟩ := h.vb 10 (.inr (.inr (.inr (.inr rfl)))) (hall 10 (by omega))
        have hne := fun j k mj mk e => h.ne j k mj mk (hall j (by unfold MkB at mj; omega)) (hall k (by unfold MkB at mk; omega)) e
        refine ⟨g 12, g 2, g 4, g 6, g 8, g 10, y0, ?_, c2, c4, c6, c8, c10, ⟨fun e => ?_, fun e => ?_, fun e => ?_, fun e => ?_, fun e => ?_, fun e => ?_⟩, ⟨y1, b2, b4, b6, b8, b10⟩, h.bel⟩
        · unfold fullT at y2
          rw [V0, a2, a4, a6, a8, a10] at y2; exact y2
        · have := hne 2 4 (.inl rfl) (.inr (.inl rfl)) e; omega
        · have := hne 2 6 (.inl rfl) (.inr (.inr (.inl rfl))) e; omega
        · have := hne 2 10 (.inl rfl) (.inr (.inr (.inr (.inr rfl)))) e; omega
        · have := hne 4 6 (.inr (.inl rfl)) (.inr (.inr (.inl rfl))) e; omega
        · have := hne 4 10 (.inr (.inl rfl)) (.inr (.inr (.inr (.inr rfl)))) e; omega
        · have := hne 6 10 (.inr (.inr (.inl rfl))) (.inr (.inr (.inr (.inr rfl)))) e; omega
      rw [h.frame hall]
      clear h hall
      go_simp
      rename_i hJ hK
      refine hK _ _ (Met.intro (hJ _ _ ?_))
      (repeat apply Exists.intro)
      refine ⟨?rel, rfl⟩
      exact hfin
  case rest =>
    obtain ⟨t, bL, bR, bP, bH, bS, rfl, ht, hL, hR, hP, hH, hS, ⟨n1, n2, n3, n4, n5, n6⟩, ⟨g1, g2, g3, g4, g5, g6⟩, hbel⟩ := hcut
    have hT : TB (wc.alloc (.cells (prs n (fun _ => 0) fun _ => 0) 75)) ⟨t, bL, bR, bP, bH, bS, wc.heap.size⟩ n (n + P.length) (m1 0) (m1 0) (m1 0) (fun _ => 0) (fun _ => 0) (fun _ => 0) fun _ => 0 := by
      have e0 : ari (n + P.length) (fun _ => 0) = ari (n + P.length) (m1 0) := ari_congr fun i _ => by simp [m1]
      rw [e0] at hL hR hP
      have e1 : ari (n + P.length) (m1 0) = ari (n + P.length) (fun _ => 0) := e0.symm
      refine ⟨ht.alloc _, hL.alloc _, hR.alloc _, hP.alloc _, hH.alloc _, hS.alloc _, Blk.new _ _ _, n1, n2, n3, n4, n5, n6⟩
    have HT0 := hide hT
    clear HG HVB
    have HG := hide (show w1.heap.size ≤ t ∧ w1.heap.size ≤ bL ∧ w1.heap.size ≤ bR ∧ w1.heap.size ≤ bP ∧ w1.heap.size ≤ bH ∧ w1.heap.size ≤ bS ∧ w1.heap.size ≤ wc.heap.size from ⟨g1, g2, g3, g4, g5, g6, hbel.size⟩)
    have HB0 := hide (hbel.alloc hbel.size (.cells (prs n (fun _ => 0) fun _ => 0) 75))
    have hmk := HMK.out
    have ew2 : ((n : Int) + (P.length : Int)) = ((n + P.length : Nat) : Int) := by omega
    clear ht hL hR hP hH hS n1 n2 n3 n4 n5 n6 g1 g2 g3 g4 g5 g6 hbel hT
    rw [ew2]
    clear ew ew2
    generalize hN : n + P.length = N at *
    have HN := hide hN
    have hN2 : N ≤ 8192 := by omega
    clear hN
    go_wp2_with fail
    go_loopg [49] N (fun gh s wr => ∃ k : Nat, k + gh = N ∧ s = .int .i64 (k : Int) ∧ TB wr ⟨t, bL, bR, bP, bH, bS, wc.heap.size⟩ n N (m1 k) (m1 k) (m1 k) (fun _ => 0) (fun _ => 0) (fun _ => 0) (fun _ => 0) ∧ Below w1.heap.size w1 wr)
    case atStart => exact ⟨0, by omega, rfl, HT0.out, HB0.out⟩
    case round =>
    obtain ⟨k, hk, rfl, hT, hb⟩ := hrel
    have HK1 := hide hk
    have HT := hide hT
    have HB1 := hide hb
    have hkm : k ≤ N := by omega
    clear hk hT hb HT0 HB0
    generalize wc.heap.size = bU at *
    by_cases hlt : k < N
    · have c1 : wr.cell? ⟨t, 1, none⟩ = some (.slice (some ⟨bL, 0, none⟩) N N) := HT.out.c.2.1
      have c2 : wr.cell? ⟨t, 2, none⟩ = some (.slice (some ⟨bR, 0, none⟩) N N) := HT.out.c.2.2.1
      have c3 : wr.cell? ⟨t, 3, none⟩ = some (.slice (some ⟨bP, 0, none⟩) N N) := HT.out.c.2.2.2.1
      have d1 : wr.cell? ⟨bL, k, none⟩ = some (.int .i64 (m1 k k)) := HT.out.hL.inti hlt
      have d2 : wr.cell? ⟨bR, k, none⟩ = some (.int .i64 (m1 k k)) := HT.out.hR.inti hlt
      have d3 : wr.cell? ⟨bP, k, none⟩ = some (.int .i64 (m1 k k)) := HT.out.hP.inti hlt
      have z1 : wr.frozen? ⟨bL, k, none⟩ = false := HT.out.hL.frozen k
      have z2 : wr.frozen? ⟨bR, k, none⟩ = false := HT.out.hR.frozen k
      have z3 : wr.frozen? ⟨bP, k, none⟩ = false := HT.out.hP.frozen k
      have t1 : t ≠ bL := HT.out.tL
      have t2 : t ≠ bR := HT.out.tR
      have t3 : t ≠ bP := HT.out.tP
      have t4 : bL ≠ bR := HT.out.LR
      have t5 : bL ≠ bP := HT.out.LP
      have t6 : bR ≠ bP := HT.out.RP
      have t1' := t1.symm
      have t2' := t2.symm
      have t3' := t3.symm
      have t4' := t4.symm
      have t5' := t5.symm
      have t6' := t6.symm
      go_wp2_with fail
      go_region
      go_wp2_with fail
      go_roundg (N - (k + 1))
      case measure => have := HK1.out; omega
      case rel =>
        have h := ((HT.out.setL k (-1)).setR k (-1)).setP k (-1)
        rw [m1_succ] at h
        obtain ⟨g1, g2, g3, g4, g5, g6, g7⟩ := HG.out
        exact ⟨k + 1, by omega, by go_num, h.drewN 1, (((HB1.out.setCell (p := ⟨bL, k, none⟩) g2 _).setCell (p := ⟨bR, k, none⟩) g3 _).setCell (p := ⟨bP, k, none⟩) g4 _).drewN 1⟩
    · obtain rfl : k = N := by omega
      have HTm := hide (HT.out.congrP (par' := fun _ => -1) fun i hi => by simp [m1, hi])
      clear HT HK1
      go_wp2_with fail
      go_loopg [66] n (fun gh s wr => ∃ (j : Nat) (fS : Nat → Int), j + gh = n ∧ s = .int .i64 (j : Int) ∧ TB wr ⟨t, bL, bR, bP, bH, bS, bU⟩ n k (m1 k) (m1 k) (fun _ => -1) (fun _ => 0) fS (fil j) (fil j) ∧ Below w1.heap.size w1 wr)
      case atStart => exact ⟨0, _, by omega, rfl, HTm.out.congrU fun i _ => by simp [fil], HB1.out⟩
      case round =>
      obtain ⟨j, fS, hj, rfl, hT, hb⟩ := hrel
      have HJ := hide hj
      have HT := hide hT
      have HB2 := hide hb
      have hjn : j ≤ n := by omega
      have hnk : n ≤ k := by have := HN.out; omega
      clear hj hT hb HTm HB1
      by_cases hlt : j < n
      · have hjk : j < k := by omega
        have c5 : wr.cell? ⟨t, 5, none⟩ = some (.slice (some ⟨bS, 0, none⟩) k k) := HT.out.c.2.2.2.2.2
        have d5 : wr.cell? ⟨bS, j, none⟩ = some (.int .i64 (fS j)) := HT.out.hS.inti hjk
        have z5 : wr.frozen? ⟨bS, j, none⟩ = false := HT.out.hS.frozen j
        have hT2 := HT.out.setS j 1
        have HT2 := hide hT2
        have e0 : (wr.setCell ⟨bS, j, none⟩ (.int .i64 1)).cell? ⟨bU, j * 2, none⟩ = some (.int .i64 (fil j j : Int)) := (hT2.hU.cell _).trans (prs_0 _ _ hlt)
        have e1 : (wr.setCell ⟨bS, j, none⟩ (.int .i64 1)).cell? ⟨bU, j * 2 + 1, none⟩ = some (.int .i64 (fil j j : Int)) := (hT2.hU.cell _).trans (prs_1 _ _ hlt)
        have y : ∀ i, (wr.setCell ⟨bS, j, none⟩ (.int .i64 1)).frozen? ⟨bU, i, none⟩ = false := hT2.hU.frozen
        have hU5 : bU ≠ bS := HT.out.US
        have hU5' := hU5.symm
        clear hT2
        go_wp2_with fail
        go_roundg (n - (j + 1))
        case measure => have := HJ.out; omega
        case rel =>
          have h := (HT2.out.setU0 j j).setU1 j j
          rw [fil_succ] at h
          obtain ⟨g1, g2, g3, g4, g5, g6, g7⟩ := HG.out
          exact ⟨j + 1, _, by omega, by go_num, h, ((HB2.out.setCell (p := ⟨bS, j, none⟩) g6 _).setCell (p := ⟨bU, j * 2, none⟩) g7 _).setCell (p := ⟨bU, j * 2 + 1, none⟩) g7 _⟩
      · obtain rfl : j = n := by omega
        have HT3 := hide (HT.out.congrU (up' := fun i => i) (rt' := fun i => i) fun i hi => by simp [fil, hi])
        clear HT HJ
        go_wp2_with fail
        go_loopg [82] P.length (fun gh s wr => ∃ (i : Nat) (fL fR par hgt fS : Nat → Int) (up rt ρ : Nat → Nat) (M : Nat), i + gh = P.length ∧ s = .int .i64 (i : Int) ∧ TB wr ⟨t, bL, bR, bP, bH, bS, bU⟩ j k fL fR par hgt fS up rt ∧ Rc j l (P.take i) par rt ∧ Forest j up (pL l (P.take i)) ρ M ∧ (∀ s (h : s < P.length), s < i → hgt (j + s) = eW l P[s]) ∧ Below w1.heap.size w1 wr)
        case atStart => exact ⟨0, _, _, _, _, _, _, _, fun _ => 0, 0, by omega, rfl, HT3.out, Rc.start j l, ⟨fun i h => h, fun i h => h, fun _ _ => rfl, fun _ _ _ => rfl, fun _ _ => rfl, fun i h => ⟨Nat.le_refl _, fun e => absurd rfl e⟩⟩, fun s _ h => by omega, HB2.out⟩
        case round =>
        obtain ⟨i, fL, fR, par, hgt, fS2, up, rt, ρ, M, hi, rfl, hT, hRc, hFo, hHg, hb⟩ := hrel
        have HI := hide hi
        have HT := hide hT
        have HRC := hide hRc
        have HFO := hide hFo
        have HHG := hide hHg
        have HB4 := hide hb
        have hin : i ≤ P.length := by omega
        have HB5 := hide (HB.out.trans (hb.mono HB.out.size))
        clear hi hT hRc hFo hHg hb HT3 HB2
        by_cases hlt2 : i < P.length
        · have hil : P[i] < l.length := HPK.out.lt _ (List.getElem_mem hlt2)
          obtain ⟨b1, o1, rfl, hb1lt, hcell⟩ := (HVR.out.keep (Nat.le_refl _) HB4.out).2 (by omega)
          have c0 : wr.cell? ⟨b1, o1 + i, none⟩ = some (.int .i64 (P[i] : Int)) := hcell i _ (by simp [nts, hlt2])
          obtain ⟨b, o, rfl, hbl, e0, e1, e2⟩ := (HR.out.keep (Nat.le_refl _) HB5.out).edge _ hil HLL.out
          rename_i j6 K2 j5 K1 j4 Jc Kc jh j2 j1 jc
          clear j6 j5 j4 j2 j1
          revert jh jc
          intro _ _
          have hbw : b < w.heap.size := by
            obtain ⟨b', o', e', h', -⟩ := HR.out.2 (by rw [← HLL.out]; omega)
            injection e' with e'
            injection e' with e' _
            omega
          obtain ⟨q0, q1, q2, q3, q4⟩ := HOK.out.at_ hil
          rw [q0] at e0
          rw [q1] at e1
          have ew_ := (eW_get hil).symm
          rw [ew_] at e2
          have hne := HPK.out.df i hlt2
          have HSTEP := hide (HRC.out.step HOK.out hil (fun j hj => HPK.out.lt j (List.mem_of_mem_take hj)) hne)
          have HTK := hide (List.take_succ_eq_append_getElem hlt2)
          have HPS := hide (pL_snoc (l := l) (P.take i) P[i])
          have him : P[i] < m := by rw [← HLL.out]; exact hil
          have hgt1 : ∀ v, updi hgt (j + i) v (j + i) = v := fun v => by simp [updi]
          have hlen : (P.take i).length = i := by simp; omega
          rw [hlen] at HSTEP
          have r0 := HRC.out.r0
          rw [hlen] at r0
          have ru := r0 _ q2
          have rv := r0 _ q3
          have hfu := HFO.out.rep_lt _ q2
          have hfv := HFO.out.rep_lt _ q3
          generalize hLL2 : pL l (P.take i) = Lf at *
          have HLf := hide hLL2
          clear hLL2 hcell q0 q1 q4 ew_ hgt1 r0
          generalize hwt : eW l P[i] = wt at *
          have HWT := hide hwt
          clear hwt
          generalize hee : P[i] = at_ at *
          have HEE := hide hee
          clear hee
          have HSR := hide hil
          clear hil
          generalize hua : eU l at_ = u at *
          generalize hva : eV l at_ = v at *
          have HUA := hide hua
          have HVA := hide hva
          have hUw : ∀ k ∈ [bU], w.heap.size ≤ k := by
            have := HG.out.2.2.2.2.2.2
            have := HB.out.size
            intro x hx
            obtain rfl : x = bU := by simpa using hx
            omega
          clear hua hva hmk
          go_wp2_with fail
          go_region_held3 (fun w' => w'.cell? ⟨b, o + at_ * 3, none⟩ = some (.int .i64 (u : Int)) ∧ w'.cell? ⟨b, o + at_ * 3 + 1, none⟩ = some (.int .i64 (v : Int)))
            (first | exact ⟨e0, e1⟩ | exact ⟨(hc1.cell (p := ⟨b, o + at_ * 3, none⟩) hbw).trans e0, (hc1.cell (p := ⟨b, o + at_ * 3 + 1, none⟩) hbw).trans e1⟩ | exact ⟨(hc2.cell (p := ⟨b, o + at_ * 3, none⟩) hbw).trans e0, (hc2.cell (p := ⟨b, o + at_ * 3 + 1, none⟩) hbw).trans e1⟩)
            (first | (go_at_call_of 26 (Value.int .i64 (u : Int)); refine (recFind _ u j bU M up rt Lf ρ (HT.out.drewN 1).hU HFO.out q2 (by omega)).mono ?_; rintro e w3 ⟨rfl, up1, hU1, hf1, hfr1⟩; have hc1 : Below w.heap.size wr w3 := ((Below.refl _ wr).drewN 1).trans (hfr1.below hUw HB5.out.size)) | (go_at_call_of 26 (Value.int .i64 (v : Int)); refine (recFind _ v j bU M up1 rt Lf ρ hU1 hf1 q3 (by omega)).mono ?_; rintro e w4 ⟨rfl, up2, hU2, hf2, hfr2⟩; have hc2 : Below w.heap.size wr w4 := hc1.trans (hfr2.below hUw (Nat.le_trans HB5.out.size hc1.size))))
          have HT4 := hide (((HT.out.drewN 1).find hfr1 hU1).find hfr2 hU2)
          have HF4 := hide hf2
          have HB6 := hide (HB4.out.trans (((Below.refl _ wr).drewN 1 |>.trans (hfr1.below (B := w1.heap.size) (by simpa using HG.out.2.2.2.2.2.2) HB4.out.size)).trans (hfr2.below (B := w1.heap.size) (by simpa using HG.out.2.2.2.2.2.2) (by have := HB4.out.size; have := hfr1.size; exact Nat.le_trans HB4.out.size this))))
          have f2 : w4.cell? ⟨b, o + at_ * 3 + 2, none⟩ = some (.int .i64 wt) := (hc2.cell (p := ⟨b, o + at_ * 3 + 2, none⟩) hbw).trans e2
          clear hU1 hf1 hfr1 hU2 hf2 hfr2 hc1 hc2 c0 e0 e1 e2 HT HFO
          have ewx : ((j : Int) + (i : Int)) = ((j + i : Nat) : Int) := by omega
          rw [ewx]
          clear ewx
          have hru := HF4.out.rep_rep q2
          have hrv := HF4.out.rep_rep q3
          have hri := fun e => hne (by have := HRC.out.ri u v q2 q3; rw [HLf.out] at this; exact this e)
          have emin : min ((Lf u : Nat) : Int) ((Lf v : Nat) : Int) = ((min (Lf u) (Lf v) : Nat) : Int) := by omega
          have emax : max ((Lf u : Nat) : Int) ((Lf v : Nat) : Int) = ((max (Lf u) (Lf v) : Nat) : Int) := by omega
          obtain ⟨hab, ha, hb, la, lb, ra, rb, rne⟩ : min (Lf u) (Lf v) < max (Lf u) (Lf v) ∧ min (Lf u) (Lf v) < j ∧ max (Lf u) (Lf v) < j ∧ Lf (min (Lf u) (Lf v)) = min (Lf u) (Lf v) ∧ Lf (max (Lf u) (Lf v)) = max (Lf u) (Lf v) ∧ rt (min (Lf u) (Lf v)) < j + i ∧ rt (max (Lf u) (Lf v)) < j + i ∧ rt (min (Lf u) (Lf v)) ≠ rt (max (Lf u) (Lf v)) := by
            rcases Nat.lt_or_ge (Lf u) (Lf v) with hlt | hge
            · rw [Nat.min_eq_left (by omega), Nat.max_eq_right (by omega)]
              exact ⟨hlt, hfu, hfv, hru, hrv, ru, rv, hri⟩
            · rw [Nat.min_eq_right (by omega), Nat.max_eq_left (by omega)]
              exact ⟨by omega, hfv, hfu, hrv, hru, rv, ru, fun e => hri e.symm⟩
          have HMG := hide (show merge Lf (Lf u) (Lf v) = fun x => if Lf x = max (Lf u) (Lf v) then min (Lf u) (Lf v) else Lf x from rfl)
          clear hru hrv hri ru rv hfu hfv
          as_aux_lemma =>
            go_upto_region 24 with fail
            clear emin emax
            generalize min (Lf u) (Lf v) = a at *
            generalize max (Lf u) (Lf v) = b2 at *
            have hne2 : a ≠ b2 := by omega
            have hji : j + i < k := by have := HN.out; omega
            have HLK := hide (HF4.out.link ha hb la lb hne2)
            clear la lb hne HF4
            have x1 : w4.cell? ⟨bU, a * 2 + 1, none⟩ = some (.int .i64 (rt a : Int)) := (HT4.out.hU.cell _).trans (prs_1 _ _ ha)
            have x2 : w4.cell? ⟨bU, b2 * 2 + 1, none⟩ = some (.int .i64 (rt b2 : Int)) := (HT4.out.hU.cell _).trans (prs_1 _ _ hb)
            go_quiet (fail)
            have hT5 := HT4.out.drewN nq
            have hB7 := HB6.out.drewN nq
            have f3 : (w4.drewN nq).cell? ⟨b, o + at_ * 3 + 2, none⟩ = some (.int .i64 wt) := f2
            clear x1 x2 f2 HT4 HB6
            generalize w4.drewN nq = w5 at *
            have HT5 := hide hT5
            have HB7 := hide hB7
            clear hT5 hB7
            generalize hL1 : rt a = L1 at *
            have HL1 := hide hL1
            generalize hR1 : rt b2 = R1 at *
            have HR1 := hide hR1
            clear hL1 hR1
            generalize hX : j + i = X at *
            have HX := hide hX
            clear hX
            have g1 : t ≠ bL := HT5.out.tL
            have g2 : t ≠ bR := HT5.out.tR
            have g3 : t ≠ bP := HT5.out.tP
            have g4 : t ≠ bH := HT5.out.tH
            have g5 : t ≠ bS := HT5.out.tS
            have g6 : t ≠ bU := HT5.out.tU
            have g7 : bL ≠ bR := HT5.out.LR
            have g1' := g1.symm
            have g2' := g2.symm
            have g3' := g3.symm
            have g4' := g4.symm
            have g5' := g5.symm
            have g6' := g6.symm
            have g7' := g7.symm
            have rne' := rne.symm
            have c1 : w5.cell? ⟨t, 1, none⟩ = some (.slice (some ⟨bL, 0, none⟩) k k) := HT5.out.c.2.1
            have c2 : w5.cell? ⟨t, 2, none⟩ = some (.slice (some ⟨bR, 0, none⟩) k k) := HT5.out.c.2.2.1
            have d1 : w5.cell? ⟨bL, X, none⟩ = some (.int .i64 (fL X)) := HT5.out.hL.inti hji
            have d2 : w5.cell? ⟨bR, X, none⟩ = some (.int .i64 (fR X)) := HT5.out.hR.inti hji
            have z1 : w5.frozen? ⟨bL, X, none⟩ = false := HT5.out.hL.frozen X
            have z2 : w5.frozen? ⟨bR, X, none⟩ = false := HT5.out.hR.frozen X
            as_aux_lemma =>
              go_upto_region 25 with fail
              go_region
              have HF0 := hide (show w1.cell? ⟨b, o + at_ * 3 + 2, none⟩ = some (.int .i64 wt) from (HB7.out.cell (p := ⟨b, o + at_ * 3 + 2, none⟩) (Nat.lt_of_lt_of_le hbw HB.out.size)).symm.trans f3)
              have hT6 : TB ((w5.setCell ⟨bL, X, none⟩ (.int .i64 (L1 : Int))).setCell ⟨bR, X, none⟩ (.int .i64 (R1 : Int))).drew ⟨t, bL, bR, bP, bH, bS, bU⟩ j k (updi fL X (L1 : Int)) (updi fR X (R1 : Int)) par hgt fS2 up2 rt := ((HT5.out.setL X (L1 : Int)).setR X (R1 : Int)).drewN 1
              have hB8 : Below w1.heap.size w1 ((w5.setCell ⟨bL, X, none⟩ (.int .i64 (L1 : Int))).setCell ⟨bR, X, none⟩ (.int .i64 (R1 : Int))).drew := ((HB7.out.setCell (p := ⟨bL, X, none⟩) HG.out.2.1 _).setCell (p := ⟨bR, X, none⟩) HG.out.2.2.1 _).drewN 1
              clear c1 c2 d1 d2 z1 z2 HT5 HB7 f3
              generalize ((w5.setCell ⟨bL, X, none⟩ (.int .i64 (L1 : Int))).setCell ⟨bR, X, none⟩ (.int .i64 (R1 : Int))).drew = w6 at *
              have HT6 := hide hT6
              have HB8 := hide hB8
              clear hT6 hB8
              generalize updi fL X (L1 : Int) = fL2 at *
              generalize updi fR X (R1 : Int) = fR2 at *
              have hLk : L1 < k := by omega
              have hRk : R1 < k := by omega
              have c3 : w6.cell? ⟨t, 3, none⟩ = some (.slice (some ⟨bP, 0, none⟩) k k) := HT6.out.c.2.2.2.1
              have d1 : w6.cell? ⟨bP, L1, none⟩ = some (.int .i64 (par L1)) := HT6.out.hP.inti hLk
              have d2 : w6.cell? ⟨bP, R1, none⟩ = some (.int .i64 (par R1)) := HT6.out.hP.inti hRk
              have z1 : ∀ i, w6.frozen? ⟨bP, i, none⟩ = false := HT6.out.hP.frozen
              as_aux_lemma =>
                go_upto_region 26 with fail
                go_region
                have hT7 : TB ((w6.setCell ⟨bP, L1, none⟩ (.int .i64 (X : Int))).setCell ⟨bP, R1, none⟩ (.int .i64 (X : Int))).drew ⟨t, bL, bR, bP, bH, bS, bU⟩ j k fL2 fR2 (updi (updi par L1 (X : Int)) R1 (X : Int)) hgt fS2 up2 rt := ((HT6.out.setP L1 (X : Int)).setP R1 (X : Int)).drewN 1
                have hB9 : Below w1.heap.size w1 ((w6.setCell ⟨bP, L1, none⟩ (.int .i64 (X : Int))).setCell ⟨bP, R1, none⟩ (.int .i64 (X : Int))).drew := ((HB8.out.setCell (p := ⟨bP, L1, none⟩) HG.out.2.2.2.1 _).setCell (p := ⟨bP, R1, none⟩) HG.out.2.2.2.1 _).drewN 1
                clear c3 d1 d2 z1 HT6 HB8
                generalize ((w6.setCell ⟨bP, L1, none⟩ (.int .i64 (X : Int))).setCell ⟨bP, R1, none⟩ (.int .i64 (X : Int))).drew = w7 at *
                have HT7 := hide hT7
                have HB9 := hide hB9
                clear hT7 hB9
                have c4 : w7.cell? ⟨t, 4, none⟩ = some (.slice (some ⟨bH, 0, none⟩) k k) := HT7.out.c.2.2.2.2.1
                have d1 : w7.cell? ⟨bH, X, none⟩ = some (.int .i64 (hgt X)) := HT7.out.hH.inti hji
                have z1 : w7.frozen? ⟨bH, X, none⟩ = false := HT7.out.hH.frozen X
                have f4 : w7.cell? ⟨b, o + at_ * 3 + 2, none⟩ = some (.int .i64 wt) := (HB9.out.cell (p := ⟨b, o + at_ * 3 + 2, none⟩) (Nat.lt_of_lt_of_le hbw HB.out.size)).trans HF0.out
                as_aux_lemma =>
                  go_upto_region 27 with fail
                  go_region
                  have hT8 : TB (w7.setCell ⟨bH, X, none⟩ (.int .i64 wt)).drew ⟨t, bL, bR, bP, bH, bS, bU⟩ j k fL2 fR2 (updi (updi par L1 (X : Int)) R1 (X : Int)) (updi hgt X wt) fS2 up2 rt := (HT7.out.setH X wt).drewN 1
                  have hB10 : Below w1.heap.size w1 (w7.setCell ⟨bH, X, none⟩ (.int .i64 wt)).drew := (HB9.out.setCell (p := ⟨bH, X, none⟩) HG.out.2.2.2.2.1 _).drewN 1
                  clear c4 d1 z1 f4 HT7 HB9
                  generalize (w7.setCell ⟨bH, X, none⟩ (.int .i64 wt)).drew = w8 at *
                  have HT8 := hide hT8
                  have HB10 := hide hB10
                  clear hT8 hB10
                  have c5 : w8.cell? ⟨t, 5, none⟩ = some (.slice (some ⟨bS, 0, none⟩) k k) := HT8.out.c.2.2.2.2.2
                  have d1 : w8.cell? ⟨bS, L1, none⟩ = some (.int .i64 (fS2 L1)) := HT8.out.hS.inti hLk
                  have d2 : w8.cell? ⟨bS, R1, none⟩ = some (.int .i64 (fS2 R1)) := HT8.out.hS.inti hRk
                  have d3 : w8.cell? ⟨bS, X, none⟩ = some (.int .i64 (fS2 X)) := HT8.out.hS.inti hji
                  have z1 : w8.frozen? ⟨bS, X, none⟩ = false := HT8.out.hS.frozen X
                  as_aux_lemma =>
                    go_upto_region 28 with fail
                    go_region
                    have hT9 : TB (w8.setCell ⟨bS, X, none⟩ (.int .i64 (wrap64 (fS2 L1 + fS2 R1)))).drew ⟨t, bL, bR, bP, bH, bS, bU⟩ j k fL2 fR2 (updi (updi par L1 (X : Int)) R1 (X : Int)) (updi hgt X wt) (updi fS2 X (wrap64 (fS2 L1 + fS2 R1))) up2 rt := (HT8.out.setS X (wrap64 (fS2 L1 + fS2 R1))).drewN 1
                    have hB11 : Below w1.heap.size w1 (w8.setCell ⟨bS, X, none⟩ (.int .i64 (wrap64 (fS2 L1 + fS2 R1)))).drew := (HB10.out.setCell (p := ⟨bS, X, none⟩) HG.out.2.2.2.2.2.1 _).drewN 1
                    clear c5 d1 d2 d3 z1 HT8 HB10
                    generalize (w8.setCell ⟨bS, X, none⟩ (.int .i64 (wrap64 (fS2 L1 + fS2 R1)))).drew = w9 at *
                    generalize updi fS2 X (wrap64 (fS2 L1 + fS2 R1)) = fS3 at *
                    have HT9 := hide hT9
                    have HB11 := hide hB11
                    clear hT9 hB11
                    have d1 : w9.cell? ⟨bU, b2 * 2, none⟩ = some (.int .i64 (up2 b2 : Int)) := (HT9.out.hU.cell _).trans (prs_0 _ _ hb)
                    have d2 : (w9.setCell ⟨bU, b2 * 2, none⟩ (.int .i64 (a : Int))).cell? ⟨bU, a * 2 + 1, none⟩ = some (.int .i64 (rt a : Int)) := ((HT9.out.setU0 b2 a).hU.cell _).trans (prs_1 _ _ ha)
                    have z1 : w9.frozen? ⟨bU, b2 * 2, none⟩ = false := HT9.out.hU.frozen _
                    have z2 : (w9.setCell ⟨bU, b2 * 2, none⟩ (.int .i64 (a : Int))).frozen? ⟨bU, a * 2 + 1, none⟩ = false := (HT9.out.setU0 b2 a).hU.frozen _
                    as_aux_lemma =>
                      go_upto_region 29 with fail
                      go_region
                      have hT10 : TB ((w9.setCell ⟨bU, b2 * 2, none⟩ (.int .i64 (a : Int))).setCell ⟨bU, a * 2 + 1, none⟩ (.int .i64 (X : Int))).drew ⟨t, bL, bR, bP, bH, bS, bU⟩ j k fL2 fR2 (updi (updi par L1 (X : Int)) R1 (X : Int)) (updi hgt X wt) fS3 (upd up2 b2 a) (upd rt a X) := ((HT9.out.setU0 b2 a).setU1 a X).drewN 1
                      have hB12 : Below w1.heap.size w1 ((w9.setCell ⟨bU, b2 * 2, none⟩ (.int .i64 (a : Int))).setCell ⟨bU, a * 2 + 1, none⟩ (.int .i64 (X : Int))).drew := ((HB11.out.setCell (p := ⟨bU, b2 * 2, none⟩) HG.out.2.2.2.2.2.2 _).setCell (p := ⟨bU, a * 2 + 1, none⟩) HG.out.2.2.2.2.2.2 _).drewN 1
                      clear d1 d2 z1 z2 HT9 HB11
                      generalize ((w9.setCell ⟨bU, b2 * 2, none⟩ (.int .i64 (a : Int))).setCell ⟨bU, a * 2 + 1, none⟩ (.int .i64 (X : Int))).drew = w10 at *
                      as_aux_lemma =>
                        have HT10 := hide hT10
                        have HB12 := hide hB12
                        clear hT10 hB12
                        go_wp2_with fail
                        go_roundg (P.length - (i + 1))
                        case measure => have := HI.out; omega
                        case rel =>
                          refine ⟨i + 1, fL2, fR2, _, _, fS3, _, _, fun x => if Lf x = a then ρ x + M + 1 else ρ x, 2 * M + 1, by omega, by go_num, HT10.out, ?_, ?_, ?_, HB12.out⟩
                          · rw [HTK.out]
                            have := HSTEP.out
                            exact this
                          · rw [HTK.out, HPS.out, HMG.out]
                            exact HLK.out
                          · intro s hs hsi
                            show (if j + s = X then wt else hgt (j + s)) = eW l P[s]
                            by_cases e : s = i
                            · subst e
                              rw [if_pos HX.out, HEE.out, HWT.out]
                            · rw [if_neg (by have := HX.out; omega)]
                              exact HHG.out s hs (by omega)
        · obtain rfl : i = P.length := by omega
          have etk : P.take P.length = P := List.take_length
          rw [etk] at HRC
          have HKf := hide (HK.out.below HB4.out HK.out.lt)
          have hk := HKf.out
          have k0 := hk.get 0 _ rfl
          have k1 := hk.get 1 _ rfl
          have k2 := hk.get 2 _ rfl
          have k3 := hk.get 3 _ rfl
          have k4 := hk.get 4 _ rfl
          have k5 := hk.get 5 _ rfl
          have kz := hk.frozen
          obtain ⟨c0, c1, c2, c3, c4, c5⟩ := HT.out.c
          have hKt : w.heap.size ≠ t := by have := HK.out.lt; have := HG.out.1; omega
          clear hk etk hmk
          go_wp2_with fail
          have HF6 := (((((((Fr.refl [w.heap.size] wr).setCell (p := ⟨w.heap.size, 0, none⟩) (.inl (by simp)) (.int .i64 (j : Int))).setCell (p := ⟨w.heap.size, 1, none⟩) (.inl (by simp)) (.slice (some ⟨bL, 0, none⟩) k k)).setCell (p := ⟨w.heap.size, 2, none⟩) (.inl (by simp)) (.slice (some ⟨bR, 0, none⟩) k k)).setCell (p := ⟨w.heap.size, 3, none⟩) (.inl (by simp)) (.slice (some ⟨bP, 0, none⟩) k k)).setCell (p := ⟨w.heap.size, 4, none⟩) (.inl (by simp)) (.slice (some ⟨bH, 0, none⟩) k k)).setCell (p := ⟨w.heap.size, 5, none⟩) (.inl (by simp)) (.slice (some ⟨bS, 0, none⟩) k k))
          have hb6 := ((((((HB5.out.setCell (p := ⟨w.heap.size, 0, none⟩) (Nat.le_refl _) (.int .i64 (j : Int))).setCell (p := ⟨w.heap.size, 1, none⟩) (Nat.le_refl _) (.slice (some ⟨bL, 0, none⟩) k k)).setCell (p := ⟨w.heap.size, 2, none⟩) (Nat.le_refl _) (.slice (some ⟨bR, 0, none⟩) k k)).setCell (p := ⟨w.heap.size, 3, none⟩) (Nat.le_refl _) (.slice (some ⟨bP, 0, none⟩) k k)).setCell (p := ⟨w.heap.size, 4, none⟩) (Nat.le_refl _) (.slice (some ⟨bH, 0, none⟩) k k)).setCell (p := ⟨w.heap.size, 5, none⟩) (Nat.le_refl _) (.slice (some ⟨bS, 0, none⟩) k k))
          refine bodyPost_ret (results_cell_tmp (P := Tryd.prog) rfl _ _ w.heap.size 45 #[.int .i64 (j : Int), .slice (some ⟨bL, 0, none⟩) k k, .slice (some ⟨bR, 0, none⟩) k k, .slice (some ⟨bP, 0, none⟩) k k, .slice (some ⟨bH, 0, none⟩) k k, .slice (some ⟨bS, 0, none⟩) k k] (0, 0) _ rfl ((((((HKf.out.set_ 0 (.int .i64 (j : Int))).set_ 1 (.slice (some ⟨bL, 0, none⟩) k k)).set_ 2 (.slice (some ⟨bR, 0, none⟩) k k)).set_ 3 (.slice (some ⟨bP, 0, none⟩) k k)).set_ 4 (.slice (some ⟨bH, 0, none⟩) k k)).set_ 5 (.slice (some ⟨bS, 0, none⟩) k k)) Tryd.underlying45 rfl (by kernel_rfl)) rfl ?_
          have l1 := HK.out.lt
          obtain ⟨g1, g2, g3, g4, g5, g6, g7⟩ := HG.out
          unfold BuildPost
          rw [HN.out]
          exact ⟨bL, bR, bP, bH, bS, par, hgt, rt, rfl, by omega, by omega, HT.out.hP.fr HF6 (by simp; omega), HT.out.hH.fr HF6 (by simp; omega), HRC.out, fun s h => HHG.out s h h, hb6⟩
end Go.Proofs.YtoomcgmbaogjbaaDoor
