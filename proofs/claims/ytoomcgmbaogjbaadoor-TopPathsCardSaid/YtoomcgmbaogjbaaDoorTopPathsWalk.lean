/- seepagetop: TopPaths, where it stops early. seepagetop: TopPaths, to its end. The walk of TopPaths. -/
import Derived.Test.YtoomcgmbaogjbaaDoorTopPa
import Derived.Test.YtoomcgmbaogjbaaDoorPthE
import Derived.Test.YtoomcgmbaogjbaaDoorLctU
import Derived.Test.YtoomcgmbaogjbaaDoorOpenE0
namespace Go.Proofs.YtoomcgmbaogjbaaDoor
open Go.RowKit
set_option linter.unusedVariables false

set_option maxRecDepth 100000 in
theorem topP_early (n u v : Int) (A : Option Addr) (m c : Nat) (W : World) (hT : TabW W)
    (hN : Calls Tryd.prog 4 #[.int .i64 n, .slice A m c] W fun r w' => ∃ p e, r = .returned (.tuple #[p, .int .i64 e]) ∧ Below W.heap.size W w' ∧ (e ≠ 0 ∨ 40 < n ∨ 120 < (m : Int) ∨ u = v)) :
    Calls Tryd.prog 3 #[.int .i64 n, .slice A m c, .int .i64 u, .int .i64 v] W fun e W' => e = .returned (.bool true) ∧ Below W.heap.size W W' := by
  have HN := hide hN
  have HT := hide hT
  clear hN hT
  go_enter Tryd.func3, Tryd.ntmps3
  go_wp2_with fail
  refine HN.out.mono ?_
  rintro r w1 ⟨p, e, rfl, hb, h⟩
  have HB := hide hb
  have HW := hide (works20_true w1 (HT.out.below hb (Nat.le_refl _)))
  clear hb
  by_cases h0 : e = 0
  · subst h0
    by_cases h1 : 40 < n
    · clear h
      go_wp2_with fail
      refine HW.out.mono ?_
      rintro e w2 ⟨rfl, hb2⟩
      have HB2 := hide hb2
      clear hb2
      go_wp2_with fail
      go_ret
      exact ⟨rfl, HB.out.trans (HB2.out.mono HB.out.size)⟩
    · by_cases h2 : 120 < (m : Int)
      · clear h
        go_wp2_with fail
        refine HW.out.mono ?_
        rintro e w2 ⟨rfl, hb2⟩
        have HB2 := hide hb2
        clear hb2
        go_wp2_with fail
        go_ret
        exact ⟨rfl, HB.out.trans (HB2.out.mono HB.out.size)⟩
      · obtain rfl : u = v := by
          rcases h with h | h | h | h
          · exact absurd rfl h
          · exact absurd h h1
          · exact absurd h h2
          · exact h
        clear h
        go_wp2_with fail
        refine HW.out.mono ?_
        rintro e w2 ⟨rfl, hb2⟩
        have HB2 := hide hb2
        clear hb2
        go_wp2_with fail
        go_ret
        exact ⟨rfl, HB.out.trans (HB2.out.mono HB.out.size)⟩
  · clear h
    go_wp2_with fail
    refine HW.out.mono ?_
    rintro e w2 ⟨rfl, hb2⟩
    have HB2 := hide hb2
    clear hb2
    go_wp2_with fail
    go_ret
    exact ⟨rfl, HB.out.trans (HB2.out.mono HB.out.size)⟩
end Go.Proofs.YtoomcgmbaogjbaaDoor
namespace Go.Proofs.YtoomcgmbaogjbaaDoor
open Go.RowKit
set_option linter.unusedVariables false

theorem LfE.fr {w w' : World} {p : LLoc} {N : Nat} {M : LM} {E : Nat → Nat → Prop} {S : List Nat} (h : LfE w p N M E) (f : Fr S w w') (hg : p.g ∉ S) (hb : p.b ∉ S) : LfE w' p N M E := ⟨h.1.fr f hg hb, h.2⟩
set_option maxRecDepth 100000 in
set_option maxHeartbeats 16000000 in
theorem topP_ok (W : World) (n m c : Nat) (u v : Int) (A : Option Addr) (l : List (Int × Int × Int)) (hr : Rd W A m 3 (ecs l)) (ll : l.length = m) (hE : newE (n : Int) l = 0) (hok : GOk n l) (hn : n ≤ 40) (hm : m ≤ 120) (huv : u ≠ v) (hT : TabW W) :
    Calls Tryd.prog 3 #[.int .i64 (n : Int), .slice A m c, .int .i64 u, .int .i64 v] W fun e W' => e = .returned (.bool true) ∧ Below W.heap.size W W' := by
  have HN := hide (minNew_ok W n m c A l hr ll hok (by omega) (by omega) hE)
  have HKF := hide fun w h => kruForest_ok w n m c A l h ll hok (by omega) (by omega) hE
  have HR := hide hr
  have HLL := hide ll
  have HOK := hide hok
  have hPk := picks_pk (n := n) (l := l)
  have hPl := hPk.le hok
  have HPK := hide hPk
  have HT := hide hT
  have hne : (u == v) = false := by simpa using huv
  have HUV := hide huv
  have hn40 : ¬ 40 < (n : Int) := by omega
  have hm120 : ¬ 120 < (m : Int) := by omega
  clear hr ll hok hPk hT huv hE
  generalize picks l = P at *
  go_enter Tryd.func3, Tryd.ntmps3
  go_wp2_with fail
  refine HN.out.mono ?_
  rintro e w1 ⟨f, tr, g, bd, bH, par, hgt, bj, rt, rfl, hfin, hrc, hhg, hb⟩
  have HFIN := hide hfin
  have HRC := hide hrc
  have HHG := hide hhg
  have HB1 := hide hb
  have HR1 := hide (HR.out.keep (Nat.le_refl _) hb)
  have HWK := hide fun w (h : Below w1.heap.size w1 w) => works20_true w ((HT.out.below hb (Nat.le_refl _)).below h (Nat.le_refl _))
  have HT1 := hide (HT.out.below hb (Nat.le_refl _))
  clear hfin hrc hhg hb HN
  go_wp2_with fail
  go_loopg [11] m (fun gh s wr => ∃ k : Nat, k + gh = m ∧ s = .int .i64 (k : Int) ∧ wr = w1 ∧ ∀ i, i < k → -1099511627776 ≤ eW l i ∧ eW l i ≤ 1099511627776)
  case atStart => exact ⟨0, by omega, rfl, rfl, fun i hi => by omega⟩
  case round =>
  obtain ⟨k, hk, rfl, rfl, hwt⟩ := hrel
  have HK := hide hk
  have HWT := hide hwt
  have hkm : k ≤ m := by omega
  clear hk hwt
  by_cases hlt : k < m
  · have hkl : k < l.length := by rw [HLL.out]; exact hlt
    obtain ⟨b, o, rfl, hbl, -, -, e2⟩ := HR1.out.edge k hkl HLL.out
    rw [← eW_get hkl] at e2
    have HEW := hide (show ∀ t, eW l k = t → -1099511627776 ≤ t → t ≤ 1099511627776 → ∀ i, i < k + 1 → -1099511627776 ≤ eW l i ∧ eW l i ≤ 1099511627776 from fun t e h1 h2 i hi => by
      by_cases e' : i = k
      · subst e'; rw [e]; exact ⟨h1, h2⟩
      · exact HWT.out i (by omega))
    have hsz : wr.heap.size ≤ wr.heap.size := Nat.le_refl _
    generalize htt : eW l k = t at e2
    have HTT := hide htt
    clear htt hkl
    by_cases h1 : 1099511627776 < t
    · go_wp2_with fail
      refine (HWK.out wr (Below.refl _ _)).mono ?_
      rintro e w2 ⟨rfl, hb2⟩
      have HB2 := hide hb2
      clear hb2
      go_wp2_with fail
      go_ret
      exact ⟨rfl, HB1.out.trans (HB2.out.mono HB1.out.size)⟩
    · by_cases h2 : t < -1099511627776
      · go_wp2_with fail
        refine (HWK.out wr (Below.refl _ _)).mono ?_
        rintro e w2 ⟨rfl, hb2⟩
        have HB2 := hide hb2
        clear hb2
        go_wp2_with fail
        go_ret
        exact ⟨rfl, HB1.out.trans (HB2.out.mono HB1.out.size)⟩
      · have HNX := hide (HEW.out t HTT.out (by omega) (by omega))
        go_wp2_with fail
        go_roundg (m - (k + 1))
        case measure => have := HK.out; omega
        case rel => exact ⟨k + 1, by omega, by go_num, rfl, HNX.out⟩
  · obtain rfl : k = m := by omega
    clear HK hlt
    obtain ⟨w1, rfl⟩ : ∃ w1 : World, w1 = wr := ⟨_, rfl⟩
    as_aux_lemma =>
    go_wp2_with fail
    refine (HKF.out w1 HR1.out).mono ?_
    rintro e w2 ⟨V, rfl, ho, hb2⟩
    obtain ⟨VA, vc, rfl, hvr, -, -⟩ := own_form ho
    have HVR := hide hvr
    have HB2 := hide hb2
    have hlw : IntKind.i64.wrap ((k : Int) + (n : Int)) = ((k + n : Nat) : Int) := by rw [IntWalk.i64_in _ (by omega)]; omega
    have hkl2 := HLL.out
    have HLN := hide (lctNew w2 (k + n) (by omega))
    rw [show ((k + n : Nat) : Int) = (k : Int) + (n : Int) from Int.natCast_add k n] at HLN
    clear ho hvr hb2 HKF hlw
    go_wp2_with fail
    refine HLN.out.mono ?_
    rintro e w3 ⟨lf, rfl, hlg, hlb, hlf, hf3⟩
    have hlf0 := hlf.congr (E' := EK l []) (fun x y => EK_nil x y)
    have HLF := hide hlf0
    have HF3 := hide hf3
    have h21 : w1.heap.size ≤ w2.heap.size := HB2.out.size
    have h01 : W.heap.size ≤ w1.heap.size := HB1.out.size
    have h23 : w2.heap.size ≤ w3.heap.size := hf3.size
    clear hlf hf3 hlf0 HLN
    have hkk := hkl2
    clear hkl2
    have HKK := hide hkk
    clear hkk
    go_wp2_with fail
    go_loopg [15] n (fun gh s wr => ∃ (j : Nat) (M : LM), j + gh = n ∧ s = .int .i64 (j : Int) ∧ LfE wr lf (k + n) M (EK l []) ∧ (∀ w, w < j → M.key (k + w + 1) = 4611686018427387904) ∧ Fr [lf.g, lf.b] w3 wr)
    case atStart => exact ⟨0, _, by omega, rfl, HLF.out, fun w hw => by omega, Fr.refl _ _⟩
    case round =>
    obtain ⟨j, M, hj, rfl, hl, hky, hf⟩ := hrel
    have HJ := hide hj
    have HL := hide hl
    have HKY := hide hky
    have HF := hide hf
    have hjn : j ≤ n := by omega
    clear hj hl hky hf HLF
    by_cases hlt : j < n
    · have HS := hide (lctSet wr lf (k + n) M (EK l []) (k + j) 4611686018427387904 HL.out (by omega))
      rw [show ((k + j : Nat) : Int) = (k : Int) + (j : Int) from Int.natCast_add k j] at HS
      clear HL
      go_wp2_with fail
      refine HS.out.mono ?_
      rintro e w4 ⟨rfl, M', hl', hk', hf'⟩
      have HL' := hide hl'
      have HK' := hide hk'
      have HF' := hide (HF.out.trans (hf'.mono (by simp)))
      clear hl' hk' hf' HS
      go_wp2_with fail
      go_roundg (n - (j + 1))
      case measure => have := HJ.out; omega
      case rel =>
        refine ⟨j + 1, M', by omega, by go_num, HL'.out, fun w hw => ?_, HF'.out⟩
        rw [HK'.out]
        show (if k + w + 1 = k + j + 1 then _ else M.key (k + w + 1)) = _
        by_cases e : w = j
        · rw [if_pos (by omega)]
        · rw [if_neg (by omega)]; exact HKY.out w (by omega)
    · obtain rfl : j = n := by omega
      clear HJ hlt
      obtain ⟨w4, rfl⟩ : ∃ w4 : World, w4 = wr := ⟨_, rfl⟩
      have h34 : w3.heap.size ≤ w4.heap.size := HF.out.size
      as_aux_lemma =>
      go_wp2_with fail
      go_loopg [16] P.length (fun gh s wr => ∃ (q : Nat) (M : LM), q + gh = P.length ∧ s = .int .i64 (q : Int) ∧ LfE wr lf (k + j) M (EK l (P.take q)) ∧ (∀ i ∈ P.take q, M.key (i + 1) = - eW l i) ∧ (∀ w, w < j → M.key (k + w + 1) = 4611686018427387904) ∧ Fr [lf.g, lf.b] w3 wr)
      case atStart => exact ⟨0, M, by omega, rfl, HL.out, fun i hi => by simp at hi, HKY.out, HF.out⟩
      case round =>
      obtain ⟨q, M', hq, rfl, hl, hkE, hkV, hf⟩ := hrel
      have HQ := hide hq
      have HL2 := hide hl
      have HKE := hide hkE
      have HKV := hide hkV
      have HF4 := hide hf
      have hbel : Below w2.heap.size w2 wr := (HF3.out.below (B := w2.heap.size) (by simp) (Nat.le_refl _)).trans (hf.below (B := w2.heap.size) (by simp; omega) h23)
      have HBE := hide hbel
      have hqP : q ≤ P.length := by omega
      clear hq hl hkE hkV hf hbel HL HKY HF
      by_cases hlt : q < P.length
      · have hil : P[q] < l.length := HPK.out.lt _ (List.getElem_mem hlt)
        have hr2 := HR1.out.keep (Nat.le_refl _) HB2.out
        obtain ⟨b1, o1, rfl, hb1l, hcell⟩ := (HVR.out.keep (Nat.le_refl _) HBE.out).2 (by omega)
        have c0 : wr.cell? ⟨b1, o1 + q, none⟩ = some (.int .i64 (P[q] : Int)) := hcell q _ (by simp [nts, hlt])
        have h2r : w2.heap.size ≤ wr.heap.size := HBE.out.size
        obtain ⟨b, o, rfl, hbl, e0, e1, e2⟩ := (hr2.keep (Nat.le_refl _) HBE.out).edge _ hil HLL.out
        have hbw : b < w2.heap.size := by
          obtain ⟨b', o', e', h', -⟩ := hr2.2 (by have := HLL.out; omega)
          injection e' with e'
          injection e' with e' _
          omega
        obtain ⟨q0, q1, q2, q3, q4⟩ := HOK.out.at_ hil
        rw [q0] at e0
        rw [q1] at e1
        rw [← eW_get hil] at e2
        have hik : P[q] < k := by rw [← HLL.out]; exact hil
        have hPt : ∀ i ∈ P.take q, i < l.length := fun i hi => HPK.out.lt i (List.mem_of_mem_take hi)
        have hdf := HPK.out.df q hlt
        have hnot : P[q] ∉ P.take q := fun h => hdf (pL_in h)
        have h1 := ek_one hPt hil hnot
        have h2 := ek_two hPt hil hdf
        have h3 := fun x y => EK_snoc (l := l) (P := P.take q) P[q] x y
        rw [HKK.out] at h1 h2
        simp only [HKK.out] at h3
        have htk : P.take (q + 1) = P.take q ++ [P[q]] := List.take_succ_eq_append_getElem hlt
        have hwb := HWT.out _ hik
        have hEi : ∀ i ∈ P.take q, i ≠ P[q] := fun i hi e => hnot (e ▸ hi)
        have HTK := hide htk
        have H1 := hide h1
        have H2 := hide h2
        have H3 := hide h3
        have HEI := hide hEi
        clear hcell q0 q1 q4 hnot hdf hPt h1 h2 h3 htk hEi hr2 hil hbl hb1l
        generalize hat : P[q] = i at *
        have HAT := hide hat
        clear hat
        generalize hut : eU l i = x at *
        have HUT := hide hut
        clear hut
        generalize hvt : eV l i = y at *
        have HVT := hide hvt
        clear hvt
        generalize htt : eW l i = t at *
        have HTT := hide htt
        clear htt
        obtain ⟨hw1, hw2⟩ := hwb
        have ew : IntKind.i64.wrap (-t) = -t := IntWalk.i64_in _ (by omega)
        have HS := hide (lctSet wr lf (k + j) M' (EK l (P.take q)) i (-t) HL2.out (by omega))
        clear hw1 hw2
        as_aux_lemma =>
        go_wp2_with fail
        refine HS.out.mono ?_
        rintro e w5 ⟨rfl, M5, hl5, hk5, hf5⟩
        have hb5 : Below w2.heap.size wr w5 := hf5.below (by simp; omega) h2r
        have d0 := (hb5.cell (p := ⟨b, o + i * 3, none⟩) hbw).trans e0
        have d1 := (hb5.cell (p := ⟨b, o + i * 3 + 1, none⟩) hbw).trans e1
        have h25 : w2.heap.size ≤ w5.heap.size := Nat.le_trans h2r hb5.size
        have HK5 := hide hk5
        have HF5 := hide (HF4.out.trans (hf5.mono (by simp)))
        have HL1 := hide (lctLink w5 lf (k + j) M5 _ (k + x) i hl5 (by omega) (by omega) (by omega) H1.out)
        rw [show ((k + x : Nat) : Int) = (k : Int) + (x : Int) from Int.natCast_add k x] at HL1
        clear hl5 hk5 hf5 hb5 HS e0 e1 e2 c0 HL2 H1 HF4
        go_wp2_with fail
        refine HL1.out.mono ?_
        rintro e w6 ⟨rfl, M6, hl6, hk6, hf6⟩
        have hb6 : Below w2.heap.size w5 w6 := hf6.below (by simp; omega) h25
        have e1 := (hb6.cell (p := ⟨b, o + i * 3 + 1, none⟩) hbw).trans d1
        have HK6 := hide hk6
        have HF6 := hide (HF5.out.trans hf6)
        have HL2 := hide (lctLink w6 lf (k + j) M6 _ i (k + y) hl6 (by omega) (by omega) (by omega) H2.out)
        rw [show ((k + y : Nat) : Int) = (k : Int) + (y : Int) from Int.natCast_add k y] at HL2
        clear hl6 hk6 hf6 hb6 HL1 d0 d1 H2 HF5
        go_wp2_with fail
        refine HL2.out.mono ?_
        rintro e w7 ⟨rfl, M7, hl7, hk7, hf7⟩
        have HL7 := hide (hl7.congr H3.out)
        have HK7 := hide hk7
        have HF7 := hide (HF6.out.trans hf7)
        clear hl7 hk7 hf7 HL2 e1 H3 HF6
        go_wp2_with fail
        go_roundg (P.length - (q + 1))
        case measure => have := HQ.out; omega
        case rel =>
          have hkey : M7.key = fun z => if z = i + 1 then -t else M'.key z := by rw [HK7.out, HK6.out, HK5.out]
          refine ⟨q + 1, M7, by omega, by go_num, by rw [HTK.out]; exact HL7.out, fun i' hi' => ?_, fun w hw => ?_, HF7.out⟩
          · rw [HTK.out] at hi'
            rw [hkey]
            show (if i' + 1 = i + 1 then -t else M'.key (i' + 1)) = _
            rcases List.mem_append.1 hi' with h | h
            · rw [if_neg (by have := HEI.out i' h; omega)]; exact HKE.out i' h
            · obtain rfl : i' = i := by simpa using h
              rw [if_pos rfl, HTT.out]
          · rw [hkey]
            show (if k + w + 1 = i + 1 then -t else M'.key (k + w + 1)) = _
            rw [if_neg (by omega)]; exact HKV.out w hw
      · obtain rfl : q = P.length := by omega
        as_aux_lemma =>
        have etk : P.take P.length = P := List.take_length
        rw [etk] at HL2 HKE
        clear etk HQ hlt
        have hbw : Below w1.heap.size w1 wr := HB2.out.trans (HBE.out.mono h21)
        have HBW := hide hbw
        have HBT := hide (HB1.out.trans (hbw.mono h01))
        have hszt : W.heap.size ≤ wr.heap.size := Nat.le_trans h01 hbw.size
        have HFN := hide (HFIN.out.below hbw (Nat.le_refl _))
        have HTW := hide (HT1.out.below hbw (Nat.le_refl _))
        have h2r : w2.heap.size ≤ wr.heap.size := HBE.out.size
        clear hbw HFIN HT1 HVR HBE HF3 HF4 HB2 HB1 HT HR
        by_cases hin : (0 ≤ u ∧ u < (j : Int)) ∧ 0 ≤ v ∧ v < (j : Int)
        · obtain ⟨⟨u0, u1⟩, v0, v1⟩ := hin
          obtain ⟨u', rfl⟩ := Int.eq_ofNat_of_zero_le u0
          obtain ⟨v', rfl⟩ := Int.eq_ofNat_of_zero_le v0
          have hu : u' < j := by omega
          have hv : v' < j := by omega
          have huv' : u' ≠ v' := fun e => HUV.out (by rw [e])
          have HM := hide (minMinimax_in wr f tr g bd bH _ j (j + P.length) par hgt bj u' v' HFN.out HTW.out HRC.out.tr (by omega) (by omega) hu hv huv' (fun c hc => HRC.out.anc_lt hu hc.1))
          have nu : ¬ (u' : Int) < 0 := by omega
          have nv : ¬ (v' : Int) < 0 := by omega
          have nu2 : ¬ (j : Int) ≤ (u' : Int) := by omega
          have nv2 : ¬ (j : Int) ≤ (v' : Int) := by omega
          clear u0 u1 v0 v1
          as_aux_lemma =>
          go_wp2_with fail
          refine HM.out.mono ?_
          rintro e w6 ⟨hf6, ⟨d, hd, rfl⟩ | ⟨hno, rfl⟩⟩
          · rcases meet_law HRC.out hu hv huv' with ⟨t, ht, h1, h2, h3⟩ | ⟨-, h1⟩
            · have hcon : pL l P u' = pL l P v' := by
                have := pL_mono (l := l) (P := P) (s := t + 1) P.length (by omega) h2
                rwa [List.take_length] at this
              have hth : hgt d = eW l P[t] := by rw [h3 d hd]; exact HHG.out t ht
              have HMI := hide (lctMin w6 lf (k + j) M' (EK l P) (k + u') (k + v') (HL2.out.fr hf6 (by simp) (by simp)) (by omega) (by omega) (by omega) (by
                have := ek_yes (l := l) P u' v' hcon
                rwa [HKK.out] at this))
              rw [show ((k + u' : Nat) : Int) = (k : Int) + (u' : Int) from Int.natCast_add k u', show ((k + v' : Nat) : Int) = (k : Int) + (v' : Int) from Int.natCast_add k v'] at HMI
              have HML := hide fun (x : Nat) hm => min_law (key := M'.key) (x := x) HOK.out HPK.out hu hv huv' ht h1 h2 HKE.out (by rw [HKK.out]; exact HKV.out) (fun i hi => (HWT.out i (by rw [← HKK.out]; exact hi)).1) hm
              have HTH := hide hth
              have HF6 := hide hf6
              clear hd h1 h2 h3 hcon hth hf6 HM HL2
              generalize hgt d = θ at *
              go_wp2_with fail
              refine HMI.out.mono ?_
              rintro e w7 ⟨x, rfl, hxN, hmin, hf7⟩
              rw [← HKK.out] at hmin
              obtain ⟨hxl, hxw⟩ := HML.out x hmin
              have hb7 : Below wr.heap.size wr w6 := HF6.out.below (by simp) (Nat.le_refl _)
              have hb71 : Below w2.heap.size w6 w7 := hf7.below (by simp; omega) (Nat.le_trans h2r hb7.size)
              have hbel7 : Below w2.heap.size wr w7 := (hb7.mono h2r).trans hb71
              have HB7 := hide (HBW.out.trans (hbel7.mono h21))
              have HBT7 := hide (HBT.out.trans (hbel7.mono (Nat.le_trans h01 h21)))
              have hsz7 : W.heap.size ≤ w7.heap.size := Nat.le_trans hszt hbel7.size
              obtain ⟨b, o, rfl, hbl, -, -, e2⟩ := (HR1.out.keep (Nat.le_refl _) HB7.out).edge x hxl HLL.out
              rw [← eW_get hxl, hxw, ← HTH.out] at e2
              have hxk : x < k := by rw [← HLL.out]; exact hxl
              clear hmin hxl hxw hb7 hb71 hbel7 hf7 HMI HML HF6 HTH hbl
              go_wp2_with fail
              refine (HWK.out w7 HB7.out).mono ?_
              rintro e w8 ⟨rfl, hb8⟩
              have HB8 := hide hb8
              clear hb8
              go_wp2_with fail
              go_ret
              exact ⟨rfl, HBT7.out.trans (HB8.out.mono hsz7)⟩
            · exact absurd hd (h1 d)
          · have hdis := meet_no HRC.out hu hv huv' hno
            have HMI := hide (lctMin_no w6 lf (k + j) M' (EK l P) (k + u') (k + v') (HL2.out.fr hf6 (by simp) (by simp)) (by omega) (by omega) (by omega) (by
              have := ek_no (l := l) (P := P) HPK.out.lt hdis
              rwa [HKK.out] at this))
            rw [show ((k + u' : Nat) : Int) = (k : Int) + (u' : Int) from Int.natCast_add k u', show ((k + v' : Nat) : Int) = (k : Int) + (v' : Int) from Int.natCast_add k v'] at HMI
            have HF6 := hide hf6
            clear hno hdis hf6 HM HL2
            go_wp2_with fail
            refine HMI.out.mono ?_
            rintro e w7 ⟨rfl, hf7⟩
            have hb7 : Below wr.heap.size wr w6 := HF6.out.below (by simp) (Nat.le_refl _)
            have hb71 : Below w2.heap.size w6 w7 := hf7.below (by simp; omega) (Nat.le_trans h2r hb7.size)
            have hbel7 : Below w2.heap.size wr w7 := (hb7.mono h2r).trans hb71
            have HB7 := hide (HBW.out.trans (hbel7.mono h21))
            have HBT7 := hide (HBT.out.trans (hbel7.mono (Nat.le_trans h01 h21)))
            have hsz7 : W.heap.size ≤ w7.heap.size := Nat.le_trans hszt hbel7.size
            clear hb7 hb71 hbel7 hf7 HMI HF6
            go_wp2_with fail
            refine (HWK.out w7 HB7.out).mono ?_
            rintro e w8 ⟨rfl, hb8⟩
            have HB8 := hide hb8
            clear hb8
            go_wp2_with fail
            go_ret
            exact ⟨rfl, HBT7.out.trans (HB8.out.mono hsz7)⟩
        · have HM := hide (minMinimax_out wr f tr g bd bH _ j (j + P.length) par hgt bj u v HFN.out HUV.out hin)
          have HIN := hide hin
          clear hin
          by_cases h1 : u < 0
          · go_wp2_with fail
            refine HM.out.mono ?_
            rintro e w6 ⟨rfl, rfl⟩
            go_wp2_with fail
            refine (HWK.out wr HBW.out).mono ?_
            rintro e w8 ⟨rfl, hb8⟩
            have HB8 := hide hb8
            clear hb8
            go_wp2_with fail
            go_ret
            exact ⟨rfl, HBT.out.trans (HB8.out.mono hszt)⟩
          by_cases h2 : v < 0
          · go_wp2_with fail
            refine HM.out.mono ?_
            rintro e w6 ⟨rfl, rfl⟩
            go_wp2_with fail
            refine (HWK.out wr HBW.out).mono ?_
            rintro e w8 ⟨rfl, hb8⟩
            have HB8 := hide hb8
            clear hb8
            go_wp2_with fail
            go_ret
            exact ⟨rfl, HBT.out.trans (HB8.out.mono hszt)⟩
          by_cases h3 : (j : Int) ≤ u
          · go_wp2_with fail
            refine HM.out.mono ?_
            rintro e w6 ⟨rfl, rfl⟩
            go_wp2_with fail
            refine (HWK.out wr HBW.out).mono ?_
            rintro e w8 ⟨rfl, hb8⟩
            have HB8 := hide hb8
            clear hb8
            go_wp2_with fail
            go_ret
            exact ⟨rfl, HBT.out.trans (HB8.out.mono hszt)⟩
          have h4 : (j : Int) ≤ v := by
            apply Decidable.byContradiction
            intro h4
            exact HIN.out ⟨⟨by omega, by omega⟩, by omega, by omega⟩
          clear HIN
          go_wp2_with fail
          refine HM.out.mono ?_
          rintro e w6 ⟨rfl, rfl⟩
          go_wp2_with fail
          refine (HWK.out wr HBW.out).mono ?_
          rintro e w8 ⟨rfl, hb8⟩
          have HB8 := hide hb8
          clear hb8
          go_wp2_with fail
          go_ret
          exact ⟨rfl, HBT.out.trans (HB8.out.mono hszt)⟩
end Go.Proofs.YtoomcgmbaogjbaaDoor
namespace Go.Proofs.YtoomcgmbaogjbaaDoor
open Go.RowKit
set_option linter.unusedVariables false

theorem topPaths_walk (a0 : Int) (v1 : Value) (l : List (Int × Int × Int)) (a2 a3 : Int) (W : World) (w1 : IsEdges W v1 l) (hT : TabW W) :
    Calls Tryd.prog 3 #[.int .i64 a0, v1, .int .i64 a2, .int .i64 a3] W fun e W' => e = .returned (.bool true) ∧ Below W.heap.size W W' := by
  obtain ⟨A, m, c, rfl, hm, hml, -, hA⟩ := w1
  by_cases hE : newE a0 l = 0
  · have hnb : ¬ (a0 < 0 ∨ 4096 < a0 ∨ 16384 < l.length) := fun h => by unfold newE at hE; rw [if_pos h] at hE; cases hE
    obtain ⟨n, rfl⟩ : ∃ n : Nat, a0 = (n : Int) := ⟨a0.toNat, by omega⟩
    have hok : GOk n l := by
      have hE2 := hE
      unfold newE at hE2
      rw [if_neg hnb] at hE2
      exact gErr_ok.1 hE2
    by_cases hb : 40 < (n : Int) ∨ 120 < (m : Int) ∨ a2 = a3
    · refine topP_early _ _ _ A m c W hT ((minNew_ok W n m c A l hA hml hok (by omega) (by omega) hE).mono ?_)
      rintro e w' ⟨f, tr, g, bd, bH, par, hgt, bj, rt, rfl, -, -, -, hbe⟩
      exact ⟨_, 0, rfl, hbe, .inr hb⟩
    · exact topP_ok W n m c a2 a3 A l hA hml hE hok (by omega) (by omega) (fun e => hb (.inr (.inr e))) hT
  · refine topP_early _ _ _ A m c W hT ((minNew_no W a0 m c A l hA hml (by have : maxLen = 9223372036854775807 := rfl; omega) hE).mono ?_)
    rintro e w' ⟨rfl, hbe⟩
    exact ⟨_, _, rfl, hbe, .inl hE⟩
end Go.Proofs.YtoomcgmbaogjbaaDoor
