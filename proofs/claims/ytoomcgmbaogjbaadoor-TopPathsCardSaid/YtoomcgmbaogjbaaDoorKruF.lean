/- kruskal: Forest. -/
import Derived.Test.YtoomcgmbaogjbaaDoorKruB
import Derived.Test.YtoomcgmbaogjbaaDoorGraB
import Derived.Test.YtoomcgmbaogjbaaDoorDsuC
namespace Go.Proofs.YtoomcgmbaogjbaaDoor
open Go.RowKit
set_option linter.unusedVariables false

theorem Fr.then_ {S : List Nat} {w w' w2 : World} (h : Fr S w w') (k : Below w.heap.size w' w2) : Fr S w w2 :=
  ⟨k.os.trans h.os, k.tape.trans h.tape, k.output.trans h.output, Nat.le_trans h.size k.size, fun i hi hS => (k.block i hi).trans (h.block i hi hS)⟩
theorem ret_se {a b : Int} (h : a = b) : Ending.returned (.tuple #[.slice none 0 0, .int .i64 a]) = .returned (.tuple #[.slice none 0 0, .int .i64 b]) := by rw [h]
set_option maxRecDepth 100000 in
theorem kruForest_no (w : World) (n : Int) (m c : Nat) (A : Option Addr) (l : List (Int × Int × Int)) (hr : Rd w A m 3 (ecs l)) (ll : l.length = m) (hm9 : m ≤ 9223372036854775807) (hE : newE n l ≠ 0) :
    Calls Tryd.prog 6 #[.int .i64 n, .slice A m c] w fun e w' => e = .returned (.tuple #[.slice none 0 0, .int .i64 (newE n l)]) ∧ Below w.heap.size w w' := by
  have HG := hide (graNew_no w n m c A l hr ll hm9 hE)
  clear hr ll
  generalize newE n l = E at *
  go_enter Tryd.func6, Tryd.ntmps6
  go_wp2_with fail
  refine HG.out.mono ?_
  rintro e w1 ⟨rfl, hb⟩
  have HB := hide hb
  clear hb
  go_wp2_with fail
  go_ret2
  exact ⟨rfl, HB.out⟩
set_option maxRecDepth 100000 in
set_option maxHeartbeats 4000000 in
theorem kruForest_ok (w : World) (n m c : Nat) (A : Option Addr) (l : List (Int × Int × Int)) (hr : Rd w A m 3 (ecs l)) (ll : l.length = m) (hok : GOk n l) (hn : n ≤ 4096) (hm : m ≤ 16384) (hE : newE (n : Int) l = 0) :
    Calls Tryd.prog 6 #[.int .i64 (n : Int), .slice A m c] w fun e w' => ∃ V, e = .returned (.tuple #[V, .int .i64 0]) ∧ w'.ownsRow w.heap.size 3 1 V (picks l).length (nts (picks l)) ∧ Below w.heap.size w w' := by
  obtain ⟨i0, hi, hz0, hz1, hz2⟩ := info_parts int_info0
  have HG := hide (graNew_ok w n m c A l hr ll hE)
  have HR := hide hr
  have HLL := hide ll
  have HOK := hide hok
  clear hr ll hok hE
  go_enter Tryd.func6, Tryd.ntmps6
  go_wp2_with fail
  refine HG.out.mono ?_
  rintro e w1 ⟨gp, rfl, -, hb1⟩
  have HB1 := hide hb1
  clear hb1
  go_wp2_with fail
  refine (dsuNew_ok w1 n (by omega)).mono ?_
  rintro e w2 ⟨p, rfl, hd, hb2, hp⟩
  have HD2 := hide hd
  have HB2 := hide (HB1.out.trans (hb2.mono HB1.out.size))
  have HP := hide (show p.from_ w.heap.size from ⟨Nat.le_trans HB1.out.size hp.1, Nat.le_trans HB1.out.size hp.2.1, Nat.le_trans HB1.out.size hp.2.2.1, Nat.le_trans HB1.out.size hp.2.2.2⟩)
  clear hd hb2 hp
  go_wp2_with fail
  refine (kruOrder w2 m c A l (HR.out.keep (Nat.le_refl _) HB2.out) HLL.out hm).mono ?_
  rintro e w3 ⟨bo, rfl, hbo, hro, hb3⟩
  have HRO := hide hro
  have HD3 := hide (HD2.out.fresh hb3)
  have HB3 := hide (HB2.out.trans (hb3.mono HB2.out.size))
  have HR3 := hide ((HR.out.keep (Nat.le_refl _) HB2.out).keep (Nat.le_refl _) hb3)
  have HPL := hide HD3.out.lt
  have HNO := hide (show bo ∉ [p.g, p.bu, p.bl, p.bz] by
    have := HD2.out.lt
    simp; omega)
  have HS3 := hide HB3.out.size
  clear hro hb3 hbo
  go_wp2_with fail
  go_loopg [35, 10] m (fun gh s V wr => ∃ k : Nat, k + gh = m ∧ s = .int .i64 (k : Int) ∧ wr.ownsRow w3.heap.size 3 1 V (kr l ((ordN l).take k)).length (nts (kr l ((ordN l).take k))) ∧ Dsu wr p n (pL l (kr l ((ordN l).take k))) ∧ Below w.heap.size w wr ∧ Fr [p.g, p.bu, p.bl, p.bz] w3 wr)
  case atStart => exact ⟨0, by omega, rfl, World.ownsRow_nil _ _ _ _, HD3.out, HB3.out, Fr.refl _ _⟩
  case round =>
    obtain ⟨k, hk, rfl, ho, hd, hb, hf⟩ := hrel
    have HK := hide hk
    have HO := hide ho
    have HD := hide hd
    have HB := hide hb
    have HF := hide hf
    have hkm : k ≤ m := by omega
    clear hk ho hd hb hf HD3 HB3 HD2 HB2 HB1 HG
    by_cases hlt : k < m
    · have hko : k < (ordN l).length := by rw [ordN_len, HLL.out]; exact hlt
      have hro := HRO.out.fr HF.out (fun ad e => by
        injection e with e
        subst e; exact HNO.out)
      have hil : (ordN l)[k] < l.length := ordN_lt _ (List.getElem_mem hko)
      have htk : (ordN l).take (k + 1) = (ordN l).take k ++ [(ordN l)[k]] := List.take_succ_eq_append_getElem hko
      have hle : (kr l ((ordN l).take k)).length ≤ k := by have := (kr_sub (l := l) ((ordN l).take k)).length_le; simp at this; omega
      obtain ⟨b1, o1, e1, hblt, hcell⟩ := hro.2 (by omega)
      injection e1 with e1
      injection e1 with e1 e2
      subst e1; subst e2
      have c0 : wr.cell? ⟨bo, 0 + k, none⟩ = some (.int .i64 ((ordN l)[k] : Int)) := hcell k _ (by simp [nts, hko])
      rw [Nat.zero_add] at c0
      obtain ⟨b, o, rfl, hbl, e0, e1, e2⟩ := (HR.out.keep (Nat.le_refl _) HB.out).edge _ hil HLL.out
      have hkr := kr_snoc (l := l) ((ordN l).take k) (ordN l)[k]
      rw [← htk] at hkr
      obtain ⟨q0, q1, q2, q3, q4⟩ := HOK.out.at_ hil
      rw [q0] at e0
      rw [q1] at e1
      have hU := dsuUnion_in (wr.drewN 1) (eU l (ordN l)[k]) (eV l (ordN l)[k]) p n _ (HD.out.drewN 1) q2 q3
      have him : (ordN l)[k] < m := by rw [← HLL.out]; exact hil
      generalize hP : kr l ((ordN l).take k) = P at *
      generalize (ordN l)[k] = i at *
      have HKR := hide hkr
      have HNX := hide (pL_snoc (l := l) P i)
      have hks : kst l P i = if pL l P (eU l i) = pL l P (eV l i) then P else P ++ [i] := rfl
      have HKS := hide hks
      clear hks hro hcell hblt htk hkr hP q0 q1 q4 e2 hil
      generalize eU l i = u at *
      generalize eV l i = v at *
      have d0 := e0
      have d1 := e1
      have hbo : b < w.heap.size := by
        obtain ⟨b', o', e', h', -⟩ := HR.out.2 (by omega)
        injection e' with e'
        injection e' with e' _
        omega
      by_cases hlv : pL l P u = pL l P v
      · have hb' : (!(pL l P u == pL l P v)) = false := by simp [hlv]
        rw [hb'] at hU
        have hmg : merge (pL l P) (pL l P u) (pL l P v) = pL l P := by rw [hlv, merge_self]
        rw [hmg] at hU
        have HU := hide hU
        have HKS2 := hide (HKS.out.trans (if_pos hlv))
        clear hU hb' hmg hlv HKS
        go_wp2_with fail
        go_region_held3 (fun w' => w'.cell? ⟨b, o + i * 3, none⟩ = some (.int .i64 (u : Int)) ∧ w'.cell? ⟨b, o + i * 3 + 1, none⟩ = some (.int .i64 (v : Int)))
          (first | exact ⟨d0, d1⟩ | exact ⟨(hb4.cell (p := ⟨b, o + i * 3, none⟩) hbo).trans d0, (hb4.cell (p := ⟨b, o + i * 3 + 1, none⟩) hbo).trans d1⟩)
          (first | (go_at_call 17; refine HU.out.mono ?_; rintro e w4 ⟨rfl, hd4, hf4⟩; have hb4 : Below w.heap.size (wr.drewN 1) w4 := hf4.below (by simpa [Loc.from_] using HP.out) HB.out.size))
        have HD4 := hide hd4
        have HB4 := hide ((HB.out.drewN 1).trans hb4)
        have HF4 := hide ((HF.out.drewN 1).trans hf4)
        have HO4 := hide (own_fr HO.out ((Fr.refl [p.g, p.bu, p.bl, p.bz] wr).drewN 1 |>.trans hf4) (by
          intro b' hb'
          have := (World.ownsRow.lt HO.out b' hb').1
          have := HPL.out
          simp; omega))
        clear hd4 hf4 hb4 d0 d1 e0 e1 c0 HU
        go_wp2_with fail
        go_roundg (m - (k + 1))
        case measure => have := HK.out; omega
        case rel =>
          refine ⟨k + 1, by omega, by go_num, ?_, ?_, HB4.out, HF4.out⟩
          · rw [HKR.out, HKS2.out]
            exact HO4.out
          · rw [HKR.out, HKS2.out]; exact HD4.out
      · have hb' : (!(pL l P u == pL l P v)) = true := by simp [hlv]
        rw [hb'] at hU
        rw [← HNX.out] at hU
        have HU := hide hU
        have HKS2 := hide (HKS.out.trans (if_neg hlv))
        clear hU hb' hlv HKS
        go_wp2_with fail
        go_region_held3 (fun w' => w'.cell? ⟨b, o + i * 3, none⟩ = some (.int .i64 (u : Int)) ∧ w'.cell? ⟨b, o + i * 3 + 1, none⟩ = some (.int .i64 (v : Int)))
          (first | exact ⟨d0, d1⟩ | exact ⟨(hb4.cell (p := ⟨b, o + i * 3, none⟩) hbo).trans d0, (hb4.cell (p := ⟨b, o + i * 3 + 1, none⟩) hbo).trans d1⟩)
          (first | (go_at_call 17; refine HU.out.mono ?_; rintro e w4 ⟨rfl, hd4, hf4⟩; have hb4 : Below w.heap.size (wr.drewN 1) w4 := hf4.below (by simpa [Loc.from_] using HP.out) HB.out.size))
        have HD4 := hide hd4
        have HB4 := hide ((HB.out.drewN 1).trans hb4)
        have HF4 := hide ((HF.out.drewN 1).trans hf4)
        have HO4 := hide (own_fr HO.out ((Fr.refl [p.g, p.bu, p.bl, p.bz] wr).drewN 1 |>.trans hf4) (by
          intro b' hb'
          have := (World.ownsRow.lt HO.out b' hb').1
          have := HPL.out
          simp; omega))
        have hsz4 : w3.heap.size ≤ w4.heap.size := HF4.out.size
        clear hd4 hf4 hb4 d0 d1 e0 e1 c0 HU
        go_wp2_with (at_builtin; refine app_one 30 3 Tryd.underlying30 hi hz0 hz1 hz2 rfl (by decide) w4 #[.int .i64 (i : Int)] rfl (by simp [Value.oneCell']) rfl _ _ rfl w3.heap.size _ P.length (nts P) rfl HO4.out rfl (by have : maxLen = 9223372036854775807 := rfl; omega) (by omega) hsz4 ?_; intro v' w5 hown5 _ _ hb5; have HO5 := hide hown5; have HB5 := hide hb5; clear hown5 hb5)
        go_roundg (m - (k + 1))
        case measure => have := HK.out; omega
        case rel =>
          refine ⟨k + 1, by omega, by go_num, ?_, ?_, HB4.out.trans (HB5.out.mono HS3.out), HF4.out.then_ HB5.out⟩
          · rw [HKR.out, HKS2.out]
            have := HO5.out
            rw [← nts_snoc] at this
            simpa using this
          · rw [HKR.out, HKS2.out]
            exact HD4.out.below HB5.out HPL.out
    · obtain rfl : k = m := by omega
      have e : kr l ((ordN l).take k) = picks l := by
        unfold picks
        rw [List.take_of_length_le (by rw [ordN_len, HLL.out]; exact Nat.le_refl _)]
      have HE := hide e
      clear e
      go_wp2_with fail
      go_ret2
      have := own_base HO.out HS3.out
      rw [HE.out] at this
      exact ⟨_, rfl, this, HB.out⟩
end Go.Proofs.YtoomcgmbaogjbaaDoor
