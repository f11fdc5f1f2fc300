/- sweep: plainRows, Random, Rows of one edge. -/
import Derived.Test.YtoomcgmbaogjbaaSwpE
import Derived.Test.YtoomcgmbaogjbaaShfB
import Derived.Test.YtoomcgmbaogjbaaGraB
import Derived.Maps.OwnOps
namespace Go.Proofs.Ytoomcgmbaogjbaa
open Go.RowKit Go.Maps
set_option linter.unusedVariables false

set_option maxRecDepth 100000 in
theorem swPlainRows (w : World) (n : Nat) (l : List (Int × Int × Int)) (od : List Nat) (A O : Option Addr) (ml cl mo co : Nat)
    (hn : n ≤ 100) (hgl : GOk n l) (hod : ∀ i ∈ od, i < l.length) (hA : Rd w A ml 3 (ecs l)) (hml : l.length = ml) (hml2 : ml ≤ 900) (hO : Rd w O mo 1 (nvs od)) (hmo : od.length = mo) (hmo2 : mo ≤ 900) :
    Calls Try.prog 11 #[.int .i64 (n : Int), .slice A ml cl, .slice O mo co] w
      fun e w' => ∃ V, e = .returned (.tuple #[V, .int .i64 0]) ∧ w'.ownsRow w.heap.size 37 3 V (mo + 1) (rws n (esO l od) (mo + 1)) ∧ Below w.heap.size w w' := by
  have HC := hide fun w1 q t f h => swCollect w w1 q t f n l od A O ml cl mo co hn hgl hod hA hml hml2 hO hmo hmo2 h
  clear hgl hod hA hml hO hmo
  go_enter Try.func11, Try.ntmps11
  go_wp2_with fail
  refine (talEven w n hn).mono ?_
  rintro e w1 ⟨q, t, f, rfl, ht, hf, hs⟩
  have hcore : Core q n (esO l od) w w1 0 t f := ⟨ht, Fr.lift (Below.refl _ _) hf (by simp) (Nat.le_refl _), hs⟩
  have HK := hide (HC.out w1 q t f hcore)
  have hsz := hf.size
  clear ht hf hs hcore HC
  go_wp2_with fail
  refine HK.out.mono ?_
  rintro e w2 ⟨V, rfl, ho, hb⟩
  have HO := hide ho
  have HB := hide hb
  clear ho hb HK
  go_wp2_with fail
  go_ret2
  exact ⟨V, rfl, own_base HO.out hsz, HB.out⟩

theorem rdm_no (w : World) (n : Int) (l : List (Int × Int × Int)) (A B : Option Addr) (ml cl md cd : Nat) (hA : Rd w A ml 3 (ecs l)) (hml : l.length = ml) (hm9 : ml ≤ 9223372036854775807) (hE : newE n l ≠ 0) :
    Calls Try.prog 5 #[.int .i64 n, .slice A ml cl, .slice B md cd] w
      fun e w' => e = .returned (.tuple #[.slice none 0 0, .int .i64 (newE n l)]) ∧ Below w.heap.size w w' := by
  have HG := hide (graNew_no w n ml cl A l hA hml hm9 hE)
  clear hA hml hm9
  generalize newE n l = x at *
  go_enter Try.func5, Try.ntmps5
  go_wp2_with fail
  refine HG.out.mono ?_
  rintro e w1 ⟨rfl, hb⟩
  have HB := hide hb
  clear hb
  go_wp2_with fail
  go_ret2
  exact ⟨rfl, HB.out⟩

theorem rdm_short (w : World) (n : Nat) (l : List (Int × Int × Int)) (A B : Option Addr) (ml cl md cd : Nat) (hA : Rd w A ml 3 (ecs l)) (hml : l.length = ml) (hm9 : ml ≤ 1000) (hE : newE n l = 0) (hmd : (md : Int) < (ml : Int) - 1) :
    Calls Try.prog 5 #[.int .i64 n, .slice A ml cl, .slice B md cd] w
      fun e w' => e = .returned (.tuple #[.slice none 0 0, .int .i64 14]) ∧ Below w.heap.size w w' := by
  have HG := hide (graNew_ok w n ml cl A l hA hml hE)
  have h3 : IntKind.i64.wrap ((ml : Int) - 1) = (ml : Int) - 1 := IntWalk.i64_in _ (by omega)
  clear hA hml hm9
  go_enter Try.func5, Try.ntmps5
  go_wp2_with fail
  refine HG.out.mono ?_
  rintro e w1 ⟨p, rfl, -, hb⟩
  have HB := hide hb
  clear hb
  go_wp2_with fail
  go_ret2
  exact ⟨rfl, HB.out⟩

theorem arr_nvs (n : Nat) (f : Nat → Nat) : (arr n f).toList = nvs (prmL n f) := by
  simp [arr, nvs, prmL]
set_option maxRecDepth 100000 in
theorem rdm_ok (w : World) (n : Nat) (l : List (Int × Int × Int)) (ds : List Nat) (A B : Option Addr) (ml cl md cd : Nat) (hn : n ≤ 100) (hA : Rd w A ml 3 (ecs l)) (hml : l.length = ml) (hm9 : ml ≤ 900) (hE : newE n l = 0) (hmd : (ml : Int) - 1 ≤ (md : Int)) (hmd2 : md ≤ 1000)
    (hB : Rd w B md 1 (u6v ds)) (hl : ds.length = md) (hd : ∀ d ∈ ds, d < 18446744073709551616) :
    Calls Try.prog 5 #[.int .i64 n, .slice A ml cl, .slice B md cd] w
      fun e w' => ∃ V, e = .returned (.tuple #[V, .int .i64 0]) ∧ w'.ownsRow w.heap.size 37 3 V (ml + 1) (rws n (esO l (prmL ml (drw ds ml (ml - 1)))) (ml + 1)) ∧ Below w.heap.size w w' := by
  have hgl : GOk n l := by
    unfold newE at hE
    split at hE
    · cases hE
    · exact gErr_ok.1 hE
  have HG := hide (graNew_ok w n ml cl A l hA hml hE)
  have h3 : IntKind.i64.wrap ((ml : Int) - 1) = (ml : Int) - 1 := IntWalk.i64_in _ (by omega)
  have HA := hide hA
  have HML := hide hml
  have HB := hide hB
  have HL := hide hl
  have HD := hide hd
  have HGL := hide hgl
  clear hA hml hE hB hl hd hgl
  go_enter Try.func5, Try.ntmps5
  go_wp2_with fail
  refine HG.out.mono ?_
  rintro e w1 ⟨p, rfl, -, hb⟩
  have HB1 := hide hb
  clear hb
  go_wp2_with fail
  refine (shDraw w1 ml md cd B ds (by omega) hmd hmd2 (HB.out.below HB1.out) HL.out HD.out).mono ?_
  rintro e w2 ⟨g, rfl, hg, hgs, hf⟩
  have hb2 : Below w.heap.size w w2 := Fr.lift HB1.out hf (by simp) HB1.out.size
  have hpr := drw_prm ds ml (ml - 1) (by omega)
  have hrd : Rd w2 (some ⟨g, 0, none⟩) ml 1 (nvs (prmL ml (drw ds ml (ml - 1)))) := by
    rw [← arr_nvs]; exact hg.rd ml 1 (by simp [arr_size])
  have HP := hide (swPlainRows w2 n l (prmL ml (drw ds ml (ml - 1))) A (some ⟨g, 0, none⟩) ml cl ml ml hn HGL.out (fun i hi => by rw [HML.out]; exact prmL_lt hpr i hi) (HA.out.below hb2) HML.out hm9 hrd (by simp [prmL]) hm9)
  have HB2 := hide hb2
  clear hg hgs hf hb2 hpr hrd
  go_wp2_with fail
  refine HP.out.mono ?_
  rintro e w3 ⟨V, rfl, ho, hb⟩
  have HO := hide ho
  have HB3 := hide hb
  clear ho hb
  go_wp2_with fail
  go_ret2
  exact ⟨V, rfl, own_base HO.out HB2.out.size, HB2.out.trans (HB3.out.mono HB2.out.size)⟩

/-! ### The example -/
theorem mapLaw : Keyed Try.prog 3 := int_keyed Try.underlying3
theorem mapZero (w : World) : (zeroValue 3).run Try.prog w = .ok (.int .i64 0) w := by kernel_rfl
set_option maxRecDepth 100000 in
theorem isOrder_one (w : World) (b o c : Nat) (cO : w.cell? ⟨b, o, none⟩ = some (.int .i64 0)) :
    Calls Try.prog 16 #[.int .i64 1, .slice (some ⟨b, o, none⟩) 1 c] w fun e w' => e = .returned (.bool true) ∧ Below w.heap.size w w' := by
  have hbl : b < w.heap.size := by
    rcases Nat.lt_or_ge b w.heap.size with h | h
    · exact h
    · simp [World.cell?, Array.getElem?_eq_none h] at cO
  have hmm : ∀ w : World, (Instr.makeMap 64 (some (.int .i64 1))).run Try.prog w = .ok (.map (some w.heap.size)) (w.alloc (.map #[] 0)) := fun w => by
    simp [Instr.makeMap, asInt, asIntOf]
    try rfl
  go_enter Try.func16, Try.ntmps16
  go_wp2
  refine wp_loop_rounds 2 ?_
  rw [rounds_succ]
  have hown : (w.alloc (.map #[] 0)).ownsMap Try.prog 3 (plainElem (H := Unit) Try.prog 3) w.heap.size 0 (.map []) := World.ownsMap_made _ _ _ _
  have cO1 : (w.alloc (.map #[] 0)).cell? ⟨b, o, none⟩ = some (.int .i64 0) := ((World.cell?_of_block (Below.heap_alloc w _ b hbl)).trans cO)
  obtain ⟨c0, hrun, hat, hwc⟩ := hown.lookup_int mapLaw Try.underlying64 Try.underlying3 (mapZero _) (keyOf_int_mk Try.underlying3 (q := .i64) (a := 0) (by decide))
  have hc0 : c0 = 0 := by simpa [DataW.atKey, eq_comm] using hat
  subst hc0
  go_wp2_with (first
      | (at_mapUpdate; refine wpList_mapUpdate_own _ rfl _ _ _ 64 rfl 3 3 mapLaw Try.underlying64 _ w.heap.size 0 _ rfl hown (by unfold maxLen; omega) _ _ _ rfl rfl (keyOf_int_mk Try.underlying3 (by decide)) _ [] (plainElem_int Try.underlying3 (by decide)) ?_; intro w1 hown1 hgrow1)
      | go_in)
  rw [rounds_succ]
  clear hown hown1 hat hrun hmm cO1 cO
  go_wp2_with fail
  go_ret
  exact ⟨rfl, ((Below.refl _ _).alloc (Nat.le_refl _) _).grown hgrow1 (by simp) (fun j hj => by cases hj; exact Nat.le_refl _)⟩

set_option maxRecDepth 100000 in
theorem rows_one (w : World) (A O : Option Addr) (hA : Rd w A 1 3 (ecs [(0, 1, 0)])) (hO : Rd w O 1 1 (nvs [0])) :
    Calls Try.prog 10 #[.int .i64 2, .slice A 1 1, .slice O 1 1] w
      fun e w' => ∃ V, e = .returned (.tuple #[V, .int .i64 0]) ∧ w'.ownsRow w.heap.size 37 3 V 2 (rws 2 (esO [(0, 1, 0)] [0]) 2) ∧ Below w.heap.size w w' := by
  have HG := hide (graNew_ok w 2 1 1 A [(0, 1, 0)] hA rfl (by decide))
  obtain ⟨b, o, rfl, hb, cO⟩ := hO.ntv 0 (by decide) rfl
  have HA := hide hA
  have HO := hide hO
  clear hA hO
  go_enter Try.func10, Try.ntmps10
  go_wp2_with fail
  refine HG.out.mono ?_
  rintro e w1 ⟨p, rfl, -, hb1⟩
  have HB1 := hide hb1
  have HI := hide (isOrder_one w1 b o 1 ((hb1.cell hb).trans cO))
  clear hb1 cO
  go_wp2_with fail
  refine HI.out.mono ?_
  rintro e w2 ⟨rfl, hb2⟩
  have HB2 := hide (HB1.out.trans (hb2.mono HB1.out.size))
  have HP := hide (swPlainRows w2 2 [(0, 1, 0)] [0] A (some ⟨b, o, none⟩) 1 1 1 1 (by omega) (by unfold GOk; decide) (by decide) (HA.out.below HB2.out) rfl (by omega) (HO.out.below HB2.out) rfl (by omega))
  clear hb2
  go_wp2_with fail
  refine HP.out.mono ?_
  rintro e w3 ⟨V, rfl, ho, hb3⟩
  have HOW := hide ho
  have HB3 := hide hb3
  clear ho hb3
  go_wp2_with fail
  go_ret2
  exact ⟨V, rfl, own_base HOW.out HB2.out.size, HB2.out.trans (HB3.out.mono HB2.out.size)⟩
theorem rws_one : rws 2 (esO [(0, 1, 0)] [0]) 2 = [.int .i64 1, .int .i64 2, .int .i64 2, .int .i64 2, .int .i64 1, .int .i64 4] := by rfl
end Go.Proofs.Ytoomcgmbaogjbaa
