/- The walk of TopSweeps. -/
import Derived.Test.YtoomcgmbaogjbaaTopWk
import Derived.Test.YtoomcgmbaogjbaaOpenE0
namespace Go.Proofs.Ytoomcgmbaogjbaa
open Go.RowKit
set_option linter.unusedVariables false

theorem ints_u64 {W : World} {v : Value} {l : List Int} (h : IsInts .u64 W v l) : ∃ (A : Option Addr) (n c : Nat) (ds : List Nat), v = .slice A n c ∧ n ≤ maxLen ∧ ds.length = n ∧ (∀ d ∈ ds, d < 18446744073709551616) ∧ Rd W A n 1 (u6v ds) := by
  obtain ⟨A, n, c, hv, hn, hl, ha, hr⟩ := h
  have hb : ∀ a ∈ l, 0 ≤ a ∧ a < 18446744073709551616 := fun a h => by have := ha a h; have e1 : IntKind.u64.max = 18446744073709551615 := rfl; have e2 : IntKind.u64.min = 0 := rfl; simp [Lit.wf] at this; omega
  refine ⟨A, n, c, l.map Int.toNat, hv, hn, by simpa using hl, fun a h => ?_, ?_⟩
  · obtain ⟨x, hx, rfl⟩ := List.mem_map.1 h
    have := hb x hx
    omega
  · have : u6v (l.map Int.toNat) = l.map (Value.int .u64) := by
      unfold u6v
      rw [List.map_map]
      refine List.map_congr_left fun a h => ?_
      have := hb a h
      show Value.int .u64 ((a.toNat : Nat) : Int) = _
      rw [show ((a.toNat : Nat) : Int) = a by omega]
    rw [this]; exact hr

set_option maxRecDepth 100000 in
theorem top_big (n : Int) (A B : Option Addr) (ml cl md cd : Nat) (W : World) (h : 30 < n ∨ 60 < ml ∨ 100 < md) :
    Calls Try.prog 3 #[.int .i64 n, .slice A ml cl, .slice B md cd] W fun e W' => e = .returned (.bool true) ∧ Below W.heap.size W W' := by
  go_enter Try.func3, Try.ntmps3
  by_cases h1 : 30 < n
  · go_wp2_with fail
    refine (works27_true _).mono ?_
    rintro e w1 ⟨rfl, hb⟩
    have HB := hide hb
    clear hb
    go_wp2_with fail
    go_ret
    exact ⟨rfl, HB.out⟩
  · by_cases h2 : 60 < (ml : Int)
    · clear h
      go_wp2_with fail
      refine (works27_true _).mono ?_
      rintro e w1 ⟨rfl, hb⟩
      have HB := hide hb
      clear hb
      go_wp2_with fail
      go_ret
      exact ⟨rfl, HB.out⟩
    · have h3 : 100 < (md : Int) := by omega
      clear h
      go_wp2_with fail
      refine (works27_true _).mono ?_
      rintro e w1 ⟨rfl, hb⟩
      have HB := hide hb
      clear hb
      go_wp2_with fail
      go_ret
      exact ⟨rfl, HB.out⟩

set_option maxRecDepth 100000 in
theorem top_err (n : Int) (A B : Option Addr) (ml cl md cd : Nat) (W : World) (h1 : n ≤ 30) (h2 : ml ≤ 60) (h3 : md ≤ 100) (e : Int) (he : e ≠ 0)
    (hr : Calls Try.prog 5 #[.int .i64 n, .slice A ml cl, .slice B md cd] W fun r w' => r = .returned (.tuple #[.slice none 0 0, .int .i64 e]) ∧ Below W.heap.size W w') :
    Calls Try.prog 3 #[.int .i64 n, .slice A ml cl, .slice B md cd] W fun e W' => e = .returned (.bool true) ∧ Below W.heap.size W W' := by
  have HR := hide hr
  clear hr
  have k2 : (ml : Int) ≤ 60 := by omega
  have k3 : (md : Int) ≤ 100 := by omega
  go_enter Try.func3, Try.ntmps3
  go_wp2_with fail
  refine HR.out.mono ?_
  rintro r w1 ⟨rfl, hb⟩
  have HB := hide hb
  clear hb
  go_wp2_with fail
  refine (works27_true _).mono ?_
  rintro e w2 ⟨rfl, hb2⟩
  have HB2 := hide hb2
  clear hb2
  go_wp2_with fail
  go_ret
  exact ⟨rfl, HB.out.trans (HB2.out.mono HB.out.size)⟩

set_option maxRecDepth 100000 in
set_option maxHeartbeats 16000000 in
theorem top_ok (n : Nat) (A B : Option Addr) (ml cl md cd : Nat) (l : List (Int × Int × Int)) (ds : List Nat) (W : World) (hn : n ≤ 30) (hA : Rd W A ml 3 (ecs l)) (hml : l.length = ml) (hm9 : ml ≤ 60) (hE : newE n l = 0) (hmd : (ml : Int) - 1 ≤ (md : Int)) (hmd2 : md ≤ 100)
    (hB : Rd W B md 1 (u6v ds)) (hl : ds.length = md) (hd : ∀ d ∈ ds, d < 18446744073709551616) :
    Calls Try.prog 3 #[.int .i64 (n : Int), .slice A ml cl, .slice B md cd] W fun e W' => e = .returned (.bool true) ∧ Below W.heap.size W W' := by
  have hgl : GOk n l := by
    unfold newE at hE
    split at hE
    · cases hE
    · exact gErr_ok.1 hE
  have HR := hide (rdm_ok W n l ds A B ml cl md cd (by omega) hA hml (by omega) hE hmd (by omega) hB hl hd)
  have HD := hide fun w hw => shDraw w ml md cd B ds (by omega) hmd (by omega) hw hl hd
  have hpr := drw_prm ds ml (ml - 1) (by omega)
  have hon := drw_onto ds ml (ml - 1) (by omega)
  have HG := hide fun w h => graNew_ok w n ml cl A l h hml hE
  have hlast : gRow n (gLb n (esO l (prmL ml (drw ds ml (ml - 1))))) = gRow n (gLb n l) := by
    subst hml
    exact gRow_perm hpr hon
  have HLAST := hide hlast
  have HPR := hide hpr
  generalize hF : drw ds ml (ml - 1) = F at *
  clear hon hlast hpr hF
  have HA := hide hA
  have HB := hide hB
  have HML := hide hml
  have HGL := hide hgl
  have k1 : (n : Int) ≤ 30 := by omega
  have k2 : (ml : Int) ≤ 60 := by omega
  have k3 : (md : Int) ≤ 100 := by omega
  have w1 : IntKind.i64.wrap ((ml : Int) + 1) = (ml : Int) + 1 := IntWalk.i64_in _ (by omega)
  clear hA hB hl hd hE hml hgl hmd
  go_enter Try.func3, Try.ntmps3
  go_wp2_with fail
  refine HR.out.mono ?_
  rintro r w1 ⟨V, rfl, ho, hb⟩
  obtain ⟨b, c, rfl, hbl, -⟩ := rws_cell ho (by omega)
  have HO := hide ho
  have HB1 := hide hb
  clear ho hb hbl
  go_wp2_with fail
  refine (HD.out w1 (HB.out.below HB1.out)).mono ?_
  rintro r w2 ⟨g, rfl, hg, hgs, hf⟩
  have HB2 := hide (Fr.lift HB1.out hf (by simp) HB1.out.size)
  have HO2 := hide (own_fr HO.out hf (by simp))
  have HGB := hide hg
  have HC := hide (shCheck w2 ml ml g F (by omega) hg HPR.out)
  clear hg hf
  go_wp2_with fail
  refine HC.out.mono ?_
  rintro r w3 ⟨rfl, hb3⟩
  have HB3 := hide (HB2.out.trans (hb3.mono HB2.out.size))
  have HO3 := hide (own_fr HO2.out (Fr.of_below [] hb3) (by simp))
  have HGB3 := hide (HGB.out.fr (Fr.of_below [] hb3) (by simp))
  clear hb3
  go_wp2_with fail
  have hlE : (esO l (prmL ml F)).length = ml := by simp [esO, prmL]
  have hgE : GOk n (esO l (prmL ml F)) := HGL.out.esO fun i hi => by rw [HML.out]; exact prmL_lt HPR.out i hi
  have heE : ∀ k, k < ml → (esO l (prmL ml F))[k]? = l[F k]? := fun k h => by
    have := HPR.out.1 k h
    have h2 : F k < l.length := by rw [HML.out]; exact this
    simp [esO, prmL, h, List.getElem?_eq_getElem h2]
  generalize esO l (prmL ml F) = es at *
  have HLE := hide hlE
  have HGE := hide hgE
  have HEE := hide heE
  clear hlE hgE heE HR HD HB HO HO2 HGB HB1 HB2 HC
  go_loopg [11, 10] (ml + 1) (fun gh s s1 wr => ∃ k, k + gh = ml + 1 ∧ s = .int .i64 (k : Int) ∧ OwnE wr w3.heap.size s1 (es.take k) ∧ Below w3.heap.size w3 wr)
  case atStart => exact ⟨0, by omega, rfl, by simpa using OwnE.nil _ _, Below.refl _ _⟩
  case round =>
    obtain ⟨k, hk, rfl, how, hbe⟩ := hrel
    have HK := hide hk
    have HBE := hide hbe
    have HOW := hide how
    by_cases hlt : k ≤ ml
    · obtain ⟨A1, c1, rfl, hrd⟩ := how.form
      have hlk : (es.take k).length = k := by rw [List.length_take, HLE.out]; omega
      have hne : newE (n : Int) (es.take k) = 0 := by
        unfold newE
        rw [if_neg (by rw [hlk]; omega)]
        exact gErr_ok.2 fun e he => HGE.out e (List.mem_of_mem_take he)
      rw [hlk] at hrd
      have HN := hide (graNew_ok wr n k c1 A1 (es.take k) hrd hlk hne)
      rw [hlk] at HOW ⊢
      clear hk hbe how hne hrd
      go_wp2_with fail
      refine HN.out.mono ?_
      rintro r w4 ⟨p, rfl, hg4, hb4⟩
      have HB4 := hide hb4
      have HG4 := hide hg4
      have hbw3 := (HO3.out.lt b rfl).2
      have hbw4 : b < w4.heap.size := by have := HBE.out.size; have := hb4.size; omega
      obtain ⟨b', c', e', -, hc'⟩ := rws_cell (own_fr (own_fr HO3.out (Fr.of_below [] (HBE.out.mono (Nat.le_refl _))) (by simp)) (Fr.of_below [] hb4) (by simp)) (by omega)
      have eb : b = b' := by
        injection e' with e1 e2 e3
        injection e1 with e1
        injection e1 with e1
      clear e'
      subst eb
      obtain ⟨r0, r1, r2⟩ := hc' k (by omega)
      have hrow := row_neq (lrg n (gLb n (es.take k))) (sets n (gLb n (es.take k))) (sq n (gLb n (es.take k)))
      have HROW := hide fun j => graRow (w4.drewN j) p n wr.heap.size (es.take k) (hg4.drewN j)
      unfold gRow at HROW
      have hki : (k : Int) < (ml : Int) + 1 := by omega
      have hki2 : (k : Int) < ((ml + 1 : Nat) : Int) := by omega
      have hki3 : (0 : Int) ≤ (k : Int) := by omega
      clear hg4 hb4 hbw3 hc'
      go_wp2_with fail
      go_region_held3 (fun w' => w'.cell? ⟨b, k * 3, none⟩ = some (.int .i64 (lrg n (gLb n (es.take k)) : Int)) ∧ w'.cell? ⟨b, k * 3 + 1, none⟩ = some (.int .i64 (sets n (gLb n (es.take k)) : Int)) ∧ w'.cell? ⟨b, k * 3 + 2, none⟩ = some (.int .i64 (sq n (gLb n (es.take k)) : Int)))
        (first | exact ⟨r0, r1, r2⟩ | exact ⟨(HB5.out.cell (p := ⟨b, k * 3, none⟩) hbw4).trans r0, (HB5.out.cell (p := ⟨b, k * 3 + 1, none⟩) hbw4).trans r1, (HB5.out.cell (p := ⟨b, k * 3 + 2, none⟩) hbw4).trans r2⟩)
        (first | (go_at_call 9; refine (HROW.out _).mono ?_; rintro r w5 ⟨rfl, hb5⟩; have HB5 := hide hb5; clear hb5))
      have hb5w : Below w3.heap.size w3 w5 := (HBE.out.trans ((HB4.out.mono HBE.out.size).drewN 1)).trans (HB5.out.mono (Nat.le_trans HBE.out.size HB4.out.size))
      have how5 : OwnE w5 w3.heap.size (.slice A1 k c1) (es.take k) := own_fr HOW.out (((Fr.of_below [] HB4.out).drewN 1).trans (Fr.of_below [] HB5.out)) (by simp)
      have HW5 := hide hb5w
      have HO5 := hide how5
      clear HB5 HROW HN HB4 HG4 r0 r1 r2 hrow HOW hb5w how5
      by_cases hlt2 : k < ml
      · have hFk := HPR.out.1 k hlt2
        have cF : w5.cell? ⟨g, k, none⟩ = some (.int .i64 (F k : Int)) := ((HGB3.out.fr (Fr.of_below [] HW5.out) (by simp))).int hlt2
        have hFl : F k < l.length := by rw [HML.out]; exact hFk
        obtain ⟨be, oe, rfl, hbe, e0, e1, e2⟩ := ((HA.out.below HB3.out).below HW5.out).edge (F k) hFl HML.out
        have hek : es[k]? = some l[F k] := by rw [HEE.out k hlt2, List.getElem?_eq_getElem hFl]
        have htk : es.take (k + 1) = es.take k ++ [(l[F k].1, l[F k].2.1, l[F k].2.2)] := by rw [List.take_add_one, hek]; rfl
        have HTK := hide htk
        generalize l[F k].1 = x1 at *
        generalize l[F k].2.1 = x2 at *
        generalize l[F k].2.2 = x3 at *
        have hFi : (F k : Int) < (ml : Int) := by omega
        have hFi0 : (0 : Int) ≤ (F k : Int) := by omega
        generalize F k = y at *
        have hl5 : (es.take k).length ≤ 1000000 := by rw [hlk]; omega
        have hs5 : w3.heap.size ≤ w5.heap.size := HW5.out.size
        clear htk hek hFl hbe
        go_wp2_with (at_builtin; refine app_edge w5 x1 x2 x3 rfl _ _ rfl w3.heap.size (.slice A1 k c1) (es.take k) rfl HO5.out rfl hl5 hs5 ?_; intro v' w6 how6 _ hb6; have HO6 := hide how6; have HB6 := hide hb6; clear how6 hb6)
        go_roundg (ml + 1 - (k + 1))
        case measure => have := HK.out; omega
        case rel => exact ⟨k + 1, by omega, by go_num, by rw [HTK.out]; exact HO6.out, HW5.out.trans HB6.out⟩
      · obtain rfl : k = ml := by omega
        go_wp2_with fail
        go_roundg (k + 1 - (k + 1))
        case measure => have := HK.out; omega
        case rel => exact ⟨k + 1, by omega, by go_num, by
          have := HO5.out
          rw [List.take_of_length_le (by rw [HLE.out]; omega)] at this ⊢
          exact this, HW5.out⟩
    · obtain rfl : k = ml + 1 := by omega
      clear hk how hbe
      have HN := hide (HG.out wr ((HA.out.below HB3.out).below HBE.out))
      have hv := HLAST.out
      unfold gRow at hv
      injection hv with hv
      simp only [Array.mk.injEq, List.cons.injEq, Value.int.injEq, true_and, and_true] at hv
      obtain ⟨v0, v1, v2⟩ := hv
      go_wp2_with fail
      refine HN.out.mono ?_
      rintro r w4 ⟨p, rfl, hg4, hb4⟩
      have HB4 := hide hb4
      have HG4 := hide hg4
      have hbw3 := (HO3.out.lt b rfl).2
      have hbw4 : b < w4.heap.size := by have := HBE.out.size; have := hb4.size; omega
      obtain ⟨b', c', e', -, hc'⟩ := rws_cell (own_fr (own_fr HO3.out (Fr.of_below [] HBE.out) (by simp)) (Fr.of_below [] hb4) (by simp)) (by omega)
      have eb : b = b' := by
        injection e' with e1 e2 e3
        injection e1 with e1
        injection e1 with e1
      clear e'
      subst eb
      obtain ⟨r0, r1, r2⟩ := hc' ml (by omega)
      have htk : es.take ml = es := List.take_of_length_le (by rw [HLE.out]; omega)
      rw [htk, v0] at r0
      rw [htk, v1] at r1
      rw [htk, v2] at r2
      have hrow := row_eql (lrg n (gLb n l)) (sets n (gLb n l)) (sq n (gLb n l))
      have HROW := hide fun j => graRow (w4.drewN j) p n wr.heap.size l (hg4.drewN j)
      unfold gRow at HROW
      have hki : (ml : Int) < (ml : Int) + 1 := by omega
      have hki2 : (ml : Int) < ((ml + 1 : Nat) : Int) := by omega
      have hki3 : (0 : Int) ≤ (ml : Int) := by omega
      clear hg4 hb4 hbw3 hc' htk v0 v1 v2
      go_wp2_with fail
      go_region_held3 (fun w' => w'.cell? ⟨b, ml * 3, none⟩ = some (.int .i64 (lrg n (gLb n l) : Int)) ∧ w'.cell? ⟨b, ml * 3 + 1, none⟩ = some (.int .i64 (sets n (gLb n l) : Int)) ∧ w'.cell? ⟨b, ml * 3 + 2, none⟩ = some (.int .i64 (sq n (gLb n l) : Int)))
        (first | exact ⟨r0, r1, r2⟩ | exact ⟨(HB5.out.cell (p := ⟨b, ml * 3, none⟩) hbw4).trans r0, (HB5.out.cell (p := ⟨b, ml * 3 + 1, none⟩) hbw4).trans r1, (HB5.out.cell (p := ⟨b, ml * 3 + 2, none⟩) hbw4).trans r2⟩ | exact ⟨(HB6.out.cell (p := ⟨b, ml * 3, none⟩) (Nat.lt_of_lt_of_le hbw4 HB5.out.size)).trans ((HB5.out.cell (p := ⟨b, ml * 3, none⟩) hbw4).trans r0), (HB6.out.cell (p := ⟨b, ml * 3 + 1, none⟩) (Nat.lt_of_lt_of_le hbw4 HB5.out.size)).trans ((HB5.out.cell (p := ⟨b, ml * 3 + 1, none⟩) hbw4).trans r1), (HB6.out.cell (p := ⟨b, ml * 3 + 2, none⟩) (Nat.lt_of_lt_of_le hbw4 HB5.out.size)).trans ((HB5.out.cell (p := ⟨b, ml * 3 + 2, none⟩) hbw4).trans r2)⟩)
        (first | (go_at_call 9; refine (HROW.out _).mono ?_; rintro r w5 ⟨rfl, hb5⟩; have HB5 := hide hb5; clear hb5) | (go_at_call 4; refine (works27_true _).mono ?_; rintro r w6 ⟨rfl, hb6⟩; have HB6 := hide hb6; clear hb6))
      go_wp2_with fail
      go_ret
      have hb5w : Below w3.heap.size w3 w5 := (HBE.out.trans ((HB4.out.mono HBE.out.size).drewN 1)).trans (HB5.out.mono (Nat.le_trans HBE.out.size HB4.out.size))
      exact ⟨rfl, HB3.out.trans ((hb5w.trans (HB6.out.mono hb5w.size)).mono HB3.out.size)⟩

theorem topSweeps_walk (a0 : Int) (v1 : Value) (l : List (Int × Int × Int)) (v2 : Value) (ds : List Int) (W : World) (w0 : (Lit.int .i64 a0).wf = true) (w1 : IsEdges W v1 l) (w2 : IsInts .u64 W v2 ds) :
    Calls Try.prog 3 #[.int .i64 a0, v1, v2] W fun e W' => e = .returned (.bool true) ∧ Below W.heap.size W W' := by
  obtain ⟨A, ml, cl, rfl, hm, hml, -, hA⟩ := w1
  obtain ⟨B, md, cd, ds', rfl, hmd, hl, hd, hB⟩ := ints_u64 w2
  by_cases hbig : 30 < a0 ∨ 60 < ml ∨ 100 < md
  · exact top_big a0 A B ml cl md cd W hbig
  · by_cases hE : newE a0 l = 0
    · obtain ⟨n, rfl⟩ : ∃ n : Nat, a0 = (n : Int) := ⟨a0.toNat, by
        have : ¬ (a0 < 0 ∨ 4096 < a0 ∨ 16384 < l.length) := fun h => by unfold newE at hE; rw [if_pos h] at hE; cases hE
        omega⟩
      by_cases hs : (md : Int) < (ml : Int) - 1
      · exact top_err _ A B ml cl md cd W (by omega) (by omega) (by omega) 14 (by decide) (rdm_short W n l A B ml cl md cd hA hml (by omega) hE hs)
      · exact top_ok n A B ml cl md cd l ds' W (by omega) hA hml (by omega) hE (by omega) (by omega) hB hl hd
    · exact top_err _ A B ml cl md cd W (by omega) (by omega) (by omega) _ hE (rdm_no W a0 l A B ml cl md cd hA hml (by have : maxLen = 9223372036854775807 := rfl; omega) hE)
end Go.Proofs.Ytoomcgmbaogjbaa
