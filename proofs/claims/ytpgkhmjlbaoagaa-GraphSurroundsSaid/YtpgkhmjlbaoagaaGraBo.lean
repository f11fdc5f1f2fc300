/- seepagelaw13: Small, both. -/
import Derived.Test.YtpgkhmjlbaoagaaGraEq
import Derived.Test.YtpgkhmjlbaoagaaR13E
namespace Go.Proofs.Ytpgkhmjlbaoagaa
open Go.RowKit
set_option linter.unusedVariables false

def smallG (n : Int) (m : Nat) : Bool := decide ((n ≤ 60 ∨ 4096 < n) ∧ m ≤ 150)
theorem small13 (n : Int) (A : Option Addr) (m c : Nat) (hm : m ≤ 9223372036854775807) (W : World) :
    Calls Try.prog 12 #[.int .i64 n, .slice A m c] W fun e W' => e = .returned (.bool (smallG n m)) ∧ W = W' := by
  by_cases h0 : n ≤ 60
  · go_enter Try.func12, Try.ntmps12
    go_wp2_with fail
    go_ret
    exact ⟨ret_bool (by simp [smallG, h0]; omega), rfl⟩
  · by_cases h1 : 4096 < n
    · go_enter Try.func12, Try.ntmps12
      go_wp2_with fail
      go_ret
      exact ⟨ret_bool (by simp [smallG, h1]; omega), rfl⟩
    · have E : Hid (smallG n m = false) := by show _ = _; simp [smallG]; omega
      go_enter Try.func12, Try.ntmps12
      go_wp2_with fail
      go_ret
      exact ⟨ret_bool E.out.symm, rfl⟩
theorem RG.fr {w w' : World} {g : Nat} {A : Option Addr} {c n B : Nat} {l : List (Int × Int × Int)} {F : List Nat} (h : RG w g A c n B l) (k : Fr F w w') (hF : ∀ b ∈ F, b < B) (hg : g ∉ F) : RG w' g A c n B l :=
  ⟨h.hg.fr k hg, own_fr h.ho k (fun b hb hm => by have := (h.ho.lt b hb).1; have := hF b hm; omega), h.ok, h.nb, h.lb⟩

theorem own_rd13 {w : World} {B : Nat} {E : TypeId} {A : Option Addr} {n c sz : Nat} {xs : List Value} (h : w.ownsRow B E sz (.slice A n c) n xs) : Rd w A n sz xs := by
  obtain ⟨A', c', e, hr, _, _⟩ := own_form h
  injection e with e1 _ _
  subst e1; exact hr
theorem own_pos {w : World} {B : Nat} {E : TypeId} {A : Option Addr} {n c sz : Nat} {xs : List Value} (h : w.ownsRow B E sz (.slice A n c) n xs) (hn : 0 < n) : ∃ g, A = some ⟨g, 0, none⟩ ∧ B ≤ g ∧ g < w.heap.size := by
  rcases h.2 with ⟨e, h0⟩ | ⟨g, cap, cur, e, hb, hh, _⟩
  · omega
  · injection e with e1 _ _
    exact ⟨g, e1, hb, (Array.getElem?_eq_some_iff.1 hh).1⟩
theorem results_tmp4 {fn : Func} {t u v z : Tmp} (h : fn.results = #[.tmp t, .tmp u, .tmp v, .tmp z]) (tmps : Array Value) (P : Program) (w : World) :
    (results fn tmps).run P w = .ok (.tuple #[tmps.getD t undef, tmps.getD u undef, tmps.getD v undef, tmps.getD z undef]) w := by
  simp [results, h]
theorem ret_t4 {a b : Value} {x y x' y' : Bool} (h : x = x') (k : y = y') : Ending.returned (.tuple #[a, b, .bool x, .bool y]) = .returned (.tuple #[a, b, .bool x', .bool y']) := by rw [h, k]
set_option maxRecDepth 100000 in
set_option maxHeartbeats 8000000 in
theorem both_ok (w : World) (n m c : Nat) (A : Option Addr) (l : List (Int × Int × Int)) (hr : Rd w A m 3 (ecs l)) (ll : l.length = m) (hm : m ≤ 150) (hE : newE (n : Int) l = 0) :
    Calls Try.prog 14 #[.int .i64 (n : Int), .slice A m c] w
      fun e w' => ∃ (p : GLoc) (B g' : Nat) (A' : Option Addr) (c' B' : Nat), e = .returned (.tuple #[.pointer (some ⟨p.g, 0, none⟩), .pointer (some ⟨g', 0, none⟩), .bool true, .bool true]) ∧ Gr w' p n B l ∧ RG w' g' A' c' n B' l ∧ Below w.heap.size w w' := by
  have hr2 := hide (hr.alloc (.cells #[] 48))
  have HR := hide hr
  have HLL := hide ll
  have HE := hide hE
  have ho := hide ((World.ownsRow_made (e := 48) (size := 3) (base := w.heap.size) w #[] 0 (Nat.le_refl _) (by simp [maxLen]) rfl))
  obtain ⟨i0, hi, hz0, hz1, hz2⟩ := info_parts edge_info
  have hi' := hide hi
  have hz0' := hide hz0
  have hz1' := hide hz1
  have hz2' := hide hz2
  clear hi hz0 hz1 hz2 hr ll hE
  go_enter Try.func14, Try.ntmps14
  go_wp2_with (first | (at_builtin; (refine app_any2 22 48 Try.underlying22 hi'.out hz0'.out hz1'.out hz2'.out rfl (by decide) _ A m c (ecs l) hr2.out (ecs_oneCell l) rfl _ _ rfl w.heap.size _ 0 [] rfl ho.out rfl (by unfold maxLen; omega) (by omega) (by simp) ?_; intro v' w1 hown hgr hat hnn hbel; simp only [Nat.zero_add, List.nil_append] at hown; obtain ⟨A5, c5, hv5, -⟩ := own_form hown; subst hv5; have HO5 := hide hown; have HBE := hide hbel; clear hown hgr hat hnn hbel)))
  have HB1 : Hid (Below w.heap.size w w1) := ((Below.refl _ w).alloc (Nat.le_refl _) _).trans HBE.out
  have HN := hide (graNew_ok w1 n m c5 A5 l (own_rd13 HO5.out) HLL.out HE.out)
  refine HN.out.mono ?_
  rintro e w2 ⟨p, rfl, hG, hb2⟩
  have HG := hide hG
  have HB2 := hide (HB1.out.trans (hb2.mono HB1.out.size))
  have HO2 := hide (own_below HO5.out hb2)
  have HS2 := hide hb2.size
  have HR2 := hide (r13New_ok w2 n m c A l (HR.out.below HB2.out) HLL.out HE.out)
  clear hG hb2 HN HBE
  go_wp2_with fail
  refine HR2.out.mono ?_
  rintro e w3 ⟨g', A', c', rfl, hRG, hb3⟩
  have HRG := hide hRG
  have HB3 := hide (HB2.out.trans (hb3.mono HB2.out.size))
  have HG3 := hide (HG.out.fresh hb3)
  have HO3 := hide (own_below HO2.out hb3)
  have HED := hide (edges_true A5 A m c5 c l w3 (own_rd13 HO3.out) (HR.out.below HB3.out) HLL.out (by omega))
  have HGF := hide (show w2.heap.size ≤ w3.heap.size from hb3.size)
  clear hRG hb3 HR2
  go_wp2_with fail
  refine HED.out.mono ?_
  rintro e w4 ⟨rfl, k4, rfl⟩
  have HG4 := hide (HG3.out.drewN k4)
  have HRG4 := hide (HRG.out.drewN k4)
  have HB4 := hide (HB3.out.drewN k4)
  have HO4 := hide (own_below HO3.out ((Below.refl _ w3).drewN k4))
  clear HED
  go_wp2_with fail
  go_loopg [14] m (fun q v wr => ∃ (k : Nat) (ys : List Value), k + q = m ∧ v = .int .i64 (k : Int) ∧ wr.ownsRow w.heap.size 48 3 (.slice A5 m c5) m ys ∧ Gr wr p n w1.heap.size l ∧ RG wr g' A' c' n w2.heap.size l ∧ Below w.heap.size w wr)
  case atStart => exact ⟨0, _, by omega, rfl, HO4.out, HG4.out, HRG4.out, HB4.out⟩
  case round =>
    obtain ⟨k, ys, hk, rfl, hO, hG, hRG, hB⟩ := hrel
    have HK := hide hk
    have hkm : k ≤ m := by omega
    clear hk
    by_cases hlt : k < m
    · obtain ⟨b1, rfl, hb1, hb1l⟩ := own_pos hO (by omega)
      have hb5 := (HO5.out.lt b1 rfl).2
      have hyl : ys.length = m * 3 := hO.1
      obtain ⟨y0, hy0⟩ : ∃ y, ys[k * 3]? = some y := ⟨_, List.getElem?_eq_getElem (by omega)⟩
      obtain ⟨y1, hy1⟩ : ∃ y, ys[k * 3 + 1]? = some y := ⟨_, List.getElem?_eq_getElem (by omega)⟩
      obtain ⟨y2, hy2⟩ : ∃ y, ys[k * 3 + 2]? = some y := ⟨_, List.getElem?_eq_getElem (by omega)⟩
      have d0 := own_cell hO _ _ hy0
      have d1 := own_cell hO _ _ hy1
      have d2 := own_cell hO _ _ hy2
      have f0 := own_frozen hO (k * 3)
      have f1 := own_frozen hO (k * 3 + 1)
      have f2 := own_frozen hO (k * 3 + 2)
      have HO := hide hO
      have HG := hide hG
      have HRG := hide hRG
      have HB := hide hB
      clear hO hG hRG hB hyl hy0 hy1 hy2
      go_wp2_with fail
      have HF : Hid (Fr [b1] wr (((wr.setCell ⟨b1, k * 3, none⟩ (.int .i64 0)).setCell ⟨b1, k * 3 + 1, none⟩ (.int .i64 0)).setCell ⟨b1, k * 3 + 2, none⟩ (.int .i64 0))) :=
        (((Fr.refl [b1] wr).setCell (p := ⟨b1, k * 3, none⟩) (.inl (by simp)) _).setCell (p := ⟨b1, k * 3 + 1, none⟩) (.inl (by simp)) _).setCell (p := ⟨b1, k * 3 + 2, none⟩) (.inl (by simp)) _
      go_roundg (m - (k + 1))
      case measure => have := HK.out; omega
      case rel =>
        have hyl : ys.length = m * 3 := HO.out.1
        have hs2 := HS2.out
        refine ⟨k + 1, _, by omega, by go_num, own_set (own_set (own_set HO.out (k * 3) (.int .i64 0) (by omega)) (k * 3 + 1) (.int .i64 0) (by omega)) (k * 3 + 2) (.int .i64 0) (by omega), HG.out.fr HF.out (by simpa using hb5), HRG.out.fr HF.out (by simp; omega) ?_, HB.out.trans (HF.out.below (by simpa using hb1) HB.out.size)⟩
        have hnb := own_notBlk HO.out HRG.out.hg (by decide)
        simp [Value.ownBlock] at hnb
        simp; omega
    · obtain rfl : k = m := by omega
      have HG := hide hG
      have HRG := hide hRG
      have HB := hide hB
      clear hO hG hRG hB
      go_wp2_with fail
      refine bodyPost_ret (results_tmp4 rfl _ _ _) rfl ?_
      exact ⟨p, _, g', A', c', _, rfl, HG.out, HRG.out, HB.out⟩
theorem both_no (w : World) (n : Int) (m c : Nat) (A : Option Addr) (l : List (Int × Int × Int)) (hr : Rd w A m 3 (ecs l)) (ll : l.length = m) (hm : m ≤ 150) (hE : newE n l ≠ 0) :
    Calls Try.prog 14 #[.int .i64 n, .slice A m c] w
      fun e w' => e = .returned (.tuple #[.pointer none, .pointer none, .bool false, .bool true]) ∧ Below w.heap.size w w' := by
  have hr2 := hide (hr.alloc (.cells #[] 48))
  have HR := hide hr
  have HLL := hide ll
  have HE := hide hE
  have ho := hide ((World.ownsRow_made (e := 48) (size := 3) (base := w.heap.size) w #[] 0 (Nat.le_refl _) (by simp [maxLen]) rfl))
  obtain ⟨i0, hi, hz0, hz1, hz2⟩ := info_parts edge_info
  have hi' := hide hi
  have hz0' := hide hz0
  have hz1' := hide hz1
  have hz2' := hide hz2
  clear hi hz0 hz1 hz2 hr ll hE
  go_enter Try.func14, Try.ntmps14
  go_wp2_with (first | (at_builtin; (refine app_any2 22 48 Try.underlying22 hi'.out hz0'.out hz1'.out hz2'.out rfl (by decide) _ A m c (ecs l) hr2.out (ecs_oneCell l) rfl _ _ rfl w.heap.size _ 0 [] rfl ho.out rfl (by unfold maxLen; omega) (by omega) (by simp) ?_; intro v' w1 hown hgr hat hnn hbel; simp only [Nat.zero_add, List.nil_append] at hown; obtain ⟨A5, c5, hv5, -⟩ := own_form hown; subst hv5; have HO5 := hide hown; have HBE := hide hbel; clear hown hgr hat hnn hbel)))
  have HB1 : Hid (Below w.heap.size w w1) := ((Below.refl _ w).alloc (Nat.le_refl _) _).trans HBE.out
  have HN := hide (graNew_no w1 n m c5 A5 l (own_rd13 HO5.out) HLL.out (by omega) HE.out)
  refine HN.out.mono ?_
  rintro e w2 ⟨rfl, hb2⟩
  have HB2 := hide (HB1.out.trans (hb2.mono HB1.out.size))
  have HO2 := hide (own_below HO5.out hb2)
  have HR2 := hide (r13New_no w2 n m c A l (HR.out.below HB2.out) HLL.out (by omega) HE.out)
  clear hb2 HN HBE
  generalize newE n l = E at *
  go_wp2_with fail
  refine HR2.out.mono ?_
  rintro e w3 ⟨rfl, hb3⟩
  have HB3 := hide (HB2.out.trans (hb3.mono HB2.out.size))
  have HO3 := hide (own_below HO2.out hb3)
  have HED := hide (edges_true A5 A m c5 c l w3 (own_rd13 HO3.out) (HR.out.below HB3.out) HLL.out (by omega))
  clear hb3 HR2
  go_wp2_with fail
  refine HED.out.mono ?_
  rintro e w4 ⟨rfl, k4, rfl⟩
  have HB4 := hide (HB3.out.drewN k4)
  have HO4 := hide (own_below HO3.out ((Below.refl _ w3).drewN k4))
  clear HED
  go_wp2_with fail
  go_loopg [14] m (fun q v wr => ∃ (k : Nat) (ys : List Value), k + q = m ∧ v = .int .i64 (k : Int) ∧ wr.ownsRow w.heap.size 48 3 (.slice A5 m c5) m ys ∧ Below w.heap.size w wr)
  case atStart => exact ⟨0, _, by omega, rfl, HO4.out, HB4.out⟩
  case round =>
    obtain ⟨k, ys, hk, rfl, hO, hB⟩ := hrel
    have HK := hide hk
    have hkm : k ≤ m := by omega
    clear hk
    by_cases hlt : k < m
    · obtain ⟨b1, rfl, hb1, hb1l⟩ := own_pos hO (by omega)
      have hyl : ys.length = m * 3 := hO.1
      obtain ⟨y0, hy0⟩ : ∃ y, ys[k * 3]? = some y := ⟨_, List.getElem?_eq_getElem (by omega)⟩
      obtain ⟨y1, hy1⟩ : ∃ y, ys[k * 3 + 1]? = some y := ⟨_, List.getElem?_eq_getElem (by omega)⟩
      obtain ⟨y2, hy2⟩ : ∃ y, ys[k * 3 + 2]? = some y := ⟨_, List.getElem?_eq_getElem (by omega)⟩
      have d0 := own_cell hO _ _ hy0
      have d1 := own_cell hO _ _ hy1
      have d2 := own_cell hO _ _ hy2
      have f0 := own_frozen hO (k * 3)
      have f1 := own_frozen hO (k * 3 + 1)
      have f2 := own_frozen hO (k * 3 + 2)
      have HO := hide hO
      have HB := hide hB
      clear hO hB hyl hy0 hy1 hy2
      go_wp2_with fail
      have HF : Hid (Fr [b1] wr (((wr.setCell ⟨b1, k * 3, none⟩ (.int .i64 0)).setCell ⟨b1, k * 3 + 1, none⟩ (.int .i64 0)).setCell ⟨b1, k * 3 + 2, none⟩ (.int .i64 0))) :=
        (((Fr.refl [b1] wr).setCell (p := ⟨b1, k * 3, none⟩) (.inl (by simp)) _).setCell (p := ⟨b1, k * 3 + 1, none⟩) (.inl (by simp)) _).setCell (p := ⟨b1, k * 3 + 2, none⟩) (.inl (by simp)) _
      go_roundg (m - (k + 1))
      case measure => have := HK.out; omega
      case rel =>
        have hyl : ys.length = m * 3 := HO.out.1
        exact ⟨k + 1, _, by omega, by go_num, own_set (own_set (own_set HO.out (k * 3) (.int .i64 0) (by omega)) (k * 3 + 1) (.int .i64 0) (by omega)) (k * 3 + 2) (.int .i64 0) (by omega), HB.out.trans (HF.out.below (by simpa using hb1) HB.out.size)⟩
    · obtain rfl : k = m := by omega
      have HB := hide hB
      clear hO hB
      go_wp2_with fail
      refine bodyPost_ret (results_tmp4 rfl _ _ _) rfl ?_
      exact ⟨rfl, HB.out⟩
end Go.Proofs.Ytpgkhmjlbaoagaa
