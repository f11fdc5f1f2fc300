/- The walk of DsuCounts. -/
import Derived.Test.YtiijhppffboogaaDsuGC
namespace Go.Proofs.Ytiijhppffboogaa
open Go.RowKit
set_option linter.unusedVariables false

theorem cnt_full {p : Nat → Bool} {n : Nat} (h : ∀ i, i < n → p i = true) : cnt p n = n := by
  induction n with
  | zero => rfl
  | succ n ih => simp only [cnt]; rw [ih (fun i hi => h i (by omega)), h n (by omega)]; rfl
theorem sum_rts {n : Nat} {L : Nat → Nat} (hl : Lab n L) (k : Nat) : ((rts L k).map (cls n L)).sum = stt n L k := by
  induction k with
  | zero => rw [stt_zero]; rfl
  | succ k ih =>
    rw [stt_succ]
    by_cases e : L k = k
    · rw [rts_succ_in e, List.map_append, List.sum_append, ih]; simp
    · rw [rts_succ_out e, ih, cls_none hl e]; rfl
theorem stt_full {n : Nat} {L : Nat → Nat} (hl : Lab n L) : stt n L n = n := cnt_full fun i hi => by simpa using hl.lt hi
theorem grp_lens (n : Nat) (L : Nat → Nat) : (grp n L).map List.length = (rts L n).map (cls n L) := by
  simp [grp, Function.comp_def, mem_len]
theorem rts_spec {n : Nat} {L : Nat → Nat} {j r : Nat} (h : (rts L n)[j]? = some r) : r < n ∧ L r = r := by
  obtain ⟨a, b, _⟩ := filter_range_get _ _ _ _ h
  exact ⟨a, by simpa using b⟩
theorem mem_first {n : Nat} {L : Nat → Nat} (hl : Lab n L) {r : Nat} (hr : r < n) (he : L r = r) : (mem n L r)[0]? = some r := by
  have h1 : 1 ≤ cls n L r := cnt_pos hr (by simp [he])
  rw [← mem_len] at h1
  obtain ⟨a, b, c⟩ := filter_range_get _ _ _ _ (List.getElem?_eq_getElem h1)
  rw [List.getElem?_eq_getElem h1]
  have b' : L ((mem n L r)[0]) = r := by simpa using b
  have d := hl.le _ a
  congr 1
  rcases Nat.lt_or_ge r ((mem n L r)[0]) with h | h
  · have : 1 ≤ cnt (fun i => L i == r) ((mem n L r)[0]) := cnt_pos h (by simp [he])
    have c' : cnt (fun i => L i == r) ((mem n L r)[0]) = 0 := c
    omega
  · have : L ((mem n L r)[0]) ≤ (mem n L r)[0] := d
    omega

/-- What DsuCounts asks of each group. -/
theorem grp_at {n : Nat} {L : Nat → Nat} (hl : Lab n L) (j : Nat) (hj : j < (grp n L).length) :
    ∃ r : Nat, r < n ∧ 1 ≤ (grp n L)[j].length ∧ (grp n L)[j][0]? = some (r : Int) ∧ sizeV n L (r : Int) = ((grp n L)[j].length : Int) := by
  have hj' : j < (rts L n).length := by rw [rts_len, ← grp_len]; exact hj
  obtain ⟨hr, he⟩ := rts_spec (List.getElem?_eq_getElem hj')
  have e : (grp n L)[j] = (mem n L (rts L n)[j]).map fun (i : Nat) => (i : Int) := by simp [grp]
  have el : (grp n L)[j].length = cls n L (rts L n)[j] := by rw [e, List.length_map, mem_len]
  refine ⟨(rts L n)[j], hr, by rw [el]; exact cnt_pos hr (by simp [he]), ?_, ?_⟩
  · rw [e, List.getElem?_map, mem_first hl hr he]; rfl
  · rw [el]; simp only [sizeV, inB_nat hr, if_true, Int.toNat_natCast, he]
theorem grp_at' {n : Nat} {L : Nat → Nat} (hl : Lab n L) (j : Nat) (g : List Int) (h : (grp n L)[j]? = some g) :
    ∃ r : Nat, r < n ∧ 1 ≤ g.length ∧ g[0]? = some (r : Int) ∧ sizeV n L (r : Int) = (g.length : Int) := by
  obtain ⟨hj, rfl⟩ := List.getElem?_eq_some_iff.1 h
  exact grp_at hl j hj
def sumG (G : List (List Int)) (j : Nat) : Nat := ((G.take j).map List.length).sum
theorem sumG_succ {G : List (List Int)} {j : Nat} (hj : j < G.length) : sumG G (j + 1) = sumG G j + G[j].length := by
  unfold sumG
  rw [List.take_succ_eq_append_getElem hj, List.map_append, List.sum_append]; simp
theorem sumG_full {n : Nat} {L : Nat → Nat} (hl : Lab n L) : sumG (grp n L) (grp n L).length = n := by
  unfold sumG
  rw [List.take_length, grp_lens, sum_rts hl, stt_full hl]
theorem sumG_le {n : Nat} {L : Nat → Nat} (hl : Lab n L) (j : Nat) : sumG (grp n L) j ≤ n := by
  have h := sumG_full hl
  have : ∀ (G : List (List Int)) j, sumG G j ≤ sumG G G.length := by
    intro G
    induction G with
    | nil => intro j; simp [sumG]
    | cons g G ih =>
      intro j
      cases j with
      | zero => simp [sumG]
      | succ j => have := ih j; simp only [sumG, List.take_succ_cons, List.map_cons, List.sum_cons, List.length_cons] at *; omega
  have := this (grp n L) j
  omega

theorem IsGrp.at2 {w : World} {B0 : Nat} {A : Option Addr} {m c : Nat} {G : List (List Int)} (h : IsGrp w B0 (.slice A m c) G) (j : Nat) (hj : j < G.length) :
    m = G.length ∧ ∃ b o B c', A = some ⟨b, o, none⟩ ∧ b < w.heap.size ∧ B0 ≤ b ∧ w.cell? ⟨b, o + j, none⟩ = some (.slice B G[j].length c') ∧ (∀ ad, B = some ad → B0 ≤ ad.block) ∧ Rd w B G[j].length 1 (is G[j]) := by
  obtain ⟨A', c2, vs, e, hA, hr, hg⟩ := h
  injection e with e1 e2 e3
  subst e1; subst e2; subst e3
  obtain ⟨b, o, rfl, hb, hc⟩ := hr.2 (by omega)
  obtain ⟨B, c', h1, h2, h3⟩ := hg j hj
  exact ⟨rfl, b, o, B, c', rfl, hb, hA _ rfl, hc _ _ h1, h2, h3⟩

/-- One union, as DsuCounts looks at it. -/
theorem count_cases {n : Nat} {L : Nat → Nat} (hl : Lab n L) (x y : Int) :
    (sameB n L x y = false ∧ unionB n L x y = false ∧ unionE n x y = 3 ∧ sets n (unionL n L x y) = sets n L) ∨
    (sameB n L x y = true ∧ unionB n L x y = false ∧ unionE n x y = 0 ∧ sets n (unionL n L x y) = sets n L ∧ sameB n (unionL n L x y) x y = true) ∨
    (sameB n L x y = false ∧ unionB n L x y = true ∧ unionE n x y = 0 ∧ sets n (unionL n L x y) + 1 = sets n L ∧ sameB n (unionL n L x y) x y = true) := by
  by_cases hx : inB n x = true
  · by_cases hy : inB n y = true
    · have e1 : unionL n L x y = merge L (L x.toNat) (L y.toNat) := by simp [unionL, hx, hy]
      by_cases he : L x.toNat = L y.toNat
      · right; left
        rw [e1, ← he, merge_self]
        simp [sameB, unionB, unionE, hx, hy, he]
      · right; right
        rw [e1]
        refine ⟨by simp [sameB, hx, hy, he], by simp [unionB, hx, hy, he], by simp [unionE, hx, hy], sets_merge hl (inB_lt hx) (inB_lt hy) he, ?_⟩
        simp only [sameB, hx, hy, Bool.and_self, Bool.true_and, beq_iff_eq]
        rw [merge_in (.inl rfl), merge_in (.inr rfl)]
    · left
      simp [sameB, unionB, unionE, unionL, hy]
  · left
    simp [sameB, unionB, unionE, unionL, hx]

set_option maxRecDepth 100000 in
set_option maxHeartbeats 8000000 in
theorem dsuCounts_walk (a0 : Int) (v1 : Value) (l : List (Int × Int)) (W : World) (w0 : (Lit.int .i64 a0).wf = true) (w1 : IsPairs W v1 l) :
    Calls Try.prog 6 #[.int .i64 a0, v1] W fun e W' => e = .returned (.bool true) ∧ Below W.heap.size W W' := by
  obtain ⟨A, m, c, rfl, hm, hlen, hok, hr⟩ := w1
  have hm' : m ≤ 9223372036854775807 := by unfold maxLen at hm; omega
  have HR := hide hr
  have HLn := hide hlen
  clear hr hok hlen hm w0
  cases hs : smallB a0 m
  · go_enter Try.func6, Try.ntmps6
    go_wp2_with fail
    refine (small_any _ _ _ _ hm' _).mono ?_
    rintro e w1 ⟨rfl, rfl⟩
    go_wp2_with fail
    refine (works8 _).mono ?_
    rintro e w1 ⟨rfl, hb⟩
    go_wp2_with fail
    go_ret
    exact ⟨rfl, hb⟩
  · have hs' : 0 ≤ a0 ∧ a0 ≤ 300 ∧ m ≤ 300 := by simpa [smallB] using hs
    obtain ⟨n, rfl⟩ := Int.eq_ofNat_of_zero_le hs'.1
    have hn : n ≤ 300 := by omega
    clear hs'
    go_enter Try.func6, Try.ntmps6
    go_wp2_with fail
    refine (small_any _ _ _ _ hm' _).mono ?_
    rintro e w1 ⟨rfl, rfl⟩
    go_wp2_with fail
    refine (dsuNew_ok W n (by omega)).mono ?_
    rintro e w1 ⟨p, rfl, hd1, hb1, hp1⟩
    go_wp2_with fail
    go_loopg [7, 8] m (fun q z v wr => ∃ (k : Nat) (L : Nat → Nat), k + q = m ∧ v = .int .i64 (k : Int) ∧ z = .int .i64 (sets n L : Int) ∧ Dsu wr p n L ∧ Below W.heap.size W wr)
    case atStart => exact ⟨0, fun i => i, by omega, rfl, by rw [show sets n (fun i => i) = n from cnt_full fun i _ => by simp], hd1, hb1⟩
    case round =>
      obtain ⟨k, L, hk, rfl, rfl, hd, hb⟩ := hrel
      have HK := hide hk
      have hkm : k ≤ m := by omega
      have hl := hd.lab
      have hsn : sets n L ≤ n := cnt_le _ _
      clear hk hd1 hb1
      by_cases hlt : k < m
      · obtain ⟨b, o, rfl, hblt, c0, c1⟩ := HR.out.pair k (by have := HLn.out; omega) HLn.out
        generalize l[k]'(by have := HLn.out; omega) = e at *
        obtain ⟨x, y⟩ := e
        have d0 : wr.cell? ⟨b, o + k * 2, none⟩ = some (.int .i64 x) := (hb.cell (p := ⟨b, o + k * 2, none⟩) hblt).trans c0
        have d1 : wr.cell? ⟨b, o + k * 2 + 1, none⟩ = some (.int .i64 y) := (hb.cell (p := ⟨b, o + k * 2 + 1, none⟩) hblt).trans c1
        have S1 := fun W h => dsuSame W x y p n L h
        have U := fun W h => dsuUnion W x y p n L h
        have S2 := fun W h => dsuSame W x y p n (unionL n L x y) h
        have C2 := fun W h => dsuCount W p n (unionL n L x y) h
        have hc := count_cases hl x y
        generalize unionL n L x y = L2 at *
        generalize unionB n L x y = u at *
        generalize unionE n x y = f at *
        generalize sameB n L x y = s1 at *
        generalize sameB n L2 x y = s2 at *
        have HD := hide hd
        have HB := hide hb
        have HC0 := hide c0
        have HC1 := hide c1
        have HS1 := hide S1
        have HU := hide U
        have HS2 := hide S2
        have HC2 := hide C2
        clear hd hb c0 c1 S1 U S2 C2
        rcases hc with ⟨rfl, rfl, rfl, hse⟩ | ⟨rfl, rfl, rfl, hse, rfl⟩ | ⟨rfl, rfl, rfl, hse, rfl⟩
        all_goals
          generalize hT : sets n L2 = t at *
          have HT := hide hT
          clear hT
          generalize sets n L = t0 at *
          first | subst hse | obtain rfl := hse
          go_wp2_with fail
          go_region_held3 (fun w' => w'.cell? ⟨b, o + k * 2, none⟩ = some (.int .i64 x) ∧ w'.cell? ⟨b, o + k * 2 + 1, none⟩ = some (.int .i64 y))
            (first | exact ⟨d0, d1⟩ | exact ⟨(hb2.cell (p := ⟨b, o + k * 2, none⟩) hblt).trans HC0.out, (hb2.cell (p := ⟨b, o + k * 2 + 1, none⟩) hblt).trans HC1.out⟩)
            (first | (go_at_call 13; refine (HS1.out _ (HD.out.drewN 1)).mono ?_; rintro e w2 ⟨rfl, hd2, hfr2⟩; have hb2 : Below W.heap.size W w2 := (HB.out.drewN 1).trans (hfr2.below (by simpa using hp1.2.1) HB.out.size)))
          have e0 : w2.cell? ⟨b, o + k * 2, none⟩ = some (.int .i64 x) := (hb2.cell (p := ⟨b, o + k * 2, none⟩) hblt).trans HC0.out
          have e1 : w2.cell? ⟨b, o + k * 2 + 1, none⟩ = some (.int .i64 y) := (hb2.cell (p := ⟨b, o + k * 2 + 1, none⟩) hblt).trans HC1.out
          clear d0 d1
          go_wp2_with fail
          go_region_held3 (fun w' => w'.cell? ⟨b, o + k * 2, none⟩ = some (.int .i64 x) ∧ w'.cell? ⟨b, o + k * 2 + 1, none⟩ = some (.int .i64 y))
            (first | exact ⟨e0, e1⟩ | exact ⟨(hb3.cell (p := ⟨b, o + k * 2, none⟩) hblt).trans HC0.out, (hb3.cell (p := ⟨b, o + k * 2 + 1, none⟩) hblt).trans HC1.out⟩)
            (first | (go_at_call 20; refine (HU.out _ (hd2.drewN 1)).mono ?_; rintro e w3 ⟨rfl, hd3, hfr3⟩; have hb3 : Below W.heap.size W w3 := (hb2.drewN 1).trans (hfr3.below (Loc.notin hd2 hp1) hb2.size)))
          have g0 : w3.cell? ⟨b, o + k * 2, none⟩ = some (.int .i64 x) := (hb3.cell (p := ⟨b, o + k * 2, none⟩) hblt).trans HC0.out
          have g1 : w3.cell? ⟨b, o + k * 2 + 1, none⟩ = some (.int .i64 y) := (hb3.cell (p := ⟨b, o + k * 2 + 1, none⟩) hblt).trans HC1.out
          clear e0 e1
          go_wp2_with fail
        · go_quiet (first | (go_at_call 22; exact quiet_any1 (quiet_eq (HC2.out _ (hd3.drewN _)))))
          go_wp2_with fail
          go_roundg (m - (k + 1))
          case measure => have := HK.out; omega
          case rel => exact ⟨k + 1, L2, by omega, by go_num, by rw [HT.out], hd3.drewN _, hb3.drewN _⟩
        · go_region_held3 (fun w' => w'.cell? ⟨b, o + k * 2, none⟩ = some (.int .i64 x) ∧ w'.cell? ⟨b, o + k * 2 + 1, none⟩ = some (.int .i64 y))
            (first | exact ⟨g0, g1⟩ | exact ⟨(hb4.cell (p := ⟨b, o + k * 2, none⟩) hblt).trans HC0.out, (hb4.cell (p := ⟨b, o + k * 2 + 1, none⟩) hblt).trans HC1.out⟩)
            (first | (go_at_call 13; refine (HS2.out _ (hd3.drewN 1)).mono ?_; rintro e w4 ⟨rfl, hd4, hfr4⟩; have hb4 : Below W.heap.size W w4 := (hb3.drewN 1).trans (hfr4.below (by simpa using hp1.2.1) hb3.size)) | (go_at_call 22; refine (HC2.out _ hd4).mono ?_; rintro e w5 ⟨rfl, rfl⟩))
          go_wp2_with fail
          go_roundg (m - (k + 1))
          case measure => have := HK.out; omega
          case rel => exact ⟨k + 1, L2, by omega, by go_num, by rw [HT.out], hd4, hb4⟩
        · go_region_held3 (fun w' => w'.cell? ⟨b, o + k * 2, none⟩ = some (.int .i64 x) ∧ w'.cell? ⟨b, o + k * 2 + 1, none⟩ = some (.int .i64 y))
            (first | exact ⟨g0, g1⟩ | exact ⟨(hb4.cell (p := ⟨b, o + k * 2, none⟩) hblt).trans HC0.out, (hb4.cell (p := ⟨b, o + k * 2 + 1, none⟩) hblt).trans HC1.out⟩)
            (first | (go_at_call 13; refine (HS2.out _ (hd3.drewN 1)).mono ?_; rintro e w4 ⟨rfl, hd4, hfr4⟩; have hb4 : Below W.heap.size W w4 := (hb3.drewN 1).trans (hfr4.below (by simpa using hp1.2.1) hb3.size)) | (go_at_call 22; refine (HC2.out _ hd4).mono ?_; rintro e w5 ⟨rfl, rfl⟩))
          go_wp2_with fail
          go_roundg (m - (k + 1))
          case measure => have := HK.out; omega
          case rel => exact ⟨k + 1, L2, by omega, by go_num, by rw [HT.out]; first | done | go_num, hd4, hb4⟩
      · have hkk : k = m := by omega
        subst hkk
        obtain ⟨wo, rfl⟩ : ∃ wo : World, wo = wr := ⟨_, rfl⟩
        go_wp2_with fail
        refine (dsuGroups _ _ _ _ hd).mono ?_
        rintro e w2 ⟨g, rfl, hd2, hg2, hf2⟩
        have hb2 := hf2.lift hb (by simpa using hp1.2.1) hb.size
        obtain ⟨A2, c2, rfl⟩ := hg2.form
        have hpb := hd.lt.2.1
        have hlen := grp_len n L
        have GA := grp_at' hl
        have SF := sumG_full hl
        have SL := sumG_le hl
        have GB := grp_bound (n := n) (L := L)
        rw [← hlen] at hsn
        have CZ := fun W r h => dsuSize W r p n L h
        have HLEN := hide hlen
        have HGA := hide GA
        have HSF := hide SF
        have HSL := hide SL
        have HGB := hide GB
        have HD2 := hide hd2
        have HG2 := hide hg2
        have HB2 := hide hb2
        clear hlen GA SF SL GB hd2 hg2 hb2 hd hb hf2
        rw [← HLEN.out]
        generalize grp n L = G at *
        generalize hz : G.length = z at *
        have HZ := hide hz
        clear hz
        go_wp2_with fail
        go_loopg [13, 14] z (fun q sv iv wq => ∃ j : Nat, j + q = z ∧ iv = .int .i64 (j : Int) ∧ sv = .int .i64 (sumG G j : Int) ∧ Dsu wq p n L ∧ IsGrp wq wo.heap.size (.slice A2 z c2) G ∧ Below W.heap.size W wq)
        case atStart => exact ⟨0, by omega, rfl, by simp [sumG], HD2.out, HG2.out, HB2.out⟩
        case round =>
          obtain ⟨j, hj, rfl, rfl, hd, hg, hb⟩ := hrel
          have HJ := hide hj
          have hjz : j ≤ z := by omega
          clear hj HD2 HG2 HB2
          have hsl := HSL.out j
          by_cases hlj : j < z
          · have hjG : j < G.length := by have := HZ.out; omega
            obtain ⟨hzz, b, o, B, q', rfl, hbl, hbB, c0, hB, r0⟩ := hg.at2 j hjG
            clear hzz
            obtain ⟨r, hrn, hg1, hgr, hgs⟩ := HGA.out j _ (List.getElem?_eq_getElem hjG)
            have hsu := sumG_succ hjG
            have hgb := HGB.out _ (List.getElem_mem hjG)
            obtain ⟨b2, o2, rfl, hbl2, k1⟩ := r0.int 0 (by omega) rfl
            have hB2 : wo.heap.size ≤ b2 := hB _ rfl
            have k0 : (G[j]'hjG)[0]'(by omega) = (r : Int) := by
              have := List.getElem?_eq_getElem (l := G[j]'hjG) (i := 0) (by omega)
              rw [hgr] at this
              injection this with this; exact this.symm
            rw [k0] at k1
            clear k0 hgr r0 hB
            obtain ⟨y, hy⟩ : ∃ y, y = (G[j]'hjG).length := ⟨_, rfl⟩
            rw [← hy] at c0 hg1 hsu hgb hgs
            have HY := hide hy
            have hy0 : ((y : Int) == 0) = false := by simp; omega
            have hy1 : 0 < y := by omega
            have hy2 : (0 : Int) < (y : Int) := by omega
            clear hy
            have CR := fun W h => CZ W (r : Int) h
            rw [hgs] at CR
            generalize sumG G j = t at *
            have HCR := hide CR
            have HSU := hide hsu
            have HD := hide hd
            have HG := hide hg
            have HB := hide hb
            clear CR hsu hd hg hb hgs
            rw [Nat.add_zero] at k1
            have nb1 : b ∉ [p.bu] := by simp; omega
            have nb2 : b2 ∉ [p.bu] := by simp; omega
            go_wp2_with fail
            go_region_held3 (fun w' => w'.cell? ⟨b, o + j, none⟩ = some (.slice (some ⟨b2, o2, none⟩) y q') ∧ w'.cell? ⟨b2, o2, none⟩ = some (.int .i64 (r : Int)))
              (first | exact ⟨c0, k1⟩ | exact ⟨(World.cell?_of_block (hf5.block b hbl nb1)).trans c0, (World.cell?_of_block (hf5.block b2 hbl2 nb2)).trans k1⟩)
              (first | (go_at_call 14; refine (HCR.out _ (HD.out.drewN 1)).mono ?_; rintro e w5 ⟨rfl, hd5, hf5⟩; have hb5 := hf5.lift (HB.out.drewN 1) (by simpa using hp1.2.1) HB.out.size; have hg5 := (HG.out.drewN 1).fr hf5 (fun k hk => by simp at hk; subst hk; exact hpb)))
            go_wp2_with fail
            go_roundg (z - (j + 1))
            case measure => have := HJ.out; omega
            case rel => exact ⟨j + 1, by omega, by go_num, by rw [HSU.out]; go_num, hd5, hg5, hb5⟩
          · have hjj : j = z := by omega
            subst hjj
            have hsf := HSF.out
            rw [hsf] at *
            go_wp2_with fail
            refine (dsuLen _ _ _ _ hd).mono ?_
            rintro e w5 ⟨rfl, rfl⟩
            go_wp2_with fail
            refine (works8 _).mono ?_
            rintro e w6 ⟨rfl, hb6⟩
            go_wp2_with fail
            go_ret
            exact ⟨rfl, hb.trans (hb6.mono hb.size)⟩
end Go.Proofs.Ytiijhppffboogaa
