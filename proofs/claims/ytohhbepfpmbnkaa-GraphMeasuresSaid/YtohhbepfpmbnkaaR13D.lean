/- seepageref13: Dist. -/
import Derived.Test.YtohhbepfpmbnkaaR13E
import Derived.Test.YtohhbepfpmbnkaaGraQ
namespace Go.Proofs.Ytohhbepfpmbnkaa
open Go.RowKit
set_option linter.unusedVariables false

theorem ari_toList_set (n : Nat) (f : Nat → Int) (i : Nat) (v : Int) : (ari n f).toList.set i (.int .i64 v) = (ari n (updi f i v)).toList := by
  rw [← Array.toList_setIfInBounds, ari_set]
theorem ari_snoc (k : Nat) (f : Nat → Int) : (ari (k + 1) f).toList = (ari k f).toList ++ (#[Value.int .i64 (f k)] : Array Value).toList := by simp [ari, List.range_succ]
theorem ari_nil (f : Nat → Int) : (ari 0 f).toList = [] := by simp [ari]
theorem own_inti {w : World} {B g n cap : Nat} {f : Nat → Int} (h : w.ownsRow B 3 1 (.slice (some ⟨g, 0, none⟩) n cap) n (ari n f).toList) {i : Nat} (hi : i < n) : w.cell? ⟨g, i, none⟩ = some (.int .i64 (f i)) :=
  own_cell h i _ (by rw [Array.getElem?_toList, ari_get f hi])
set_option maxRecDepth 100000 in
set_option maxHeartbeats 8000000 in
theorem r13Dist (w : World) (v : Nat) (g : Nat) (A : Option Addr) (c n B : Nat) (l : List (Int × Int × Int)) (h : RG w g A c n B l) (hv : v < n) :
    Calls Try.prog 29 #[.pointer (some ⟨g, 0, none⟩), .int .i64 (v : Int)] w
      fun e w' => ∃ V D, e = .returned V ∧ IsDist n l v D ∧ w'.ownsRow w.heap.size 3 1 V n (ari n D).toList ∧ Below w.heap.size w w' := by
  have VV := r13Has w (v : Int) g A c n B l h
  rw [inB_nat hv] at VV
  have V := hide VV
  have nb := h.nb
  have lb := h.lb
  have HG := hide h
  have HOK := hide h.ok
  obtain ⟨i0, hi, hz0, hz1, hz2⟩ := info_parts int_info0
  have hi' := hide hi
  have hz0' := hide hz0
  have hz1' := hide hz1
  have hz2' := hide hz2
  obtain ⟨b0, hb0⟩ : ∃ b, b = w.heap.size := ⟨_, rfl⟩
  have HBB := hide hb0
  rw [← hb0]
  have HB0 : Hid (Below b0 w w) := by show Below b0 w w; rw [hb0]; exact Below.refl _ _
  clear h hi hz0 hz1 hz2 hb0 VV
  go_enter Try.func29, Try.ntmps29
  go_wp2_with fail
  refine V.out.mono ?_
  rintro e w' ⟨rfl, rfl⟩
  go_wp2_with fail
  go_loopg [5, 6] n (fun q L x wr => ∃ k : Nat, k + q = n ∧ x = .int .i64 (k : Int) ∧ wr.ownsRow b0 3 1 L k (ari k fun _ => -1).toList ∧ Below b0 w wr)
  case atStart => exact ⟨0, by omega, rfl, by rw [ari_nil]; exact own_nil _ _ _ _, HB0.out⟩
  case round =>
    obtain ⟨k, hk, rfl, ho, hb⟩ := hrel
    have HK := hide hk
    have hkn : k ≤ n := by omega
    have HO := hide ho
    have HB := hide hb
    have hsz : b0 ≤ wr.heap.size := by have := hb.size; rw [← HBB.out] at this; exact this
    have HG2 := hide (HG.out.fresh (by rw [← HBB.out]; exact hb))
    obtain ⟨_, c1, c2⟩ := HG2.out.cells
    clear hk ho hb
    by_cases hlt : k < n
    · go_wp2_with (first | (at_builtin; go_loud (refine app_one 39 3 Try.underlying39 hi'.out hz0'.out hz1'.out hz2'.out rfl (by decide) wr #[.int .i64 (-1)] rfl (by intro u hu; simp at hu; subst hu; rfl) rfl (.tmp 23) (.tmp 24) rfl b0 _ k _ rfl HO.out rfl (by unfold maxLen; omega) (by omega) hsz ?_; intro vo' w5 ho5 hg5 hat5 hb5; have HO5 := hide ho5; have HB5 := hide hb5; clear ho5 hg5 hat5 hb5)))
      go_roundg (n - (k + 1))
      case measure => have := HK.out; omega
      case rel => exact ⟨k + 1, by omega, by go_num, by rw [ari_snoc]; exact HO5.out, HB.out.trans HB5.out⟩
    · obtain rfl : n = k := by omega
      obtain ⟨gl, cap, hgl, hgl2⟩ : ∃ gl, ∃ c5, u5 = .slice (some ⟨gl, 0, none⟩) n c5 ∧ b0 ≤ gl := by
        rcases HO.out.2 with ⟨_, h0⟩ | ⟨g5, cap, cur, e, hb5, _⟩
        · omega
        · exact ⟨g5, cap, e, hb5⟩
      subst hgl
      have z0 := own_inti HO.out hv
      have z1 := own_frozen HO.out v
      have hO3 := own_set HO.out v (.int .i64 0) (by omega)
      rw [ari_toList_set] at hO3
      have hB3 := HB.out.setCell (p := ⟨gl, v, none⟩) hgl2 (.int .i64 0)
      have HO3 := hide hO3
      have HB3 := hide hB3
      have HR0 := hide (Rnd.new HOK.out hv)
      generalize hmm : l.length = m at *
      have HM := hide hmm
      clear hmm HK hkn hlt HO HB HG2 hO3 hB3
      go_wp2_with fail
      clear c1 c2 z0 z1
      go_loopg [7] n (fun q x wr => ∃ (r : Nat) (D : Nat → Int), r + q = n ∧ x = .int .i64 (r : Int) ∧ wr.ownsRow b0 3 1 (.slice (some ⟨gl, 0, none⟩) n cap) n (ari n D).toList ∧ Rnd n l v D r 0 ∧ Below b0 w wr)
      case atStart => exact ⟨0, _, by omega, rfl, HO3.out, HR0.out, HB3.out⟩
      case round =>
        obtain ⟨r, D, hq, rfl, ho, hf, hb⟩ := hrel
        have HQ := hide hq
        have hrn : r ≤ n := by omega
        have HO := hide ho
        have HF := hide hf
        have HB := hide hb
        have HG2 := hide (HG.out.fresh (by rw [← HBB.out]; exact hb))
        obtain ⟨_, c1, c2⟩ := HG2.out.cells
        rw [HM.out] at c2
        clear hq ho hf hb HO3 HB3 HR0
        by_cases hlt : r < n
        · go_wp2_with fail
          clear c1 c2
          go_loopg [8] m (fun q x wr => ∃ (j : Nat) (D : Nat → Int), j + q = m ∧ x = .int .i64 (j : Int) ∧ wr.ownsRow b0 3 1 (.slice (some ⟨gl, 0, none⟩) n cap) n (ari n D).toList ∧ Rnd n l v D r j ∧ Below b0 w wr)
          case atStart => exact ⟨0, D, by omega, rfl, HO.out, HF.out, HB.out⟩
          case round =>
            obtain ⟨j, D, hj, rfl, ho, hf, hb⟩ := hrel
            have HJ := hide hj
            have hjm : j ≤ m := by omega
            have HF2 := hide hf
            have hG2 := HG.out.fresh (by rw [← HBB.out]; exact hb)
            obtain ⟨_, c1, c2⟩ := hG2.cells
            have hrd := hG2.rd
            rw [HM.out] at c2 hrd
            clear hj hf hG2 HO HB
            by_cases hltj : j < m
            · have hjl : j < l.length := by rw [HM.out]; exact hltj
              obtain ⟨b, o, rfl, hblt, e0, e1, e2⟩ := hrd.edge j hjl HM.out
              obtain ⟨q0, q1, q2, q3, q4⟩ := HOK.out.at_ hjl
              rw [q0] at e0
              rw [q1] at e1
              have lx := HF2.out.lo _ q2
              have ly := HF2.out.lo _ q3
              have hU2 : eP l (2 * j) = eU l j ∧ eQ l (2 * j) = eV l j := ⟨eP_even, by unfold eQ; rw [if_pos (by omega), show 2 * j / 2 = j by omega]⟩
              have hV2 : eP l (2 * j + 1) = eV l j ∧ eQ l (2 * j + 1) = eU l j := ⟨eP_odd, by unfold eQ; rw [if_neg (by omega), show (2 * j + 1) / 2 = j by omega]⟩
              have hn2 : 2 * j < 2 * l.length ∧ 2 * j + 1 < 2 * l.length := by omega
              have HUV := hide (And.intro hU2 (And.intro hV2 hn2))
              clear q0 q1 hU2 hV2 hn2
              generalize hx2 : (l[j]'hjl).2.2 = t at *
              clear hx2
              generalize hu : eU l j = a at *
              generalize hv9 : eV l j = d at *
              have HU := hide hu
              have HV := hide hv9
              clear hu hv9
              have cu0 := own_inti ho q2
              have cv0 := own_inti ho q3
              have HO := hide ho
              have HB := hide hb
              clear ho hb hrd
              go_upto_region 15 with fail
              go_quiet (fail)
              have ho2 := own_drewN HO.out nq
              have hb2 := HB.out.drewN nq
              have cu := own_inti ho2 q2
              have cv := own_inti ho2 q3
              clear HO HB c1 c2 e0 e1 e2 cu0 cv0 hblt
              generalize wr.drewN nq = w2 at *
              have fa := own_frozen ho2 a
              have fd := own_frozen ho2 d
              have HO2 := hide ho2
              have HB2 := hide hb2
              clear ho2 hb2
              obtain ⟨x, hx⟩ : ∃ x, x = D a := ⟨_, rfl⟩
              obtain ⟨y, hy⟩ : ∃ y, y = D d := ⟨_, rfl⟩
              rw [← hx] at cu lx
              rw [← hy] at cv ly
              have HX := hide hx
              have HY := hide hy
              clear hx hy
              have HEU := hide (show D (eU l j) = x by rw [HU.out, HX.out])
              have HEV := hide (show D (eV l j) = y by rw [HV.out, HY.out])
              by_cases h1 : x = (r : Int)
              · by_cases h2 : y = -1
                · subst h1; subst h2
                  have hO3 := own_set HO2.out d (.int .i64 ((r : Int) + 1)) (by omega)
                  rw [ari_toList_set] at hO3
                  have hB3 := HB2.out.setCell (p := ⟨gl, d, none⟩) hgl2 (.int .i64 ((r : Int) + 1))
                  have cv3 := own_inti hO3 q3
                  have cu3 := own_inti hO3 q2
                  rw [updi_same] at cv3
                  rw [updi_other _ _ q4, ← HX.out] at cu3
                  have hne : (((r : Int) + 1) == (r : Int)) = false := beq_eq_false_iff_ne.2 (by omega)
                  have HO3 := hide hO3
                  have HB3 := hide hB3
                  have HF3 : Hid (Rnd n l v (updi D d ((r : Int) + 1)) r (j + 1)) := by
                    obtain ⟨⟨p1, p2⟩, _, p3, _⟩ := HUV.out
                    have hp := HF2.out.put (j := 2 * j) p3 (by rw [p1, ← HX.out]) (by rw [p2, ← HY.out]; omega)
                    rw [p2] at hp
                    refine hp.next (fun _ => ?_) (fun h => ?_)
                    · rw [HV.out, updi_same]; omega
                    · rw [HV.out, updi_same] at h; omega
                  clear hO3 hB3
                  go_wp2_with fail
                  go_roundg (m - (j + 1))
                  case measure => have := HJ.out; omega
                  case rel => exact ⟨j + 1, _, by omega, by go_num, HO3.out, HF3.out, HB3.out⟩
                · subst h1
                  have hy1 : (y == -1) = false := beq_eq_false_iff_ne.2 h2
                  have HF3 : Hid (Rnd n l v D r (j + 1)) := HF2.out.next (fun _ => by rw [HEV.out]; omega) (fun h => by rw [HEU.out]; omega)
                  have hr1 : ((r : Int) == -1) = false := beq_eq_false_iff_ne.2 (by omega)
                  by_cases h3 : y = (r : Int)
                  · subst h3
                    clear h2
                    go_wp2_with fail
                    go_roundg (m - (j + 1))
                    case measure => have := HJ.out; omega
                    case rel => exact ⟨j + 1, _, by omega, by go_num, HO2.out, HF3.out, HB2.out⟩
                  · have hyr : (y == (r : Int)) = false := beq_eq_false_iff_ne.2 h3
                    clear h2 h3
                    go_wp2_with fail
                    go_roundg (m - (j + 1))
                    case measure => have := HJ.out; omega
                    case rel => exact ⟨j + 1, _, by omega, by go_num, HO2.out, HF3.out, HB2.out⟩
              · have hxr : (x == (r : Int)) = false := beq_eq_false_iff_ne.2 h1
                by_cases h3 : y = (r : Int)
                · by_cases h4 : x = -1
                  · subst h3; subst h4
                    have hO3 := own_set HO2.out a (.int .i64 ((r : Int) + 1)) (by omega)
                    rw [ari_toList_set] at hO3
                    have hB3 := HB2.out.setCell (p := ⟨gl, a, none⟩) hgl2 (.int .i64 ((r : Int) + 1))
                    have HO3 := hide hO3
                    have HB3 := hide hB3
                    have HF3 : Hid (Rnd n l v (updi D a ((r : Int) + 1)) r (j + 1)) := by
                      obtain ⟨_, ⟨p1, p2⟩, _, p3⟩ := HUV.out
                      have hp := HF2.out.put (j := 2 * j + 1) p3 (by rw [p1, ← HY.out]) (by rw [p2, ← HX.out]; omega)
                      rw [p2] at hp
                      refine hp.next (fun h => ?_) (fun _ => ?_)
                      · rw [HU.out, updi_same] at h; omega
                      · rw [HU.out, updi_same]; omega
                    clear hO3 hB3 h1
                    go_wp2_with fail
                    go_roundg (m - (j + 1))
                    case measure => have := HJ.out; omega
                    case rel => exact ⟨j + 1, _, by omega, by go_num, HO3.out, HF3.out, HB3.out⟩
                  · subst h3
                    have hx1 : (x == -1) = false := beq_eq_false_iff_ne.2 h4
                    have HF3 : Hid (Rnd n l v D r (j + 1)) := HF2.out.next (fun h => absurd (HEU.out.symm.trans h) h1) (fun _ => by rw [HEU.out]; omega)
                    clear h1 h4
                    go_wp2_with fail
                    go_roundg (m - (j + 1))
                    case measure => have := HJ.out; omega
                    case rel => exact ⟨j + 1, _, by omega, by go_num, HO2.out, HF3.out, HB2.out⟩
                · have hyr : (y == (r : Int)) = false := beq_eq_false_iff_ne.2 h3
                  have HF3 : Hid (Rnd n l v D r (j + 1)) := HF2.out.next (fun h => absurd (HEU.out.symm.trans h) h1) (fun h => absurd (HEV.out.symm.trans h) h3)
                  clear h1 h3
                  go_wp2_with fail
                  go_roundg (m - (j + 1))
                  case measure => have := HJ.out; omega
                  case rel => exact ⟨j + 1, _, by omega, by go_num, HO2.out, HF3.out, HB2.out⟩
            · obtain rfl : m = j := by omega
              have HO2 := hide ho
              have HB2 := hide hb
              have hov := HF2.out
              rw [← HM.out] at hov
              have HV2 := hide hov.over
              clear ho hb hov
              go_wp2_with fail
              go_roundg (n - (r + 1))
              case measure => have := HQ.out; omega
              case rel => exact ⟨r + 1, D, by omega, by go_num, HO2.out, HV2.out, HB2.out⟩
        · obtain rfl : n = r := by omega
          go_wp2_with fail
          go_ret
          exact ⟨_, D, rfl, HF.out.fin, HO.out, HB.out⟩
end Go.Proofs.Ytohhbepfpmbnkaa
