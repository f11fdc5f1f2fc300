/- seepageref13: a graph of the document in memory; New, valid, Labels. -/
import Derived.Test.YtpgkhmjlbaoagaaCloneI
import Derived.Test.YtpgkhmjlbaoagaaR13P
import Derived.Deep.DeepCutAuto
namespace Go.Proofs.Ytpgkhmjlbaoagaa
open Go.RowKit
set_option linter.unusedVariables false

/-- A graph of the document. -/
structure RG (w : World) (g : Nat) (A : Option Addr) (c n B : Nat) (l : List (Int × Int × Int)) : Prop where
  hg : Blk w g 78 #[.bool true, .int .i64 (n : Int), .slice A l.length c]
  ho : OwnE w B (.slice A l.length c) l
  ok : GOk n l
  nb : n ≤ 4096
  lb : l.length ≤ 16384
section
variable {w w' : World} {g : Nat} {A : Option Addr} {c n B : Nat} {l : List (Int × Int × Int)}
theorem RG.cells (h : RG w g A c n B l) : w.cell? ⟨g, 0, none⟩ = some (.bool true) ∧ w.cell? ⟨g, 1, none⟩ = some (.int .i64 (n : Int)) ∧ w.cell? ⟨g, 2, none⟩ = some (.slice A l.length c) :=
  ⟨(h.hg.cell 0).trans rfl, (h.hg.cell 1).trans rfl, (h.hg.cell 2).trans rfl⟩
theorem RG.rd (h : RG w g A c n B l) : Rd w A l.length 3 (ecs l) := by
  obtain ⟨A', c', e, hr⟩ := h.ho.form
  injection e with e1 e2 e3
  subst e1; exact hr
theorem RG.fresh (h : RG w g A c n B l) (k : Below w.heap.size w w') : RG w' g A c n B l := ⟨h.hg.below k h.hg.lt, h.ho.kept k, h.ok, h.nb, h.lb⟩
theorem RG.drewN (h : RG w g A c n B l) (k : Nat) : RG (w.drewN k) g A c n B l := h.fresh ((Below.refl _ _).drewN k)
end
theorem r13Valid (w : World) (g : Nat) (A : Option Addr) (c n B : Nat) (l : List (Int × Int × Int)) (h : RG w g A c n B l) :
    Calls Try.prog 47 #[.pointer (some ⟨g, 0, none⟩)] w fun e w' => e = .returned (.bool true) ∧ w = w' := by
  obtain ⟨c0, _⟩ := h.cells
  clear h
  go_enter Try.func47, Try.ntmps47
  go_wp2_with fail
  go_ret
  exact ⟨rfl, rfl⟩
theorem arr_toList_set (n : Nat) (f : Nat → Nat) (i v : Nat) : (arr n f).toList.set i (.int .i64 (v : Int)) = (arr n (upd f i v)).toList := by
  rw [← arr_set, Array.toList_setIfInBounds]
theorem own_int {w : World} {B g n cap : Nat} {f : Nat → Nat} (h : w.ownsRow B 3 1 (.slice (some ⟨g, 0, none⟩) n cap) n (arr n f).toList) {i : Nat} (hi : i < n) : w.cell? ⟨g, i, none⟩ = some (.int .i64 (f i : Int)) :=
  own_cell h i _ (by rw [Array.getElem?_toList, arr_get f hi])
theorem own_drewN {w : World} {B n : Nat} {V : Value} {xs : List Value} (h : w.ownsRow B 3 1 V n xs) (k : Nat) : (w.drewN k).ownsRow B 3 1 V n xs := own_fr h ((Fr.refl [] w).drewN k) (by simp)
theorem own_nn {w : World} {B n : Nat} {V : Value} {xs : List Value} (h : w.ownsRow B 3 1 V n xs) (hn : 0 < n) : ∃ g cap, V = .slice (some ⟨g, 0, none⟩) n cap := by
  rcases h.2 with ⟨_, e⟩ | ⟨g, cap, cur, e, _⟩
  · omega
  · exact ⟨g, cap, e⟩
theorem own_block_lt {w : World} {B : Nat} {E : TypeId} {sz n : Nat} {V : Value} {xs : List Value} (h : w.ownsRow B E sz V n xs) {b : Nat} (hb : V.ownBlock = some b) : B ≤ b ∧ b < w.heap.size := h.lt b hb

set_option maxRecDepth 100000 in
set_option maxHeartbeats 8000000 in
theorem r13Labels (w : World) (g : Nat) (A : Option Addr) (c n B : Nat) (l : List (Int × Int × Int)) (h : RG w g A c n B l) :
    Calls Try.prog 28 #[.pointer (some ⟨g, 0, none⟩)] w
      fun e w' => ∃ V, e = .returned V ∧ w'.ownsRow w.heap.size 3 1 V n (arr n (gLb n l)).toList ∧ Below w.heap.size w w' := by
  have V := hide (r13Valid w g A c n B l h)
  have nb := h.nb
  have lb := h.lb
  have HG := hide h
  have HOK := hide h.ok
  obtain ⟨i0, hi, hz0, hz1, hz2⟩ := info_parts int_info0
  have hi' := hide hi
  have hz0' := hide hz0
  have hz1' := hide hz1
  have hz2' := hide hz2
  obtain ⟨b0, hb0⟩ : ∃ b, b = w.heap.size := ⟨_, rfl⟩
  have HBB := hide hb0
  rw [← hb0]
  have HB0 : Hid (Below b0 w w) := by show Below b0 w w; rw [hb0]; exact Below.refl _ _
  clear h hi hz0 hz1 hz2 hb0
  go_enter Try.func28, Try.ntmps28
  go_wp2_with fail
  refine V.out.mono ?_
  rintro e w' ⟨rfl, rfl⟩
  go_wp2_with fail
  go_loopg [3, 4] n (fun q L v wr => ∃ k : Nat, k + q = n ∧ v = .int .i64 (k : Int) ∧ wr.ownsRow b0 3 1 L k (arr k fun i => i).toList ∧ Below b0 w wr)
  case atStart => exact ⟨0, by omega, rfl, by rw [arr_nil]; exact own_nil _ _ _ _, HB0.out⟩
  case round =>
    obtain ⟨k, hk, rfl, ho, hb⟩ := hrel
    have HK := hide hk
    have hkn : k ≤ n := by omega
    have HO := hide ho
    have HB := hide hb
    have hsz : b0 ≤ wr.heap.size := by have := hb.size; rw [← HBB.out] at this; exact this
    have HG2 := hide (HG.out.fresh (by rw [← HBB.out]; exact hb))
    obtain ⟨_, c1, c2⟩ := HG2.out.cells
    clear hk ho hb
    by_cases hlt : k < n
    · go_wp2_with (first | (at_builtin; go_loud (refine app_one 40 3 Try.underlying40 hi'.out hz0'.out hz1'.out hz2'.out rfl (by decide) wr #[.int .i64 (k : Int)] rfl (by intro u hu; simp at hu; subst hu; rfl) rfl (.tmp 20) (.tmp 22) rfl b0 _ k _ rfl HO.out rfl (by unfold maxLen; omega) (by omega) hsz ?_; intro vo' w5 ho5 hg5 hat5 hb5; have HO5 := hide ho5; have HB5 := hide hb5; clear ho5 hg5 hat5 hb5)))
      go_roundg (n - (k + 1))
      case measure => have := HK.out; omega
      case rel => exact ⟨k + 1, by omega, by go_num, by rw [arr_snoc]; exact HO5.out, HB.out.trans HB5.out⟩
    · obtain rfl : k = n := by omega
      obtain ⟨A5, c5, rfl, -⟩ := own_form HO.out
      have HO3 := hide HO.out
      have HB3 := hide HB.out
      generalize hmm : l.length = m at *
      have HM := hide hmm
      clear hmm HK hkn hlt HO HB HG2
      go_wp2_with fail
      clear c1 c2
      go_loopg [5] (2 * sm (fun i => i) k + 1) (fun q s wr => ∃ (ch : Bool) (K : Nat → Nat), s = .bool ch ∧ 2 * sm K k + ch.toNat ≤ q ∧ wr.ownsRow b0 3 1 (.slice A5 k c5) k (arr k K).toList ∧ Fx k l K ∧ Below b0 w wr ∧ (ch = false → ∀ i, i < l.length → K (eU l i) = K (eV l i)))
      case atStart => exact ⟨true, fun i => i, rfl, by have e : true.toNat = 1 := rfl; omega, HO3.out, Fx.id_, HB3.out, fun h => by cases h⟩
      case round =>
        obtain ⟨ch, K, rfl, hq, ho, hf, hb, hc⟩ := hrel
        have HQ := hide hq
        have HO := hide ho
        have HF := hide hf
        have HB := hide hb
        have HC := hide hc
        clear hq ho hf hb hc HO3 HB3
        cases ch
        · have hfix := HF.out.fix HOK.out (HC.out (by trivial))
          have e : arr k K = arr k (gLb k l) := arr_congr hfix
          have HE := hide e
          clear hfix e
          go_wp2_with fail
          go_ret
          exact ⟨_, rfl, by rw [← HE.out]; exact HO.out, HB.out⟩
        · go_wp2_with fail
          go_loopg [5, 6] m (fun q s5 s6 wr => ∃ (ch : Bool) (j : Nat) (K' : Nat → Nat), j + q = m ∧ s5 = .bool ch ∧ s6 = .int .i64 (j : Int) ∧ wr.ownsRow b0 3 1 (.slice A5 k c5) k (arr k K').toList ∧ Fx k l K' ∧ Below b0 w wr ∧
            (ch = false → sm K' k = sm K k ∧ ∀ i, i < j → K' (eU l i) = K' (eV l i)) ∧ (ch = true → sm K' k < sm K k))
          case atStart => exact ⟨false, 0, K, by omega, rfl, rfl, HO.out, HF.out, HB.out, fun _ => ⟨rfl, fun i h => by omega⟩, fun h => by cases h⟩
          case round =>
            obtain ⟨ch', j, K', hj, rfl, rfl, ho, hf, hb, hc, hd⟩ := hrel
            have HJ := hide hj
            have hjm : j ≤ m := by omega
            have HF2 := hide hf
            have HC2 := hide hc
            have HD2 := hide hd
            have hG2 := HG.out.fresh (by rw [← HBB.out]; exact hb)
            obtain ⟨_, c1, c2⟩ := hG2.cells
            have hrd := hG2.rd
            rw [HM.out] at c2 hrd
            clear hj hf hc hd hG2 HO HB
            by_cases hlt : j < m
            · have hjl : j < l.length := by rw [HM.out]; exact hlt
              obtain ⟨b, o, rfl, hblt, e0, e1, e2⟩ := hrd.edge j hjl HM.out
              obtain ⟨q0, q1, q2, q3, q4⟩ := HOK.out.at_ hjl
              rw [q0] at e0
              rw [q1] at e1
              have hlab := edge_lb HOK.out hjl
              clear q0 q1
              generalize hx2 : (l[j]'hjl).2.2 = t at *
              clear hx2
              generalize hu : eU l j = u at *
              generalize hv : eV l j = v at *
              have HU := hide hu
              have HV := hide hv
              clear hu hv
              obtain ⟨gl, cap, hA5⟩ := own_nn ho (by omega)
              injection hA5 with hA5 _ hc5
              subst hA5; subst hc5
              have hgl : b0 ≤ gl := (ho.lt gl rfl).1
              have cu0 := own_int ho q2
              have cv0 := own_int ho q3
              have HLAB := hide hlab
              have HO := hide ho
              have HB := hide hb
              clear hlab ho hb hrd
              go_upto_region 14 with fail
              go_quiet (fail)
              have ho2 := own_drewN HO.out nq
              have hb2 := HB.out.drewN nq
              have cu := own_int ho2 q2
              have cv := own_int ho2 q3
              clear HO HB c1 c2 e0 e1 e2 cu0 cv0 hblt
              generalize wr.drewN nq = w2 at *
              have HO2 := hide ho2
              have HB2 := hide hb2
              clear ho2 hb2
              have hcs : K' u < K' v ∨ K' v < K' u ∨ K' u = K' v := by omega
              rcases hcs with hlt3 | hlt3 | heq3
              · have hF2 := HF2.out.set_ q2 q3 HLAB.out hlt3
                have hsm := sm_upd (f := K') (x := K' u) q3
                have HLE2 : Hid (sm (upd K' v (K' u)) k < sm K k) := by
                  show _ < _
                  cases ch'
                  · have := (HC2.out (by trivial)).1; omega
                  · have := HD2.out (by trivial); omega
                have HF3 := hide hF2
                clear hF2 hsm
                go_upto_region 15 with fail
                go_quiet (fail)
                have hO2 := own_drewN HO2.out nq
                have hB2 := HB2.out.drewN nq
                have cu2 := own_int hO2 q2
                have cv2 := own_int hO2 q3
                clear cu cv HO2 HB2
                generalize w2.drewN nq = w3 at *
                have z1 := own_frozen hO2 v
                have hO3 := own_set hO2 v (.int .i64 (K' u : Int)) (by omega)
                rw [arr_toList_set] at hO3
                have hB3 := hB2.setCell (p := ⟨gl, v, none⟩) hgl (.int .i64 (K' u : Int))
                have cu3 := own_int hO3 q2
                have cv3 := own_int hO3 q3
                rw [upd_same] at cv3
                rw [upd_other _ _ q4] at cu3
                have HO3 := hide hO3
                have HB3 := hide hB3
                clear hO2 hB2 hO3 hB3
                generalize K' u = a at *
                generalize K' v = c0 at *
                go_upto_region 18 with fail
                clear cu2 cv2 z1
                generalize w3.setCell ⟨gl, v, none⟩ (.int .i64 (a : Int)) = w4 at *
                go_quiet (fail)
                go_wp2_with fail
                go_roundg (m - (j + 1))
                case measure => have := HJ.out; omega
                case rel => exact ⟨true, j + 1, _, by omega, rfl, by go_num, own_drewN HO3.out _, HF3.out, HB3.out.drewN _, fun h => (by cases h), fun _ => HLE2.out⟩
              · have hF2 := HF2.out.set_ q3 q2 HLAB.out.symm hlt3
                have hsm := sm_upd (f := K') (x := K' v) q2
                have HLE2 : Hid (sm (upd K' u (K' v)) k < sm K k) := by
                  show _ < _
                  cases ch'
                  · have := (HC2.out (by trivial)).1; omega
                  · have := HD2.out (by trivial); omega
                have HF3 := hide hF2
                clear hF2 hsm
                have hdd : decide (K' u < K' v) = false := by simp; omega
                go_upto_region 15 with fail
                go_quiet (fail)
                have hO2 := own_drewN HO2.out nq
                have hB2 := HB2.out.drewN nq
                have cu2 := own_int hO2 q2
                have cv2 := own_int hO2 q3
                clear cu cv HO2 HB2
                generalize w2.drewN nq = w3 at *
                have HO4 := hide hO2
                have HB4 := hide hB2
                clear hO2 hB2
                go_upto_region 18 with fail
                go_quiet (fail)
                have hO2 := own_drewN HO4.out nq
                have hB2 := HB4.out.drewN nq
                have cu4 := own_int hO2 q2
                have cv4 := own_int hO2 q3
                clear cu2 cv2 HO4 HB4
                generalize w3.drewN nq = w4 at *
                have z1 := own_frozen hO2 u
                have hO3 := own_set hO2 u (.int .i64 (K' v : Int)) (by omega)
                rw [arr_toList_set] at hO3
                have hB3 := hB2.setCell (p := ⟨gl, u, none⟩) hgl (.int .i64 (K' v : Int))
                have HO3 := hide hO3
                have HB3 := hide hB3
                clear hO2 hB2 hO3 hB3
                go_wp2_with fail
                go_roundg (m - (j + 1))
                case measure => have := HJ.out; omega
                case rel => exact ⟨true, j + 1, _, by omega, rfl, by go_num, HO3.out, HF3.out, HB3.out, fun h => (by cases h), fun _ => HLE2.out⟩
              · have hdd : decide (K' u < K' v) = false := by simp; omega
                have hdd2 : decide (K' v < K' u) = false := by simp; omega
                have HEQ := hide heq3
                clear heq3
                go_upto_region 15 with fail
                go_quiet (fail)
                have hO2 := own_drewN HO2.out nq
                have hB2 := HB2.out.drewN nq
                have cu2 := own_int hO2 q2
                have cv2 := own_int hO2 q3
                clear cu cv HO2 HB2
                generalize w2.drewN nq = w3 at *
                have HO4 := hide hO2
                have HB4 := hide hB2
                clear hO2 hB2
                go_upto_region 18 with fail
                go_quiet (fail)
                go_wp2_with fail
                go_roundg (m - (j + 1))
                case measure => have := HJ.out; omega
                case rel =>
                  refine ⟨ch', j + 1, _, by omega, rfl, by go_num, own_drewN HO4.out _, HF2.out, HB4.out.drewN _, fun h => ⟨(HC2.out h).1, fun i hi => ?_⟩, HD2.out⟩
                  by_cases e : i = j
                  · subst e
                    rw [HU.out, HV.out]; exact HEQ.out
                  · exact (HC2.out h).2 i (by omega)
            · obtain rfl : j = m := by omega
              have HO2 := hide ho
              have HB2 := hide hb
              clear ho hb
              go_wp2_with fail
              go_roundg (2 * sm K' k + ch'.toNat)
              case measure =>
                have hq := HQ.out
                have e1 : true.toNat = 1 := rfl
                have e0 : false.toNat = 0 := rfl
                cases ch'
                · have := (HC2.out (by trivial)).1; omega
                · have := HD2.out (by trivial); omega
              case rel => exact ⟨ch', K', rfl, Nat.le_refl _, HO2.out, HF2.out, HB2.out, fun h i hi => (HC2.out h).2 i (by rw [HM.out] at hi; exact hi)⟩
end Go.Proofs.Ytpgkhmjlbaoagaa
