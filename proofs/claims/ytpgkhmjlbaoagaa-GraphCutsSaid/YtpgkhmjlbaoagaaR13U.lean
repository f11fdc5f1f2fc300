/- seepageref13: Under. -/
import Derived.Test.YtpgkhmjlbaoagaaR13A
import Derived.Test.YtpgkhmjlbaoagaaGraUn
import Derived.Test.YtpgkhmjlbaoagaaStep
namespace Go.Proofs.Ytpgkhmjlbaoagaa
open Go.RowKit
set_option linter.unusedVariables false

set_option maxRecDepth 100000 in
set_option maxHeartbeats 8000000 in
theorem r13Under (w : World) (θ : Int) (g : Nat) (A : Option Addr) (c n B : Nat) (l : List (Int × Int × Int)) (h : RG w g A c n B l) :
    Calls Try.prog 35 #[.pointer (some ⟨g, 0, none⟩), .int .i64 θ] w
      fun e w' => ∃ (g' : Nat) (A' : Option Addr) (c' : Nat), e = .returned (.pointer (some ⟨g', 0, none⟩)) ∧ RG w' g' A' c' n w.heap.size (undL l θ) ∧ Below w.heap.size w w' := by
  have V := hide (r13Valid w g A c n B l h)
  obtain ⟨_, c1, c2⟩ := h.cells
  have HG := hide h
  have nb := h.nb
  have lb := h.lb
  have hX := Blk.new w 78 #[.bool true, .int .i64 (n : Int), .slice none 0 0]
  have hb0 : Below w.heap.size w (w.alloc (.cells #[.bool true, .int .i64 (n : Int), .slice none 0 0] 78)) := (Below.refl _ _).alloc (Nat.le_refl _) _
  have HX := hide hX
  have HB0 := hide hb0
  generalize hm : l.length = m at *
  have HM := hide hm
  obtain ⟨i0, hi, hz0, hz1, hz2⟩ := info_parts edge_info
  have HI := hide hi
  have HZ0 := hide hz0
  have HZ1 := hide hz1
  have HZ2 := hide hz2
  clear h hX hb0 hm hi hz0 hz1 hz2
  go_enter Try.func35, Try.ntmps35
  go_wp2_with (first | (go_at_call 47; refine V.out.mono ?_; rintro e w' ⟨rfl, rfl⟩))
  generalize w.alloc (.cells #[.bool true, .int .i64 (n : Int), .slice none 0 0] 78) = w1 at *
  generalize hR : w.heap.size = R at *
  have HR := hide hR
  clear hR
  go_loopg [6] m (fun q i wr => ∃ (k : Nat) (V : Value), k + q = m ∧ i = .int .i64 (k : Int) ∧ Blk wr R 78 #[.bool true, .int .i64 (n : Int), V] ∧ OwnE wr R V (undL (l.take k) θ) ∧ Below R w wr)
  case atStart => exact ⟨0, _, by omega, rfl, HX.out, OwnE.nil _ _, HB0.out⟩
  case round =>
    obtain ⟨k, V, hk, rfl, hx, ho, hb⟩ := hrel
    have HK := hide hk
    have hkm : k ≤ m := by omega
    have HXX := hide hx
    have HO := hide ho
    have HB := hide hb
    have hRw : R < wr.heap.size := hx.lt
    have hs1 : R ≤ wr.heap.size := by omega
    have cR := hx.cell 2
    have hG := HG.out.fresh (by rw [HR.out]; exact hb)
    obtain ⟨_, d1, d2⟩ := hG.cells
    rw [HM.out] at d2
    clear hk hx ho hb
    by_cases hlt : k < m
    · have hkl : k < l.length := by rw [HM.out]; exact hlt
      obtain ⟨b, o, rfl, hblt, e0, e1, e2⟩ := hG.rd.edge k hkl rfl
      have hul : (undL (l.take k) θ).length ≤ 1000000 := by
        have := undL_len (l.take k) θ
        have : (l.take k).length ≤ k := List.length_take_le _ _
        omega
      have HY := hide (fun h => undL_yes (θ := θ) hkl h)
      have HN := hide (fun h => undL_no (θ := θ) hkl h)
      generalize l[k] = e at *
      obtain ⟨u, v, t⟩ := e
      simp only at e0 e1 e2
      clear hG
      by_cases ht : t ≤ θ
      · have HY2 := hide (HY.out ht)
        clear HY HN
        have hV2 := own_notBlk HO.out HXX.out (by decide)
        have hdt : decide (t ≤ θ) = true := by simpa using ht
        clear ht
        go_wp2_with fail
        go_region_law (refine step_app 22 48 Try.underlying22 HI.out HZ0.out HZ1.out HZ2.out rfl (by decide) (w := wr.drew) #[.int .i64 u, .int .i64 v, .int .i64 t] rfl (by intro c hc; simp at hc; rcases hc with rfl | rfl | rfl <;> rfl) rfl (.tmp 39) (.tmp 47) rfl R _ _ _ rfl (own_below HO.out ((Below.refl _ _).drewN 1)) rfl (by unfold maxLen; omega) (by omega) hs1 ?_; intro V' w5 ho5 hb5 hg5; obtain ⟨A5, c5, rfl, -⟩ := own_form ho5; have kg := Blk.grown (HXX.out.drew) hg5 hV2; have k2 := (show w5.cell? ⟨R, 2, none⟩ = some V from (kg.cell 2).trans rfl); have kf := kg.frozen 2; have KG := hide kg; have HO5 := hide ho5; have HB5 := hide hb5; clear ho5 hb5 hg5 kg)
        all_goals
          have hne5 := own_notBlk HO5.out KG.out (by decide)
          go_wp2_with fail
          go_roundg (m - (k + 1))
          case measure => have := HK.out; omega
          case rel =>
            refine ⟨k + 1, _, by omega, by go_num, KG.out.set_ 2 _, ?_, (HB.out.trans (((Below.refl R wr).drewN 1).trans HB5.out)).setCell (p := ⟨R, 2, none⟩) (Nat.le_refl _) _⟩
            rw [HY2.out]
            unfold OwnE
            rw [List.length_append, ecs_append]
            exact own_fr HO5.out ((Fr.refl [R] w5).setCell (p := ⟨R, 2, none⟩) (.inl (by simp)) _) (fun b e hm => by
              have : b = R := by simpa using hm
              subst this
              exact hne5 e)
      · have HN2 := hide (HN.out ht)
        have hdt : decide (t ≤ θ) = false := by simpa using ht
        clear HY HN ht
        go_wp2_with fail
        go_roundg (m - (k + 1))
        case measure => have := HK.out; omega
        case rel => exact ⟨k + 1, V, by omega, by go_num, HXX.out, by rw [HN2.out]; exact HO.out, HB.out⟩
    · obtain rfl : m = k := by omega
      have htk : l.take m = l := List.take_of_length_le (by rw [HM.out]; exact Nat.le_refl _)
      have ho := HO.out
      rw [htk] at ho
      obtain ⟨A5, c5, rfl, -⟩ := ho.form
      have HO2 := hide ho
      have HOK := hide (undL_ok HG.out.ok θ)
      have hul := undL_len l θ
      have HUL : Hid ((undL l θ).length ≤ 16384) := by have := HM.out; show _ ≤ _; omega
      clear ho HO htk hul
      go_wp2_with fail
      go_ret
      rw [HR.out]
      exact ⟨R, A5, c5, rfl, ⟨HXX.out, HO2.out, HOK.out, nb, HUL.out⟩, HB.out⟩
end Go.Proofs.Ytpgkhmjlbaoagaa
