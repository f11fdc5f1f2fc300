/- The walk of UndoReturns. -/
import Derived.Test.YtdhmjdlkaoflnaaUndoW
namespace Go.Proofs.Ytdhmjdlkaoflnaa
open Go.RowKit
set_option linter.unusedVariables false

theorem IsPairs8.below {W w' : World} {v : Value} {l : List (Nat × Nat)} (h : IsPairs8 W v l) (k : Below W.heap.size W w') : IsPairs8 w' v l := by
  obtain ⟨A, n, c, h1, h2, h3, h4, h5⟩ := h
  exact ⟨A, n, c, h1, h2, h3, h4, h5.below k⟩
theorem IsPairs8.drewN {W : World} {v : Value} {l : List (Nat × Nat)} (h : IsPairs8 W v l) (k : Nat) : IsPairs8 (W.drewN k) v l := h
theorem IsPairs8.lt {W : World} {v : Value} {l : List (Nat × Nat)} (h : IsPairs8 W v l) : ∀ A n c, v = .slice A n c → 0 < n → ∀ ad, A = some ad → ad.block < W.heap.size := by
  obtain ⟨A, n, c, rfl, h2, h3, h4, h5⟩ := h
  intro A' n' c' e h0 ad hA
  injection e with e1 e2 e3
  subst e1; subst e2
  obtain ⟨b, o, e4, hb, _⟩ := h5.2 h0
  rw [hA] at e4
  injection e4 with e4
  subst e4
  exact hb
theorem IsPairs8.form {W : World} {v : Value} {l : List (Nat × Nat)} (h : IsPairs8 W v l) : ∃ A n c, v = .slice A n c ∧ n ≤ 9223372036854775807 ∧ l.length = n := by
  obtain ⟨A, n, c, h1, h2, h3, h4, h5⟩ := h
  exact ⟨A, n, c, h1, by unfold maxLen at h2; omega, h3⟩
theorem Blk.isr2 {w : World} {b n t : Nat} {L : Nat → Nat} (h : Blk w b t (arr n L)) : Rd w (some ⟨b, 0, none⟩) n 1 (is ((List.range n).map fun i => ((L i : Nat) : Int))) := h.isr
theorem sameL_true (w : World) (b b' n t t' : Nat) (L : Nat → Nat) (h : Blk w b t (arr n L)) (h' : Blk w b' t' (arr n L)) (hn : n ≤ 1000000) :
    Calls Try.prog 18 #[.slice (some ⟨b, 0, none⟩) n n, .slice (some ⟨b', 0, none⟩) n n] w fun e w' => e = .returned (.bool true) ∧ ∃ k, w' = w.drewN k :=
  samei_true _ _ n n n _ w h.isr h'.isr (by simp) (by omega)

set_option maxRecDepth 100000 in
set_option maxHeartbeats 8000000 in
theorem undoReturns_walk (v0 : Value) (l : List (Nat × Nat)) (v1 : Value) (m : List (Nat × Nat)) (W : World) (w0 : IsPairs8 W v0 l) (w1 : IsPairs8 W v1 m) :
    Calls Try.prog 3 #[v0, v1] W fun e W' => e = .returned (.bool true) ∧ Below W.heap.size W W' := by
  have HL := hide w0
  have HM := hide w1
  obtain ⟨A, q, c, rfl, hq, hql⟩ := w0.form
  obtain ⟨A', q', c', rfl, hq', hql'⟩ := w1.form
  clear w0 w1 hql hql'
  by_cases hbig : q ≤ 100 ∧ q' ≤ 100
  · obtain ⟨h1, h2⟩ := hbig
    go_enter Try.func3, Try.ntmps3
    go_wp2_with fail
    refine (made_true W _ l HL.out).mono ?_
    rintro e w1 ⟨g, rfl, hd1, hb1⟩
    obtain ⟨p, rfl, hp, hu1⟩ := hd1
    have ADD := fun w h hl => add_true w p (madeH l) (.slice A' q' c') m W.heap.size h hl hp HM.out.lt
    obtain ⟨z1, z2, z3⟩ := foldH_back 50 (prs m) (madeH l)
    obtain ⟨y1, y2⟩ := foldH_zero 50 (prs l) h0 rfl
    have hmk : Hid (atL (madeH l).past (madeH l).L 0 = fun i => i) := y2
    have hct := hu1.cnt
    have hB1 := hb1.size
    generalize foldH 50 (prs m) (madeH l) = s2 at *
    generalize madeH l = s1 at *
    have Z1 := hide z1
    have Z2 := hide z2
    have Z3 := hide z3
    have HADD := hide ADD
    have hpl : s1.past.length ≤ 50 := by omega
    have hsl : sets 50 s1.L ≤ 50 := by omega
    have HU1 := hide hu1
    have HB1 := hide hb1
    clear z1 z2 z3 y1 y2 ADD hct hu1 hb1
    go_wp2_with fail
    refine (undoMark _ _ _ _ _ HU1.out).mono ?_
    rintro e w2 ⟨rfl, rfl⟩
    go_wp2_with fail
    refine (undoLabels _ _ _ _ _ HU1.out).mono ?_
    rintro e w2 ⟨b, rfl, hbk, hbb, hb2⟩
    have hu2 := HU1.out.fresh hb2
    have hbn : b ∉ p.bl := fun hm => by have := HU1.out.lt b hm; omega
    have HB2 := hide (HB1.out.trans (hb2.mono hB1))
    have HBK := hide hbk
    have HU2 := hide hu2
    clear HU1 HB1 hbk hbb hb2 hu2
    go_wp2_with fail
    refine (undoCount _ _ _ _ _ HU2.out).mono ?_
    rintro e w3 ⟨rfl, k3, rfl⟩
    go_wp2_with fail
    refine (HADD.out _ (HU2.out.drewN k3) ((HM.out.below HB2.out).drewN k3)).mono ?_
    rintro e w4 ⟨rfl, p4, hu4, hm4, hf4⟩
    have hbk4 := HBK.out.fr (((Fr.refl p.bl w2).drewN k3).trans hf4) hbn
    have hp4 := hm4.from_ hp HB2.out.size
    have HB4 := hide ((HB2.out.drewN k3).trans (hf4.below hp HB2.out.size))
    have hbn4 : b ∉ p4.bl := fun hm => by
      rcases hm4.bl b hm with h | h
      · exact hbn h
      · have h5 : w2.heap.size ≤ b := h
        have := HBK.out.lt; omega
    have hg4 : p4.g = p.g := hm4.g
    have UN := undoUndo_ok w4 s1.past.length p4 50 s2.past s2.L hu4 Z3.out
    rw [hg4, Z1.out, Z2.out] at UN
    have HUN := hide UN
    have HBK4 := hide hbk4
    clear HBK HU2 HB2 hbk4 hu4 hm4 hf4 UN
    go_wp2_with fail
    refine HUN.out.mono ?_
    rintro e w5 ⟨rfl, hu5, hf5⟩
    have hbk5 := HBK4.out.fr hf5 hbn4
    have HB5 := hide (HB4.out.trans (hf5.below hp4 HB4.out.size))
    have MK := undoMark w5 p4 50 s1.past s1.L hu5
    have CT := undoCount w5 p4 50 s1.past s1.L hu5
    rw [hg4] at MK CT
    have HMK := hide MK
    have HCT := hide CT
    have HU5 := hide hu5
    have HBK5 := hide hbk5
    clear HBK4 HB4 hu5 hf5 hbk5 MK CT
    go_wp2_with fail
    refine HMK.out.mono ?_
    rintro e w6 ⟨rfl, rfl⟩
    go_wp2_with fail
    refine HCT.out.mono ?_
    rintro e w6 ⟨rfl, k6, rfl⟩
    have LB := undoLabels (w5.drewN k6) p4 50 s1.past s1.L (HU5.out.drewN k6)
    rw [hg4] at LB
    go_wp2_with fail
    refine LB.mono ?_
    rintro e w7 ⟨b7, rfl, hb7, _, hbe7⟩
    have hbk7 := Blk.below (w := w5.drewN k6) HBK5.out hbe7 HBK5.out.lt
    have hu7 : Und w7 p4 50 s1.past s1.L := (HU5.out.drewN k6).fresh hbe7
    have HB7 := hide ((HB5.out.drewN k6).trans (hbe7.mono HB5.out.size))
    clear LB
    go_wp2_with fail
    refine (sameL_true w7 b7 b 50 _ _ s1.L hb7 hbk7 (by decide)).mono ?_
    rintro e w8 ⟨rfl, k8, rfl⟩
    have U0 := undoUndo_ok (w7.drewN k8) 0 p4 50 s1.past s1.L (hu7.drewN k8) (Nat.zero_le _)
    rw [hg4, hmk.out] at U0
    have e0 : (0 : Int) = ((0 : Nat) : Int) := rfl
    have HU0 := hide U0
    clear U0 hb7 hbk7 hu7 hbe7 e0
    go_wp2_with fail
    refine HU0.out.mono ?_
    rintro e w9 ⟨rfl, hu9, hf9⟩
    have HB9 := hide ((HB7.out.drewN k8).trans (hf9.below hp4 HB7.out.size))
    have CT := undoCount w9 p4 50 _ _ hu9
    rw [hg4, sets_id] at CT
    have MK := fun k => undoMark (w9.drewN k) p4 50 _ _ (hu9.drewN k)
    have LB := fun k => undoLabels (w9.drewN k) p4 50 _ _ (hu9.drewN k)
    rw [hg4] at MK LB
    have HMK2 := hide MK
    have HLB := hide LB
    have HCT2 := hide CT
    clear hu9 hf9 CT MK LB
    go_wp2_with fail
    refine HCT2.out.mono ?_
    rintro e w10 ⟨rfl, k10, rfl⟩
    go_wp2_with fail
    refine (HMK2.out k10).mono ?_
    rintro e w11 ⟨rfl, rfl⟩
    go_wp2_with fail
    refine (HLB.out k10).mono ?_
    rintro e w12 ⟨b12, rfl, hb12, _, hbe12⟩
    have HB12 := hide ((HB9.out.drewN k10).trans (hbe12.mono HB9.out.size))
    have HBK12 := hide hb12
    clear hb12 hbe12
    go_wp2_with fail
    go_loopg [10] 50 (fun q v wr => ∃ k d : Nat, k + q = 50 ∧ v = .int .i64 (k : Int) ∧ wr = w12.drewN d)
    case atStart => exact ⟨0, 0, by omega, rfl, rfl⟩
    case round =>
      obtain ⟨k, d, hk, rfl, rfl⟩ := hrel
      have HK := hide hk
      have hkm : k ≤ 50 := by omega
      clear hk
      by_cases hlt : k < 50
      · have ck := HBK12.out.int hlt
        go_wp2_with fail
        go_roundg (50 - (k + 1))
        case measure => have := HK.out; omega
        case rel => exact ⟨k + 1, d, by omega, by go_num, rfl⟩
      · go_wp2_with fail
        refine (works9 _).mono ?_
        rintro e w13 ⟨rfl, hb13⟩
        go_wp2_with fail
        go_ret
        exact ⟨rfl, (HB12.out.drewN d).trans (hb13.mono HB12.out.size)⟩
  · by_cases h1 : 100 < q
    · clear hbig
      go_enter Try.func3, Try.ntmps3
      go_wp2_with fail
      refine (works9 _).mono ?_
      rintro e w13 ⟨rfl, hb13⟩
      go_wp2_with fail
      go_ret
      exact ⟨rfl, hb13⟩
    · have h2 : 100 < q' := by omega
      clear hbig
      go_enter Try.func3, Try.ntmps3
      go_wp2_with fail
      refine (works9 _).mono ?_
      rintro e w13 ⟨rfl, hb13⟩
      go_wp2_with fail
      go_ret
      exact ⟨rfl, hb13⟩
end Go.Proofs.Ytdhmjdlkaoflnaa
