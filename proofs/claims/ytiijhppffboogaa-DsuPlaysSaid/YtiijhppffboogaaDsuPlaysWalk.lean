/- The walk of DsuPlays. -/
import Derived.Test.YtiijhppffboogaaDsuNewsWalk
namespace Go.Proofs.Ytiijhppffboogaa
open Go.RowKit
set_option linter.unusedVariables false

theorem refUnion (w : World) (x y : Int) (g n B : Nat) (L : Nat → Nat) (h : Ref w g n L B) (hl : Lab n L) :
    Calls Try.prog 29 #[.pointer (some ⟨g, 0, none⟩), .int .i64 x, .int .i64 y] w
      fun e w' => e = .returned (.tuple #[.bool (unionB n L x y), .int .i64 (unionE n x y)]) ∧ Ref w' g n (unionL n L x y) B ∧ Below B w w' := by
  cases hx : (inB n x && inB n y)
  · refine (refUnion_no w x y g n B L h hx).mono fun e w' ⟨he, hw⟩ => ?_
    subst hw
    have e1 : unionB n L x y = false := by unfold unionB; rw [hx]; rfl
    have e2 : unionE n x y = 3 := by unfold unionE; rw [hx]; rfl
    have e3 : unionL n L x y = L := by unfold unionL; rw [hx]; rfl
    rw [e1, e2, e3]
    exact ⟨he, h, Below.refl _ _⟩
  · have hx' : inB n x = true ∧ inB n y = true := by simpa using hx
    have a1 : 0 ≤ x ∧ x < n := by simpa [inB] using hx'.1
    have a2 : 0 ≤ y ∧ y < n := by simpa [inB] using hx'.2
    obtain ⟨a, rfl⟩ := Int.eq_ofNat_of_zero_le a1.1
    obtain ⟨b, rfl⟩ := Int.eq_ofNat_of_zero_le a2.1
    have e1 : unionB n L a b = !(L a == L b) := by unfold unionB; rw [hx]; rfl
    have e2 : unionE n a b = 0 := by unfold unionE; rw [hx]; rfl
    have e3 : unionL n L a b = merge L (L a) (L b) := by unfold unionL; rw [hx]; rfl
    rw [e1, e2, e3]
    exact refUnion_in w a b g n B L h (by omega) (by omega) hl

theorem refNil_Union (w : World) (a b : Int) : Calls Try.prog 29 #[.pointer none, .int .i64 a, .int .i64 b] w fun e w' => e = .returned (.tuple #[.bool false, .int .i64 1]) ∧ w = w' := by
  go_enter Try.func29, Try.ntmps29
  go_wp2_with (go_at_call 40; refine (refNil_valid _).mono ?_; rintro e w' ⟨rfl, rfl⟩)
  go_ret2
  exact ⟨rfl, rfl⟩

set_option maxRecDepth 100000 in
set_option maxHeartbeats 8000000 in
theorem dsuPlays_walk (a0 : Int) (v1 : Value) (l : List (Int × Int)) (a2 a3 : Int) (W : World) (w0 : (Lit.int .i64 a0).wf = true) (w1 : IsPairs W v1 l) (w2 : (Lit.int .i64 a2).wf = true) (w3 : (Lit.int .i64 a3).wf = true) :
    Calls Try.prog 9 #[.int .i64 a0, v1, .int .i64 a2, .int .i64 a3] W fun e W' => e = .returned (.bool true) ∧ Below W.heap.size W W' := by
  obtain ⟨A, m, c, rfl, hm, hlen, hok, hr⟩ := w1
  have hm' : m ≤ 9223372036854775807 := by unfold maxLen at hm; omega
  have HR := hide hr
  have HLn := hide hlen
  clear hr hok hlen hm w0 w2 w3
  cases hs : newOk a0
  · have HS := hide hs
    clear hs
    go_enter Try.func9, Try.ntmps9
    go_wp2_with fail
    refine (dsuNew_no _ _ HS.out).mono ?_
    rintro e w1 ⟨rfl, rfl⟩
    go_wp2_with fail
    refine (refNew_no _ _ HS.out).mono ?_
    rintro e w1 ⟨rfl, rfl⟩
    have h' : a0 < 0 ∨ 65536 < a0 := by have := HS.out; simp [newOk] at this; omega
    by_cases hbig : 65536 < a0 ∨ 300 < m
    · rcases hbig with hbig | hbig
      · clear h'
        go_wp2_with fail
        refine (works8 _).mono ?_
        rintro e w1 ⟨rfl, hb⟩
        go_wp2_with fail
        go_ret
        exact ⟨rfl, hb⟩
      · rcases h' with h' | h'
        all_goals
          go_wp2_with fail
          refine (works8 _).mono ?_
          rintro e w1 ⟨rfl, hb⟩
          go_wp2_with fail
          go_ret
          exact ⟨rfl, hb⟩
    · have h0 : a0 < 0 := by omega
      have hm3 : m ≤ 300 := by omega
      have hN : IsGrp W 0 (.slice none 0 0) [] := ⟨none, 0, [], rfl, fun ad e => (by cases e), Rd.nil, fun j hj => by simp at hj⟩
      have HN := hide hN
      clear hN h' hbig
      go_wp2_with fail
      go_loopg [13] m (fun q v wr => ∃ (k d : Nat), k + q = m ∧ v = .int .i64 (k : Int) ∧ wr = W.drewN d)
      case atStart => exact ⟨0, 0, by omega, rfl, rfl⟩
      case round =>
        obtain ⟨k, d, hk, rfl, rfl⟩ := hrel
        have HK := hide hk
        have hkm : k ≤ m := by omega
        clear hk
        by_cases hlt : k < m
        · obtain ⟨b, o, rfl, hblt, c0, c1⟩ := HR.out.pair k (by have := HLn.out; omega) HLn.out
          generalize l[k]'(by have := HLn.out; omega) = e at *
          obtain ⟨x, y⟩ := e
          go_wp2_with fail
          go_quiet ((go_at_call 20; first | exact quiet_any2 (quiet_eq (dsuBad_union _ _ _ _ (.inl rfl))) | exact quiet_any1 (quiet_eq (dsuBad_union _ _ _ _ (.inl rfl)))))
          go_wp2_with fail
          go_quiet ((go_at_call 29; first | exact quiet_any2 (quiet_eq (refNil_Union _ _ _)) | exact quiet_any1 (quiet_eq (refNil_Union _ _ _))))
          go_wp2_with (first | (go_at_call 27; refine (agree_nil _ _ _).mono ?_; rintro e w' ⟨rfl, kk, rfl⟩))
          go_roundg (m - (k + 1))
          case measure => have := HK.out; omega
          case rel => exact ⟨k + 1, _, by omega, by go_num, rfl⟩
        · go_wp2_with fail
          refine (dsuBad_groups _ _ (.inl rfl)).mono ?_
          rintro e w1 ⟨rfl, rfl⟩
          go_wp2_with fail
          refine (refNil_Groups _).mono ?_
          rintro e w1 ⟨rfl, rfl⟩
          go_wp2_with fail
          refine (groups_true _ _ _ [] (HN.out.drewN _) (HN.out.drewN _) (by simp) (by simp)).mono ?_
          rintro e w1 ⟨rfl, k2, rfl⟩
          go_wp2_with fail
          refine (agree_nil _ _ _).mono ?_
          rintro e w1 ⟨rfl, k1, rfl⟩
          go_wp2_with fail
          refine (works8 _).mono ?_
          rintro e w1 ⟨rfl, hb⟩
          go_wp2_with fail
          go_ret
          exact ⟨rfl, ⟨hb.os, hb.tape, hb.output, hb.size, hb.block⟩⟩
  · have hs' : 0 ≤ a0 ∧ a0 ≤ 65536 := by simpa [newOk] using hs
    obtain ⟨n, rfl⟩ := Int.eq_ofNat_of_zero_le hs'.1
    have hn : n ≤ 65536 := by omega
    clear hs hs'
    by_cases hbig : n ≤ 300 ∧ m ≤ 300
    · obtain ⟨hn3, hm3⟩ := hbig
      go_enter Try.func9, Try.ntmps9
      go_wp2_with fail
      refine (dsuNew_ok W n hn).mono ?_
      rintro e w1 ⟨p, rfl, hd1, hb1, hp1⟩
      go_wp2_with fail
      refine (refNew_ok _ n hn).mono ?_
      rintro e w2 ⟨g, rfl, hr2, hb2⟩
      have hBl := hb1.size
      have h2 : Both w2 p n (fun i => i) g w1.heap.size := ⟨hd1.fresh hb2, hr2, hd1.lt⟩
      have HB2 := hide (hb1.trans (hb2.mono hb1.size))
      have H2 := hide h2
      clear hd1 hr2 hb1 hb2 h2
      generalize w1.heap.size = Bq at *
      go_wp2_with fail
      go_loopg [13] m (fun q v wr => ∃ (k : Nat) (L : Nat → Nat), k + q = m ∧ v = .int .i64 (k : Int) ∧ Both wr p n L g Bq ∧ Below W.heap.size W wr)
      case atStart => exact ⟨0, fun i => i, by omega, rfl, H2.out, HB2.out⟩
      case round =>
        obtain ⟨k, L, hk, rfl, hd, hb⟩ := hrel
        have HK := hide hk
        have hkm : k ≤ m := by omega
        have HD := hide hd
        have HB := hide hb
        clear hk H2 HB2 hd hb
        by_cases hlt : k < m
        · obtain ⟨b, o, rfl, hblt, c0, c1⟩ := HR.out.pair k (by have := HLn.out; omega) HLn.out
          generalize l[k]'(by have := HLn.out; omega) = e at *
          obtain ⟨x, y⟩ := e
          have d0 : wr.cell? ⟨b, o + k * 2, none⟩ = some (.int .i64 x) := (HB.out.cell (p := ⟨b, o + k * 2, none⟩) hblt).trans c0
          have d1 : wr.cell? ⟨b, o + k * 2 + 1, none⟩ = some (.int .i64 y) := (HB.out.cell (p := ⟨b, o + k * 2 + 1, none⟩) hblt).trans c1
          have U := fun W h => dsuUnion W x y p n L h
          have V := fun W h => refUnion W x y g n Bq L h HD.out.d.lab
          generalize unionB n L x y = u at *
          generalize unionE n x y = f at *
          generalize unionL n L x y = L2 at *
          have HC0 := hide c0
          have HC1 := hide c1
          have HU := hide U
          have HV := hide V
          clear c0 c1 U V
          go_wp2_with fail
          go_region_held3 (fun w' => w'.cell? ⟨b, o + k * 2, none⟩ = some (.int .i64 x) ∧ w'.cell? ⟨b, o + k * 2 + 1, none⟩ = some (.int .i64 y))
            (first | exact ⟨d0, d1⟩ | exact ⟨(hb3.cell (p := ⟨b, o + k * 2, none⟩) hblt).trans HC0.out, (hb3.cell (p := ⟨b, o + k * 2 + 1, none⟩) hblt).trans HC1.out⟩)
            (first | (go_at_call 20; refine (HU.out _ (HD.out.d.drewN 1)).mono ?_; rintro e w3 ⟨rfl, hd3, hfr3⟩; have hb3 : Below W.heap.size W w3 := (HB.out.drewN 1).trans (hfr3.below (Loc.notin (HD.out.d.drewN 1) hp1) HB.out.size)))
          have hr3 := (HD.out.drewN 1).keepR4 hfr3
          have e0 : w3.cell? ⟨b, o + k * 2, none⟩ = some (.int .i64 x) := (hb3.cell (p := ⟨b, o + k * 2, none⟩) hblt).trans HC0.out
          have e1 : w3.cell? ⟨b, o + k * 2 + 1, none⟩ = some (.int .i64 y) := (hb3.cell (p := ⟨b, o + k * 2 + 1, none⟩) hblt).trans HC1.out
          clear d0 d1 hfr3
          go_wp2_with fail
          go_region_held3 (fun w' => w'.cell? ⟨b, o + k * 2, none⟩ = some (.int .i64 x) ∧ w'.cell? ⟨b, o + k * 2 + 1, none⟩ = some (.int .i64 y))
            (first | exact ⟨e0, e1⟩ | exact ⟨(hb4.cell (p := ⟨b, o + k * 2, none⟩) hblt).trans HC0.out, (hb4.cell (p := ⟨b, o + k * 2 + 1, none⟩) hblt).trans HC1.out⟩)
            (first | (go_at_call 29; refine (HV.out _ (hr3.drewN 1)).mono ?_; rintro e w4 ⟨rfl, hr4, hbe4⟩; have hb4 : Below W.heap.size W w4 := (hb3.drewN 1).trans (hbe4.mono hBl)))
          have h4 : Both w4 p n L2 g Bq := ⟨(hd3.drewN 1).below hbe4 HD.out.lt, hr4, HD.out.lt⟩
          have g0 : w4.cell? ⟨b, o + k * 2, none⟩ = some (.int .i64 x) := (hb4.cell (p := ⟨b, o + k * 2, none⟩) hblt).trans HC0.out
          have g1 : w4.cell? ⟨b, o + k * 2 + 1, none⟩ = some (.int .i64 y) := (hb4.cell (p := ⟨b, o + k * 2 + 1, none⟩) hblt).trans HC1.out
          have H4 := hide h4
          have HB4 := hide hb4
          clear e0 e1 hr3 hd3 hr4 hbe4 h4 hb4 hb3
          go_wp2_with (first | (go_at_call_of 27 (Value.int .i64 a2); (refine (agree_true _ x a2 p n g _ _ H4.out hn).mono ?_); rintro e w5 ⟨rfl, h5, hf5⟩; have hb5 := hf5.lift HB4.out (by simpa using hp1.2.1) HB4.out.size; have q1 : w5.cell? ⟨b, o + k * 2 + 1, none⟩ = some (.int .i64 y) := (hb5.cell (p := ⟨b, o + k * 2 + 1, none⟩) hblt).trans HC1.out; have H5 := hide h5; have HB5 := hide hb5; clear h5 hf5 hb5) | (go_at_call_of 27 (Value.int .i64 a3); (refine (agree_true _ a3 y p n g _ _ H5.out hn).mono ?_); rintro e w6 ⟨rfl, h6, hf6⟩; have hb6 := hf6.lift HB5.out (by simpa using hp1.2.1) HB5.out.size; have H6 := hide h6; have HB6 := hide hb6; clear h6 hf6 hb6))
          go_roundg (m - (k + 1))
          case measure => have := HK.out; omega
          case rel => exact ⟨k + 1, L2, by omega, by go_num, H6.out, HB6.out⟩
        · go_wp2_with fail
          refine (dsuGroups _ _ _ _ HD.out.d).mono ?_
          rintro e w4 ⟨v4, rfl, hd4, hg4, hf4⟩
          have h4 := HD.out.fr1 hd4 hf4 (HD.out.keepR hf4)
          have HB4 := hide (hf4.lift HB.out (by simpa using hp1.2.1) HB.out.size)
          obtain ⟨A4, c4, rfl⟩ := hg4.form
          have HG4 := hide hg4
          clear hd4 hf4 hg4
          go_wp2_with fail
          refine (refGroups _ _ _ _ _ h4.r h4.d.lab).mono ?_
          rintro e w5 ⟨v5, rfl, hg5, hb5⟩
          have HB5 := hide (HB4.out.trans (hb5.mono HB4.out.size))
          have HG4' := hide (HG4.out.keep hb5)
          have h5 := h4.fresh hb5
          obtain ⟨A5, c5, rfl⟩ := hg5.form
          have HG5 := hide hg5
          clear hg5 hb5 h4
          go_wp2_with fail
          refine (both_groups _ _ _ n _ HG4'.out HG5.out hn).mono ?_
          rintro e w6 ⟨rfl, k6, rfl⟩
          go_wp2_with fail
          refine (agree_true _ a2 a3 p n g _ _ (h5.drewN k6) hn).mono ?_
          rintro e w7 ⟨rfl, h7, hf7⟩
          have HB7 := hide (hf7.lift (HB5.out.drewN k6) (by simpa using hp1.2.1) HB5.out.size)
          clear h5 h7 hf7
          go_wp2_with fail
          refine (works8 _).mono ?_
          rintro e w8 ⟨rfl, hb8⟩
          go_wp2_with fail
          go_ret
          exact ⟨rfl, HB7.out.trans (hb8.mono HB7.out.size)⟩
    · have hbig' : 300 < n ∨ 300 < m := by omega
      clear hbig
      by_cases h3 : 300 < n
      · go_enter Try.func9, Try.ntmps9
        go_wp2_with fail
        refine (dsuNew_ok W n hn).mono ?_
        rintro e w1 ⟨p, rfl, hd1, hb1, hp1⟩
        go_wp2_with fail
        refine (refNew_ok _ n hn).mono ?_
        rintro e w2 ⟨g, rfl, hr2, hb2⟩
        have HB2 := hide (hb1.trans (hb2.mono hb1.size))
        clear hb1 hb2
        go_wp2_with fail
        refine (works8 _).mono ?_
        rintro e w3 ⟨rfl, hb⟩
        go_wp2_with fail
        go_ret
        exact ⟨rfl, HB2.out.trans (hb.mono HB2.out.size)⟩
      · have h4 : 300 < m := by omega
        clear hbig'
        go_enter Try.func9, Try.ntmps9
        go_wp2_with fail
        refine (dsuNew_ok W n hn).mono ?_
        rintro e w1 ⟨p, rfl, hd1, hb1, hp1⟩
        go_wp2_with fail
        refine (refNew_ok _ n hn).mono ?_
        rintro e w2 ⟨g, rfl, hr2, hb2⟩
        have HB2 := hide (hb1.trans (hb2.mono hb1.size))
        clear hb1 hb2
        go_wp2_with fail
        refine (works8 _).mono ?_
        rintro e w3 ⟨rfl, hb⟩
        go_wp2_with fail
        go_ret
        exact ⟨rfl, HB2.out.trans (hb.mono HB2.out.size)⟩
end Go.Proofs.Ytiijhppffboogaa
