/- seepageref08 and agree on nil; the walk of DsuNews. -/
import Derived.Test.YtiijhppffboogaaRefA
import Derived.Test.YtiijhppffboogaaDsuNil
namespace Go.Proofs.Ytiijhppffboogaa
open Go.RowKit
set_option linter.unusedVariables false

theorem refNil_valid (w : World) : Calls Try.prog 40 #[.pointer none] w fun e w' => e = .returned (.bool false) ∧ w = w' := by
  go_enter Try.func40, Try.ntmps40
  go_wp2
  go_ret
  exact ⟨rfl, rfl⟩
theorem refNil_has (w : World) (a : Int) : Calls Try.prog 41 #[.pointer none, .int .i64 a] w fun e w' => e = .returned (.bool false) ∧ w = w' := by
  go_enter Try.func41, Try.ntmps41
  go_wp2_with (go_at_call 40; refine (refNil_valid _).mono ?_; rintro e w' ⟨rfl, rfl⟩)
  go_ret
  exact ⟨rfl, rfl⟩
theorem refNil_Least (w : World) (a : Int) : Calls Try.prog 34 #[.pointer none, .int .i64 a] w fun e w' => e = .returned (.tuple #[.int .i64 0, .int .i64 1]) ∧ w = w' := by
  go_enter Try.func34, Try.ntmps34
  go_wp2_with (go_at_call 40; refine (refNil_valid _).mono ?_; rintro e w' ⟨rfl, rfl⟩)
  go_ret2
  exact ⟨rfl, rfl⟩
theorem refNil_Same (w : World) (a b : Int) : Calls Try.prog 35 #[.pointer none, .int .i64 a, .int .i64 b] w fun e w' => e = .returned (.bool false) ∧ ∃ k, w' = w.drewN k := by
  go_enter Try.func35, Try.ntmps35
  go_wp2_with fail
  go_quiet ((go_at_call 41; exact quiet_any1 (quiet_eq (refNil_has _ _))))
  go_wp2_with fail
  go_ret
  exact ⟨rfl, _, rfl⟩
theorem refNil_Size (w : World) (a : Int) : Calls Try.prog 36 #[.pointer none, .int .i64 a] w fun e w' => e = .returned (.int .i64 0) ∧ w = w' := by
  go_enter Try.func36, Try.ntmps36
  go_wp2_with (go_at_call 41; refine (refNil_has _ _).mono ?_; rintro e w' ⟨rfl, rfl⟩)
  go_ret
  exact ⟨rfl, rfl⟩
theorem refNil_Count (w : World) : Calls Try.prog 37 #[.pointer none] w fun e w' => e = .returned (.int .i64 0) ∧ w = w' := by
  go_enter Try.func37, Try.ntmps37
  go_wp2_with (go_at_call 40; refine (refNil_valid _).mono ?_; rintro e w' ⟨rfl, rfl⟩)
  go_ret
  exact ⟨rfl, rfl⟩
theorem refNil_Len (w : World) : Calls Try.prog 38 #[.pointer none] w fun e w' => e = .returned (.int .i64 0) ∧ w = w' := by
  go_enter Try.func38, Try.ntmps38
  go_wp2_with (go_at_call 40; refine (refNil_valid _).mono ?_; rintro e w' ⟨rfl, rfl⟩)
  go_ret
  exact ⟨rfl, rfl⟩
theorem refNil_Labels (w : World) : Calls Try.prog 39 #[.pointer none] w fun e w' => e = .returned (.slice none 0 0) ∧ w = w' := by
  go_enter Try.func39, Try.ntmps39
  go_wp2_with (go_at_call 40; refine (refNil_valid _).mono ?_; rintro e w' ⟨rfl, rfl⟩)
  go_ret
  exact ⟨rfl, rfl⟩
theorem refNil_Groups (w : World) : Calls Try.prog 28 #[.pointer none] w fun e w' => e = .returned (.slice none 0 0) ∧ w = w' := by
  go_enter Try.func28, Try.ntmps28
  go_wp2_with (go_at_call 40; refine (refNil_valid _).mono ?_; rintro e w' ⟨rfl, rfl⟩)
  go_ret
  exact ⟨rfl, rfl⟩

set_option maxHeartbeats 4000000 in
theorem agree_nil (w : World) (a b : Int) : Calls Try.prog 27 #[.pointer none, .pointer none, .int .i64 a, .int .i64 b] w fun e w' => e = .returned (.bool true) ∧ ∃ k, w' = w.drewN k := by
  go_enter Try.func27, Try.ntmps27
  go_wp2_with (first | (go_at_call 17; refine (dsuBad_least _ _ _ (.inl rfl)).mono ?_; rintro e w' ⟨rfl, rfl⟩) | (go_at_call 13; refine (dsuBad_same _ _ _ _ (.inl rfl)).mono ?_; rintro e w' ⟨rfl, rfl⟩) | (go_at_call 14; refine (dsuBad_size _ _ _ (.inl rfl)).mono ?_; rintro e w' ⟨rfl, rfl⟩) | (go_at_call 22; refine (dsuBad_count _ _ (.inl rfl)).mono ?_; rintro e w' ⟨rfl, rfl⟩) | (go_at_call 24; refine (dsuBad_len _ _ (.inl rfl)).mono ?_; rintro e w' ⟨rfl, rfl⟩) | (go_at_call 16; refine (dsuBad_labels _ _ (.inl rfl)).mono ?_; rintro e w' ⟨rfl, rfl⟩) | (go_at_call 34; refine (refNil_Least _ _).mono ?_; rintro e w' ⟨rfl, rfl⟩) | (go_at_call 35; refine (refNil_Same _ _ _).mono ?_; rintro e w' ⟨rfl, kk, rfl⟩) | (go_at_call 36; refine (refNil_Size _ _).mono ?_; rintro e w' ⟨rfl, rfl⟩) | (go_at_call 37; refine (refNil_Count _).mono ?_; rintro e w' ⟨rfl, rfl⟩) | (go_at_call 38; refine (refNil_Len _).mono ?_; rintro e w' ⟨rfl, rfl⟩) | (go_at_call 39; refine (refNil_Labels _).mono ?_; rintro e w' ⟨rfl, rfl⟩) | (go_at_call 19; refine (samei_true none none 0 0 0 [] _ Rd.nil Rd.nil rfl (by decide)).mono ?_; rintro e w' ⟨rfl, k2, rfl⟩))
  go_ret
  exact ⟨rfl, _, rfl⟩

theorem sizeV_id (n : Nat) (a : Int) : 0 ≤ sizeV n (fun i => i) a ∧ sizeV n (fun i => i) a ≤ 1 := by
  unfold sizeV
  cases h : inB n a
  · simp
  · have : a.toNat < n := by have : 0 ≤ a ∧ a < n := by simpa [inB] using h
                             omega
    simp only [if_true, cls_id this]; simp

set_option maxRecDepth 100000 in
set_option maxHeartbeats 4000000 in
theorem dsuNews_walk (a0 a1 a2 : Int) (W : World) (w0 : (Lit.int .i64 a0).wf = true) (w1 : (Lit.int .i64 a1).wf = true) (w2 : (Lit.int .i64 a2).wf = true) :
    Calls Try.prog 8 #[.int .i64 a0, .int .i64 a1, .int .i64 a2] W fun e W' => e = .returned (.bool true) ∧ Below W.heap.size W W' := by
  clear w0 w1 w2
  cases hs : newOk a0
  · have h' : a0 < 0 ∨ 65536 < a0 := by simp [newOk] at hs; omega
    have HS := hide hs
    clear hs
    have hN : IsGrp W 0 (.slice none 0 0) [] := ⟨none, 0, [], rfl, fun ad e => (by cases e), Rd.nil, fun j hj => by simp at hj⟩
    have HN := hide hN
    clear hN
    rcases h' with h' | h'
    all_goals
      go_enter Try.func8, Try.ntmps8
      go_wp2_with fail
      refine (dsuNew_no _ _ HS.out).mono ?_
      rintro e w1 ⟨rfl, rfl⟩
      go_wp2_with fail
      refine (refNew_no _ _ HS.out).mono ?_
      rintro e w1 ⟨rfl, rfl⟩
      go_wp2_with fail
      refine (agree_nil _ _ _).mono ?_
      rintro e w1 ⟨rfl, k1, rfl⟩
      go_wp2_with fail
      refine (dsuBad_groups _ _ (.inl rfl)).mono ?_
      rintro e w1 ⟨rfl, rfl⟩
      go_wp2_with fail
      refine (refNil_Groups _).mono ?_
      rintro e w1 ⟨rfl, rfl⟩
      go_wp2_with fail
      refine (groups_true _ _ _ [] (HN.out.drewN k1) (HN.out.drewN k1) (by simp) (by simp)).mono ?_
      rintro e w1 ⟨rfl, k2, rfl⟩
      go_wp2_with fail
      refine (works8 _).mono ?_
      rintro e w1 ⟨rfl, hb⟩
      go_wp2_with fail
      go_ret
      exact ⟨rfl, ⟨hb.os, hb.tape, hb.output, hb.size, hb.block⟩⟩
  · have hs' : 0 ≤ a0 ∧ a0 ≤ 65536 := by simpa [newOk] using hs
    obtain ⟨n, rfl⟩ := Int.eq_ofNat_of_zero_le hs'.1
    have hn : n ≤ 65536 := by omega
    clear hs hs'
    by_cases hbig : 3000 < n
    · have hsz := sizeV_id n a1
      have C := fun w p h => dsuCount w p n (fun i => i) h
      rw [sets_id] at C
      have Z := fun w p h => dsuSize w a1 p n (fun i => i) h
      obtain ⟨z1, z2⟩ := hsz
      generalize sizeV n (fun i => i) a1 = z at *
      have HC := hide C
      have HZ := hide Z
      clear C Z
      go_enter Try.func8, Try.ntmps8
      go_wp2_with fail
      refine (dsuNew_ok W n hn).mono ?_
      rintro e w1 ⟨p, rfl, hd1, hb1, hp1⟩
      go_wp2_with fail
      refine (dsuLen _ _ _ _ hd1).mono ?_
      rintro e w2 ⟨rfl, rfl⟩
      go_wp2_with fail
      refine (HC.out _ _ hd1).mono ?_
      rintro e w2 ⟨rfl, rfl⟩
      go_wp2_with fail
      refine (HZ.out _ _ hd1).mono ?_
      rintro e w2 ⟨rfl, hd2, hf2⟩
      have hb2 := hf2.lift hb1 (by simpa using hp1.2.1) hb1.size
      clear hf2
      go_wp2_with fail
      refine (works8 _).mono ?_
      rintro e w3 ⟨rfl, hb3⟩
      go_wp2_with fail
      go_ret
      exact ⟨rfl, hb2.trans (hb3.mono hb2.size)⟩
    · go_enter Try.func8, Try.ntmps8
      go_wp2_with fail
      refine (dsuNew_ok W n hn).mono ?_
      rintro e w1 ⟨p, rfl, hd1, hb1, hp1⟩
      go_wp2_with fail
      refine (refNew_ok _ n hn).mono ?_
      rintro e w2 ⟨g, rfl, hr2, hb2⟩
      have h2 : Both w2 p n (fun i => i) g w1.heap.size := ⟨hd1.fresh hb2, hr2, hd1.lt⟩
      have HB2 := hide (hb1.trans (hb2.mono hb1.size))
      clear hd1 hr2 hb1 hb2
      go_wp2_with fail
      refine (agree_true _ a1 a2 p n g _ _ h2 hn).mono ?_
      rintro e w3 ⟨rfl, h3, hf3⟩
      have HB3 := hide (hf3.lift HB2.out (by simpa using hp1.2.1) HB2.out.size)
      clear h2 hf3
      go_wp2_with fail
      refine (dsuGroups _ _ _ _ h3.d).mono ?_
      rintro e w4 ⟨v4, rfl, hd4, hg4, hf4⟩
      have h4 := h3.fr1 hd4 hf4 (h3.keepR hf4)
      have HB4 := hide (hf4.lift HB3.out (by simpa using hp1.2.1) HB3.out.size)
      obtain ⟨A4, c4, rfl⟩ := hg4.form
      have HG4 := hide hg4
      clear h3 hd4 hf4 hg4
      go_wp2_with fail
      refine (refGroups _ _ _ _ _ h4.r h4.d.lab).mono ?_
      rintro e w5 ⟨v5, rfl, hg5, hb5⟩
      have HB5 := hide (HB4.out.trans (hb5.mono HB4.out.size))
      have HG4' := hide (HG4.out.keep hb5)
      obtain ⟨A5, c5, rfl⟩ := hg5.form
      have HG5 := hide hg5
      clear hg5 hb5
      go_wp2_with fail
      refine (both_groups _ _ _ n _ HG4'.out HG5.out hn).mono ?_
      rintro e w6 ⟨rfl, k6, rfl⟩
      go_wp2_with fail
      refine (works8 _).mono ?_
      rintro e w7 ⟨rfl, hb7⟩
      go_wp2_with fail
      go_ret
      exact ⟨rfl, (HB5.out.drewN k6).trans (hb7.mono HB5.out.size)⟩
end Go.Proofs.Ytiijhppffboogaa
