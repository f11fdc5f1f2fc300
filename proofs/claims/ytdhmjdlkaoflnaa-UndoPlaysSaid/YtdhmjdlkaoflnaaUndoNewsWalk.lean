/- seepageref09: New, nil sets; agree; the walk of UndoNews. -/
import Derived.Test.YtdhmjdlkaoflnaaRe9B
import Derived.Test.YtdhmjdlkaoflnaaUndoNilWalk
namespace Go.Proofs.Ytdhmjdlkaoflnaa
open Go.RowKit
set_option linter.unusedVariables false

theorem r9New_no (w : World) (n : Int) (h : newOk n = false) :
    Calls Try.prog 20 #[.int .i64 n] w fun e w' => e = .returned (.tuple #[.pointer none, .int .i64 2]) ∧ w = w' := by
  have h' : n < 0 ∨ 65536 < n := by simp [newOk] at h; omega
  by_cases h0 : n < 0
  · clear h h'
    go_enter Try.func20, Try.ntmps20
    go_wp2_with fail
    go_ret2
    exact ⟨rfl, rfl⟩
  · have h1 : 65536 < n := by omega
    clear h h'
    go_enter Try.func20, Try.ntmps20
    go_wp2_with fail
    go_ret2
    exact ⟨rfl, rfl⟩


set_option maxHeartbeats 4000000 in
theorem r9New_ok (w : World) (n : Nat) (hn : n ≤ 65536) :
    Calls Try.prog 20 #[.int .i64 (n : Int)] w fun e w' => ∃ g : Nat, e = .returned (.tuple #[.pointer (some ⟨g, 0, none⟩), .int .i64 0]) ∧ Ref9 w' g n [] (fun i => i) w.heap.size ∧ Below w.heap.size w w' := by
  obtain ⟨i0, hi, hz0, hz1, hz2⟩ := info_parts int_info0
  have hi' := hide hi
  have hz0' := hide hz0
  have hz1' := hide hz1
  have hz2' := hide hz2
  clear hi hz0 hz1 hz2
  go_enter Try.func20, Try.ntmps20
  go_wp2_with fail
  have hb0 : Blk (w.alloc (.cells #[.bool true, .slice none 0 0, .slice none 0 0] 66)) w.heap.size 66 #[.bool true, .slice none 0 0, .slice none 0 0] := Blk.new _ _ _
  have hbel : Below w.heap.size w (w.alloc (.cells #[.bool true, .slice none 0 0, .slice none 0 0] 66)) := (Below.refl _ _).alloc (Nat.le_refl _) _
  generalize w.alloc (.cells #[.bool true, .slice none 0 0, .slice none 0 0] 66) = w0 at *
  generalize hg : w.heap.size = g at *
  have HB0 := hide hb0
  have HBEL := hide hbel
  have HG := hide hg
  clear hb0 hbel hg
  go_loopg [5] n (fun q v wr => ∃ (k : Nat) (V : Value), k + q = n ∧ v = .int .i64 (k : Int) ∧ Blk wr g 66 #[.bool true, V, .slice none 0 0] ∧ wr.ownsRow g 3 1 V k (arr k fun i => i).toList ∧ Below g w wr)
  case atStart => exact ⟨0, .slice none 0 0, by omega, rfl, HB0.out, own_nil _ _ _ _, HBEL.out⟩
  case round =>
    obtain ⟨k, V, hk, rfl, hb, ho, hbel⟩ := hrel
    have HK := hide hk
    have hkn : k ≤ n := by omega
    clear hk HB0 HBEL
    by_cases hlt : k < n
    · have c1 : wr.cell? ⟨g, 1, none⟩ = some V := by rw [hb.cell]; rfl
      have hnb := own_notBlk ho hb (by decide)
      have HNB := hide hnb
      have HB := hide hb
      have HO := hide ho
      have HBL := hide hbel
      have hsz : g ≤ wr.heap.size := Nat.le_of_lt hb.lt
      clear hb ho hbel hnb
      go_wp2_with (first | (at_builtin; go_loud (refine app_one 27 3 Try.underlying27 hi'.out hz0'.out hz1'.out hz2'.out rfl (by decide) wr #[.int .i64 (k : Int)] rfl (by intro u hu; simp at hu; subst hu; rfl) rfl (.tmp 23) (.tmp 25) rfl g V k _ rfl HO.out rfl (by unfold maxLen; omega) (by omega) hsz ?_; intro vo' w5 ho5 hg5 hat5 hb5; obtain ⟨A5, c5, rfl, _⟩ := own_form ho5; have hb6 := HB.out.grown hg5 HNB.out; have f6 := hb6.frozen 1; have c6 := (show w5.cell? ⟨g, 1, none⟩ = some V from (hb6.cell 1).trans rfl); have HB6 := hide hb6; have HO5 := hide ho5; have HB5 := hide hb5; clear hb6 ho5 hg5 hat5 hb5)))
      go_roundg (n - (k + 1))
      case measure => have := HK.out; omega
      case rel =>
        have hb7 := HB6.out.set_ 1 (.slice A5 (k + 1) c5)
        have ho7 := own_fr HO5.out ((Fr.refl [g] _).setCell (p := ⟨g, 1, none⟩) (.inl (by simp)) (.slice A5 (k + 1) c5)) (fun b e => by simp; intro e2; subst e2; exact own_notBlk HO5.out HB6.out (by decide) e)
        refine ⟨k + 1, .slice A5 (k + 1) c5, by omega, by go_num, hb7, ?_, (HBL.out.trans HB5.out).setCell (p := ⟨g, 1, none⟩) (Nat.le_refl _) _⟩
        rw [arr_snoc]; exact ho7
    · have hkk : k = n := by omega
      subst hkk
      go_wp2_with fail
      go_ret2
      rw [HG.out]
      exact ⟨g, rfl, ⟨Nat.le_refl _, hn, V, .slice none 0 0, [], hb, ho, own_nil _ _ _ _, fun i hi => by simp at hi⟩, hbel⟩

theorem r9Nil_valid (w : World) : Calls Try.prog 42 #[.pointer none] w fun e w' => e = .returned (.bool false) ∧ w = w' := by
  go_enter Try.func42, Try.ntmps42
  go_wp2
  go_ret
  exact ⟨rfl, rfl⟩
theorem r9Nil_has (w : World) (a : Int) : Calls Try.prog 43 #[.pointer none, .int .i64 a] w fun e w' => e = .returned (.bool false) ∧ w = w' := by
  go_enter Try.func43, Try.ntmps43
  go_wp2_with (go_at_call 42; refine (r9Nil_valid _).mono ?_; rintro e w' ⟨rfl, rfl⟩)
  go_ret
  exact ⟨rfl, rfl⟩
theorem r9Nil_Same (w : World) (a b : Int) : Calls Try.prog 34 #[.pointer none, .int .i64 a, .int .i64 b] w fun e w' => e = .returned (.bool false) ∧ ∃ k, w' = w.drewN k := by
  go_enter Try.func34, Try.ntmps34
  go_wp2_with fail
  go_quiet ((go_at_call 43; exact quiet_any1 (quiet_eq (r9Nil_has _ _))))
  go_wp2_with fail
  go_ret
  exact ⟨rfl, _, rfl⟩
theorem r9Nil_Size (w : World) (a : Int) : Calls Try.prog 35 #[.pointer none, .int .i64 a] w fun e w' => e = .returned (.int .i64 0) ∧ w = w' := by
  go_enter Try.func35, Try.ntmps35
  go_wp2_with (go_at_call 43; refine (r9Nil_has _ _).mono ?_; rintro e w' ⟨rfl, rfl⟩)
  go_ret
  exact ⟨rfl, rfl⟩
theorem r9Nil_Count (w : World) : Calls Try.prog 36 #[.pointer none] w fun e w' => e = .returned (.int .i64 0) ∧ w = w' := by
  go_enter Try.func36, Try.ntmps36
  go_wp2_with (go_at_call 42; refine (r9Nil_valid _).mono ?_; rintro e w' ⟨rfl, rfl⟩)
  go_ret
  exact ⟨rfl, rfl⟩
theorem r9Nil_Mark (w : World) : Calls Try.prog 37 #[.pointer none] w fun e w' => e = .returned (.int .i64 0) ∧ w = w' := by
  go_enter Try.func37, Try.ntmps37
  go_wp2_with (go_at_call 42; refine (r9Nil_valid _).mono ?_; rintro e w' ⟨rfl, rfl⟩)
  go_ret
  exact ⟨rfl, rfl⟩
theorem r9Nil_Labels (w : World) : Calls Try.prog 38 #[.pointer none] w fun e w' => e = .returned (.slice none 0 0) ∧ w = w' := by
  go_enter Try.func38, Try.ntmps38
  go_wp2_with (go_at_call 42; refine (r9Nil_valid _).mono ?_; rintro e w' ⟨rfl, rfl⟩)
  go_ret
  exact ⟨rfl, rfl⟩

set_option maxHeartbeats 4000000 in
theorem agree9_nil (w : World) (a b : Int) : Calls Try.prog 21 #[.pointer none, .pointer none, .int .i64 a, .int .i64 b] w fun e w' => e = .returned (.bool true) ∧ ∃ k, w' = w.drewN k := by
  go_enter Try.func21, Try.ntmps21
  go_wp2_with (first | (go_at_call 22; refine (undoBad_Same _ _ _ _ (.inl rfl)).mono ?_; rintro e w' ⟨rfl, rfl⟩) | (go_at_call 34; refine (r9Nil_Same _ _ _).mono ?_; rintro e w' ⟨rfl, kk, rfl⟩) | (go_at_call 23; refine (undoBad_Size _ _ _ (.inl rfl)).mono ?_; rintro e w' ⟨rfl, rfl⟩) | (go_at_call 35; refine (r9Nil_Size _ _).mono ?_; rintro e w' ⟨rfl, rfl⟩) | (go_at_call 15; refine (undoBad_Count _ _ (.inl rfl)).mono ?_; rintro e w' ⟨rfl, rfl⟩) | (go_at_call 36; refine (r9Nil_Count _).mono ?_; rintro e w' ⟨rfl, rfl⟩) | (go_at_call 13; refine (undoBad_Mark _ _ (.inl rfl)).mono ?_; rintro e w' ⟨rfl, rfl⟩) | (go_at_call 37; refine (r9Nil_Mark _).mono ?_; rintro e w' ⟨rfl, rfl⟩) | (go_at_call 14; refine (undoBad_Labels _ _ (.inl rfl)).mono ?_; rintro e w' ⟨rfl, rfl⟩) | (go_at_call 38; refine (r9Nil_Labels _).mono ?_; rintro e w' ⟨rfl, rfl⟩) | (go_at_call 18; refine (samei_true none none 0 0 0 [] _ Rd.nil Rd.nil rfl (by decide)).mono ?_; rintro e w' ⟨rfl, k2, rfl⟩))
  go_ret
  exact ⟨rfl, _, rfl⟩

/-- Sets and the document's in the same state: both stay as they are. -/
theorem agree9_true (w : World) (a b : Int) (p : ULoc) (n g B : Nat) (past : List (Nat → Nat)) (L : Nat → Nat) (hu : Und w p n past L) (hr : Ref9 w g n past L B) :
    Calls Try.prog 21 #[.pointer (some ⟨p.g, 0, none⟩), .pointer (some ⟨g, 0, none⟩), .int .i64 a, .int .i64 b] w fun e w' => e = .returned (.bool true) ∧ Below w.heap.size w w' := by
  have nb := hu.nb
  have hl := hu.lab
  have D1 := fun w h => undoSame w a b p n past L h
  have R1 := fun w h => r9Same w a b g n B past L h
  have D2 := fun w h => undoSize w a p n past L h
  have R2 := fun w h => r9Size w a g n B past L h
  have D3 := fun w h => undoCount w p n past L h
  have R3 := fun w h => r9Count w g n B past L h hl
  generalize sameB n L a b = x3 at *
  generalize sizeV n L a = x4 at *
  generalize sets n L = x5 at *
  have HD1 := hide D1
  have HR1 := hide R1
  have HD2 := hide D2
  have HR2 := hide R2
  have HD3 := hide D3
  have HR3 := hide R3
  have HU := hide hu
  have HR := hide hr
  clear D1 R1 D2 R2 D3 R3 hu hr hl
  go_enter Try.func21, Try.ntmps21
  go_wp2_with fail
  refine (HD1.out _ HU.out).mono ?_
  rintro e w1 ⟨rfl, rfl⟩
  go_wp2_with fail
  refine (HR1.out _ HR.out).mono ?_
  rintro e w2 ⟨rfl, k2, rfl⟩
  go_wp2_with fail
  refine (HD2.out _ (HU.out.drewN k2)).mono ?_
  rintro e w3 ⟨rfl, k3, rfl⟩
  go_wp2_with fail
  refine (HR2.out _ (HR.out.drewN (k2 + k3))).mono ?_
  rintro e w4 ⟨rfl, k4, rfl⟩
  go_wp2_with fail
  refine (HD3.out _ (HU.out.drewN _)).mono ?_
  rintro e w5 ⟨rfl, k5, rfl⟩
  go_wp2_with fail
  refine (HR3.out _ (HR.out.drewN _)).mono ?_
  rintro e w6 ⟨rfl, hb6⟩
  have hb6' : Below w.heap.size w w6 := ⟨hb6.os, hb6.tape, hb6.output, hb6.size, hb6.block⟩
  have hu6 := HU.out.fresh hb6'
  have hr6 := HR.out.fresh hb6'
  have HB6 := hide hb6'
  clear hb6 hb6'
  go_wp2_with fail
  refine (undoMark _ _ _ _ _ hu6).mono ?_
  rintro e w7 ⟨rfl, rfl⟩
  go_wp2_with fail
  refine (r9Mark _ _ _ _ _ _ hr6).mono ?_
  rintro e w7 ⟨rfl, rfl⟩
  go_wp2_with fail
  refine (undoLabels _ _ _ _ _ hu6).mono ?_
  rintro e w8 ⟨b8, rfl, hk8, _, hb8⟩
  have hr8 := hr6.fresh hb8
  have HB8 := hide (HB6.out.trans (hb8.mono HB6.out.size))
  clear hu6 hr6
  go_wp2_with fail
  refine (r9Labels _ _ _ _ _ _ hr8).mono ?_
  rintro e w9 ⟨A9, c9, rfl, hrd9, hb9⟩
  have hk9 := hk8.below hb9 hk8.lt
  have HB9 := hide (HB8.out.trans (hb9.mono HB8.out.size))
  rw [arr_is] at hrd9
  have HK9 := hide hk9
  have HRD := hide hrd9
  clear hk8 hk9 hb8 hb9 hr8 hrd9
  go_wp2_with fail
  refine (samei_true _ _ n _ _ _ _ HK9.out.isr HRD.out (by simp) (by omega)).mono ?_
  rintro e w10 ⟨rfl, k10, rfl⟩
  go_wp2_with fail
  go_ret
  exact ⟨rfl, HB9.out.drewN k10⟩

set_option maxRecDepth 100000 in
set_option maxHeartbeats 4000000 in
theorem undoNews_walk (a0 a1 a2 : Int) (W : World) (w0 : (Lit.int .i64 a0).wf = true) (w1 : (Lit.int .i64 a1).wf = true) (w2 : (Lit.int .i64 a2).wf = true) :
    Calls Try.prog 5 #[.int .i64 a0, .int .i64 a1, .int .i64 a2] W fun e W' => e = .returned (.bool true) ∧ Below W.heap.size W W' := by
  clear w0 w1 w2
  cases hs : newOk a0
  · have h' : a0 < 0 ∨ 65536 < a0 := by simp [newOk] at hs; omega
    have HS := hide hs
    clear hs
    rcases h' with h' | h'
    all_goals
      go_enter Try.func5, Try.ntmps5
      go_wp2_with fail
      refine (undoNew_no _ _ HS.out).mono ?_
      rintro e w1 ⟨rfl, rfl⟩
      go_wp2_with fail
      refine (r9New_no _ _ HS.out).mono ?_
      rintro e w1 ⟨rfl, rfl⟩
      go_wp2_with fail
      refine (agree9_nil _ _ _).mono ?_
      rintro e w1 ⟨rfl, k1, rfl⟩
      go_wp2_with fail
      refine (works9 _).mono ?_
      rintro e w1 ⟨rfl, hb⟩
      go_wp2_with fail
      go_ret
      exact ⟨rfl, ⟨hb.os, hb.tape, hb.output, hb.size, hb.block⟩⟩
  · have hs' : 0 ≤ a0 ∧ a0 ≤ 65536 := by simpa [newOk] using hs
    obtain ⟨n, rfl⟩ := Int.eq_ofNat_of_zero_le hs'.1
    have hn : n ≤ 65536 := by omega
    clear hs hs'
    by_cases hbig : 300 < n
    · go_enter Try.func5, Try.ntmps5
      go_wp2_with fail
      refine (works9 _).mono ?_
      rintro e w1 ⟨rfl, hb⟩
      go_wp2_with fail
      go_ret
      exact ⟨rfl, hb⟩
    · go_enter Try.func5, Try.ntmps5
      go_wp2_with fail
      refine (undoNew_ok W n hn).mono ?_
      rintro e w1 ⟨p, rfl, hd1, hb1, hp1⟩
      go_wp2_with fail
      refine (r9New_ok _ n hn).mono ?_
      rintro e w2 ⟨g, rfl, hr2, hb2⟩
      have hd2 := hd1.fresh hb2
      have HB2 := hide (hb1.trans (hb2.mono hb1.size))
      clear hd1 hb1 hb2
      go_wp2_with fail
      refine (agree9_true _ a1 a2 p n g _ _ _ hd2 hr2).mono ?_
      rintro e w3 ⟨rfl, hb3⟩
      have HB3 := hide (HB2.out.trans (hb3.mono HB2.out.size))
      go_wp2_with fail
      refine (works9 _).mono ?_
      rintro e w7 ⟨rfl, hb7⟩
      go_wp2_with fail
      go_ret
      exact ⟨rfl, HB3.out.trans (hb7.mono HB3.out.size)⟩
end Go.Proofs.Ytdhmjdlkaoflnaa
