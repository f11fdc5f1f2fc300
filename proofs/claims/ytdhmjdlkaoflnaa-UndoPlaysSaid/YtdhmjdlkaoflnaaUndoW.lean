/- seepagelaw09: works, made. -/
import Derived.Test.YtdhmjdlkaoflnaaUndoH
namespace Go.Proofs.Ytdhmjdlkaoflnaa
open Go.RowKit
set_option linter.unusedVariables false

def s0 : HS := ⟨[], fun i => i⟩
def s1 : HS := stepH 5 s0 (3, 1)
def s2 : HS := stepH 5 s1 (1, 3)
def s3 : HS := stepH 5 s2 (4, 3)
theorem ex9 : unionB 5 s0.L 3 1 = true ∧ unionE 5 3 1 = 0 ∧ unionB 5 s1.L 1 3 = false ∧ unionE 5 1 3 = 0 ∧ unionB 5 s2.L 4 3 = true ∧ unionE 5 4 3 = 0 ∧ s3.past.length = 2 ∧
    lrg 5 (foldH 5 [(0, 2), (2, 0), (0, 4)] s3).L = 5 ∧ sets 5 (foldH 5 [(0, 2), (2, 0), (0, 4)] s3).L = 1 ∧ sq 5 (foldH 5 [(0, 2), (2, 0), (0, 4)] s3).L = 25 ∧
    (s3.past.take 1).length = 1 ∧ sameB 5 (atL s3.past s3.L 1) 1 3 = true ∧ sameB 5 (atL s3.past s3.L 1) 3 4 = false := by decide +kernel
theorem ex9a : allIn 5 [(0, 2), (2, 0), (0, 4)] := by
  intro e he
  simp at he
  rcases he with rfl | rfl | rfl <;> decide

set_option maxRecDepth 100000 in
set_option maxHeartbeats 8000000 in
theorem works9 (w : World) : Calls Try.prog 11 #[] w fun e w' => e = .returned (.bool true) ∧ Below w.heap.size w w' := by
  obtain ⟨e1, e2, e3, e4, e5, e6, e7, e8, e9, e10, e11, e12, e13⟩ := ex9
  have U1 := fun w g B h => atUnion w 3 1 g B 5 s0 h
  have U2 := fun w g B h => atUnion w 1 3 g B 5 s1 h
  have U3 := fun w g B h => atUnion w 4 3 g B 5 s2 h
  have T := fun w g B v h hl hb => atTrial w g B 5 s3 v [(0, 2), (2, 0), (0, 4)] h hl hb ex9a
  have N1 := fun w g B h => atUndo_no w 3 g B 5 s3.past s3.L h (.inr (by rw [e7]; decide))
  have N2 := fun w g B h => atUndo w 1 g B 5 s3.past s3.L h (by rw [e7]; decide)
  have K := fun w g B h => atMark w g B 5 (s3.past.take 1) (atL s3.past s3.L 1) h
  have S1 := fun w g B h => atSame w 1 3 g B 5 (s3.past.take 1) (atL s3.past s3.L 1) h
  have S2 := fun w g B h => atSame w 3 4 g B 5 (s3.past.take 1) (atL s3.past s3.L 1) h
  rw [e1, e2] at U1
  rw [e3, e4] at U2
  rw [e5, e6] at U3
  unfold rowV at T
  rw [e8, e9, e10] at T
  rw [e11] at K
  rw [e12] at S1
  rw [e13] at S2
  have g1 : stepH 5 s0 (3, 1) = s1 := rfl
  have g2 : stepH 5 s1 (1, 3) = s2 := rfl
  have g3 : stepH 5 s2 (4, 3) = s3 := rfl
  rw [g1] at U1
  rw [g2] at U2
  rw [g3] at U3
  clear e1 e2 e3 e4 e5 e6 e7 e8 e9 e10 e11 e12 e13 g1 g2 g3
  generalize atL s3.past s3.L 1 = L4 at *
  generalize s3.past.take 1 = P4 at *
  have G0 : Hid (s0.past = [] ∧ s0.L = fun i => i) := ⟨rfl, rfl⟩
  generalize s3 = t3 at *
  generalize s2 = t2 at *
  generalize s1 = t1 at *
  generalize s0 = t0 at *
  have HU1 := hide U1
  have HU2 := hide U2
  have HU3 := hide U3
  have HT := hide T
  have HN1 := hide N1
  have HN2 := hide N2
  have HK := hide K
  have HS1 := hide S1
  have HS2 := hide S2
  clear U1 U2 U3 T N1 N2 K S1 S2
  have heq : ∀ W : World, (binOp .eql 48 (.agg #[.int .i64 5, .int .i64 1, .int .i64 25]) (.agg #[.int .i64 5, .int .i64 1, .int .i64 25])).run Try.prog W = .ok (.bool true) W := fun W => by kernel_rfl
  go_enter Try.func11, Try.ntmps11
  go_wp2_with fail
  refine (atNew w 5 (by decide)).mono ?_
  rintro e w1 ⟨g, rfl, hd1, hb1⟩
  rw [← G0.out.1, ← G0.out.2] at hd1
  go_wp2_with fail
  refine (HU1.out _ g _ hd1).mono ?_
  rintro e w2 ⟨rfl, hd2, hb2⟩
  have B2 := hide (hb1.trans hb2)
  clear hd1 hb1 hb2
  go_wp2_with fail
  refine (HU2.out _ g _ hd2).mono ?_
  rintro e w3 ⟨rfl, hd3, hb3⟩
  have B3 := hide (B2.out.trans hb3)
  clear hd2 hb3 B2
  go_wp2_with fail
  refine (HU3.out _ g _ hd3).mono ?_
  rintro e w4 ⟨rfl, hd4, hb4⟩
  have B4 := hide (B3.out.trans hb4)
  clear hd3 hb4 B3
  go_wp2_with fail
  have h64 : w.heap.size ≤ w4.heap.size := hd4.size
  have hbk : Blk (w4.alloc (.cells #[.int .i64 0, .int .i64 2, .int .i64 2, .int .i64 0, .int .i64 0, .int .i64 4] 46)) w4.heap.size 46 #[.int .i64 0, .int .i64 2, .int .i64 2, .int .i64 0, .int .i64 0, .int .i64 4] := Blk.new w4 _ _
  have hip : IsPairs (w4.alloc (.cells #[.int .i64 0, .int .i64 2, .int .i64 2, .int .i64 0, .int .i64 0, .int .i64 4] 46)) (.slice (some ⟨w4.heap.size, 0, none⟩) 3 3) [(0, 2), (2, 0), (0, 4)] :=
    ⟨_, 3, 3, rfl, by simp [maxLen], rfl, by intro a ha; simp at ha; rcases ha with rfl | rfl | rfl <;> simp [PairOk, inI64], Rd.lit w4 #[.int .i64 0, .int .i64 2, .int .i64 2, .int .i64 0, .int .i64 0, .int .i64 4] 46 3 2 rfl⟩
  refine (HT.out _ g _ _ (hd4.fresh ((Below.refl _ _).alloc (Nat.le_refl _) _)) hip (fun A m c e _ ad hA p hp hu => by
    injection e with e1 e2 e3
    rw [← e1] at hA
    injection hA with hA
    subst hA
    exact hu.notin hbk (by decide) (by decide))).mono ?_
  rintro e w5 ⟨rfl, hd5, hb5⟩
  have B5 := hide ((B4.out.alloc h64 (.cells #[.int .i64 0, .int .i64 2, .int .i64 2, .int .i64 0, .int .i64 0, .int .i64 4] 46)).trans hb5)
  clear hd4 hb5 B4 hbk hip h64
  go_wp2_with fail
  have hd6 := hd5.fresh ((Below.refl w5.heap.size w5).alloc (Nat.le_refl _) (.cells #[.int .i64 5, .int .i64 1, .int .i64 25] 48))
  have B6 := hide (B5.out.alloc hd5.size (.cells #[.int .i64 5, .int .i64 1, .int .i64 25] 48))
  clear hd5 B5
  refine (HN1.out _ g _ hd6).mono ?_
  rintro e w7 ⟨rfl, rfl⟩
  go_wp2_with fail
  refine (HN2.out _ g _ hd6).mono ?_
  rintro e w7 ⟨rfl, hd7, hb7⟩
  have B7 := hide (B6.out.trans hb7)
  clear hd6 hb7 B6
  go_wp2_with fail
  refine (HK.out _ g _ hd7).mono ?_
  rintro e w8 ⟨rfl, rfl⟩
  go_wp2_with fail
  refine (HS1.out _ g _ hd7).mono ?_
  rintro e w8 ⟨rfl, rfl⟩
  go_wp2_with fail
  refine (HS2.out _ g _ hd7).mono ?_
  rintro e w8 ⟨rfl, rfl⟩
  go_wp2_with fail
  go_ret
  exact ⟨rfl, B7.out⟩

/-- What made starts from. -/
def h0 : HS := ⟨[], fun i => i⟩
def madeH (l : List (Nat × Nat)) : HS := foldH 50 (prs l) h0
theorem made_true (w : World) (v : Value) (l : List (Nat × Nat)) (hl : IsPairs8 w v l) :
    Calls Try.prog 12 #[v] w
      fun e w' => ∃ g, e = .returned (.pointer (some ⟨g, 0, none⟩)) ∧ UndAt w' g w.heap.size 50 (madeH l).past (madeH l).L ∧ Below w.heap.size w w' := by
  obtain ⟨A, m, c, rfl, hm, hlen, hok, hr⟩ := hl
  have HR := hide hr
  have HLn := hide hlen
  have HOK := hide hok
  have HM := hide hm
  clear hr hlen hok hm
  go_enter Try.func12, Try.ntmps12
  go_wp2_with fail
  refine (atNew w 50 (by decide)).mono ?_
  rintro e w1 ⟨g, rfl, hd1, hb1⟩
  have hip : IsPairs8 w1 (.slice A m c) l := ⟨A, m, c, rfl, HM.out, HLn.out, HOK.out, HR.out.below hb1⟩
  go_wp2_with fail
  refine (atAdd w1 g _ h0 _ l hd1 hip (fun A' n' c' e h0 ad hA => ?_)).mono ?_
  · injection e with e1 e2 e3
    subst e1; subst e2
    obtain ⟨b, o, e4, hb, _⟩ := HR.out.2 h0
    rw [hA] at e4
    injection e4 with e4
    subst e4
    exact hb
  rintro e w2 ⟨rfl, hd2, hb2⟩
  go_wp2_with fail
  go_ret
  exact ⟨g, rfl, hd2, hb1.trans hb2⟩
end Go.Proofs.Ytdhmjdlkaoflnaa
