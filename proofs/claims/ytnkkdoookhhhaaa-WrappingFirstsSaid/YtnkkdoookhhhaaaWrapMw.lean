/- seepagelaw30: works. -/
import Derived.Test.YtnkkdoookhhhaaaWrapL
namespace Go.Proofs.Ytnkkdoookhhhaaa
open Go.RowKit
set_option linter.unusedVariables false

theorem sets_step {W H : Nat} {E : List Nat} {e : Nat} (he : e < 2 * (W * H)) :
    (tL W H E (tS e) = tL W H E (tT W H e) ∧ sets (W * H) (tL W H (E ++ [e])) = sets (W * H) (tL W H E)) ∨ (tL W H E (tS e) ≠ tL W H E (tT W H e) ∧ sets (W * H) (tL W H (E ++ [e])) + 1 = sets (W * H) (tL W H E)) := by
  have hb := tE_in he
  by_cases hs : tL W H E (tS e) = tL W H E (tT W H e)
  · exact .inl ⟨hs, by rw [tL_snoc he, hs, merge_self]⟩
  · exact .inr ⟨hs, by rw [tL_snoc he]; exact sets_merge (tL_lab W H E) hb.1 hb.2 hs⟩
set_option maxRecDepth 100000 in
set_option maxHeartbeats 8000000 in
theorem works30 (w : World) : Calls Try.prog 15 #[] w fun e w' => e = .returned (.bool true) ∧ Below w.heap.size w w' := by
  obtain ⟨l1, l2, l3, l4, l5⟩ := ex30_L
  obtain ⟨o1, o2, o3⟩ := ex30_off
  obtain ⟨y1, y2⟩ := ex30_any
  obtain ⟨f1, f2⟩ := ex30_first
  have hb1 : (!(tL 3 2 [] 0 == tL 3 2 [] 1)) = true := by simpa using l1
  have hb2 : (!(tL 3 2 [0] 1 == tL 3 2 [0] 2)) = true := by simpa using l2
  have hb3 : (!(tL 3 2 [0, 2] 2 == tL 3 2 [0, 2] 0)) = false := by simpa using l3
  have A1 := fun w p h => torAdd_ok w 0 0 0 p 3 2 6 [] h (by decide) (by decide) (by decide)
  have A2 := fun w p h => torAdd_ok w 1 0 0 p 3 2 6 [0] h (by decide) (by decide) (by decide)
  have A3 := fun w p h => torAdd_ok w 2 0 0 p 3 2 6 [0, 2] h (by decide) (by decide) (by decide)
  have O := fun w p h => torOffset w 0 2 p 3 2 6 [0, 2] h
  have WR := fun w p h => torWraps w p 3 2 6 [0, 2, 4] h
  have CT := fun w p h => torCount w p 3 2 6 [0, 2, 4] h
  have N := torNew_ok w 3 2 (by decide)
  have FI := fun w A m c hl hr => torFirst_ok w 3 2 A m c [0, 2, 1, 4] (by decide) hl hr (by decide)
  have e1 : ordE [0, 2, 1, 4] = [0, 2, 1, 4] := rfl
  rw [e1, f1, f2] at FI
  rw [o1, o2, o3] at O
  rw [y1, y2] at WR
  rw [l4] at CT
  have A1' : ∀ w p, Tor w p 3 2 6 [] → Calls Try.prog 27 #[.pointer (some ⟨p.g, 0, none⟩), .int .i64 0, .int .i64 0, .int .i64 0] w fun r w' => r = .returned (.tuple #[.bool true, .int .i64 0]) ∧ Tor w' p 3 2 6 [0] ∧ Fr p.bl w w' := fun w p h => by
    have := A1 w p h
    rw [show tS (2 * (0 * 3 + 0) + 0) = 0 by decide, show tT 3 2 (2 * (0 * 3 + 0) + 0) = 1 by decide, hb1] at this
    exact this
  have A2' : ∀ w p, Tor w p 3 2 6 [0] → Calls Try.prog 27 #[.pointer (some ⟨p.g, 0, none⟩), .int .i64 1, .int .i64 0, .int .i64 0] w fun r w' => r = .returned (.tuple #[.bool true, .int .i64 0]) ∧ Tor w' p 3 2 6 [0, 2] ∧ Fr p.bl w w' := fun w p h => by
    have := A2 w p h
    rw [show tS (2 * (0 * 3 + 1) + 0) = 1 by decide, show tT 3 2 (2 * (0 * 3 + 1) + 0) = 2 by decide, hb2] at this
    exact this
  have A3' : ∀ w p, Tor w p 3 2 6 [0, 2] → Calls Try.prog 27 #[.pointer (some ⟨p.g, 0, none⟩), .int .i64 2, .int .i64 0, .int .i64 0] w fun r w' => r = .returned (.tuple #[.bool false, .int .i64 0]) ∧ Tor w' p 3 2 6 [0, 2, 4] ∧ Fr p.bl w w' := fun w p h => by
    have := A3 w p h
    rw [show tS (2 * (0 * 3 + 2) + 0) = 2 by decide, show tT 3 2 (2 * (0 * 3 + 2) + 0) = 0 by decide, hb3] at this
    exact this
  have HA1 := hide A1'
  have HA2 := hide A2'
  have HA3 := hide A3'
  have HO := hide O
  have HW := hide WR
  have HC := hide CT
  have HN := hide N
  have HF := hide FI
  clear l1 l2 l3 l4 l5 o1 o2 o3 y1 y2 f1 f2 hb1 hb2 hb3 A1 A2 A3 A1' A2' A3' O WR CT N FI e1
  go_enter Try.func15, Try.ntmps15
  go_wp2_with fail
  refine HN.out.mono ?_
  rintro e w1 ⟨p, rfl, hT1, hB1, hp⟩
  have HB1 := hide hB1
  have HP := hide hp
  clear hB1 hp
  go_wp2_with fail
  refine (HA1.out _ p hT1).mono ?_
  rintro e w2 ⟨rfl, hT2, hf2⟩
  have HB2 := hide (HB1.out.trans (hf2.below HP.out HB1.out.size))
  clear hf2 hT1
  go_wp2_with fail
  refine (HA2.out _ p hT2).mono ?_
  rintro e w3 ⟨rfl, hT3, hf3⟩
  have HB3 := hide (HB2.out.trans (hf3.below HP.out HB2.out.size))
  clear hf3 hT2
  go_wp2_with fail
  refine (HO.out _ p hT3).mono ?_
  rintro e w4 ⟨rfl, hT4, hf4⟩
  have HB4 := hide (HB3.out.trans (hf4.below HP.out HB3.out.size))
  clear hf4 hT3
  go_wp2_with fail
  refine (HA3.out _ p hT4).mono ?_
  rintro e w5 ⟨rfl, hT5, hf5⟩
  have HB5 := hide (HB4.out.trans (hf5.below HP.out HB4.out.size))
  clear hf5 hT4
  go_wp2_with fail
  refine (HW.out _ p hT5).mono ?_
  rintro e w6 ⟨rfl, k6, rfl⟩
  have hT6 := hT5.drewN k6
  have HB6 := hide (HB5.out.drewN k6)
  clear hT5
  go_wp2_with fail
  have hrd := Rd.lit (w5.drewN k6) #[.int .i64 0, .int .i64 2, .int .i64 1, .int .i64 4] 3 4 1 rfl
  have hT7 := hT6.fresh ((Below.refl _ _).alloc (Nat.le_refl _) (.cells #[.int .i64 0, .int .i64 2, .int .i64 1, .int .i64 4] 3))
  have HB7 := hide (HB6.out.alloc HB6.out.size (.cells #[.int .i64 0, .int .i64 2, .int .i64 1, .int .i64 4] 3))
  have HT7 := hide hT7
  refine (HF.out _ _ 4 4 rfl hrd).mono ?_
  clear hT6 hT7 hrd
  rintro e w8 ⟨rfl, hb8⟩
  have hT8 := HT7.out.fresh hb8
  have HB8 := hide (HB7.out.trans (hb8.mono HB7.out.size))
  clear hb8 HT7
  go_wp2_with fail
  refine (HC.out _ p hT8).mono ?_
  rintro e w9 ⟨rfl, rfl⟩
  go_wp2_with fail
  go_ret
  exact ⟨rfl, HB8.out⟩
end Go.Proofs.Ytnkkdoookhhhaaa
