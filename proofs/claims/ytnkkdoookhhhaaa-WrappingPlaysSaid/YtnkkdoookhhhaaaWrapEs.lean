/- wrapping: Same. -/
import Derived.Test.YtnkkdoookhhhaaaWrapE
namespace Go.Proofs.Ytnkkdoookhhhaaa
open Go.RowKit
set_option linter.unusedVariables false

set_option maxRecDepth 100000 in
set_option maxHeartbeats 4000000 in
theorem torSame (w : World) (a b : Int) (p : TLoc) (W H n : Nat) (E : List Nat) (h : Tor w p W H n E) :
    Calls Try.prog 29 #[.pointer (some ⟨p.g, 0, none⟩), .int .i64 a, .int .i64 b] w
      fun e w' => e = .returned (.bool (sameB n (tL W H E) a b)) ∧ Tor w' p W H n E ∧ Fr p.bl w w' := by
  have HA := torHas w a p W H n E h
  have HB := torHas w b p W H n E h
  have HT := hide h
  cases ha : inB n a
  · have hs : sameB n (tL W H E) a b = false := by simp [sameB, ha]
    rw [ha] at HA
    rw [hs]
    have HHA := hide HA
    clear HA HB h ha hs
    go_enter Try.func29, Try.ntmps29
    go_wp2_with fail
    refine HHA.out.mono ?_
    rintro e w' ⟨rfl, rfl⟩
    go_wp2_with fail
    go_ret
    exact ⟨rfl, HT.out, Fr.refl _ _⟩
  · cases hb : inB n b
    · have hs : sameB n (tL W H E) a b = false := by simp [sameB, hb]
      rw [ha] at HA
      rw [hb] at HB
      rw [hs]
      have HHA := hide HA
      have HHB := hide HB
      clear HA HB h ha hb hs
      go_enter Try.func29, Try.ntmps29
      go_wp2_with fail
      refine HHA.out.mono ?_
      rintro e w' ⟨rfl, rfl⟩
      go_wp2_with fail
      refine HHB.out.mono ?_
      rintro e w' ⟨rfl, rfl⟩
      go_wp2_with fail
      go_ret
      exact ⟨rfl, HT.out, Fr.refl _ _⟩
    · rw [ha] at HA
      rw [hb] at HB
      obtain ⟨a, rfl⟩ := Int.eq_ofNat_of_zero_le (show 0 ≤ a by simp [inB] at ha; omega)
      obtain ⟨b, rfl⟩ := Int.eq_ofNat_of_zero_le (show 0 ≤ b by simp [inB] at hb; omega)
      have la : a < n := inB_lt ha
      have lb : b < n := inB_lt hb
      rw [same_nat la lb]
      have HHA := hide HA
      have HHB := hide HB
      obtain ⟨up, size, rep, ρ, least, M, F, V, ax, dn, pX, pY, h1, h2⟩ := h
      have H1 := hide h1
      have H2 := hide h2
      clear HA HB ha hb h1 h2
      go_enter Try.func29, Try.ntmps29
      go_wp2_with fail
      refine HHA.out.mono ?_
      rintro e w' ⟨rfl, rfl⟩
      go_wp2_with fail
      refine HHB.out.mono ?_
      rintro e w' ⟨rfl, rfl⟩
      go_wp2_with fail
      refine (torFind _ a p W H n M E _ _ _ _ _ _ _ _ _ _ _ H1.out H2.out la).mono ?_
      rintro e w1 ⟨rfl, up1, F1, hT1, hP1, hF1⟩
      have hT2 := hT1.fr ((Fr.refl [] w1).alloc (.cells #[.int .i64 (pX a), .int .i64 (pY a)] 69)) (by simp)
      have hF2 := hF1.alloc (.cells #[.int .i64 (pX a), .int .i64 (pY a)] 69)
      have HP1 := hide hP1
      have HF2 := hide hF2
      have HT2 := hide hT2
      clear hT1 hF1 hP1 hT2 hF2
      go_wp2_with fail
      refine (torFind _ b p W H n M E _ _ _ _ _ _ _ _ _ _ _ HT2.out HP1.out lb).mono ?_
      rintro e w3 ⟨rfl, up3, F3, hT3, hP3, hF3⟩
      have hT4 := hT3.fr ((Fr.refl [] w3).alloc (.cells #[.int .i64 (pX b), .int .i64 (pY b)] 69)) (by simp)
      have hF4 := (HF2.out.trans hF3).alloc (.cells #[.int .i64 (pX b), .int .i64 (pY b)] 69)
      have HP3 := hide hP3
      have HF4 := hide hF4
      have HT4 := hide hT4
      clear hT3 hF3 hP3 hT4 hF4 HT2 HF2
      go_wp2_with fail
      go_ret
      refine ⟨ret_bool ?_, ⟨_, _, _, _, _, _, _, _, _, _, _, _, HT4.out, HP3.out⟩, HF4.out⟩
      rw [Bool.eq_iff_iff, beq_iff_eq, beq_iff_eq, ← H2.out.st.same a b la lb]
      omega
end Go.Proofs.Ytnkkdoookhhhaaa
