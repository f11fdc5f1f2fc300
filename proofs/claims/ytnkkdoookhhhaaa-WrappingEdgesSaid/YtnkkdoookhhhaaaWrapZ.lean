/- Plain: what one edge more changes. Nothing of the program. -/
import Derived.Test.YtnkkdoookhhhaaaWrapY
namespace Go.Proofs.Ytnkkdoookhhhaaa
open Go.RowKit
set_option linter.unusedVariables false

section
variable {W H : Nat} {E : List Nat} {e : Nat}
theorem edge_join (hin : InE (W * H) tS (tT W H) E) (he : e < 2 * (W * H)) (hne : tL W H E (tS e) ≠ tL W H E (tT W H e)) :
    (∀ f, anyB W H f (E ++ [e]) = anyB W H f E) ∧ sets (W * H) (tL W H (E ++ [e])) + 1 = sets (W * H) (tL W H E) ∧ sameB (W * H) (tL W H E) (tS e : Nat) (tT W H e : Nat) = false ∧ sameB (W * H) (tL W H (E ++ [e])) (tS e : Nat) (tT W H e : Nat) = true := by
  have hb := tE_in he
  refine ⟨fun f => add_join hin he hne, ?_, ?_, ?_⟩
  · rw [tL_snoc he]; exact sets_merge (tL_lab W H E) hb.1 hb.2 hne
  · rw [same_nat hb.1 hb.2]; simpa using hne
  · rw [same_nat hb.1 hb.2, beq_iff_eq]
    exact labE_edge (hin.snoc hb) (by simp)
theorem edge_same (hin : InE (W * H) tS (tT W H) E) (he : e < 2 * (W * H)) (hs : tL W H E (tS e) = tL W H E (tT W H e)) :
    sets (W * H) (tL W H (E ++ [e])) = sets (W * H) (tL W H E) ∧ sameB (W * H) (tL W H E) (tS e : Nat) (tT W H e : Nat) = true ∧ sameB (W * H) (tL W H (E ++ [e])) (tS e : Nat) (tT W H e : Nat) = true ∧
      (anyB W H tX E = true → anyB W H tX (E ++ [e]) = true) ∧ (anyB W H tY E = true → anyB W H tY (E ++ [e]) = true) ∧
      (offOk W H E (tS e : Nat) (tT W H e : Nat) = true → anyB W H tX (E ++ [e]) = (anyB W H tX E || decide (offX W H E (tS e : Nat) (tT W H e : Nat) ≠ tX e)) ∧ anyB W H tY (E ++ [e]) = (anyB W H tY E || decide (offY W H E (tS e : Nat) (tT W H e : Nat) ≠ tY e))) := by
  have hb := tE_in he
  obtain ⟨hL, mx, kx⟩ := add_same hin he hs tX_bd
  obtain ⟨_, my, ky⟩ := add_same hin he hs tY_bd
  refine ⟨by rw [hL], ?_, ?_, mx, my, fun hok => ?_⟩
  · rw [same_nat hb.1 hb.2]; simpa using hs
  · rw [hL, same_nat hb.1 hb.2]; simpa using hs
  · obtain ⟨_, h2, h3⟩ := (offOk_iff hb.1 hb.2).1 hok
    rw [kx h2, ky h3]
    unfold offX offY
    rw [hok]
    exact ⟨rfl, rfl⟩
end
end Go.Proofs.Ytnkkdoookhhhaaa
