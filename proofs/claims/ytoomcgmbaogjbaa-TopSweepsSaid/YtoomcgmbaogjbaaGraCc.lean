/- graph: Components. -/
import Derived.Test.YtoomcgmbaogjbaaGraC
import Derived.Test.YtoomcgmbaogjbaaDsuGW
namespace Go.Proofs.Ytoomcgmbaogjbaa
open Go.RowKit
set_option linter.unusedVariables false

theorem IsGrp.base {w : World} {B B' : Nat} {v : Value} {G : List (List Int)} (h : IsGrp w B v G) (hB : B' ≤ B) : IsGrp w B' v G := by
  obtain ⟨A, c, vs, e, hb, hr, hg⟩ := h
  exact ⟨A, c, vs, e, fun ad ha => Nat.le_trans hB (hb ad ha), hr, fun j hj => by obtain ⟨A', c', h1, h2, h3⟩ := hg j hj; exact ⟨A', c', h1, fun ad ha => Nat.le_trans hB (h2 ad ha), h3⟩⟩
theorem graComponents (w : World) (p : GLoc) (n B : Nat) (l : List (Int × Int × Int)) (h : Gr w p n B l) :
    Calls Try.prog 15 #[.pointer (some ⟨p.g, 0, none⟩)] w
      fun e w' => ∃ v, e = .returned v ∧ IsGrp w' w.heap.size v (grp n (gLb n l)) ∧ Below w.heap.size w w' := by
  have HP := hide (graParts w p n B l h)
  clear h
  go_enter Try.func15, Try.ntmps15
  go_wp2_with fail
  refine HP.out.mono ?_
  rintro e w1 ⟨q, rfl, hD, hB, hq⟩
  have HB := hide hB
  have HQ := hide hq
  have HL := hide (dsuGroups w1 q n _ hD)
  clear hD hB hq
  go_wp2_with fail
  refine HL.out.mono ?_
  rintro e w2 ⟨v, rfl, hD, hg, hf⟩
  have hQ := HQ.out
  have HB2 := hide (hf.lift HB.out (by intro k hk; simp at hk; unfold Loc.from_ at hQ; omega) HB.out.size)
  have hg2 := hide (hg.base HB.out.size)
  clear hD hf hg hQ
  go_wp2_with fail
  go_ret
  exact ⟨v, rfl, hg2.out, HB2.out⟩
end Go.Proofs.Ytoomcgmbaogjbaa
