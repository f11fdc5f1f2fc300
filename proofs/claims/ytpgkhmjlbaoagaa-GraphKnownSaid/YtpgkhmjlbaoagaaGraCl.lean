/- graph: Labels. -/
import Derived.Test.YtpgkhmjlbaoagaaGraC
import Derived.Test.YtpgkhmjlbaoagaaDsuL
namespace Go.Proofs.Ytpgkhmjlbaoagaa
open Go.RowKit
set_option linter.unusedVariables false

theorem graLabels (w : World) (p : GLoc) (n B : Nat) (l : List (Int × Int × Int)) (h : Gr w p n B l) :
    Calls Try.prog 27 #[.pointer (some ⟨p.g, 0, none⟩)] w
      fun e w' => ∃ b, e = .returned (.slice (some ⟨b, 0, none⟩) n n) ∧ Blk w' b 3 (arr n (gLb n l)) ∧ w.heap.size ≤ b ∧ Below w.heap.size w w' := by
  have HP := hide (graParts w p n B l h)
  clear h
  go_enter Try.func27, Try.ntmps27
  go_wp2_with fail
  refine HP.out.mono ?_
  rintro e w1 ⟨q, rfl, hD, hB, hq⟩
  have HB := hide hB
  have HQ := hide hq
  have HL := hide (dsuLabels w1 q n _ hD)
  clear hD hB hq
  go_wp2_with fail
  refine HL.out.mono ?_
  rintro e w2 ⟨b, rfl, hD, hb, hge, hf⟩
  have hQ := HQ.out
  have HB2 := hide (hf.lift HB.out (by intro k hk; simp at hk; unfold Loc.from_ at hQ; omega) HB.out.size)
  have hb2 := hide hb
  have hge2 := Nat.le_trans HB.out.size hge
  clear hD hf hb hge hQ
  go_wp2_with fail
  go_ret
  exact ⟨b, rfl, hb2.out, hge2, HB2.out⟩
end Go.Proofs.Ytpgkhmjlbaoagaa
