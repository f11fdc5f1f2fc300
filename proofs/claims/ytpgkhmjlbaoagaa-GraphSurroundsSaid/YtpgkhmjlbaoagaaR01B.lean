/- seepageref01: size. -/
import Derived.Test.YtpgkhmjlbaoagaaR01P
import Derived.BigQuiet
namespace Go.Proofs.Ytpgkhmjlbaoagaa
open Go.RowKit
set_option linter.unusedVariables false

set_option maxRecDepth 100000 in
set_option maxHeartbeats 8000000 in
theorem r01size (w : World) (f g : Nat → Nat) (hf : D6 f) (hg : D6 g) :
    Calls Try.prog 66 #[.agg (u6 f), .agg (u6 g)] w
      fun e w' => ∃ r : Int, e = .returned (.int .i64 r) ∧ ((dv f 6 < dv g 6 ∧ r = -1) ∨ (dv f 6 = dv g 6 ∧ r = 0) ∨ (dv g 6 < dv f 6 ∧ r = 1)) ∧ Below w.heap.size w w' := by
  have HF := hide hf
  have HG := hide hg
  have A0 := (Blk.new w 92 (u6 f)).alloc (.cells (u6 g) 92)
  have B0 := Blk.new (w.alloc (.cells (u6 f) 92)) 92 (u6 g)
  simp only [World.size_alloc] at B0
  have hB := ((Below.refl w.heap.size w).alloc (Nat.le_refl _) (.cells (u6 f) 92)).alloc (by simp) (.cells (u6 g) 92)
  have HA := hide A0
  have HB := hide B0
  have HBel := hide hB
  clear hf hg A0 B0 hB
  go_enter Try.func66, Try.ntmps66
  unfold u6
  go_wp2_with fail
  go_loopg [5] 6 (fun q iv wr => ∃ (i : Nat), i = q ∧ i ≤ 6 ∧ iv = .int .i64 ((i : Int) - 1) ∧ (∀ j, i ≤ j → j < 6 → f j = g j) ∧
    Blk wr w.heap.size 92 (u6 f) ∧ Blk wr (w.heap.size + 1) 92 (u6 g) ∧ Below w.heap.size w wr)
  case atStart => exact ⟨6, rfl, by omega, rfl, fun j h1 h2 => by omega, HA.out, HB.out, HBel.out⟩
  case round =>
    obtain ⟨i, rfl, hi6, rfl, he, ha, hb, hbel⟩ := hrel
    clear HA HB HBel
    have HE := hide he
    have HA := hide ha
    have HB := hide hb
    have HBel := hide hbel
    clear he hbel
    by_cases hlt : 0 < i
    · obtain ⟨k, rfl⟩ : ∃ k, i = k + 1 := ⟨i - 1, by omega⟩
      have hk6 : k < 6 := by omega
      have ca := (ha.cell k).trans (u6_get f k hk6)
      have cb := (hb.cell k).trans (u6_get g k hk6)
      have hik : (((k + 1 : Nat) : Int) - 1) = (k : Int) := by omega
      rw [hik]
      clear ha hb
      rcases Nat.lt_trichotomy (f k) (g k) with hc | hc | hc
      · have HT := hide (dv_top HF.out hk6 hc fun j h1 h2 => HE.out j (by omega) h2)
        generalize f k = x at *
        generalize g k = y at *
        go_wp2_with fail
        go_quiet (fail)
        go_wp2_with fail
        go_ret
        exact ⟨_, rfl, .inl ⟨HT.out, rfl⟩, HBel.out.drewN _⟩
      · have HE2 : Hid (∀ j, k ≤ j → j < 6 → f j = g j) := fun j h1 h2 => by
          by_cases e : j = k
          · subst e; exact hc
          · exact HE.out j (by omega) h2
        generalize f k = x at *
        generalize g k = y at *
        subst hc
        have hd : decide (x < x) = false := by simp
        go_wp2_with fail
        go_quiet (fail)
        have ca2 : (wr.drewN nq).cell? ⟨w.heap.size, k, none⟩ = some (.int .u64 (x : Int)) := ca
        have cb2 : (wr.drewN nq).cell? ⟨w.heap.size + 1, k, none⟩ = some (.int .u64 (x : Int)) := cb
        have HA2 := hide (HA.out.drewN nq)
        have HB2 := hide (HB.out.drewN nq)
        have HBel2 := hide (HBel.out.drewN nq)
        clear ca cb HA HB HBel
        generalize wr.drewN nq = w2 at *
        go_wp2_with fail
        go_quiet (fail)
        go_wp2_with fail
        go_roundg k
        case measure => omega
        case rel => exact ⟨k, rfl, by omega, by go_num, HE2.out, HA2.out.drewN _, HB2.out.drewN _, HBel2.out.drewN _⟩
      · have HT := hide (dv_top HG.out hk6 hc fun j h1 h2 => (HE.out j (by omega) h2).symm)
        generalize f k = x at *
        generalize g k = y at *
        have hd : decide (x < y) = false := by simp; omega
        go_wp2_with fail
        go_quiet (fail)
        have ca2 : (wr.drewN nq).cell? ⟨w.heap.size, k, none⟩ = some (.int .u64 (x : Int)) := ca
        have cb2 : (wr.drewN nq).cell? ⟨w.heap.size + 1, k, none⟩ = some (.int .u64 (y : Int)) := cb
        have HBel2 := hide (HBel.out.drewN nq)
        clear ca cb HA HB HBel
        generalize wr.drewN nq = w2 at *
        go_wp2_with fail
        go_quiet (fail)
        go_wp2_with fail
        go_ret
        exact ⟨_, rfl, .inr (.inr ⟨HT.out, rfl⟩), HBel2.out.drewN _⟩
    · obtain rfl : i = 0 := by omega
      go_wp2_with fail
      go_ret
      exact ⟨_, rfl, .inr (.inl ⟨dv_congr 6 fun j hj => HE.out j (by omega) hj, rfl⟩), HBel.out⟩
end Go.Proofs.Ytpgkhmjlbaoagaa
