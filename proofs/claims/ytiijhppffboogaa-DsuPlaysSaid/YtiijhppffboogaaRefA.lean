/- seepagelaw08: agree, of sets and the document's in the same state. -/
import Derived.Test.YtiijhppffboogaaRefGW
namespace Go.Proofs.Ytiijhppffboogaa
open Go.RowKit
set_option linter.unusedVariables false

/-- Sets and the document's, in the same state; the document's lie behind. -/
structure Both (w : World) (p : Loc) (n : Nat) (L : Nat → Nat) (g B : Nat) : Prop where
  d : Dsu w p n L
  r : Ref w g n L B
  lt : p.g < B ∧ p.bu < B ∧ p.bl < B ∧ p.bz < B
section
variable {w w' : World} {p : Loc} {n g B : Nat} {L L' : Nat → Nat}
theorem Both.fr1 (h : Both w p n L g B) (d : Dsu w' p n L') (k : Fr [p.bu] w w') (r : Ref w' g n L' B) : Both w' p n L' g B := ⟨d, r, h.lt⟩
theorem Both.keepR (h : Both w p n L g B) (k : Fr [p.bu] w w') : Ref w' g n L B := h.r.fr k (by simpa using h.lt.2.1)
theorem Both.keepR4 (h : Both w p n L g B) (k : Fr [p.g, p.bu, p.bl, p.bz] w w') : Ref w' g n L B := h.r.fr k (by
  intro k hk
  simp at hk
  rcases hk with rfl | rfl | rfl | rfl
  · exact h.lt.1
  · exact h.lt.2.1
  · exact h.lt.2.2.1
  · exact h.lt.2.2.2)
theorem Both.drewN (h : Both w p n L g B) (k : Nat) : Both (w.drewN k) p n L g B := ⟨h.d.drewN k, h.r.drewN k, h.lt⟩
theorem Both.fresh (h : Both w p n L g B) (k : Below w.heap.size w w') : Both w' p n L g B := ⟨h.d.fresh k, h.r.fresh k, h.lt⟩
end

set_option maxRecDepth 100000 in
set_option maxHeartbeats 4000000 in
theorem agree_true (w : World) (a b : Int) (p : Loc) (n g B : Nat) (L : Nat → Nat) (h : Both w p n L g B) (nb : n ≤ 65536) :
    Calls Try.prog 27 #[.pointer (some ⟨p.g, 0, none⟩), .pointer (some ⟨g, 0, none⟩), .int .i64 a, .int .i64 b] w fun e w' => e = .returned (.bool true) ∧ Both w' p n L g B ∧ Fr [p.bu] w w' := by
  have D1 := fun w h => dsuLeast w a p n L h
  have R1 := fun w h => refLeast w a g n B L h
  have D2 := fun w h => dsuSame w a b p n L h
  have R2 := fun w h => refSame w a b g n B L h
  have D3 := fun w h => dsuSize w a p n L h
  have R3 := fun w h => refSize w a g n B L h
  have D4 := fun w h => dsuCount w p n L h
  have R4 := fun w h => refCount w g n B L h
  generalize leastV n L a = x1 at *
  generalize leastE n a = x2 at *
  generalize sameB n L a b = x3 at *
  generalize sizeV n L a = x4 at *
  generalize sets n L = x5 at *
  have HD1 := hide D1
  have HR1 := hide R1
  have HD2 := hide D2
  have HR2 := hide R2
  have HD3 := hide D3
  have HR3 := hide R3
  have HD4 := hide D4
  have HR4 := hide R4
  have H := hide h
  clear D1 R1 D2 R2 D3 R3 D4 R4 h
  go_enter Try.func27, Try.ntmps27
  go_wp2_with fail
  refine (HD1.out _ H.out.d).mono ?_
  rintro e w1 ⟨rfl, hd1, hf1⟩
  have h1 := H.out.fr1 hd1 hf1 (H.out.keepR hf1)
  have HF1 := hide hf1
  clear hd1 hf1
  go_wp2_with fail
  refine (HR1.out _ h1.r).mono ?_
  rintro e w2 ⟨rfl, k2, rfl⟩
  have h2 := h1.drewN k2
  clear h1
  go_wp2_with fail
  refine (HD2.out _ h2.d).mono ?_
  rintro e w3 ⟨rfl, hd3, hf3⟩
  have h3 := h2.fr1 hd3 hf3 (h2.keepR hf3)
  have HF3 := hide ((HF1.out.drewN k2).trans hf3)
  clear h2 hd3 hf3 HF1
  go_wp2_with fail
  refine (HR2.out _ h3.r).mono ?_
  rintro e w4 ⟨rfl, k4, rfl⟩
  have h4 := h3.drewN k4
  clear h3
  go_wp2_with fail
  refine (HD3.out _ h4.d).mono ?_
  rintro e w5 ⟨rfl, hd5, hf5⟩
  have h5 := h4.fr1 hd5 hf5 (h4.keepR hf5)
  have HF5 := hide ((HF3.out.drewN k4).trans hf5)
  clear h4 hd5 hf5 HF3
  go_wp2_with fail
  refine (HR3.out _ h5.r).mono ?_
  rintro e w6 ⟨rfl, k6, rfl⟩
  have h6 := h5.drewN k6
  go_wp2_with fail
  refine (HD4.out _ h6.d).mono ?_
  rintro e w7 ⟨rfl, rfl⟩
  go_wp2_with fail
  refine (HR4.out _ h6.r).mono ?_
  rintro e w8 ⟨rfl, k8, rfl⟩
  have h8 := h5.drewN (k6 + k8)
  have HF8 := hide (HF5.out.drewN (k6 + k8))
  clear h5 h6 HF5
  go_wp2_with fail
  refine (dsuLen _ _ _ _ h8.d).mono ?_
  rintro e w9 ⟨rfl, rfl⟩
  go_wp2_with fail
  refine (refLen _ _ _ _ _ h8.r).mono ?_
  rintro e w10 ⟨rfl, rfl⟩
  go_wp2_with fail
  refine (dsuLabels _ _ _ _ h8.d).mono ?_
  rintro e w11 ⟨b11, rfl, hd11, hb11, _, hf11⟩
  have h11 := h8.fr1 hd11 hf11 (h8.keepR hf11)
  have HF11 := hide (HF8.out.trans hf11)
  have HB11 := hide hb11
  clear h8 hd11 hf11 HF8 hb11
  go_wp2_with fail
  refine (refLabels _ _ _ _ _ h11.r).mono ?_
  rintro e w12 ⟨A12, c12, rfl, hr12, hbe12⟩
  have h12 := h11.fresh hbe12
  have HF12 := hide (HF11.out.trans (Fr.of_below [p.bu] hbe12))
  have HB12 := hide (HB11.out.below hbe12 HB11.out.lt)
  rw [arr_is] at hr12
  have HR12 := hide hr12
  clear h11 hbe12 HF11 HB11 hr12
  go_wp2_with fail
  refine (samei_true _ _ n _ _ _ _ HB12.out.isr HR12.out (by simp) (by omega)).mono ?_
  rintro e w13 ⟨rfl, k13, rfl⟩
  go_wp2_with fail
  go_ret
  exact ⟨rfl, h12.drewN k13, HF12.out.drewN k13⟩

/-- Groups of sets and of the document's are equal. -/
theorem both_groups (w : World) (v v' : Value) (n : Nat) (L : Nat → Nat) {B1 B2 : Nat} (h : IsGrp w B1 v (grp n L)) (h' : IsGrp w B2 v' (grp n L)) (nb : n ≤ 65536) :
    Calls Try.prog 25 #[v, v'] w fun e w' => e = .returned (.bool true) ∧ ∃ k, w' = w.drewN k :=
  groups_true w v v' (grp n L) h h' (by rw [grp_len]; have := cnt_le (fun i => L i == i) n; unfold sets; omega) (fun g hg => by have := grp_bound g hg; omega)
end Go.Proofs.Ytiijhppffboogaa
