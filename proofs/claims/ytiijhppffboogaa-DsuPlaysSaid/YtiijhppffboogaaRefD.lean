/- seepageref08: labels in memory; valid, has, Least, Same, Size, Count, Len, Labels. -/
import Derived.Test.YtiijhppffboogaaDsuGC
namespace Go.Proofs.Ytiijhppffboogaa
open Go.RowKit
set_option linter.unusedVariables false

/-- The document's sets in memory: the struct in block g, the list in a block from B on. -/
def Ref (w : World) (g n : Nat) (L : Nat → Nat) (B : Nat) : Prop :=
  B ≤ g ∧ n ≤ 65536 ∧ ∃ A c, Blk w g 60 #[.bool true, .slice A n c] ∧ ((n = 0 ∧ A = none) ∨ ∃ g2 r, A = some ⟨g2, 0, none⟩ ∧ B ≤ g2 ∧ Blk w g2 3 (arx n L r))

section
variable {w w' : World} {g n B : Nat} {L : Nat → Nat}
theorem Ref.fr {S : List Nat} (h : Ref w g n L B) (k : Fr S w w') (hS : ∀ k ∈ S, k < B) : Ref w' g n L B := by
  obtain ⟨h1, h2, A, c, hb, h3⟩ := h
  refine ⟨h1, h2, A, c, hb.fr k (fun hm => by have := hS _ hm; omega), ?_⟩
  rcases h3 with h3 | ⟨g2, r, e, hB, hk⟩
  · exact .inl h3
  · exact .inr ⟨g2, r, e, hB, hk.fr k (fun hm => by have := hS _ hm; omega)⟩
theorem Ref.fresh (h : Ref w g n L B) (k : Below w.heap.size w w') : Ref w' g n L B := by
  obtain ⟨h1, h2, A, c, hb, h3⟩ := h
  refine ⟨h1, h2, A, c, hb.below k hb.lt, ?_⟩
  rcases h3 with h3 | ⟨g2, r, e, hB, hk⟩
  · exact .inl h3
  · exact .inr ⟨g2, r, e, hB, hk.below k hk.lt⟩
theorem Ref.drewN (h : Ref w g n L B) (k : Nat) : Ref (w.drewN k) g n L B := h
theorem Ref.lt (h : Ref w g n L B) : g < w.heap.size ∧ B ≤ g := by
  obtain ⟨h1, h2, A, c, hb, h3⟩ := h
  exact ⟨hb.lt, h1⟩
/-- What a walk reads: the struct's cells; the elements. -/
theorem Ref.form (h : Ref w g n L B) : ∃ A c, w.cell? ⟨g, 0, none⟩ = some (.bool true) ∧ w.cell? ⟨g, 1, none⟩ = some (.slice A n c) ∧ n ≤ 65536 ∧ Rd w A n 1 (arr n L).toList ∧
    (∀ i, i < n → ∃ g2, A = some ⟨g2, 0, none⟩ ∧ B ≤ g2 ∧ g2 < w.heap.size ∧ w.cell? ⟨g2, i, none⟩ = some (.int .i64 (L i : Int))) := by
  obtain ⟨h1, h2, A, c, hb, h3⟩ := h
  refine ⟨A, c, by rw [hb.cell]; rfl, by rw [hb.cell]; rfl, h2, ?_, fun i hi => ?_⟩
  · rcases h3 with ⟨e, e2⟩ | ⟨g2, r, e, hB, hk⟩
    · subst e; subst e2
      exact Rd.nil
    · subst e; exact arx_rd hk
  · rcases h3 with ⟨e, e2⟩ | ⟨g2, r, e, hB, hk⟩
    · omega
    · exact ⟨g2, e, hB, hk.lt, hk.intx hi⟩
end

theorem refValid (w : World) (g n B : Nat) (L : Nat → Nat) (h : Ref w g n L B) :
    Calls Try.prog 40 #[.pointer (some ⟨g, 0, none⟩)] w fun e w' => e = .returned (.bool true) ∧ w = w' := by
  obtain ⟨A, c, c0, c1, nb, _, _⟩ := h.form
  clear h
  go_enter Try.func40, Try.ntmps40
  go_wp2
  go_ret
  exact ⟨rfl, rfl⟩
theorem refHas (w : World) (a : Int) (g n B : Nat) (L : Nat → Nat) (h : Ref w g n L B) :
    Calls Try.prog 41 #[.pointer (some ⟨g, 0, none⟩), .int .i64 a] w fun e w' => e = .returned (.bool (inB n a)) ∧ w = w' := by
  obtain ⟨A, c, c0, c1, nb, _, _⟩ := h.form
  have H := hide h
  clear h
  by_cases h0 : 0 ≤ a
  all_goals
    go_enter Try.func41, Try.ntmps41
    go_wp2_with (go_at_call 40; refine (refValid _ _ _ _ _ H.out).mono ?_; rintro e w' ⟨rfl, rfl⟩)
    go_ret
    exact ⟨ret_bool (by first | (simp [inB, h0]; done) | (symm; simp [inB]; omega)), rfl⟩

theorem refLeast (w : World) (a : Int) (g n B : Nat) (L : Nat → Nat) (h : Ref w g n L B) :
    Calls Try.prog 34 #[.pointer (some ⟨g, 0, none⟩), .int .i64 a] w fun e w' => e = .returned (.tuple #[.int .i64 (leastV n L a), .int .i64 (leastE n a)]) ∧ ∃ k, w' = w.drewN k := by
  obtain ⟨A, c, c0, c1, nb, _, hg⟩ := h.form
  have H := hide h
  clear h
  cases ha : inB n a
  · have E : Hid (leastV n L a = 0) := by show _ = _; simp [leastV, ha]
    have E2 : Hid (leastE n a = 3) := by show _ = _; simp [leastE, ha]
    clear hg
    go_enter Try.func34, Try.ntmps34
    go_wp2_with (first | (go_at_call 40; refine (refValid _ _ _ _ _ H.out).mono ?_; rintro e w' ⟨rfl, rfl⟩) | (go_at_call 41; refine (refHas _ _ _ _ _ _ H.out).mono ?_; rintro e w' ⟨rfl, rfl⟩))
    go_ret2
    exact ⟨by rw [E.out, E2.out]; rfl, 0, rfl⟩
  · have ha' : 0 ≤ a ∧ a < n := by simpa [inB] using ha
    obtain ⟨a, rfl⟩ := Int.eq_ofNat_of_zero_le ha'.1
    have E : Hid (leastV n L a = (L a : Int)) := by show _ = _; simp [leastV, ha]
    have E2 : Hid (leastE n a = 0) := by show _ = _; simp [leastE, ha]
    obtain ⟨g2, rfl, _, _, ca⟩ := hg a (by omega)
    clear hg
    go_enter Try.func34, Try.ntmps34
    go_wp2_with (first | (go_at_call 40; refine (refValid _ _ _ _ _ H.out).mono ?_; rintro e w' ⟨rfl, rfl⟩) | (go_at_call 41; refine (refHas _ _ _ _ _ _ H.out).mono ?_; rintro e w' ⟨rfl, rfl⟩))
    go_ret2
    exact ⟨by rw [E.out, E2.out]; rfl, 0, rfl⟩

theorem refLen (w : World) (g n B : Nat) (L : Nat → Nat) (h : Ref w g n L B) :
    Calls Try.prog 38 #[.pointer (some ⟨g, 0, none⟩)] w fun e w' => e = .returned (.int .i64 (n : Int)) ∧ w = w' := by
  obtain ⟨A, c, c0, c1, nb, _, hg⟩ := h.form
  have H := hide h
  clear h hg
  go_enter Try.func38, Try.ntmps38
  go_wp2_with (go_at_call 40; refine (refValid _ _ _ _ _ H.out).mono ?_; rintro e w' ⟨rfl, rfl⟩)
  go_ret
  exact ⟨rfl, rfl⟩

set_option maxHeartbeats 4000000 in
theorem refSame (w : World) (a b : Int) (g n B : Nat) (L : Nat → Nat) (h : Ref w g n L B) :
    Calls Try.prog 35 #[.pointer (some ⟨g, 0, none⟩), .int .i64 a, .int .i64 b] w fun e w' => e = .returned (.bool (sameB n L a b)) ∧ ∃ k, w' = w.drewN k := by
  obtain ⟨A, c, c0, c1, nb, _, hg⟩ := h.form
  have C := fun (m : Nat) (x : Int) => refHas (w.drewN m) x g n B L (h.drewN m)
  clear h
  cases ha : inB n a
  · have E : Hid (sameB n L a b = false) := by show _ = _; simp [sameB, ha]
    have CA := fun m => C m a
    rw [ha] at CA
    have HA := hide CA
    clear hg C CA ha
    go_enter Try.func35, Try.ntmps35
    go_wp2_with fail
    go_quiet ((go_at_call_of 41 (Value.int .i64 a); exact quiet_any1 (quiet_eq (HA.out _))))
    go_wp2_with fail
    go_ret
    exact ⟨ret_bool (by rw [E.out]), _, rfl⟩
  · cases hb : inB n b
    · have E : Hid (sameB n L a b = false) := by show _ = _; simp [sameB, hb]
      have CA := fun m => C m a
      rw [ha] at CA
      have HA := hide CA
      have CB := fun m => C m b
      rw [hb] at CB
      have HB := hide CB
      clear hg C CA CB ha hb
      go_enter Try.func35, Try.ntmps35
      go_wp2_with fail
      go_quiet (first | (go_at_call_of 41 (Value.int .i64 a); exact quiet_any1 (quiet_eq (HA.out _))) | (go_at_call_of 41 (Value.int .i64 b); exact quiet_any1 (quiet_eq (HB.out _))))
      go_wp2_with fail
      go_ret
      exact ⟨ret_bool (by rw [E.out]), _, rfl⟩
    · have E : Hid (sameB n L a b = decide (L a.toNat = L b.toNat)) := by show _ = _; simp [sameB, ha, hb]; rfl
      have CA := fun m => C m a
      rw [ha] at CA
      have CB := fun m => C m b
      rw [hb] at CB
      clear C
      have ha' : 0 ≤ a ∧ a < n := by simpa [inB] using ha
      have hb' : 0 ≤ b ∧ b < n := by simpa [inB] using hb
      obtain ⟨a, rfl⟩ := Int.eq_ofNat_of_zero_le ha'.1
      obtain ⟨b, rfl⟩ := Int.eq_ofNat_of_zero_le hb'.1
      have han : a < n := by omega
      have hbn : b < n := by omega
      obtain ⟨g2, rfl, _, _, ca⟩ := hg a han
      obtain ⟨g3, e3, _, _, cb⟩ := hg b hbn
      injection e3 with e3
      injection e3 with e3
      subst e3
      have HA := hide CA
      have HB := hide CB
      clear hg ha hb ha' hb' CA CB
      go_enter Try.func35, Try.ntmps35
      go_wp2_with fail
      go_quiet (first | (go_at_call_of 41 (Value.int .i64 (a : Int)); exact quiet_any1 (quiet_eq (HA.out _))) | (go_at_call_of 41 (Value.int .i64 (b : Int)); exact quiet_any1 (quiet_eq (HB.out _))))
      go_wp2_with fail
      go_ret
      refine ⟨ret_bool ?_, _, rfl⟩
      rw [E.out]
      simp only [Int.toNat_natCast]
      rw [Bool.eq_iff_iff]
      show ((L a : Int) == (L b : Int)) = true ↔ _
      rw [beq_iff_eq, decide_eq_true_eq]
      omega
end Go.Proofs.Ytiijhppffboogaa
