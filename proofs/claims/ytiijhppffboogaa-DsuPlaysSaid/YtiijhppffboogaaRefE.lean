/- seepageref08: Size, Count, Labels, Union, New. -/
import Derived.Test.YtiijhppffboogaaRefD
namespace Go.Proofs.Ytiijhppffboogaa
open Go.RowKit
set_option linter.unusedVariables false

theorem beq_nat_true {a b : Nat} (h : a = b) : ((a : Int) == (b : Int)) = true := by simp [h]
theorem beq_nat_false {a b : Nat} (h : a ≠ b) : ((a : Int) == (b : Int)) = false := by
  simpa using fun e : (a : Int) = (b : Int) => h (by omega)
theorem cnt_succ_true {p : Nat → Bool} {k : Nat} (h : p k = true) : cnt p (k + 1) = cnt p k + 1 := by simp [cnt, h]
theorem cnt_succ_false {p : Nat → Bool} {k : Nat} (h : p k = false) : cnt p (k + 1) = cnt p k := by simp [cnt, h]

set_option maxHeartbeats 1000000 in
theorem refSize (w : World) (a : Int) (g n B : Nat) (L : Nat → Nat) (h : Ref w g n L B) :
    Calls Try.prog 36 #[.pointer (some ⟨g, 0, none⟩), .int .i64 a] w fun e w' => e = .returned (.int .i64 (sizeV n L a)) ∧ ∃ k, w' = w.drewN k := by
  obtain ⟨A, c, c0, c1, nb, _, hg⟩ := h.form
  have H := hide h
  clear h
  cases ha : inB n a
  · have E : Hid (sizeV n L a = 0) := by show _ = _; simp [sizeV, ha]
    clear hg
    go_enter Try.func36, Try.ntmps36
    go_wp2_with (go_at_call 41; refine (refHas _ _ _ _ _ _ H.out).mono ?_; rintro e w' ⟨rfl, rfl⟩)
    go_ret
    exact ⟨by rw [E.out]; rfl, 0, rfl⟩
  · have ha' : 0 ≤ a ∧ a < n := by simpa [inB] using ha
    obtain ⟨a, rfl⟩ := Int.eq_ofNat_of_zero_le ha'.1
    have E : Hid (sizeV n L a = (cls n L (L a) : Int)) := by show _ = _; simp [sizeV, ha]
    have han : a < n := by omega
    obtain ⟨g2, rfl, _, _, ca⟩ := hg a han
    have hc : ∀ i, i < n → w.cell? ⟨g2, i, none⟩ = some (.int .i64 (L i : Int)) := fun i hi => by
      obtain ⟨g3, e3, _, _, cb⟩ := hg i hi
      injection e3 with e3
      injection e3 with e3
      subst e3
      exact cb
    have HC := hide hc
    clear hg hc ha'
    go_enter Try.func36, Try.ntmps36
    go_wp2_with (go_at_call 41; refine (refHas _ _ _ _ _ _ H.out).mono ?_; rintro e w' ⟨rfl, rfl⟩)
    go_loopg [5, 6] n (fun q z v wr => ∃ (k d : Nat), k + q = n ∧ v = .int .i64 (k : Int) ∧ z = .int .i64 (cnt (fun j => L j == L a) k : Int) ∧ wr = w.drewN d)
    case atStart => exact ⟨0, 0, by omega, rfl, rfl, rfl⟩
    case round =>
      obtain ⟨k, d, hk, rfl, rfl, rfl⟩ := hrel
      have HK := hide hk
      have hkn : k ≤ n := by omega
      have hcl := cnt_le (fun j => L j == L a) k
      clear hk
      by_cases hlt : k < n
      · have ck := HC.out k hlt
        by_cases he : L k = L a
        · have hb := beq_nat_true he
          have hs := hide (cnt_succ_true (p := fun j => L j == L a) (k := k) (by simp [he]))
          clear he
          go_wp2_with fail
          go_quiet (fail)
          go_wp2_with fail
          go_roundg (n - (k + 1))
          case measure => have := HK.out; omega
          case rel => exact ⟨k + 1, _, by omega, by go_num, by rw [hs.out]; go_num, rfl⟩
        · have hb := beq_nat_false he
          have hs := hide (cnt_succ_false (p := fun j => L j == L a) (k := k) (by simp [he]))
          clear he
          go_wp2_with fail
          go_quiet (fail)
          go_wp2_with fail
          go_roundg (n - (k + 1))
          case measure => have := HK.out; omega
          case rel => exact ⟨k + 1, _, by omega, by go_num, by rw [hs.out], rfl⟩
      · have hkk : k = n := by omega
        subst hkk
        go_wp2_with fail
        go_ret
        exact ⟨by rw [E.out]; rfl, _, rfl⟩

set_option maxHeartbeats 1000000 in
theorem refCount (w : World) (g n B : Nat) (L : Nat → Nat) (h : Ref w g n L B) :
    Calls Try.prog 37 #[.pointer (some ⟨g, 0, none⟩)] w fun e w' => e = .returned (.int .i64 (sets n L : Int)) ∧ ∃ k, w' = w.drewN k := by
  obtain ⟨A, c, c0, c1, nb, _, hg⟩ := h.form
  have H := hide h
  have HC := hide hg
  clear h hg
  go_enter Try.func37, Try.ntmps37
  go_wp2_with (go_at_call 40; refine (refValid _ _ _ _ _ H.out).mono ?_; rintro e w' ⟨rfl, rfl⟩)
  go_loopg [3, 4] n (fun q z v wr => ∃ (k d : Nat), k + q = n ∧ v = .int .i64 (k : Int) ∧ z = .int .i64 (cnt (fun j => L j == j) k : Int) ∧ wr = w.drewN d)
  case atStart => exact ⟨0, 0, by omega, rfl, rfl, rfl⟩
  case round =>
    obtain ⟨k, d, hk, rfl, rfl, rfl⟩ := hrel
    have HK := hide hk
    have hkn : k ≤ n := by omega
    have hcl := cnt_le (fun j => L j == j) k
    clear hk
    by_cases hlt : k < n
    · obtain ⟨g2, rfl, _, _, ck⟩ := HC.out k hlt
      by_cases he : L k = k
      · have hb := beq_nat_true he
        have hs := hide (cnt_succ_true (p := fun j => L j == j) (k := k) (by simp [he]))
        clear he
        go_wp2_with fail
        go_roundg (n - (k + 1))
        case measure => have := HK.out; omega
        case rel => exact ⟨k + 1, _, by omega, by go_num, by rw [hs.out]; go_num, rfl⟩
      · have hb := beq_nat_false he
        have hs := hide (cnt_succ_false (p := fun j => L j == j) (k := k) (by simp [he]))
        clear he
        go_wp2_with fail
        go_roundg (n - (k + 1))
        case measure => have := HK.out; omega
        case rel => exact ⟨k + 1, _, by omega, by go_num, by rw [hs.out], rfl⟩
    · have hkk : k = n := by omega
      subst hkk
      go_wp2_with fail
      go_ret
      exact ⟨rfl, _, rfl⟩

theorem own_nil (w : World) (B : Nat) (E : TypeId) (sz : Nat) : w.ownsRow B E sz (.slice none 0 0) 0 [] := ⟨by simp, .inl ⟨rfl, rfl⟩⟩

theorem refLabels (w : World) (g n B : Nat) (L : Nat → Nat) (h : Ref w g n L B) :
    Calls Try.prog 39 #[.pointer (some ⟨g, 0, none⟩)] w fun e w' => ∃ A c, e = .returned (.slice A n c) ∧ Rd w' A n 1 (arr n L).toList ∧ Below w.heap.size w w' := by
  obtain ⟨A, c, c0, c1, nb, hr, hg⟩ := h.form
  obtain ⟨i0, hi, hz0, hz1, hz2⟩ := info_parts int_info0
  have hi' := hide hi
  have hz0' := hide hz0
  have hz1' := hide hz1
  have hz2' := hide hz2
  have H := hide h
  have HR := hide hr
  clear h hg hr hi hz0 hz1 hz2
  go_enter Try.func39, Try.ntmps39
  go_wp2_with (first | (go_at_call 40; refine (refValid _ _ _ _ _ H.out).mono ?_; rintro e w' ⟨rfl, rfl⟩) | (at_builtin; refine app_any 32 3 Try.underlying32 hi'.out hz0'.out hz1'.out hz2'.out rfl (by decide) _ _ _ _ _ HR.out (arr_toList_one n L) rfl _ _ rfl w.heap.size _ 0 [] rfl (own_nil _ _ _ _) rfl (by unfold maxLen; omega) (by omega) (Nat.le_refl _) ?_; intro v' w1 hown hgr hat hnn hbel))
  simp only [Nat.zero_add, List.nil_append] at hown
  obtain ⟨A', c', rfl, hr', _, _, _⟩ := own_form hown
  go_wp2_with fail
  go_ret
  exact ⟨A', c', rfl, hr', hbel⟩
end Go.Proofs.Ytiijhppffboogaa
