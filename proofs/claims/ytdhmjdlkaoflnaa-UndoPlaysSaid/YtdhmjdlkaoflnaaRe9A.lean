/- seepageref09: labels and their past in memory; valid, has, Same, Size, Mark, Labels. -/
import Derived.Test.YtdhmjdlkaoflnaaUndoW
namespace Go.Proofs.Ytdhmjdlkaoflnaa
open Go.RowKit
set_option linter.unusedVariables false

theorem ints_info : (Try.prog.info? 27).map (fun i => (i.zero, i.size, i.bytes)) = some (some (.slice none 0 0), 1, 24) := by kernel_rfl

/-- A list of labels, in a block from B on. -/
def RL (w : World) (B : Nat) (v : Value) (n : Nat) (L : Nat → Nat) : Prop := w.ownsRow B 3 1 v n (arr n L).toList
/-- The document's sets in memory: the struct in block g, the lists in blocks from B on. -/
def Ref9 (w : World) (g n : Nat) (past : List (Nat → Nat)) (L : Nat → Nat) (B : Nat) : Prop :=
  B ≤ g ∧ n ≤ 65536 ∧ ∃ v vp vs, Blk w g 66 #[.bool true, v, vp] ∧ RL w B v n L ∧ w.ownsRow B 27 1 vp past.length vs ∧ ∀ i (hi : i < past.length), ∃ u, vs[i]? = some u ∧ RL w B u n past[i]

section
variable {w w' : World} {g n B : Nat} {past : List (Nat → Nat)} {L : Nat → Nat}
theorem RL.fr {S : List Nat} {v : Value} (h : RL w B v n L) (k : Fr S w w') (hS : ∀ k ∈ S, k < B) : RL w' B v n L := own_fr h k (fun b hb hm => by have := hS _ hm; have := (World.ownsRow.lt h b hb).1; omega)
theorem Ref9.fr {S : List Nat} (h : Ref9 w g n past L B) (k : Fr S w w') (hS : ∀ k ∈ S, k < B) : Ref9 w' g n past L B := by
  obtain ⟨h1, h2, v, vp, vs, hb, hl, ho, hv⟩ := h
  exact ⟨h1, h2, v, vp, vs, hb.fr k (fun hm => by have := hS _ hm; omega), hl.fr k hS, own_fr ho k (fun b hb hm => by have := hS _ hm; have := (World.ownsRow.lt ho b hb).1; omega), fun i hi => by
    obtain ⟨u, e, hu⟩ := hv i hi
    exact ⟨u, e, hu.fr k hS⟩⟩
theorem Ref9.fresh (h : Ref9 w g n past L B) (k : Below w.heap.size w w') : Ref9 w' g n past L B := h.fr (Fr.of_below [] k) (by simp)
theorem Ref9.drewN (h : Ref9 w g n past L B) (k : Nat) : Ref9 (w.drewN k) g n past L B := h
theorem Ref9.lt (h : Ref9 w g n past L B) : g < w.heap.size ∧ B ≤ g := by
  obtain ⟨h1, h2, v, vp, vs, hb, _⟩ := h
  exact ⟨hb.lt, h1⟩
/-- What a walk reads: the struct's cells; the elements. -/
theorem Ref9.form (h : Ref9 w g n past L B) : ∃ A c P q, w.cell? ⟨g, 0, none⟩ = some (.bool true) ∧ w.cell? ⟨g, 1, none⟩ = some (.slice A n c) ∧ w.cell? ⟨g, 2, none⟩ = some (.slice P past.length q) ∧ n ≤ 65536 ∧ Rd w A n 1 (arr n L).toList ∧
    (∀ i, i < n → ∃ g2, A = some ⟨g2, 0, none⟩ ∧ B ≤ g2 ∧ g2 < w.heap.size ∧ w.cell? ⟨g2, i, none⟩ = some (.int .i64 (L i : Int))) := by
  obtain ⟨h1, h2, v, vp, vs, hb, hl, ho, hv⟩ := h
  obtain ⟨A, c, rfl, hr, hA, _⟩ := own_form hl
  obtain ⟨P, q, rfl, _⟩ := own_form ho
  refine ⟨A, c, P, q, (hb.cell 0).trans rfl, (hb.cell 1).trans rfl, (hb.cell 2).trans rfl, h2, hr, fun i hi => ?_⟩
  obtain ⟨b, o, e, hlt, hc⟩ := hr.2 (by omega)
  obtain ⟨a1, a2, a3⟩ := hA _ e
  injection a3 with _ a4 _
  have ho0 : o = 0 := a4
  subst ho0
  refine ⟨b, e, a2, hlt, ?_⟩
  have := hc i (.int .i64 (L i : Int)) (by rw [Array.getElem?_toList]; exact arr_get L hi)
  rwa [Nat.zero_add] at this
end

theorem r9Valid (w : World) (g n B : Nat) (past : List (Nat → Nat)) (L : Nat → Nat) (h : Ref9 w g n past L B) :
    Calls Try.prog 42 #[.pointer (some ⟨g, 0, none⟩)] w fun e w' => e = .returned (.bool true) ∧ w = w' := by
  obtain ⟨A, c, P, q0, c0, c1, c2, nb, _, _⟩ := h.form
  clear h
  go_enter Try.func42, Try.ntmps42
  go_wp2
  go_ret
  exact ⟨rfl, rfl⟩
theorem r9Has (w : World) (a : Int) (g n B : Nat) (past : List (Nat → Nat)) (L : Nat → Nat) (h : Ref9 w g n past L B) :
    Calls Try.prog 43 #[.pointer (some ⟨g, 0, none⟩), .int .i64 a] w fun e w' => e = .returned (.bool (inB n a)) ∧ w = w' := by
  obtain ⟨A, c, P, q0, c0, c1, c2, nb, _, _⟩ := h.form
  have H := hide h
  clear h
  by_cases h0 : 0 ≤ a
  all_goals
    go_enter Try.func43, Try.ntmps43
    go_wp2_with (go_at_call 42; refine (r9Valid _ _ _ _ _ _ H.out).mono ?_; rintro e w' ⟨rfl, rfl⟩)
    go_ret
    exact ⟨ret_bool (by first | (simp [inB, h0]; done) | (symm; simp [inB]; omega)), rfl⟩

set_option maxHeartbeats 4000000 in
theorem r9Same (w : World) (a b : Int) (g n B : Nat) (past : List (Nat → Nat)) (L : Nat → Nat) (h : Ref9 w g n past L B) :
    Calls Try.prog 34 #[.pointer (some ⟨g, 0, none⟩), .int .i64 a, .int .i64 b] w fun e w' => e = .returned (.bool (sameB n L a b)) ∧ ∃ k, w' = w.drewN k := by
  obtain ⟨A, c, P, q0, c0, c1, c2, nb, _, hg⟩ := h.form
  have C := fun (m : Nat) (x : Int) => r9Has (w.drewN m) x g n B past L (h.drewN m)
  clear h
  cases ha : inB n a
  · have E : Hid (sameB n L a b = false) := by show _ = _; simp [sameB, ha]
    have CA := fun m => C m a
    rw [ha] at CA
    have HA := hide CA
    clear hg C CA ha
    go_enter Try.func34, Try.ntmps34
    go_wp2_with fail
    go_quiet ((go_at_call_of 43 (Value.int .i64 a); exact quiet_any1 (quiet_eq (HA.out _))))
    go_wp2_with fail
    go_ret
    exact ⟨ret_bool (by rw [E.out]), _, rfl⟩
  · cases hb : inB n b
    · have E : Hid (sameB n L a b = false) := by show _ = _; simp [sameB, hb]
      have CA := fun m => C m a
      rw [ha] at CA
      have HA := hide CA
      have CB := fun m => C m b
      rw [hb] at CB
      have HB := hide CB
      clear hg C CA CB ha hb
      go_enter Try.func34, Try.ntmps34
      go_wp2_with fail
      go_quiet (first | (go_at_call_of 43 (Value.int .i64 a); exact quiet_any1 (quiet_eq (HA.out _))) | (go_at_call_of 43 (Value.int .i64 b); exact quiet_any1 (quiet_eq (HB.out _))))
      go_wp2_with fail
      go_ret
      exact ⟨ret_bool (by rw [E.out]), _, rfl⟩
    · have E : Hid (sameB n L a b = decide (L a.toNat = L b.toNat)) := by show _ = _; simp [sameB, ha, hb]; rfl
      have CA := fun m => C m a
      rw [ha] at CA
      have CB := fun m => C m b
      rw [hb] at CB
      clear C
      have ha' : 0 ≤ a ∧ a < n := by simpa [inB] using ha
      have hb' : 0 ≤ b ∧ b < n := by simpa [inB] using hb
      obtain ⟨a, rfl⟩ := Int.eq_ofNat_of_zero_le ha'.1
      obtain ⟨b, rfl⟩ := Int.eq_ofNat_of_zero_le hb'.1
      have han : a < n := by omega
      have hbn : b < n := by omega
      obtain ⟨g2, rfl, _, _, ca⟩ := hg a han
      obtain ⟨g3, e3, _, _, cb⟩ := hg b hbn
      injection e3 with e3
      injection e3 with e3
      subst e3
      have HA := hide CA
      have HB := hide CB
      clear hg ha hb ha' hb' CA CB
      go_enter Try.func34, Try.ntmps34
      go_wp2_with fail
      go_quiet (first | (go_at_call_of 43 (Value.int .i64 (a : Int)); exact quiet_any1 (quiet_eq (HA.out _))) | (go_at_call_of 43 (Value.int .i64 (b : Int)); exact quiet_any1 (quiet_eq (HB.out _))))
      go_wp2_with fail
      go_ret
      refine ⟨ret_bool ?_, _, rfl⟩
      rw [E.out]
      simp only [Int.toNat_natCast]
      rw [Bool.eq_iff_iff]
      show ((L a : Int) == (L b : Int)) = true ↔ _
      rw [beq_iff_eq, decide_eq_true_eq]
      omega
set_option maxHeartbeats 1000000 in
theorem r9Size (w : World) (a : Int) (g n B : Nat) (past : List (Nat → Nat)) (L : Nat → Nat) (h : Ref9 w g n past L B) :
    Calls Try.prog 35 #[.pointer (some ⟨g, 0, none⟩), .int .i64 a] w fun e w' => e = .returned (.int .i64 (sizeV n L a)) ∧ ∃ k, w' = w.drewN k := by
  obtain ⟨A, c, P, q0, c0, c1, c2, nb, _, hg⟩ := h.form
  have H := hide h
  clear h
  cases ha : inB n a
  · have E : Hid (sizeV n L a = 0) := by show _ = _; simp [sizeV, ha]
    clear hg
    go_enter Try.func35, Try.ntmps35
    go_wp2_with (go_at_call 43; refine (r9Has _ _ _ _ _ _ _ H.out).mono ?_; rintro e w' ⟨rfl, rfl⟩)
    go_ret
    exact ⟨by rw [E.out]; rfl, 0, rfl⟩
  · have ha' : 0 ≤ a ∧ a < n := by simpa [inB] using ha
    obtain ⟨a, rfl⟩ := Int.eq_ofNat_of_zero_le ha'.1
    have E : Hid (sizeV n L a = (cls n L (L a) : Int)) := by show _ = _; simp [sizeV, ha]
    have han : a < n := by omega
    obtain ⟨g2, rfl, _, _, ca⟩ := hg a han
    have hc : ∀ i, i < n → w.cell? ⟨g2, i, none⟩ = some (.int .i64 (L i : Int)) := fun i hi => by
      obtain ⟨g3, e3, _, _, cb⟩ := hg i hi
      injection e3 with e3
      injection e3 with e3
      subst e3
      exact cb
    have HC := hide hc
    clear hg hc ha'
    go_enter Try.func35, Try.ntmps35
    go_wp2_with (go_at_call 43; refine (r9Has _ _ _ _ _ _ _ H.out).mono ?_; rintro e w' ⟨rfl, rfl⟩)
    go_loopg [5, 6] n (fun q z v wr => ∃ (k d : Nat), k + q = n ∧ v = .int .i64 (k : Int) ∧ z = .int .i64 (cnt (fun j => L j == L a) k : Int) ∧ wr = w.drewN d)
    case atStart => exact ⟨0, 0, by omega, rfl, rfl, rfl⟩
    case round =>
      obtain ⟨k, d, hk, rfl, rfl, rfl⟩ := hrel
      have HK := hide hk
      have hkn : k ≤ n := by omega
      have hcl := cnt_le (fun j => L j == L a) k
      clear hk
      by_cases hlt : k < n
      · have ck := HC.out k hlt
        by_cases he : L k = L a
        · have hb := beq_nat_true he
          have hs := hide (cnt_succ_true (p := fun j => L j == L a) (k := k) (by simp [he]))
          clear he
          go_wp2_with fail
          go_quiet (fail)
          go_wp2_with fail
          go_roundg (n - (k + 1))
          case measure => have := HK.out; omega
          case rel => exact ⟨k + 1, _, by omega, by go_num, by rw [hs.out]; go_num, rfl⟩
        · have hb := beq_nat_false he
          have hs := hide (cnt_succ_false (p := fun j => L j == L a) (k := k) (by simp [he]))
          clear he
          go_wp2_with fail
          go_quiet (fail)
          go_wp2_with fail
          go_roundg (n - (k + 1))
          case measure => have := HK.out; omega
          case rel => exact ⟨k + 1, _, by omega, by go_num, by rw [hs.out], rfl⟩
      · have hkk : k = n := by omega
        subst hkk
        go_wp2_with fail
        go_ret
        exact ⟨by rw [E.out]; rfl, _, rfl⟩


theorem r9Mark (w : World) (g n B : Nat) (past : List (Nat → Nat)) (L : Nat → Nat) (h : Ref9 w g n past L B) :
    Calls Try.prog 37 #[.pointer (some ⟨g, 0, none⟩)] w fun e w' => e = .returned (.int .i64 (past.length : Int)) ∧ w = w' := by
  obtain ⟨A, c, P, q0, c0, c1, c2, nb, _, _⟩ := h.form
  have H := hide h
  clear h
  go_enter Try.func37, Try.ntmps37
  go_wp2_with (go_at_call 42; refine (r9Valid _ _ _ _ _ _ H.out).mono ?_; rintro e w' ⟨rfl, rfl⟩)
  go_ret
  exact ⟨rfl, rfl⟩

theorem r9Labels (w : World) (g n B : Nat) (past : List (Nat → Nat)) (L : Nat → Nat) (h : Ref9 w g n past L B) :
    Calls Try.prog 38 #[.pointer (some ⟨g, 0, none⟩)] w fun e w' => ∃ A c, e = .returned (.slice A n c) ∧ Rd w' A n 1 (arr n L).toList ∧ Below w.heap.size w w' := by
  obtain ⟨A, c, P, q0, c0, c1, c2, nb, hr, hg⟩ := h.form
  obtain ⟨i0, hi, hz0, hz1, hz2⟩ := info_parts int_info0
  have hi' := hide hi
  have hz0' := hide hz0
  have hz1' := hide hz1
  have hz2' := hide hz2
  have H := hide h
  have HR := hide (hr.alloc (.cells #[] 3))
  have ho := hide (World.ownsRow_made (e := 3) (size := 1) (base := w.heap.size) w #[] 0 (Nat.le_refl _) (by simp [maxLen]) rfl)
  have hgl := h.lt.1
  clear h hg hr hi hz0 hz1 hz2
  go_enter Try.func38, Try.ntmps38
  go_wp2_with (first | (go_at_call 42; refine (r9Valid _ _ _ _ _ _ H.out).mono ?_; rintro e w' ⟨rfl, rfl⟩) | (at_builtin; refine app_any 27 3 Try.underlying27 hi'.out hz0'.out hz1'.out hz2'.out rfl (by decide) _ _ _ _ _ HR.out (arr_toList_one n L) rfl _ _ rfl w.heap.size _ 0 [] rfl ho.out rfl (by unfold maxLen; omega) (by omega) (by simp) ?_; intro v' w1 hown hgr hat hnn hbel))
  simp only [Nat.zero_add, List.nil_append] at hown
  obtain ⟨A', c', rfl, hr', _, _, _⟩ := own_form hown
  go_wp2_with fail
  go_ret
  exact ⟨A', c', rfl, hr', ((Below.refl _ _).alloc (Nat.le_refl _) _).trans (hbel.mono (Nat.le_refl _))⟩
end Go.Proofs.Ytdhmjdlkaoflnaa
