/- seepageref13: New. -/
import Derived.Test.YtpgkhmjlbaoagaaR13A
import Derived.Test.YtpgkhmjlbaoagaaGraB
namespace Go.Proofs.Ytpgkhmjlbaoagaa
open Go.RowKit
set_option linter.unusedVariables false

set_option maxRecDepth 100000 in
set_option maxHeartbeats 16000000 in
theorem r13New_ok (w : World) (n m c : Nat) (A : Option Addr) (l : List (Int × Int × Int)) (hr : Rd w A m 3 (ecs l)) (ll : l.length = m) (hE : newE (n : Int) l = 0) :
    Calls Try.prog 42 #[.int .i64 (n : Int), .slice A m c] w
      fun e w' => ∃ g A' c', e = .returned (.tuple #[.pointer (some ⟨g, 0, none⟩), .int .i64 0]) ∧ RG w' g A' c' n w.heap.size l ∧ Below w.heap.size w w' := by
  have hc : ¬ ((n : Int) < 0 ∨ 4096 < (n : Int) ∨ 16384 < l.length) := fun h => by
    unfold newE at hE; rw [if_pos h] at hE; cases hE
  have hn : n ≤ 4096 := by omega
  have hm : m ≤ 16384 := by omega
  have hg : gErr n l = 0 := by unfold newE at hE; rw [if_neg hc] at hE; exact hE
  have hok := gErr_ok.1 hg
  have HR := hide hr
  have HLL := hide ll
  have HOK := hide hok
  clear hc hE hg hr ll hok
  go_enter Try.func42, Try.ntmps42
  go_wp2_with fail
  go_loopg [6] m (fun q v wr => ∃ k : Nat, k + q = m ∧ v = .int .i64 (k : Int) ∧ Below w.heap.size w wr)
  case atStart => exact ⟨0, by omega, rfl, Below.refl _ _⟩
  case round =>
    obtain ⟨k, hk, rfl, hb⟩ := hrel
    have HK := hide hk
    have hkm : k ≤ m := by omega
    have HB := hide hb
    clear hk hb
    by_cases hlt : k < m
    · have hkl : k < l.length := by rw [HLL.out]; exact hlt
      obtain ⟨b, o, rfl, hbl, e0, e1, e2⟩ := (HR.out.keep (Nat.le_refl _) HB.out).edge k hkl HLL.out
      obtain ⟨q0, q1, q2, q3, q4⟩ := HOK.out.at_ hkl
      rw [q0] at e0
      rw [q1] at e1
      generalize eU l k = u at *
      generalize eV l k = v at *
      have hne : ((u : Int) == (v : Int)) = false := beq_nat_false q4
      have hdu : decide (n ≤ u) = false := by simp; omega
      have hdv : decide (n ≤ v) = false := by simp; omega
      clear q0 q1 q4
      generalize hx2 : (l[k]'hkl).2.2 = t at *
      clear hx2
      go_wp2_with fail
      go_quiet (fail)
      go_wp2_with fail
      go_roundg (m - (k + 1))
      case measure => have := HK.out; omega
      case rel => exact ⟨k + 1, by omega, by go_num, HB.out.drewN _⟩
    · have hr2 := hide ((HR.out.keep (Nat.le_refl _) HB.out).alloc (.cells #[] 48))
      have ho := hide ((World.ownsRow_made (e := 48) (size := 3) (base := wr.heap.size) wr #[] 0 (Nat.le_refl _) (by simp [maxLen]) rfl))
      obtain ⟨i0, hi, hz0, hz1, hz2⟩ := info_parts edge_info
      have hi' := hide hi
      have hz0' := hide hz0
      have hz1' := hide hz1
      have hz2' := hide hz2
      obtain ⟨wo, rfl⟩ : ∃ wo : World, wo = wr := ⟨_, rfl⟩
      clear hi hz0 hz1 hz2
      go_wp2_with (first | (at_builtin; (refine app_any2 22 48 Try.underlying22 hi'.out hz0'.out hz1'.out hz2'.out rfl (by decide) _ A m c (ecs l) hr2.out (ecs_oneCell l) rfl _ _ rfl wo.heap.size _ 0 [] rfl ho.out rfl (by unfold maxLen; omega) (by omega) (by simp) ?_; intro v' w1 hown hgr hat hnn hbel; simp only [Nat.zero_add, List.nil_append] at hown; obtain ⟨A5, c5, hv5, -⟩ := own_form hown; subst hv5; have HO5 := hide hown; have HBE := hide hbel; clear hown hgr hat hnn hbel)))
      go_ret2
      have hB1 : Below w.heap.size w w1 := HB.out.trans ((((Below.refl _ wo).alloc (Nat.le_refl _) _).trans (HBE.out.mono (Nat.le_refl _))).mono HB.out.size)
      have hO : OwnE w1 w.heap.size (.slice A5 l.length c5) l := by
        unfold OwnE
        rw [HLL.out]
        exact own_rebase HO5.out (fun b hb => Nat.le_trans HB.out.size (HO5.out.lt b hb).1)
      refine ⟨w1.heap.size, A5, c5, rfl, ⟨?_, ?_, HOK.out, hn, by rw [HLL.out]; exact hm⟩, hB1.alloc hB1.size _⟩
      · rw [HLL.out]; exact Blk.new w1 _ _
      · exact hO.kept ((Below.refl _ w1).alloc (Nat.le_refl _) _)
set_option maxRecDepth 100000 in
set_option maxHeartbeats 16000000 in
theorem r13New_no (w : World) (n : Int) (m c : Nat) (A : Option Addr) (l : List (Int × Int × Int)) (hr : Rd w A m 3 (ecs l)) (ll : l.length = m) (hm9 : m ≤ 9223372036854775807) (hE : newE n l ≠ 0) :
    Calls Try.prog 42 #[.int .i64 n, .slice A m c] w
      fun e w' => e = .returned (.tuple #[.pointer none, .int .i64 (newE n l)]) ∧ Below w.heap.size w w' := by
  have hb0 := Below.refl w.heap.size w
  by_cases hc : n < 0 ∨ 4096 < n ∨ 16384 < l.length
  · have he : newE n l = 2 := by unfold newE; rw [if_pos hc]
    rw [he]
    have HB := hide hb0
    rw [ll] at hc
    clear he hE ll hr hb0
    by_cases h1 : n < 0
    · clear hc
      go_enter Try.func42, Try.ntmps42
      go_wp2_with fail
      go_ret2
      exact ⟨rfl, HB.out⟩
    · by_cases h2 : 4096 < n
      · clear hc
        go_enter Try.func42, Try.ntmps42
        go_wp2_with fail
        go_ret2
        exact ⟨rfl, HB.out⟩
      · have h3 : 16384 < m := by omega
        clear hc
        go_enter Try.func42, Try.ntmps42
        go_wp2_with fail
        go_ret2
        exact ⟨rfl, HB.out⟩
  · obtain ⟨hn0, hc2⟩ := not_or.1 hc
    obtain ⟨hn1, hm⟩ := not_or.1 hc2
    have hg : newE n l = gErr n l := by unfold newE; rw [if_neg hc]
    rw [hg] at hE ⊢
    have hm' : m ≤ 16384 := by omega
    have HR := hide hr
    have HLL := hide ll
    have HE := hide hE
    have HB0 := hide hb0
    obtain ⟨n, rfl⟩ := Int.eq_ofNat_of_zero_le (show 0 ≤ n by omega)
    have hn4 : n ≤ 4096 := by omega
    clear hc hc2 hg hr ll hE hb0 hn0 hn1 hm
    generalize hGE : gErr (n : Int) l = E at *
    have HGE := hide hGE
    clear hGE
    go_enter Try.func42, Try.ntmps42
    go_wp2_with fail
    go_loopg [6] m (fun q v wr => ∃ k : Nat, k + q = m ∧ v = .int .i64 (k : Int) ∧ gErr (n : Int) (l.drop k) = E ∧ Below w.heap.size w wr)
    case atStart => exact ⟨0, by omega, rfl, HGE.out, HB0.out⟩
    case round =>
      obtain ⟨k, hk, rfl, hd, hb⟩ := hrel
      have HK := hide hk
      have hkm : k ≤ m := by omega
      have HB := hide hb
      by_cases hlt : k < m
      · have hkl : k < l.length := by rw [HLL.out]; exact hlt
        rw [gErr_drop hkl] at hd
        have HD := hide hd
        clear hk hb hd
        obtain ⟨b, o, rfl, hbl, e0, e1, e2⟩ := (HR.out.keep (Nat.le_refl _) HB.out).edge k hkl HLL.out
        generalize l[k] = e at *
        obtain ⟨u, v, t⟩ := e
        simp only at e0 e1 e2
        have HB1 := hide HB.out
        have hd2 := HD.out
        simp only at hd2
        have HD2 := hide hd2
        clear hd2 HD
        by_cases h1 : u < 0
        · have HE3 : Hid (E = 3) := by show E = 3; rw [← HD2.out, if_pos (.inl h1)]
          go_wp2_with fail
          go_ret2
          exact ⟨ret_pe HE3.out.symm, HB1.out⟩
        · obtain ⟨u, rfl⟩ := Int.eq_ofNat_of_zero_le (show 0 ≤ u by omega)
          by_cases h2 : n ≤ u
          · have HE3 : Hid (E = 3) := by show E = 3; rw [← HD2.out, if_pos (.inr (.inl (by omega)))]
            have hdu : decide (n ≤ u) = true := by simpa using h2
            clear h1
            go_wp2_with fail
            go_ret2
            exact ⟨ret_pe HE3.out.symm, HB1.out⟩
          · have hdu : decide (n ≤ u) = false := by simpa using h2
            by_cases h3 : v < 0
            · have HE3 : Hid (E = 3) := by show E = 3; rw [← HD2.out, if_pos (.inr (.inr (.inl h3)))]
              clear h1 h2
              go_wp2_with fail
              go_ret2
              exact ⟨ret_pe HE3.out.symm, HB1.out⟩
            · obtain ⟨v, rfl⟩ := Int.eq_ofNat_of_zero_le (show 0 ≤ v by omega)
              by_cases h4 : n ≤ v
              · have HE3 : Hid (E = 3) := by show E = 3; rw [← HD2.out, if_pos (.inr (.inr (.inr (by omega))))]
                have hdv : decide (n ≤ v) = true := by simpa using h4
                clear h1 h2 h3
                go_wp2_with fail
                go_ret2
                exact ⟨ret_pe HE3.out.symm, HB1.out⟩
              · have hdv : decide (n ≤ v) = false := by simpa using h4
                by_cases h5 : u = v
                · have HE9 : Hid (E = 9) := by show E = 9; rw [← HD2.out, if_neg (by omega), if_pos (by omega)]
                  subst h5
                  clear h1 h2 h3 h4
                  go_wp2_with fail
                  go_quiet (fail)
                  go_wp2_with fail
                  go_ret2
                  exact ⟨ret_pe HE9.out.symm, HB1.out.drewN _⟩
                · have HD3 : Hid (gErr (n : Int) (l.drop (k + 1)) = E) := by
                    show _ = _
                    rw [← HD2.out, if_neg (by omega), if_neg (by omega)]
                  have hne : ((u : Int) == (v : Int)) = false := beq_nat_false h5
                  clear h1 h2 h3 h4 h5
                  go_wp2_with fail
                  go_quiet (fail)
                  go_wp2_with fail
                  go_roundg (m - (k + 1))
                  case measure => have := HK.out; omega
                  case rel => exact ⟨k + 1, by omega, by go_num, HD3.out, HB1.out.drewN _⟩
      · exfalso
        have e : l.drop k = [] := List.drop_eq_nil_of_le (by rw [HLL.out]; omega)
        rw [e] at hd
        exact HE.out hd.symm
end Go.Proofs.Ytpgkhmjlbaoagaa
