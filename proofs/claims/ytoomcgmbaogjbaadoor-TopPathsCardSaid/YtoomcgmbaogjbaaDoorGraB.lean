/- graph: New. -/
import Derived.Test.YtoomcgmbaogjbaaDoorGraA
namespace Go.Proofs.YtoomcgmbaogjbaaDoor
open Go.RowKit
set_option linter.unusedVariables false

theorem gErr_all {n : Int} {l : List (Int × Int × Int)} : gErr n l = gErr n (l.drop 0) := rfl
set_option maxRecDepth 100000 in
set_option maxHeartbeats 16000000 in
theorem graNew_ok (w : World) (n m c : Nat) (A : Option Addr) (l : List (Int × Int × Int)) (hr : Rd w A m 3 (ecs l)) (ll : l.length = m) (hE : newE (n : Int) l = 0) :
    Calls Tryd.prog 14 #[.int .i64 (n : Int), .slice A m c] w
      fun e w' => ∃ p : GLoc, e = .returned (.tuple #[.pointer (some ⟨p.g, 0, none⟩), .int .i64 0]) ∧ Gr w' p n w.heap.size l ∧ Below w.heap.size w w' := by
  have hc : ¬ ((n : Int) < 0 ∨ 4096 < (n : Int) ∨ 16384 < l.length) := fun h => by
    unfold newE at hE; rw [if_pos h] at hE; cases hE
  have hn : n ≤ 4096 := by omega
  have hm : m ≤ 16384 := by omega
  have hg : gErr n l = 0 := by unfold newE at hE; rw [if_neg hc] at hE; exact hE
  have hok := gErr_ok.1 hg
  have HR := hide hr
  have HLL := hide ll
  have HOK := hide hok
  clear hc hE hg hr ll hok
  go_enter Tryd.func14, Tryd.ntmps14
  go_wp2_with fail
  go_loopg [21] m (fun q v wr => ∃ k : Nat, k + q = m ∧ v = .int .i64 (k : Int) ∧ Below w.heap.size w wr)
  case atStart => exact ⟨0, by omega, rfl, Below.refl _ _⟩
  case round =>
    obtain ⟨k, hk, rfl, hb⟩ := hrel
    have HK := hide hk
    have hkm : k ≤ m := by omega
    have HB := hide hb
    clear hk hb
    by_cases hlt : k < m
    · have hkl : k < l.length := by rw [HLL.out]; exact hlt
      obtain ⟨b, o, rfl, hbl, e0, e1, e2⟩ := (HR.out.keep (Nat.le_refl _) HB.out).edge k hkl HLL.out
      obtain ⟨q0, q1, q2, q3, q4⟩ := HOK.out.at_ hkl
      rw [q0] at e0
      rw [q1] at e1
      generalize eU l k = u at *
      generalize eV l k = v at *
      have hne : ((u : Int) == (v : Int)) = false := beq_nat_false q4
      have hdu : decide (n ≤ u) = false := by simp; omega
      have hdv : decide (n ≤ v) = false := by simp; omega
      clear q0 q1 q4
      generalize hx2 : (l[k]'hkl).2.2 = t at *
      clear hx2
      have hb1 := HB.out.alloc HB.out.size (.cells #[.int .i64 (u : Int), .int .i64 (v : Int), .int .i64 t] 29)
      have HB1 := hide hb1
      clear hb1
      go_wp2_with fail
      go_roundg (m - (k + 1))
      case measure => have := HK.out; omega
      case rel => exact ⟨k + 1, by omega, by go_num, HB1.out⟩
    · go_wp2_with fail
      refine (clone_edges_any _ A m c l (HR.out.keep (Nat.le_refl _) HB.out) HLL.out (by omega)).mono ?_
      rintro e w2 ⟨A', c', rfl, ho, hb2⟩
      have HO := hide (ho.base HB.out.size)
      have HB2 := hide (HB.out.trans (hb2.mono HB.out.size))
      clear ho hb2
      go_wp2_with fail
      refine (graBuild _ n m c' w.heap.size A' l HO.out HLL.out HOK.out hn hm HB2.out.size).mono ?_
      rintro e w3 ⟨p, rfl, hG, hb3⟩
      have HG := hide hG
      have HB3 := hide (HB2.out.trans (hb3.mono HB2.out.size))
      clear hG hb3
      go_wp2_with fail
      go_ret2
      exact ⟨p, rfl, HG.out, HB3.out⟩
theorem ret_pe {a b : Int} (h : a = b) : Ending.returned (.tuple #[.pointer none, .int .i64 a]) = .returned (.tuple #[.pointer none, .int .i64 b]) := by rw [h]
set_option maxRecDepth 100000 in
set_option maxHeartbeats 16000000 in
theorem graNew_no (w : World) (n : Int) (m c : Nat) (A : Option Addr) (l : List (Int × Int × Int)) (hr : Rd w A m 3 (ecs l)) (ll : l.length = m) (hm9 : m ≤ 9223372036854775807) (hE : newE n l ≠ 0) :
    Calls Tryd.prog 14 #[.int .i64 n, .slice A m c] w
      fun e w' => e = .returned (.tuple #[.pointer none, .int .i64 (newE n l)]) ∧ Below w.heap.size w w' := by
  have hb0 := Below.refl w.heap.size w
  by_cases hc : n < 0 ∨ 4096 < n ∨ 16384 < l.length
  · have he : newE n l = 2 := by unfold newE; rw [if_pos hc]
    rw [he]
    have HB := hide hb0
    rw [ll] at hc
    clear he hE ll hr hb0
    by_cases h1 : n < 0
    · clear hc
      go_enter Tryd.func14, Tryd.ntmps14
      go_wp2_with fail
      go_ret2
      exact ⟨rfl, HB.out⟩
    · by_cases h2 : 4096 < n
      · clear hc
        go_enter Tryd.func14, Tryd.ntmps14
        go_wp2_with fail
        go_ret2
        exact ⟨rfl, HB.out⟩
      · have h3 : 16384 < m := by omega
        clear hc
        go_enter Tryd.func14, Tryd.ntmps14
        go_wp2_with fail
        go_ret2
        exact ⟨rfl, HB.out⟩
  · obtain ⟨hn0, hc2⟩ := not_or.1 hc
    obtain ⟨hn1, hm⟩ := not_or.1 hc2
    have hg : newE n l = gErr n l := by unfold newE; rw [if_neg hc]
    rw [hg] at hE ⊢
    have hm' : m ≤ 16384 := by omega
    have HR := hide hr
    have HLL := hide ll
    have HE := hide hE
    have HB0 := hide hb0
    obtain ⟨n, rfl⟩ := Int.eq_ofNat_of_zero_le (show 0 ≤ n by omega)
    have hn4 : n ≤ 4096 := by omega
    clear hc hc2 hg hr ll hE hb0 hn0 hn1 hm
    generalize hGE : gErr (n : Int) l = E at *
    have HGE := hide hGE
    clear hGE
    go_enter Tryd.func14, Tryd.ntmps14
    go_wp2_with fail
    go_loopg [21] m (fun q v wr => ∃ k : Nat, k + q = m ∧ v = .int .i64 (k : Int) ∧ gErr (n : Int) (l.drop k) = E ∧ Below w.heap.size w wr)
    case atStart => exact ⟨0, by omega, rfl, HGE.out, HB0.out⟩
    case round =>
      obtain ⟨k, hk, rfl, hd, hb⟩ := hrel
      have HK := hide hk
      have hkm : k ≤ m := by omega
      have HB := hide hb
      by_cases hlt : k < m
      · have hkl : k < l.length := by rw [HLL.out]; exact hlt
        rw [gErr_drop hkl] at hd
        have HD := hide hd
        clear hk hb hd
        obtain ⟨b, o, rfl, hbl, e0, e1, e2⟩ := (HR.out.keep (Nat.le_refl _) HB.out).edge k hkl HLL.out
        generalize l[k] = e at *
        obtain ⟨u, v, t⟩ := e
        simp only at e0 e1 e2
        have hb1 := HB.out.alloc HB.out.size (.cells #[.int .i64 u, .int .i64 v, .int .i64 t] 29)
        have HB1 := hide hb1
        have hd2 := HD.out
        simp only at hd2
        have HD2 := hide hd2
        clear hb1 hd2 HD
        by_cases h1 : u < 0
        · have HE3 : Hid (E = 3) := by show E = 3; rw [← HD2.out, if_pos (.inl h1)]
          go_wp2_with fail
          go_ret2
          exact ⟨ret_pe HE3.out.symm, HB1.out⟩
        · obtain ⟨u, rfl⟩ := Int.eq_ofNat_of_zero_le (show 0 ≤ u by omega)
          by_cases h2 : n ≤ u
          · have HE3 : Hid (E = 3) := by show E = 3; rw [← HD2.out, if_pos (.inr (.inl (by omega)))]
            have hdu : decide (n ≤ u) = true := by simpa using h2
            clear h1
            go_wp2_with fail
            go_ret2
            exact ⟨ret_pe HE3.out.symm, HB1.out⟩
          · have hdu : decide (n ≤ u) = false := by simpa using h2
            by_cases h3 : v < 0
            · have HE3 : Hid (E = 3) := by show E = 3; rw [← HD2.out, if_pos (.inr (.inr (.inl h3)))]
              clear h1 h2
              go_wp2_with fail
              go_ret2
              exact ⟨ret_pe HE3.out.symm, HB1.out⟩
            · obtain ⟨v, rfl⟩ := Int.eq_ofNat_of_zero_le (show 0 ≤ v by omega)
              by_cases h4 : n ≤ v
              · have HE3 : Hid (E = 3) := by show E = 3; rw [← HD2.out, if_pos (.inr (.inr (.inr (by omega))))]
                have hdv : decide (n ≤ v) = true := by simpa using h4
                clear h1 h2 h3
                go_wp2_with fail
                go_ret2
                exact ⟨ret_pe HE3.out.symm, HB1.out⟩
              · have hdv : decide (n ≤ v) = false := by simpa using h4
                by_cases h5 : u = v
                · have HE9 : Hid (E = 9) := by show E = 9; rw [← HD2.out, if_neg (by omega), if_pos (by omega)]
                  subst h5
                  clear h1 h2 h3 h4
                  go_wp2_with fail
                  go_ret2
                  exact ⟨ret_pe HE9.out.symm, HB1.out⟩
                · have HD3 : Hid (gErr (n : Int) (l.drop (k + 1)) = E) := by
                    show _ = _
                    rw [← HD2.out, if_neg (by omega), if_neg (by omega)]
                  have hne : ((u : Int) == (v : Int)) = false := beq_nat_false h5
                  clear h1 h2 h3 h4 h5
                  go_wp2_with fail
                  go_roundg (m - (k + 1))
                  case measure => have := HK.out; omega
                  case rel => exact ⟨k + 1, by omega, by go_num, HD3.out, HB1.out⟩
      · exfalso
        have e : l.drop k = [] := List.drop_eq_nil_of_le (by rw [HLL.out]; omega)
        rw [e] at hd
        exact HE.out hd.symm
end Go.Proofs.YtoomcgmbaogjbaaDoor
