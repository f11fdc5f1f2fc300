/- seepageref09: united. -/
import Derived.Test.YtdhmjdlkaoflnaaUndoNewsWalk
namespace Go.Proofs.Ytdhmjdlkaoflnaa
open Go.RowKit
set_option linter.unusedVariables false

set_option maxRecDepth 100000 in
set_option maxHeartbeats 4000000 in
theorem r9United (w : World) (A : Option Addr) (n c a b : Nat) (L : Nat → Nat) (hr : Rd w A n 1 (arr n L).toList) (ha : a < n) (hb : b < n) (nb : n ≤ 65536) :
    Calls Try.prog 44 #[.slice A n c, .int .i64 (a : Int), .int .i64 (b : Int)] w
      fun e w' => ∃ A' c', e = .returned (.slice A' n c') ∧ RL w' w.heap.size (.slice A' n c') n (merge L (L a) (L b)) ∧ Below w.heap.size w w' := by
  have hc : ∀ i, i < n → ∃ b o, A = some ⟨b, o, none⟩ ∧ b < w.heap.size ∧ w.cell? ⟨b, o + i, none⟩ = some (.int .i64 (L i : Int)) := fun i hi => by
    obtain ⟨b, o, e, hlt, hc⟩ := hr.2 (by omega)
    exact ⟨b, o, e, hlt, hc i _ (by rw [Array.getElem?_toList]; exact arr_get L hi)⟩
  obtain ⟨bb, oo, rfl, hbl, ca⟩ := hc a ha
  have hc' : ∀ i, i < n → w.cell? ⟨bb, oo + i, none⟩ = some (.int .i64 (L i : Int)) := fun i hi => by
    obtain ⟨b', o', e, _, h⟩ := hc i hi
    injection e with e
    injection e with e1 e2
    subst e1; subst e2
    exact h
  have cb := hc' b hb
  have HC := hide hc'
  obtain ⟨i0, hi, hz0, hz1, hz2⟩ := info_parts int_info0
  have hi' := hide hi
  have hz0' := hide hz0
  have hz1' := hide hz1
  have hz2' := hide hz2
  clear hi hz0 hz1 hz2 hc hc' hr
  obtain ⟨M, eM⟩ : ∃ M, M = merge L (L a) (L b) := ⟨_, rfl⟩
  rw [← eM]
  have HE : ∃ lo hi : Nat, (L b < L a ∧ hi = L a ∧ lo = L b ∨ ¬ L b < L a ∧ hi = L b ∧ lo = L a) ∧ ∀ i, M i = if L i = hi then lo else L i := by
    by_cases h : L b < L a
    · exact ⟨L b, L a, .inl ⟨h, rfl, rfl⟩, fun i => by rw [eM]; unfold merge; rw [Nat.max_eq_left (by omega), Nat.min_eq_right (by omega)]⟩
    · exact ⟨L a, L b, .inr ⟨h, rfl, rfl⟩, fun i => by rw [eM]; unfold merge; rw [Nat.max_eq_right (by omega), Nat.min_eq_left (by omega)]⟩
  clear eM
  obtain ⟨lo, hi, hcs, hM⟩ := HE
  have HM := hide hM
  clear hM
  generalize hgs : w.heap.size = g at *
  have HGS := hide hgs
  clear hgs
  have hb0 : Hid (∀ k, Below g w (w.drewN k)) := fun k => (Below.refl _ _).drewN k
  rcases hcs with ⟨hlt, eh, el⟩ | ⟨hlt, eh, el⟩
  all_goals
    simp only [← eh, ← el] at hlt ca cb
    clear eh el
    go_enter Try.func44, Try.ntmps44
    go_wp2_with fail
    go_quiet (fail)
    go_wp2_with fail
    go_loopg [9, 10] n (fun q V v wr => ∃ k : Nat, k + q = n ∧ v = .int .i64 (k : Int) ∧ wr.ownsRow g 3 1 V k (arr k M).toList ∧ Below g w wr)
    case atStart => exact ⟨0, by omega, rfl, by rw [arr_nil]; exact own_nil _ _ _ _, hb0.out _⟩
    case round =>
      obtain ⟨k, hk, rfl, ho, hbel⟩ := hrel
      have HK := hide hk
      have HO := hide ho
      have HBL := hide hbel
      have hkn : k ≤ n := by omega
      have hsz : g ≤ wr.heap.size := by have := hbel.size; rw [HGS.out] at this; exact this
      clear hk ho hbel hlt ca cb
      by_cases hkl : k < n
      · have ck : wr.cell? ⟨bb, oo + k, none⟩ = some (.int .i64 (L k : Int)) := (HBL.out.cell (p := ⟨bb, oo + k, none⟩) hbl).trans (HC.out k hkl)
        by_cases he : L k = hi
        · have hbe := beq_nat_true he
          have hm : M k = lo := by rw [HM.out, if_pos he]
          have HMk := hide hm
          clear he hm
          go_wp2_with (first | (at_builtin; go_loud (refine app_one 27 3 Try.underlying27 hi'.out hz0'.out hz1'.out hz2'.out rfl (by decide) wr #[.int .i64 (lo : Int)] rfl (by intro u hu; simp at hu; subst hu; rfl) rfl (.tmp 36) (.tmp 38) rfl g _ k _ rfl HO.out rfl (by unfold maxLen; omega) (by omega) hsz ?_; intro vo' w5 ho5 hg5 hat5 hb5; have HO5 := hide ho5; have HB5 := hide hb5; clear ho5 hg5 hat5 hb5)))
          go_roundg (n - (k + 1))
          case measure => have := HK.out; omega
          case rel => exact ⟨k + 1, by omega, by go_num, by rw [arr_snoc, HMk.out]; exact HO5.out, HBL.out.trans HB5.out⟩
        · have hbe := beq_nat_false he
          have hm : M k = L k := by rw [HM.out, if_neg he]
          have HMk := hide hm
          clear he hm
          go_wp2_with (first | (at_builtin; go_loud (refine app_one 27 3 Try.underlying27 hi'.out hz0'.out hz1'.out hz2'.out rfl (by decide) wr #[.int .i64 (L k : Int)] rfl (by intro u hu; simp at hu; subst hu; rfl) rfl (.tmp 40) (.tmp 45) rfl g _ k _ rfl HO.out rfl (by unfold maxLen; omega) (by omega) hsz ?_; intro vo' w5 ho5 hg5 hat5 hb5; have HO5 := hide ho5; have HB5 := hide hb5; clear ho5 hg5 hat5 hb5)))
          go_roundg (n - (k + 1))
          case measure => have := HK.out; omega
          case rel => exact ⟨k + 1, by omega, by go_num, by rw [arr_snoc, HMk.out]; exact HO5.out, HBL.out.trans HB5.out⟩
      · have hkk : k = n := by omega
        subst hkk
        obtain ⟨A5, c5, rfl, _⟩ := own_form HO.out
        go_wp2_with fail
        go_ret
        exact ⟨A5, c5, rfl, HO.out, HBL.out⟩
end Go.Proofs.Ytdhmjdlkaoflnaa
