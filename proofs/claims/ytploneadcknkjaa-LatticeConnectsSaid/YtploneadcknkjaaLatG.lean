/- Package seepageref29: Tree; both Trees at arguments that are refused. -/
import Derived.Test.YtploneadcknkjaaLatF
import Derived.Test.YtploneadcknkjaaInts
namespace Go.Proofs.Ytploneadcknkjaa
open Go.RowKit
set_option linter.unusedVariables false

theorem treeGo_big {c : Nat} (hc : 1 ≤ c) (d n lev : Nat) (hl : 1 ≤ lev) (h : 4096 < n + d) (hn : n ≤ 4096) : treeGo c d n lev = none := by
  induction d generalizing n lev with
  | zero => omega
  | succ d ih =>
    have := Nat.mul_pos hl hc
    simp only [treeGo]
    split
    · rfl
    · exact ih _ _ this (by omega) (by omega)
theorem treeGo_wide {c d : Nat} (hc : 4096 < c) (hd : 0 < d) : treeGo c d 1 1 = none := by
  rw [treeGo_succ _ _ _ _ hd, if_pos (by omega)]

/-- The vertices from a on, so many. -/
def run_ (a n : Nat) : List Int := (List.range' a n).map fun (v : Nat) => (v : Int)
theorem run_len (a n : Nat) : (run_ a n).length = n := by simp [run_]
theorem run_snoc (a n : Nat) : run_ a (n + 1) = run_ a n ++ [((a + n : Nat) : Int)] := by
  unfold run_; rw [List.range'_concat]; simp
theorem run_get (a n i : Nat) (h : i < (run_ a n).length) : (run_ a n)[i] = ((a + i : Nat) : Int) := by simp [run_]

/-- A level of the tree: an owned slice that is not nil, in a block of its own. -/
def Lev (w : World) (B : Nat) (g lev cap s : Nat) : Prop := w.ownsRow B 3 1 (.slice (some ⟨g, 0, none⟩) lev cap) lev (is (run_ s lev))
theorem Lev.cell {w : World} {B g lev cap s i : Nat} (h : Lev w B g lev cap s) (hi : i < lev) : w.cell? ⟨g, i, none⟩ = some (.int .i64 ((s : Int) + (i : Int))) := by
  rw [h.cellAt i (by omega), is_get _ i (by rw [run_len]; exact hi), run_get, Int.natCast_add]
theorem Lev.lt {w : World} {B g lev cap s : Nat} (h : Lev w B g lev cap s) : g < w.heap.size := (World.ownsRow.lt h g rfl).2

set_option maxRecDepth 100000 in
set_option maxHeartbeats 2000000 in
theorem rtree_ok (c d : Nat) (W : World) (hc : 1 ≤ c) (hd : d < 4096) (hcd : d = 0 ∨ c ≤ 4096) (hc' : c ≤ 9223372036854775807) :
    Calls Try.prog 19 #[.int .i64 c, .int .i64 d] W
      fun e W' => ∃ V, e = .returned (.tuple #[.int .i64 (trN c d), V, .int .i64 (trE c d)]) ∧ OwnE W' W.heap.size V (trL c d) ∧ Below W.heap.size W W' := by
  have HCD := hide hcd
  have g1 : Hid (∀ w : World, Lev (w.alloc (.cells #[.int .i64 0] 3)) w.heap.size w.heap.size 1 1 0) := fun w => by
    have := World.ownsRow_lit (e := 3) (size := 1) (base := w.heap.size) w #[.int .i64 0] 1 (Nat.le_refl _) (by simp [maxLen]) rfl
    simpa [Lev, is, run_, List.range'] using this
  have hcases : (d = 0) ∨ (0 < d ∧ c ≤ 4096) := by omega
  have start : ∀ (Q : Exit → Act → World → Prop), True := fun _ => trivial
  clear hcd start
  rcases hcases with rfl | ⟨hd0, hc4⟩
  · have E : Hid (treeGo c 0 1 1 = some 1) := rfl
    go_enter Try.func19, Try.ntmps19
    go_wp2_with fail
    refine wp_loop_rounds 1 ?_
    rw [rounds_succ]
    go_wp2_with fail
    go_ret3
    exact ⟨.slice none 0 0, by simp only [trN, trE, E.out]; rfl, by simp only [trL, E.out]; simpa [treeL] using OwnE.nil _ _, (Below.refl _ _).alloc (Nat.le_refl _) _⟩
  · go_enter Try.func19, Try.ntmps19
    go_wp2_with fail
    go_loopg [7, 8, 9, 10] d (fun g a v l i wr => ∃ k n lev gl cap : Nat, k + g = d ∧ i = .int .i64 k ∧ a = .int .i64 n ∧ l = .slice (some ⟨gl, 0, none⟩) lev cap ∧ OwnE wr W.heap.size v (treeL c n) ∧ Lev wr W.heap.size gl lev cap (n - lev) ∧
      treeGo c (d - k) n lev = treeGo c d 1 1 ∧ 1 ≤ lev ∧ lev ≤ n ∧ n ≤ 4096 ∧ (n - lev) * c + 1 = n ∧ Below W.heap.size W wr)
    case atStart => exact ⟨0, 1, 1, _, 1, by omega, rfl, rfl, rfl, by simpa [treeL] using OwnE.nil _ _, g1.out W, rfl, by omega, by omega, by omega, by simp, (Below.refl _ _).alloc (Nat.le_refl _) _⟩
    case round =>
      obtain ⟨k, n, lev, gl, cap, hk, rfl, rfl, rfl, hown, hlev, ht, l1, l2, l3, hs, hbel⟩ := hrel
      have HK := hide hk
      have hkd : k ≤ d := by omega
      have HT := hide ht
      have HS := hide hs
      clear hk ht hs
      by_cases hlt : k < d
      · have hg := treeGo_succ c (d - k) n lev (by omega)
        have hm0 : 0 ≤ (lev : Int) * (c : Int) := Int.mul_nonneg (by omega) (by omega)
        have hm1 : (lev : Int) * (c : Int) ≤ 4096 * 4096 := Int.mul_le_mul (by omega) (by omega) (by omega) (by omega)
        have hmc : ((lev * c : Nat) : Int) = (lev : Int) * (c : Int) := by simp
        by_cases hov : 4096 < n + lev * c
        · rw [if_pos hov] at hg
          have E : Hid (treeGo c d 1 1 = none) := HT.out.symm.trans hg
          have hov' : (4096 : Int) < (n : Int) + (lev : Int) * (c : Int) := by omega
          clear hg hov hmc
          go_wp2_with fail
          go_ret3
          exact ⟨.slice none 0 0, by simp only [trN, trE, E.out]; rfl, by simp only [trL, E.out]; exact OwnE.nil _ _, hbel⟩
        · rw [if_neg hov] at hg
          have E : Hid (treeGo c (d - k - 1) (n + lev * c) (lev * c) = treeGo c d 1 1) := hg.symm.trans HT.out
          have hov' : (n : Int) + (lev : Int) * (c : Int) ≤ 4096 := by omega
          have HOV := hide hov
          clear hg hov hmc
          obtain ⟨B2, hB2⟩ : ∃ B2, B2 = wr.heap.size := ⟨_, rfl⟩
          have hgB : gl < B2 := by rw [hB2]; exact hlev.lt
          have HB2 := hide hB2
          have hWB : W.heap.size ≤ B2 := by rw [hB2]; exact hbel.size
          clear hB2
          go_wp2_with fail
          go_loopg [7, 8, 11, 12] lev (fun g a v b i w2 => ∃ p m : Nat, p + g = lev ∧ m = n + p * c ∧ i = .int .i64 p ∧ a = .int .i64 m ∧ OwnE w2 W.heap.size v (treeL c m) ∧ OwnI w2 B2 b (run_ n (m - n)) ∧
            Lev w2 W.heap.size gl lev cap (n - lev) ∧ B2 ≤ w2.heap.size ∧ Below W.heap.size W w2)
          case atStart => exact ⟨0, n, by omega, by omega, rfl, rfl, hown, by simpa [run_] using OwnI.nil _ _, hlev, by have := HB2.out; omega, hbel⟩
          case round =>
            obtain ⟨p, m, hp, hm, rfl, rfl, hown2, hbw2, hlev2, hsz2, hbel2⟩ := hrel
            have HP := hide hp
            have HM := hide hm
            have hpl : p ≤ lev := by omega
            clear hp hm
            by_cases hlt2 : p < lev
            · have hmb : m + c ≤ 4096 := by
                have e1 : (p + 1) * c ≤ lev * c := Nat.mul_le_mul_right c hlt2
                rw [Nat.succ_mul] at e1
                have := HM.out; have := HOV.out; omega
              have hmn : n ≤ m := by have := HM.out; omega
              go_wp2_with fail
              go_loopg [7, 8, 11, 13] c (fun g a v b i w2 => ∃ q : Nat, q + g = c ∧ i = .int .i64 q ∧ a = .int .i64 ((m : Int) + (q : Int)) ∧ OwnE w2 W.heap.size v (treeL c (m + q)) ∧ OwnI w2 B2 b (run_ n (m + q - n)) ∧
                Lev w2 W.heap.size gl lev cap (n - lev) ∧ B2 ≤ w2.heap.size ∧ Below W.heap.size W w2)
              case atStart => exact ⟨0, by omega, rfl, by simp, hown2, hbw2, hlev2, hsz2, hbel2⟩
              case round =>
                obtain ⟨q, hq, rfl, rfl, hown3, hbw3, hlev3, hsz3, hbel3⟩ := hrel
                have HQ := hide hq
                have hql : q ≤ c := by omega
                clear hq
                by_cases hlt3 : q < c
                · have hcell := hlev3.cell hlt2
                  have hdiv : Hid ((((m + q : Nat) : Int) - 1) / (c : Int) = ((n - lev : Nat) : Int) + (p : Int)) := by
                    show _ = _
                    have e1 : ((m + q : Nat) : Int) - 1 = (q : Int) + (((n - lev : Nat) : Int) + (p : Int)) * (c : Int) := by
                      have h1 := HM.out
                      have h2 := HS.out
                      have h3 : m + q = (n - lev + p) * c + 1 + q := by rw [Nat.add_mul]; omega
                      rw [h3]; simp; omega
                    rw [e1, Int.add_mul_ediv_right _ _ (by omega), Int.ediv_eq_zero_of_lt (by omega) (by omega)]
                    omega
                  have hl1 : Hid ((treeL c (m + q)).length ≤ 1000000) := by show _ ≤ _; rw [treeL_len]; omega
                  have hl2 : Hid ((run_ n (m + q - n)).length ≤ 1000000) := by show _ ≤ _; rw [run_len]; omega
                  have HO3 := hide hown3
                  have HW3 := hide hbw3
                  have HL3 := hide hlev3
                  have hz := hlev3.lt
                  have hbz := hbel3.size
                  clear hown3 hbw3 hlev3 hown2 hbw2 hlev2
                  go_wp2_with (first
                    | (at_builtin; refine app_edge' _ (((n - lev : Nat) : Int) + (p : Int)) ((m : Int) + (q : Int)) 0 rfl (.tmp 56) (.tmp 63) rfl W.heap.size _ _ rfl HO3.out rfl hl1.out hbz ?_; intro vA wA hownA gA _ hbelA; have hszA := hbelA.size)
                    | (at_builtin; refine app_int _ ((m : Int) + (q : Int)) rfl (.tmp 65) (.tmp 67) rfl B2 _ _ rfl (World.ownsRow.kept HW3.out gA (own_ne HW3.out HO3.out (by decide))) rfl hl2.out (by omega) ?_; intro vB wB hownB gB atB hbelB))
                  go_roundg (c - (q + 1))
                  case measure => have := HQ.out; omega
                  case rel =>
                    have hlevA : Lev wA W.heap.size gl lev cap (n - lev) := World.ownsRow.kept HL3.out gA (own_ne HL3.out HO3.out (by decide))
                    have hwA := World.ownsRow.kept HW3.out gA (own_ne HW3.out HO3.out (by decide))
                    refine ⟨q + 1, by omega, by go_num, by go_num, ?_, ?_, ?_, ?_, ?_⟩
                    · rw [← Nat.add_assoc, treeL_succ c (m + q) (by omega), hdiv.out, Int.natCast_add]
                      exact World.ownsRow.kept hownA gB (own_ne hownA hwA (by decide))
                    · rw [show m + (q + 1) - n = (m + q - n) + 1 by omega, run_snoc, show n + (m + q - n) = m + q by omega, Int.natCast_add]
                      exact hownB
                    · exact World.ownsRow.kept hlevA gB (.inr fun e => by have := (World.ownsRow.lt hwA gl e.symm).1; omega)
                    · have := hbelB.size; omega
                    · exact (hbel3.trans hbelA).trans (hbelB.mono (by omega))
                · have hqc : q = c := by omega
                  have hpc : Hid (m + c = n + (p + 1) * c) := by show _ = _; have := HM.out; rw [Nat.succ_mul]; omega
                  subst hqc
                  go_wp2_with fail
                  go_roundg (lev - (p + 1))
                  case measure => have := HP.out; omega
                  case rel => exact ⟨p + 1, m + q, by omega, hpc.out, by go_num, by go_num, hown3, hbw3, hlev3, hsz3, hbel3⟩
            · have hpe : p = lev := by omega
              subst hpe
              obtain ⟨A, cp, rfl, _, hA, _, _⟩ := own_form hbw2
              have hmn : m = n + p * c := HM.out
              have hmp : 1 ≤ p * c := Nat.mul_pos l1 hc
              have hAe : ∃ gn, A = some ⟨gn, 0, none⟩ := by
                rcases hbw2.2 with ⟨h1, h2⟩ | ⟨g, cap, cur, h1, _⟩
                · rw [run_len] at h2; omega
                · injection h1 with h1 _; exact ⟨g, h1⟩
              obtain ⟨gn, rfl⟩ := hAe
              have hlen : (run_ n (m - n)).length = p * c := by rw [run_len]; omega
              have HMN := hide hmn
              have HLN := hide hlen
              have HBW := hide hbw2
              clear hA hmn hlen hbw2
              go_wp2_with fail
              go_roundg (d - (k + 1))
              case measure => have := HK.out; omega
              case rel =>
                refine ⟨k + 1, m, p * c, gn, cp, by omega, by go_num, rfl, by rw [HLN.out], hown2, ?_, ?_, hmp, ?_, ?_, ?_, hbel2⟩
                · have h := HBW.out
                  show World.ownsRow _ _ _ _ _ _ _
                  have e1 : m - (p * c) = n := by have := HMN.out; omega
                  have e2 : m - n = p * c := by have := HMN.out; omega
                  rw [e1]
                  have h2 : wr.ownsRow B2 3 1 (.slice (some ⟨gn, 0, none⟩) (run_ n (m - n)).length cp) (run_ n (m - n)).length (is (run_ n (m - n))) := h
                  rw [run_len, e2] at h2
                  exact own_base h2 hWB
                · rw [HMN.out, show d - (k + 1) = d - k - 1 by omega]; exact E.out
                · have := HMN.out; omega
                · have := HMN.out; have := HOV.out; omega
                · have e1 : m - (p * c) = n := by have := HMN.out; omega
                  rw [e1, HMN.out]
                  have h2 := HS.out
                  have h3 : n * c = (n - p) * c + p * c := by rw [← Nat.add_mul]; congr 1; omega
                  omega
      · have hkk : d - k = 0 := by omega
        have E : Hid (treeGo c d 1 1 = some n) := by show _ = _; rw [← HT.out, hkk]; rfl
        clear hkk
        go_wp2_with fail
        go_ret3
        exact ⟨u8, by simp only [trN, trE, E.out]; rfl, by simp only [trL, E.out]; exact hown, hbel⟩
end Go.Proofs.Ytploneadcknkjaa
