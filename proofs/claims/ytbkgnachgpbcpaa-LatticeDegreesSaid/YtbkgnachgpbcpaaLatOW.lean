/- The walk of LatticeOpens. -/
import Derived.Test.YtbkgnachgpbcpaaLatO
namespace Go.Proofs.Ytbkgnachgpbcpaa
open Go.RowKit
set_option linter.unusedVariables false

theorem OwnE.rb {w : World} {B B' : Nat} {v : Value} {l : List (Int × Int × Int)} (h : OwnE w B v l) (hB : ∀ k, v.ownBlock = some k → B' ≤ k) : OwnE w B' v l := own_rebase h hB

set_option maxRecDepth 100000 in
set_option maxHeartbeats 4000000 in
theorem latticeOpens_walk (a0 a1 : Int) (a2 a3 a4 : Bool) (W : World) (w0 : (Lit.int .u8 a0).wf = true) (w1 : (Lit.int .u8 a1).wf = true) :
    Calls Try.prog 7 #[.int .u8 a0, .int .u8 a1, .bool a2, .bool a3, .bool a4] W fun e W' => e = .returned (.bool true) ∧ Below W.heap.size W W' := by
  have S := fun W => sides_any a0 a1 W (bounds_u8 w0) (bounds_u8 w1)
  have hw : 1 ≤ a0 % 24 + 1 ∧ a0 % 24 + 1 ≤ 24 := by omega
  have hh : 1 ≤ a1 % 24 + 1 ∧ a1 % 24 + 1 ≤ 24 := by omega
  clear w0 w1
  generalize a0 % 24 + 1 = w at *
  generalize a1 % 24 + 1 = h at *
  have m1 : 1 * 1 ≤ w * h := Int.mul_le_mul hw.1 hh.1 (by omega) (by omega)
  have m2 : w * h ≤ 24 * 24 := Int.mul_le_mul hw.2 hh.2 (by omega) (by omega)
  have hg : gridB w h = true := by simp [gridB]; omega
  have eN : gN w h = w * h := by simp [gN, hg]
  have eE : gE w h = 0 := by simp [gE, hg]
  have E1 := fun W => either_any w h a2 a3 a4 W
  have E2 := fun W => either_any w h false false a4 W
  have LEN := gL_len w h a2 a3 a4
  have LEN2 := gL_len w h false false a4
  have MEM := fun e => gL_mem (w := w) (h := h) (wx := a2) (wy := a3) (three := a4) (e := e)
  rw [eN, eE] at E1 E2
  rw [← opens_law w h a2 a3 a4] at E2 LEN2
  generalize gL w h a2 a3 (dirsOf a4) = L at *
  have HS := hide S
  have HE1 := hide E1
  have HE2 := hide E2
  have HM := hide MEM
  have HL := hide LEN
  have HL2 := hide LEN2
  have HG := hide hg
  clear S E1 E2 MEM LEN LEN2 hg eN eE
  go_enter Try.func7, Try.ntmps7
  go_wp2_with fail
  refine (HS.out _).mono ?_
  rintro e w1 ⟨rfl, rfl⟩
  go_wp2_with fail
  refine (HE1.out _).mono ?_
  rintro e w1 ⟨V, rfl, ho1, hb1⟩
  obtain ⟨A1, c1, rfl, hr1⟩ := ho1.form
  go_wp2_with fail
  refine (HE2.out _).mono ?_
  rintro e w2 ⟨V, rfl, ho2, hb2⟩
  obtain ⟨A2, c2, rfl, hr2⟩ := ho2.form
  have hr1' := hr1.below hb2
  have HR1 := hide hr1'
  have HR2 := hide hr2
  have HB12 := hide (hb1.trans (hb2.mono hb1.size))
  clear hr1 hr2 hr1' ho1 ho2
  generalize hN : L.length = N at *
  have hNb : N ≤ 12288 := by have := HL.out; omega
  have HN := hide hN
  clear hN
  go_wp2_with fail
  go_loopg [19, 20] N (fun q v i wr => ∃ k : Nat, k + q = N ∧ i = .int .i64 (k : Int) ∧ OwnE wr w2.heap.size v ((L.take k).filter (keepB w h)) ∧ Below w2.heap.size w2 wr)
  case atStart => exact ⟨0, by omega, rfl, OwnE.nil _ _, Below.refl _ _⟩
  case round =>
    obtain ⟨k, hk, rfl, hown, hb⟩ := hrel
    have HK := hide hk
    have hkn : k ≤ N := by omega
    have HO := hide hown
    have HB := hide hb
    clear hk hown hb
    by_cases hlt : k < N
    · obtain ⟨b, o, rfl, hblt, c0, c1, c2⟩ := HR1.out.edge k (by have := HN.out; omega) HN.out
      have hts : L.take (k + 1) = L.take k ++ [L[k]'(by have := HN.out; omega)] := List.take_succ_eq_append_getElem (by have := HN.out; omega)
      have hmem := HM.out _ (List.getElem_mem (l := L) (n := k) (by have := HN.out; omega))
      generalize L[k]'(by have := HN.out; omega) = e at *
      obtain ⟨u, v', t⟩ := e
      obtain ⟨u0, u1, v0, v1, ht⟩ := hmem
      simp only at u0 u1 v0 v1 ht c0 c1 c2
      subst ht
      have d0 : wr.cell? ⟨b, o + k * 3, none⟩ = some (.int .i64 u) := (HB.out.cell (p := ⟨b, o + k * 3, none⟩) hblt).trans c0
      have d1 : wr.cell? ⟨b, o + k * 3 + 1, none⟩ = some (.int .i64 v') := (HB.out.cell (p := ⟨b, o + k * 3 + 1, none⟩) hblt).trans c1
      have d2 : wr.cell? ⟨b, o + k * 3 + 2, none⟩ = some (.int .i64 0) := (HB.out.cell (p := ⟨b, o + k * 3 + 2, none⟩) hblt).trans c2
      have HT := hide hts
      clear hts c0 c1 c2
      have e1 : u.tmod w = u % w := Int.tmod_eq_emod_of_nonneg u0
      have e2 : u.tdiv w = u / w := Int.tdiv_eq_ediv_of_nonneg u0
      have e3 : v'.tmod w = v' % w := Int.tmod_eq_emod_of_nonneg v0
      have e4 : v'.tdiv w = v' / w := Int.tdiv_eq_ediv_of_nonneg v0
      have x0 : 0 ≤ u % w := Int.emod_nonneg _ (by omega)
      have x1 : u % w < w := Int.emod_lt_of_pos _ (by omega)
      have X0 : 0 ≤ v' % w := Int.emod_nonneg _ (by omega)
      have X1 : v' % w < w := Int.emod_lt_of_pos _ (by omega)
      have y0 : 0 ≤ u / w := Int.ediv_nonneg u0 (by omega)
      have y1 : u / w < h := Int.ediv_lt_of_lt_mul (by omega) (by rw [Int.mul_comm]; exact u1)
      have Y0 : 0 ≤ v' / w := Int.ediv_nonneg v0 (by omega)
      have Y1 : v' / w < h := Int.ediv_lt_of_lt_mul (by omega) (by rw [Int.mul_comm]; exact v1)
      have hK : keepB w h (u, v', 0) = (!(decide (3 ≤ w) && decide (u % w = w - 1) && decide (v' % w = 0)) && !(decide (3 ≤ h) && decide (u / w = h - 1) && decide (v' / w = 0))) := rfl
      generalize u % w = x at *
      generalize v' % w = X at *
      generalize u / w = y at *
      generalize v' / w = Y at *
      have HKp := hide hK
      clear hK
      have hlen : ((L.take k).filter (keepB w h)).length ≤ 1000000 := by
        have := List.length_filter_le (keepB w h) (L.take k)
        have := List.length_take_le k L
        omega
      have hA : ¬ 3 ≤ w ∨ (3 ≤ w ∧ (x == w - 1) = false) ∨ (3 ≤ w ∧ (x == w - 1) = true ∧ (X == 0) = false) ∨ (3 ≤ w ∧ (x == w - 1) = true ∧ (X == 0) = true) := by
        cases (x == w - 1) <;> cases (X == 0) <;> simp <;> omega
      have hB : ¬ 3 ≤ h ∨ (3 ≤ h ∧ (y == h - 1) = false) ∨ (3 ≤ h ∧ (y == h - 1) = true ∧ (Y == 0) = false) ∨ (3 ≤ h ∧ (y == h - 1) = true ∧ (Y == 0) = true) := by
        cases (y == h - 1) <;> cases (Y == 0) <;> simp <;> omega
      rcases hA with a | ⟨a, a'⟩ | ⟨a, a', a''⟩ | ⟨a, a', a''⟩ <;> rcases hB with b | ⟨b, b'⟩ | ⟨b, b', b''⟩ | ⟨b, b', b''⟩
      all_goals
        go_wp2_with fail
        go_quiet (fail)
        go_wp2_with (first | (at_builtin; refine app_edge _ u v' 0 rfl (.tmp 109) (.tmp 114) rfl w2.heap.size _ _ rfl (HO.out.kept ((Below.refl _ _).drewN _)) rfl hlen HB.out.size ?_; intro V' w3 ho3 hg3 hb3))
        go_roundg (N - (k + 1))
        case measure => have := HK.out; omega
        case rel =>
          refine ⟨k + 1, by omega, by go_num, ?_, ?_⟩
          · rw [HT.out, List.filter_append]
            first
              | (rw [filt_one (by rw [HKp.out]; simp_all; done)]; exact ho3)
              | (rw [filt_none (by rw [HKp.out]; simp_all; done), List.append_nil]; exact HO.out.kept ((Below.refl _ _).drewN _))
          · first
              | exact (HB.out.drewN _).trans hb3
              | exact HB.out.drewN _
    · have hkk : k = N := by omega
      subst hkk
      have hfin : L.take k = L := List.take_of_length_le (by have := HN.out; omega)
      have HO3 := HO.out
      rw [hfin] at HO3
      obtain ⟨A3, c3, rfl, hr3⟩ := HO3.form
      go_wp2_with fail
      refine (same_true _ _ _ _ _ _ _ hr3 (HR2.out.below HB.out) rfl (by have := HL2.out; omega)).mono ?_
      rintro e w5 ⟨rfl, k5, rfl⟩
      go_wp2_with fail
      refine (works_any _).mono ?_
      rintro e w6 ⟨rfl, hb6⟩
      go_wp2_with fail
      go_ret
      exact ⟨rfl, ((HB12.out.trans (HB.out.mono HB12.out.size)).drewN k5).trans (hb6.mono (by have := HB12.out.size; have := HB.out.size; show _ ≤ wr.heap.size; omega))⟩
end Go.Proofs.Ytbkgnachgpbcpaa
