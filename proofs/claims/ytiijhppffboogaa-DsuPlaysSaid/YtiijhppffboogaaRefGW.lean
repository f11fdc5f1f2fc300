/- seepageref08: Groups. -/
import Derived.Test.YtiijhppffboogaaRefG
namespace Go.Proofs.Ytiijhppffboogaa
open Go.RowKit
set_option linter.unusedVariables false

theorem is_append (a b : List Int) : is (a ++ b) = is a ++ is b := by simp [is]

set_option maxRecDepth 100000 in
set_option maxHeartbeats 4000000 in
theorem refGroups (w : World) (g n B : Nat) (L : Nat → Nat) (h : Ref w g n L B) (hl : Lab n L) :
    Calls Try.prog 28 #[.pointer (some ⟨g, 0, none⟩)] w fun e w' => ∃ v, e = .returned v ∧ IsGrp w' w.heap.size v (grp n L) ∧ Below w.heap.size w w' := by
  obtain ⟨A, c, c0, c1, nb, hr, hg⟩ := h.form
  have hgl := h.lt.1
  obtain ⟨i0, hi, hz0, hz1, hz2⟩ := info_parts int_info0
  have hi' := hide hi
  have hz0' := hide hz0
  have hz1' := hide hz1
  have hz2' := hide hz2
  obtain ⟨i1, ki, kz0, kz1, kz2⟩ := info_parts ints_info
  have ki' := hide ki
  have kz0' := hide kz0
  have kz1' := hide kz1
  have kz2' := hide kz2
  have H := hide h
  have HG := hide hg
  have C0 := hide c0
  have C1 := hide c1
  clear h hg hr hi hz0 hz1 hz2 ki kz0 kz1 kz2 c0
  go_enter Try.func28, Try.ntmps28
  go_wp2_with (first | (go_at_call 40; refine (refValid _ _ _ _ _ H.out).mono ?_; rintro e w' ⟨rfl, rfl⟩))
  clear c1
  go_loopg [3, 4, 5, 6] n (fun q vo vi v5 v6 wr => ∃ k : Nat, k + q = n ∧ vi = .int .i64 (k : Int) ∧ OwnGrp wr w.heap.size vo (grpk n L k) ∧ Below w.heap.size w wr)
  case atStart => exact ⟨0, by omega, rfl, OwnGrp.nil _ _, Below.refl _ _⟩
  case round =>
    obtain ⟨k, hk, rfl, ho, hb⟩ := hrel
    have HK := hide hk
    have hkn : k ≤ n := by omega
    clear hk
    have c1 : wr.cell? ⟨g, 1, none⟩ = some (.slice A n c) := (hb.cell (p := ⟨g, 1, none⟩) hgl).trans C1.out
    have HO := hide ho
    have HB := hide hb
    clear ho hb
    by_cases hlt : k < n
    · obtain ⟨g2, rfl, _, hg2, ck0⟩ := HG.out k hlt
      have ck : wr.cell? ⟨g2, k, none⟩ = some (.int .i64 (L k : Int)) := (HB.out.cell (p := ⟨g2, k, none⟩) hg2).trans ck0
      clear ck0
      by_cases he : L k = k
      · have hbe := beq_nat_true he
        have hne : ((L k : Int) != (k : Int)) = false := by simp [he]
        have hin := hide (grpk_in (n := n) he)
        have HE := hide he
        clear he
        obtain ⟨wo, hwo⟩ : ∃ wo : World, wo = wr := ⟨_, rfl⟩
        subst hwo
        have hwsz : w.heap.size ≤ wo.heap.size := HB.out.size
        go_wp2_with fail
        go_loopg [5, 6] (n - k) (fun q v5 v6 wr => ∃ j : Nat, j + q = n ∧ k ≤ j ∧ v6 = .int .i64 (j : Int) ∧ wr.ownsRow wo.heap.size 3 1 v5 (mem j L k).length (is ((mem j L k).map fun (i : Nat) => (i : Int))) ∧ Below wo.heap.size wo wr)
        case atStart =>
          have e : mem k L k = [] := by
            unfold mem
            rw [List.filter_eq_nil_iff]
            intro i hi
            have hik : i < k := by simpa using hi
            have := hl.le i (by omega)
            simp; omega
          exact ⟨k, by omega, Nat.le_refl _, rfl, by rw [e]; exact own_nil _ _ _ _, Below.refl _ _⟩
        case round =>
          obtain ⟨j, hj, hkj, rfl, hw5, hb5⟩ := hrel
          have HJ := hide hj
          have hjn : j ≤ n := by omega
          clear hj
          have d1 : wr.cell? ⟨g, 1, none⟩ = some (.slice (some ⟨g2, 0, none⟩) n c) := (hb5.cell (p := ⟨g, 1, none⟩) (by show g < _; omega)).trans c1
          have hsz : wo.heap.size ≤ wr.heap.size := hb5.size
          have HW5 := hide hw5
          have HB5 := hide hb5
          have hml : (mem j L k).length ≤ 65536 := by
            have := List.length_filter_le (fun i => L i == k) (List.range j)
            simp at this
            unfold mem; omega
          clear hw5 hb5
          by_cases hjl : j < n
          · obtain ⟨g3, e3, _, hg3, cj0⟩ := HG.out j hjl
            injection e3 with e3
            injection e3 with e3
            subst e3
            have cj : wr.cell? ⟨g2, j, none⟩ = some (.int .i64 (L j : Int)) := (HB5.out.cell (p := ⟨g2, j, none⟩) (by show g2 < _; omega)).trans ((HB.out.cell (p := ⟨g2, j, none⟩) hg2).trans cj0)
            clear cj0
            by_cases hjk : L j = k
            · have hbj := beq_nat_true hjk
              have hm : mem (j + 1) L k = mem j L k ++ [j] := by simp [mem, List.range_succ, List.filter_append, hjk]
              have HM := hide hm
              have HJK := hide hjk
              clear hm hjk
              go_wp2_with (first | (at_builtin; refine app_one 32 3 Try.underlying32 hi'.out hz0'.out hz1'.out hz2'.out rfl (by decide) wr #[.int .i64 (j : Int)] rfl (by intro u hu; simp at hu; subst hu; rfl) rfl (.tmp 46) (.tmp 48) rfl wo.heap.size _ _ _ rfl HW5.out rfl (by unfold maxLen; omega) (by omega) hsz ?_; intro v' w7 ho7 hg7 hat7 hb7; have HO7 := hide ho7; have HB7 := hide hb7; clear ho7 hg7 hat7 hb7))
              go_roundg (n - (j + 1))
              case measure => have := HJ.out; omega
              case rel =>
                refine ⟨j + 1, by omega, by omega, by go_num, ?_, HB5.out.trans HB7.out⟩
                have := HO7.out
                rw [HM.out, List.length_append, List.map_append, is_append]
                exact this
            · have hbj := beq_nat_false hjk
              have hm : mem (j + 1) L k = mem j L k := by simp [mem, List.range_succ, List.filter_append, hjk]
              have HM := hide hm
              clear hm hjk
              go_wp2_with fail
              go_roundg (n - (j + 1))
              case measure => have := HJ.out; omega
              case rel => exact ⟨j + 1, by omega, by omega, by go_num, by rw [HM.out]; exact HW5.out, HB5.out⟩
          · have hjj : j = n := by omega
            subst hjj
            obtain ⟨vs, hvo, hvg⟩ := HO.out.below HB5.out
            have hgl' : (grpk j L k).length ≤ 65536 := by have := rts_le L k; simp [grpk]; omega
            have HVO := hide hvo
            have HVG := hide hvg
            have hone := own_rebase HW5.out (B' := w.heap.size) (fun b e => Nat.le_trans hwsz (HW5.out.lt b e).1)
            have HONE := hide hone
            obtain ⟨A5, c5, rfl, _⟩ := own_form HW5.out
            have hsz0 : w.heap.size ≤ wr.heap.size := by omega
            clear hvo hvg hone HW5
            go_wp2_with (first | (at_builtin; refine app_one 45 32 Try.underlying45 ki'.out kz0'.out kz1'.out kz2'.out rfl (by decide) wr #[.slice A5 (mem j L k).length c5] rfl (by intro u hu; simp at hu; subst hu; rfl) rfl (.tmp 50) (.tmp 52) rfl w.heap.size _ _ _ rfl HVO.out rfl (by unfold maxLen; omega) (by omega) hsz0 ?_; intro v' w7 ho7 hg7 hat7 hb7; have HO7 := hide ho7; have HG7 := hide hg7; have HB7 := hide hb7; clear ho7 hg7 hat7 hb7))
            go_roundg (j - (k + 1))
            case measure => have := HK.out; omega
            case rel =>
              have hbel := HB.out.trans (HB5.out.mono hwsz)
              refine ⟨k + 1, by omega, by go_num, ?_, hbel.trans HB7.out⟩
              rw [hin.out]
              have h1 : wr.ownsRow w.heap.size 3 1 (.slice A5 (mem j L k).length c5) ((mem j L k).map fun (i : Nat) => (i : Int)).length (is ((mem j L k).map fun (i : Nat) => (i : Int))) := by rw [List.length_map]; exact HONE.out
              exact OwnGrp.add HVO.out HVG.out h1 HO7.out HG7.out
      · have hbe := beq_nat_false he
        have hne : ((L k : Int) != (k : Int)) = true := by simp; omega
        have hin := hide (grpk_out (n := n) he)
        clear he
        go_wp2_with fail
        go_roundg (n - (k + 1))
        case measure => have := HK.out; omega
        case rel => exact ⟨k + 1, by omega, by go_num, by rw [hin.out]; exact HO.out, HB.out⟩
    · have hkk : k = n := by omega
      subst hkk
      go_wp2_with fail
      go_ret
      exact ⟨_, rfl, HO.out.is_, HB.out⟩
end Go.Proofs.Ytiijhppffboogaa
