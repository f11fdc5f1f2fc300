/- seepageref13: Components. -/
import Derived.Test.YtpgkhmjlbaoagaaR13A
import Derived.Test.YtpgkhmjlbaoagaaGraR
import Derived.Test.YtpgkhmjlbaoagaaInfo
namespace Go.Proofs.Ytpgkhmjlbaoagaa
open Go.RowKit
set_option linter.unusedVariables false

/-- Groups under construction. -/
def grpk (n : Nat) (L : Nat → Nat) (k : Nat) : List (List Int) := (rts L k).map fun r => (mem n L r).map fun (i : Nat) => (i : Int)
theorem grpk_in {n : Nat} {L : Nat → Nat} {k : Nat} (h : L k = k) : grpk n L (k + 1) = grpk n L k ++ [(mem n L k).map fun (i : Nat) => (i : Int)] := by simp [grpk, rts_succ_in h]
theorem grpk_out {n : Nat} {L : Nat → Nat} {k : Nat} (h : L k ≠ k) : grpk n L (k + 1) = grpk n L k := by simp [grpk, rts_succ_out h]
def OwnGrp (w : World) (B : Nat) (V : Value) (G : List (List Int)) : Prop :=
  ∃ vs : List Value, w.ownsRow B 40 1 V G.length vs ∧ ∀ j (hj : j < G.length), ∃ v, vs[j]? = some v ∧ w.ownsRow B 3 1 v G[j].length (is G[j])
theorem OwnGrp.nil (w : World) (B : Nat) : OwnGrp w B (.slice none 0 0) [] := ⟨[], own_nil _ _ _ _, fun j hj => by simp at hj⟩
theorem OwnGrp.below {w w' : World} {B : Nat} {V : Value} {G : List (List Int)} (h : OwnGrp w B V G) (k : Below w.heap.size w w') : OwnGrp w' B V G := by
  obtain ⟨vs, ho, hg⟩ := h
  exact ⟨vs, own_below ho k, fun j hj => by obtain ⟨v, e, h⟩ := hg j hj; exact ⟨v, e, own_below h k⟩⟩
theorem OwnGrp.is_ {w : World} {B : Nat} {V : Value} {G : List (List Int)} (h : OwnGrp w B V G) : IsGrp w B V G := by
  obtain ⟨vs, ho, hg⟩ := h
  obtain ⟨A, c, rfl, hr, hA, _⟩ := own_form ho
  refine ⟨A, c, vs, rfl, fun ad e => (hA ad e).2.1, hr, fun j hj => ?_⟩
  obtain ⟨v, e, h⟩ := hg j hj
  obtain ⟨A', c', rfl, hr', hA', _⟩ := own_form h
  exact ⟨A', c', e, fun ad e => (hA' ad e).2.1, hr'⟩
/-- One more group. -/
theorem OwnGrp.add {w w' : World} {B : Nat} {V V' v : Value} {G : List (List Int)} {g : List Int} {vs : List Value}
    (ho : w.ownsRow B 40 1 V G.length vs) (hg : ∀ j (hj : j < G.length), ∃ v, vs[j]? = some v ∧ w.ownsRow B 3 1 v G[j].length (is G[j]))
    (h1 : w.ownsRow B 3 1 v g.length (is g)) (h' : w'.ownsRow B 40 1 V' (G.length + 1) (vs ++ [v])) (hgr : w.grownBy w' V.ownBlock) : OwnGrp w' B V' (G ++ [g]) := by
  have key : ∀ {u : Value} {n : Nat} {xs : List Value}, w.ownsRow B 3 1 u n xs → w'.ownsRow B 3 1 u n xs := fun hu => by
    refine World.ownsRow.kept hu hgr ?_
    exact own_ne hu ho (by decide)
  have hlen : vs.length = G.length := by simpa using ho.1
  refine ⟨vs ++ [v], by rw [List.length_append]; exact h', fun j hj => ?_⟩
  by_cases e : j < G.length
  · obtain ⟨u, e1, hu⟩ := hg j e
    refine ⟨u, by rw [List.getElem?_append_left (by omega)]; exact e1, ?_⟩
    rw [List.getElem_append_left e]; exact key hu
  · have ej : j = G.length := by simp at hj; omega
    subst ej
    refine ⟨v, by rw [List.getElem?_append_right (by omega), hlen]; simp, ?_⟩
    rw [List.getElem_append_right (by omega)]
    simpa using key h1

set_option maxRecDepth 100000 in
set_option maxHeartbeats 4000000 in
theorem r13Components (w0 : World) (g : Nat) (A0 : Option Addr) (c0 n B : Nat) (l : List (Int × Int × Int)) (h : RG w0 g A0 c0 n B l) :
    Calls Try.prog 32 #[.pointer (some ⟨g, 0, none⟩)] w0 fun e w' => ∃ v, e = .returned v ∧ IsGrp w' w0.heap.size v (grp n (gLb n l)) ∧ Below w0.heap.size w0 w' := by
  have HLb := hide (r13Labels w0 g A0 c0 n B l h)
  have nb := h.nb
  have hl := gLb_lab n l
  generalize gLb n l = L at *
  obtain ⟨i0, hi, hz0, hz1, hz2⟩ := info_parts int_info0
  have hi' := hide hi
  have hz0' := hide hz0
  have hz1' := hide hz1
  have hz2' := hide hz2
  obtain ⟨i1, ki, kz0, kz1, kz2⟩ := info_parts ints_info
  have ki' := hide ki
  have kz0' := hide kz0
  have kz1' := hide kz1
  have kz2' := hide kz2
  clear h hi hz0 hz1 hz2 ki kz0 kz1 kz2
  go_enter Try.func32, Try.ntmps32
  go_wp2_with fail
  refine HLb.out.mono ?_
  rintro e w ⟨V, rfl, hV, hb0⟩
  obtain ⟨A, c, rfl, hrd, -⟩ := own_form hV
  rw [arr_is] at hrd
  have HG : Hid (∀ k, k < n → ∃ b o, A = some ⟨b, o, none⟩ ∧ b < w.heap.size ∧ w.cell? ⟨b, o + k, none⟩ = some (.int .i64 (L k : Int))) := fun k hk => by
    obtain ⟨b, o, e, hb, hc⟩ := hrd.int k (by simpa using hk) (by simp)
    exact ⟨b, o, e, hb, by simpa using hc⟩
  have HB0 := hide hb0
  have hs0 : w0.heap.size ≤ w.heap.size := hb0.size
  clear hV hrd hb0 HLb
  go_wp2_with fail
  go_loopg [4, 5, 6, 7] n (fun q vo vi v5 v6 wr => ∃ k : Nat, k + q = n ∧ vi = .int .i64 (k : Int) ∧ OwnGrp wr w.heap.size vo (grpk n L k) ∧ Below w.heap.size w wr)
  case atStart => exact ⟨0, by omega, rfl, OwnGrp.nil _ _, Below.refl _ _⟩
  case round =>
    obtain ⟨k, hk, rfl, ho, hb⟩ := hrel
    have HK := hide hk
    have hkn : k ≤ n := by omega
    clear hk
    have HO := hide ho
    have HB := hide hb
    clear ho hb
    by_cases hlt : k < n
    · obtain ⟨g2, o2, rfl, hg2, ck0⟩ := HG.out k hlt
      have ck : wr.cell? ⟨g2, o2 + k, none⟩ = some (.int .i64 (L k : Int)) := (HB.out.cell (p := ⟨g2, o2 + k, none⟩) hg2).trans ck0
      clear ck0
      by_cases he : L k = k
      · have hbe := beq_nat_true he
        have hne : ((L k : Int) != (k : Int)) = false := by simp [he]
        have hin := hide (grpk_in (n := n) he)
        have HE := hide he
        clear he
        obtain ⟨wo, hwo⟩ : ∃ wo : World, wo = wr := ⟨_, rfl⟩
        subst hwo
        have hwsz : w.heap.size ≤ wo.heap.size := HB.out.size
        go_wp2_with fail
        go_loopg [6, 7] (n - k) (fun q v5 v6 wr => ∃ j : Nat, j + q = n ∧ k ≤ j ∧ v6 = .int .i64 (j : Int) ∧ wr.ownsRow wo.heap.size 3 1 v5 (mem j L k).length (is ((mem j L k).map fun (i : Nat) => (i : Int))) ∧ Below wo.heap.size wo wr)
        case atStart =>
          have e : mem k L k = [] := by
            unfold mem
            rw [List.filter_eq_nil_iff]
            intro i hi
            have hik : i < k := by simpa using hi
            have := hl.le i (by omega)
            simp; omega
          exact ⟨k, by omega, Nat.le_refl _, rfl, by rw [e]; exact own_nil _ _ _ _, Below.refl _ _⟩
        case round =>
          obtain ⟨j, hj, hkj, rfl, hw5, hb5⟩ := hrel
          have HJ := hide hj
          have hjn : j ≤ n := by omega
          clear hj
          have hsz : wo.heap.size ≤ wr.heap.size := hb5.size
          have HW5 := hide hw5
          have HB5 := hide hb5
          have hml : (mem j L k).length ≤ 65536 := by
            have := List.length_filter_le (fun i => L i == k) (List.range j)
            simp at this
            unfold mem; omega
          clear hw5 hb5
          by_cases hjl : j < n
          · obtain ⟨g3, o3, e3, hg3, cj0⟩ := HG.out j hjl
            injection e3 with e3
            injection e3 with e3 e4
            subst e3
            subst e4
            have cj : wr.cell? ⟨g2, o2 + j, none⟩ = some (.int .i64 (L j : Int)) := (HB5.out.cell (p := ⟨g2, o2 + j, none⟩) (by show g2 < _; omega)).trans ((HB.out.cell (p := ⟨g2, o2 + j, none⟩) hg2).trans cj0)
            clear cj0
            by_cases hjk : L j = k
            · have hbj := beq_nat_true hjk
              have hm : mem (j + 1) L k = mem j L k ++ [j] := by simp [mem, List.range_succ, List.filter_append, hjk]
              have HM := hide hm
              have HJK := hide hjk
              clear hm hjk
              go_wp2_with (first | (at_builtin; refine app_one 40 3 Try.underlying40 hi'.out hz0'.out hz1'.out hz2'.out rfl (by decide) wr #[.int .i64 (j : Int)] rfl (by intro u hu; simp at hu; subst hu; rfl) rfl (.tmp 35) (.tmp 37) rfl wo.heap.size _ _ _ rfl HW5.out rfl (by unfold maxLen; omega) (by omega) hsz ?_; intro v' w7 ho7 hg7 hat7 hb7; have HO7 := hide ho7; have HB7 := hide hb7; clear ho7 hg7 hat7 hb7))
              go_roundg (n - (j + 1))
              case measure => have := HJ.out; omega
              case rel =>
                refine ⟨j + 1, by omega, by omega, by go_num, ?_, HB5.out.trans HB7.out⟩
                have := HO7.out
                rw [HM.out, List.length_append, List.map_append, is_append]
                exact this
            · have hbj := beq_nat_false hjk
              have hm : mem (j + 1) L k = mem j L k := by simp [mem, List.range_succ, List.filter_append, hjk]
              have HM := hide hm
              clear hm hjk
              go_wp2_with fail
              go_roundg (n - (j + 1))
              case measure => have := HJ.out; omega
              case rel => exact ⟨j + 1, by omega, by omega, by go_num, by rw [HM.out]; exact HW5.out, HB5.out⟩
          · have hjj : j = n := by omega
            subst hjj
            obtain ⟨vs, hvo, hvg⟩ := HO.out.below HB5.out
            have hgl' : (grpk j L k).length ≤ 65536 := by have := rts_le L k; simp [grpk]; omega
            have HVO := hide hvo
            have HVG := hide hvg
            have hone := own_rebase HW5.out (B' := w.heap.size) (fun b e => Nat.le_trans hwsz (HW5.out.lt b e).1)
            have HONE := hide hone
            obtain ⟨A5, c5, rfl, _⟩ := own_form HW5.out
            have hsz0 : w.heap.size ≤ wr.heap.size := by omega
            clear hvo hvg hone HW5
            go_wp2_with (first | (at_builtin; refine app_one 55 40 Try.underlying55 ki'.out kz0'.out kz1'.out kz2'.out rfl (by decide) wr #[.slice A5 (mem j L k).length c5] rfl (by intro u hu; simp at hu; subst hu; rfl) rfl (.tmp 39) (.tmp 41) rfl w.heap.size _ _ _ rfl HVO.out rfl (by unfold maxLen; omega) (by omega) hsz0 ?_; intro v' w7 ho7 hg7 hat7 hb7; have HO7 := hide ho7; have HG7 := hide hg7; have HB7 := hide hb7; clear ho7 hg7 hat7 hb7))
            go_roundg (j - (k + 1))
            case measure => have := HK.out; omega
            case rel =>
              have hbel := HB.out.trans (HB5.out.mono hwsz)
              refine ⟨k + 1, by omega, by go_num, ?_, hbel.trans HB7.out⟩
              rw [hin.out]
              have h1 : wr.ownsRow w.heap.size 3 1 (.slice A5 (mem j L k).length c5) ((mem j L k).map fun (i : Nat) => (i : Int)).length (is ((mem j L k).map fun (i : Nat) => (i : Int))) := by rw [List.length_map]; exact HONE.out
              exact OwnGrp.add HVO.out HVG.out h1 HO7.out HG7.out
      · have hbe := beq_nat_false he
        have hne : ((L k : Int) != (k : Int)) = true := by simp; omega
        have hin := hide (grpk_out (n := n) he)
        clear he
        go_wp2_with fail
        go_roundg (n - (k + 1))
        case measure => have := HK.out; omega
        case rel => exact ⟨k + 1, by omega, by go_num, by rw [hin.out]; exact HO.out, HB.out⟩
    · have hkk : k = n := by omega
      subst hkk
      go_wp2_with fail
      go_ret
      exact ⟨_, rfl, HO.out.is_.base hs0, HB0.out.trans (HB.out.mono hs0)⟩
end Go.Proofs.Ytpgkhmjlbaoagaa
