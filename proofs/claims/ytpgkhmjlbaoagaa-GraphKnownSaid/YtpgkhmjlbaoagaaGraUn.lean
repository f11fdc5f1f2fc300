/- graph: Under. -/
import Derived.Test.YtpgkhmjlbaoagaaGraCr
namespace Go.Proofs.Ytpgkhmjlbaoagaa
open Go.RowKit
set_option linter.unusedVariables false

/-- The edges whose weight is at most θ. -/
def undL (l : List (Int × Int × Int)) (θ : Int) : List (Int × Int × Int) := l.filter fun e => decide (e.2.2 ≤ θ)
theorem undL_ok {n : Nat} {l : List (Int × Int × Int)} (h : GOk n l) (θ : Int) : GOk n (undL l θ) := fun e he => h e (List.mem_filter.1 he).1
theorem undL_len (l : List (Int × Int × Int)) (θ : Int) : (undL l θ).length ≤ l.length := List.length_filter_le _ _
theorem undL_yes {l : List (Int × Int × Int)} {θ : Int} {k : Nat} (hk : k < l.length) (h : l[k].2.2 ≤ θ) : undL (l.take (k + 1)) θ = undL (l.take k) θ ++ [l[k]] := by
  unfold undL
  rw [List.take_succ_eq_append_getElem hk, List.filter_append]; simp [h]
theorem undL_no {l : List (Int × Int × Int)} {θ : Int} {k : Nat} (hk : k < l.length) (h : ¬ l[k].2.2 ≤ θ) : undL (l.take (k + 1)) θ = undL (l.take k) θ := by
  unfold undL
  rw [List.take_succ_eq_append_getElem hk, List.filter_append]
  have : decide (l[k].2.2 ≤ θ) = false := by simpa using h
  simp [this]
set_option maxRecDepth 100000 in
set_option maxHeartbeats 4000000 in
theorem graUnder (w : World) (θ : Int) (p : GLoc) (n B : Nat) (l : List (Int × Int × Int)) (h : Gr w p n B l) :
    Calls Try.prog 34 #[.pointer (some ⟨p.g, 0, none⟩), .int .i64 θ] w
      fun e w' => ∃ q : GLoc, e = .returned (.pointer (some ⟨q.g, 0, none⟩)) ∧ Gr w' q n w.heap.size (undL l θ) ∧ Below w.heap.size w w' := by
  have VV := hide (graValid w p n B l h)
  have HG := hide h
  obtain ⟨_, c1, _⟩ := h.cells
  have hl16 := h.ok.2.2
  have hn4 := h.ok.2.1
  have HOK := hide h.ok.1
  obtain ⟨m, hm⟩ : ∃ m, m = l.length := ⟨_, rfl⟩
  rw [← hm] at c1 hl16
  have HM := hide hm
  obtain ⟨PA, hPA⟩ : ∃ PA, PA = p.A := ⟨_, rfl⟩
  rw [← hPA] at c1
  have HPA := hide hPA
  clear h hm hPA
  go_enter Try.func34, Try.ntmps34
  go_wp2_with (go_at_call 43; refine VV.out.mono ?_; rintro e w' ⟨rfl, rfl⟩)
  go_loopg [16, 5] m (fun q v V wr => ∃ k : Nat, k + q = m ∧ v = .int .i64 (k : Int) ∧ OwnE wr w.heap.size V (undL (l.take k) θ) ∧ Below w.heap.size w wr)
  case atStart => exact ⟨0, by omega, rfl, OwnE.nil _ _, Below.refl _ _⟩
  case round =>
    obtain ⟨k, hk, rfl, ho, hb⟩ := hrel
    have HK := hide hk
    have hkm : k ≤ m := by omega
    have hG := HG.out.fresh hb
    have hrd := hG.rd
    have HO := hide ho
    have HB := hide hb
    have hsz : w.heap.size ≤ wr.heap.size := hb.size
    clear hk ho hb
    by_cases hlt : k < m
    · have hkl : k < l.length := by rw [← HM.out]; exact hlt
      obtain ⟨b, o, e1, hbl, e0, e1', e2⟩ := hrd.edge k hkl rfl
      have e3 : PA = some ⟨b, o, none⟩ := by rw [HPA.out]; exact e1
      subst e3
      have hul := undL_len (l.take k) θ
      have hul2 : (undL (l.take k) θ).length ≤ 1000000 := by
        have : (l.take k).length ≤ k := List.length_take_le _ _
        omega
      have HY := hide (fun h => undL_yes (θ := θ) hkl h)
      have HN := hide (fun h => undL_no (θ := θ) hkl h)
      generalize l[k] = e at *
      obtain ⟨u, v, t⟩ := e
      simp only at e0 e1' e2
      clear hul hrd hG e1 hbl
      by_cases ht : t ≤ θ
      · have HY2 := hide (HY.out ht)
        clear HY HN
        have HOA := hide (HO.out.kept ((Below.refl wr.heap.size wr).alloc (Nat.le_refl _) (.cells #[.int .i64 u, .int .i64 v, .int .i64 t] 48)))
        go_wp2_with (first | (at_builtin; (refine app_edge _ u v t rfl _ _ rfl w.heap.size _ _ rfl HOA.out (by simp; rfl) hul2 (by simp; omega) ?_; intro v5 w5 ho5 hg5 hb5; have HO5 := hide ho5; have HB5 := hide hb5; clear ho5 hg5 hb5)))
        go_roundg (m - (k + 1))
        case measure => have := HK.out; omega
        case rel => exact ⟨k + 1, by omega, by go_num, by rw [HY2.out]; exact HO5.out, HB.out.trans (((Below.refl _ wr).alloc hsz _).trans HB5.out)⟩
      · have HN2 := hide (HN.out ht)
        have hdt : decide (t ≤ θ) = false := by simpa using ht
        clear HY HN ht
        go_wp2_with fail
        go_roundg (m - (k + 1))
        case measure => have := HK.out; omega
        case rel => exact ⟨k + 1, by omega, by go_num, by rw [HN2.out]; exact HO.out.kept ((Below.refl _ wr).alloc (Nat.le_refl _) _), HB.out.alloc hsz _⟩
    · obtain rfl : m = k := by omega
      have htk : l.take m = l := List.take_of_length_le (by rw [HM.out]; exact Nat.le_refl _)
      have ho := HO.out
      rw [htk] at ho
      obtain ⟨A5, c5, rfl, -⟩ := ho.form
      have hul := undL_len l θ
      have HN := hide (graN wr p n B l hG)
      have HBu := hide (graBuild wr n _ c5 w.heap.size A5 (undL l θ) ho rfl (undL_ok HOK.out θ) hn4 (by have := HM.out; omega) hsz)
      clear ho htk hrd hul hG c1
      go_wp2_with fail
      refine HN.out.mono ?_
      rintro e w' ⟨rfl, rfl⟩
      go_wp2_with fail
      refine HBu.out.mono ?_
      rintro e w6 ⟨q, rfl, hq, hb6⟩
      have HQ := hide hq
      have HB6 := hide (HB.out.trans (hb6.mono hsz))
      clear hq hb6
      go_wp2_with fail
      go_ret
      exact ⟨q, rfl, HQ.out, HB6.out⟩
end Go.Proofs.Ytpgkhmjlbaoagaa
