/- seepageref09: Undo. -/
import Derived.Test.YtdhmjdlkaoflnaaRe9E
namespace Go.Proofs.Ytdhmjdlkaoflnaa
open Go.RowKit
set_option linter.unusedVariables false

section
variable {w w5 : World} {g n k : Nat} {past : List (Nat → Nat)} {L M : Nat → Nat} {P : Nat → Prop} {v vp v' : Value} {vs : List Value}
theorem R9.len (h : R9 w g n past L P v vp vs) : vs.length = past.length := by have := h.ho.1; simpa using this
theorem R9.one (h : R9 w g n past L P v vp vs) : ∀ u ∈ vs, u.oneCell' = true := by
  intro u hu
  obtain ⟨i, hi, e⟩ := List.mem_iff_getElem.1 hu
  have hi' : i < past.length := by have := h.len; omega
  obtain ⟨u', e', hu', _⟩ := h.hv i _ (List.getElem?_eq_getElem hi')
  rw [List.getElem?_eq_getElem hi, e] at e'
  injection e' with e'
  subst e'
  obtain ⟨A, c, rfl, -⟩ := own_form hu'
  rfl
theorem rd_take {w : World} {A : Option Addr} {n k : Nat} {xs : List Value} (h : Rd w A n 1 xs) (hk : k ≤ n) : Rd w A k 1 (xs.take k) :=
  ⟨by have := h.1; simp at this ⊢; omega, fun hp => by
    obtain ⟨b, o, e, hl, hc⟩ := h.2 (by omega)
    exact ⟨b, o, e, hl, fun j u hj => by
      rw [List.getElem?_take] at hj
      split at hj
      · exact hc j u hj
      · cases hj⟩⟩
theorem R9.cut (h : R9 w g n past L P v vp vs) (hk : k ≤ past.length) (hb : Below w.heap.size w w5) (ho : w5.ownsRow w.heap.size 27 1 v' k (vs.take k)) :
    R9 (w5.setCell ⟨g, 2, none⟩ v') g n (past.take k) L (fun b => P b ∨ w.heap.size ≤ b) v v' (vs.take k) := by
  have h5 := h.fr (S := []) (Fr.of_below [] hb) (by simp)
  have hl : (past.take k).length = k := by rw [List.length_take]; omega
  refine ⟨h5.hb.set_ 2 v', Fr.ownG h5.hl h5.hb (by decide) 2 v', ?_, fun i f hf => ?_, h.nb, .inl h.pg, fun b e => .inl (h.pl b e), fun b e => .inr (World.ownsRow.lt ho b e).1⟩
  · rw [hl]
    exact Fr.ownG (own_rebase ho (fun _ _ => Nat.zero_le _)) h5.hb (by decide) 2 v'
  · rw [List.getElem?_take] at hf
    split at hf
    · rename_i hik
      obtain ⟨u, e, hu, hp⟩ := h5.hv i f hf
      exact ⟨u, by rw [List.getElem?_take, if_pos hik]; exact e, Fr.ownG hu h5.hb (by decide) 2 v', fun b e => .inl (hp b e)⟩
    · cases hf
end

theorem own_rd {w : World} {B : Nat} {E : TypeId} {A : Option Addr} {n c sz : Nat} {xs : List Value} (h : w.ownsRow B E sz (.slice A n c) n xs) : Rd w A n sz xs := by
  obtain ⟨A', c', e, hr, -⟩ := own_form h
  injection e with e1
  subst e1
  exact hr
theorem setCell_size (w : World) (p : Addr) (u : Value) : (w.setCell p u).heap.size = w.heap.size := by simp

theorem r9Undo_no (w : World) (m : Int) (g n : Nat) (past : List (Nat → Nat)) (L : Nat → Nat) (P : Nat → Prop) (h : Ref9Q w g n past L P) (hm : m < 0 ∨ (past.length : Int) < m) :
    Calls Try.prog 27 #[.pointer (some ⟨g, 0, none⟩), .int .i64 m] w fun e w' => e = .returned (.int .i64 3) ∧ w = w' := by
  have HV := hide (r9Valid w g n 0 past L h.ref)
  obtain ⟨A, c, Pp, q, _, _, c2, _⟩ := h.ref.form
  clear h
  rcases hm with hm | hm
  · go_enter Try.func27, Try.ntmps27
    go_wp2_with (go_at_call 42; refine HV.out.mono ?_; rintro e w' ⟨rfl, rfl⟩)
    go_ret
    exact ⟨rfl, rfl⟩
  · have hm0 : ¬ m < 0 := by omega
    go_enter Try.func27, Try.ntmps27
    go_wp2_with (go_at_call 42; refine HV.out.mono ?_; rintro e w' ⟨rfl, rfl⟩)
    go_ret
    exact ⟨rfl, rfl⟩

set_option maxRecDepth 100000 in
set_option maxHeartbeats 4000000 in
theorem r9Undo_ok (w : World) (m : Nat) (g n : Nat) (past : List (Nat → Nat)) (L : Nat → Nat) (P : Nat → Prop) (h : Ref9Q w g n past L P) (hm : m ≤ past.length) (hpl : past.length ≤ 65536) :
    Calls Try.prog 27 #[.pointer (some ⟨g, 0, none⟩), .int .i64 (m : Int)] w fun e w' => e = .returned (.int .i64 0) ∧ R9Step w w' g n (past.take m) (atL past L m) P := by
  have HV := hide (r9Valid w g n 0 past L h.ref)
  have H := hide h
  obtain ⟨v, vp, vs, hq⟩ := h
  obtain ⟨A, c, rfl, -⟩ := own_form hq.hl
  obtain ⟨Pp, q, rfl, hrp, -, hq1, hq2⟩ := own_form hq.ho
  have c1 : w.cell? ⟨g, 1, none⟩ = some (.slice A n c) := (hq.hb.cell 1).trans rfl
  have c2 : w.cell? ⟨g, 2, none⟩ = some (.slice Pp past.length q) := (hq.hb.cell 2).trans rfl
  by_cases hlt : m < past.length
  · obtain ⟨u, hu, hou, hpu⟩ := hq.hv m _ (List.getElem?_eq_getElem hlt)
    obtain ⟨Au, cu, rfl, -⟩ := own_form hou
    obtain ⟨b, o, rfl, hbl, hc⟩ := hrp.2 (by omega)
    have cm := hc m _ hu
    have fg := hq.hb.frozen 1
    have hq3 := hq.setL hou hpu
    have hqa := hq3.fr (S := []) ((Fr.refl [] _).alloc (.cells #[] 27)) (by simp)
    have s2 : ((w.setCell ⟨g, 1, none⟩ (.slice Au n cu)).alloc (.cells #[] 27)).cell? ⟨g, 2, none⟩ = some (.slice (some ⟨b, o, none⟩) past.length q) := (hqa.hb.cell 2).trans rfl
    have HRD := hide (rd_take (k := m) (own_rd hqa.ho) (by omega))
    have HONE := hide (fun u (hu : u ∈ vs.take m) => hq.one u (List.mem_of_mem_take hu))
    have ho0 := World.ownsRow_made (e := 27) (size := 1) (base := (w.setCell ⟨g, 1, none⟩ (.slice Au n cu)).heap.size) (w.setCell ⟨g, 1, none⟩ (.slice Au n cu)) #[] 0 (Nat.le_refl _) (by simp [maxLen]) rfl
    rw [setCell_size] at ho0
    have ho := hide ho0
    clear ho0
    obtain ⟨i0, hi, hz0, hz1, hz2⟩ := info_parts ints_info
    have hi' := hide hi
    have hz0' := hide hz0
    have hz1' := hide hz1
    have hz2' := hide hz2
    have HQ := hide hq
    have HQ3 := hide hq3
    have HE : Hid (atL past L m = past[m]) := by show _ = _; exact atL_lt past L hlt
    have hql : q ≤ 9223372036854775807 := by unfold maxLen at hq2; exact hq2
    clear hi hz0 hz1 hz2 hq hq3 hqa hou hpu hu hrp hc hq2
    go_enter Try.func27, Try.ntmps27
    go_wp2_with (first | (go_at_call 42; refine HV.out.mono ?_; rintro e w' ⟨rfl, rfl⟩) | (at_builtin; go_loud (refine app_any 64 27 Try.underlying64 hi'.out hz0'.out hz1'.out hz2'.out rfl (by decide) _ _ _ _ _ HRD.out HONE.out rfl _ _ rfl w.heap.size _ 0 [] rfl ho.out rfl (by unfold maxLen; omega) (by omega) (by simp) ?_; intro v5 w5 ho5 hg5 hat5 hnn5 hb5; simp only [Nat.zero_add, List.nil_append] at ho5; obtain ⟨A5, c5, rfl, -⟩ := own_form ho5; have hb6 := ((Below.refl w.heap.size (w.setCell ⟨g, 1, none⟩ (.slice Au n cu))).alloc (by rw [setCell_size]; exact Nat.le_refl _) _).trans hb5; have hb6 := (by rw [setCell_size]; exact hb6 : Below (w.setCell ⟨g, 1, none⟩ (.slice Au n cu)).heap.size (w.setCell ⟨g, 1, none⟩ (.slice Au n cu)) w5); have ho5 := (by rw [setCell_size]; exact ho5 : w5.ownsRow (w.setCell ⟨g, 1, none⟩ (.slice Au n cu)).heap.size 27 1 (.slice A5 m c5) m (vs.take m)); have k5 := HQ3.out.hb.below hb6 HQ3.out.hb.lt; have k2 := (show w5.cell? ⟨g, 2, none⟩ = some (.slice (some ⟨b, o, none⟩) past.length q) from (k5.cell 2).trans rfl); have kf := k5.frozen 2; have HC := hide (HQ3.out.cut hm hb6 ho5); have HB6 := hide hb6; clear ho5 hg5 hat5 hnn5 hb5 hb6 k5)))
    go_ret
    rw [HE.out]
    refine ⟨rfl, ⟨_, _, _, HC.out.mono fun b _ hp => hp.imp id (fun h => by rwa [setCell_size] at h)⟩, [g], ?_, fun b hb => by rw [List.mem_singleton.1 hb]; exact HQ.out.pg⟩
    exact (((Fr.refl [g] w).setCell (p := ⟨g, 1, none⟩) (.inl (by simp)) _).trans (Fr.of_below _ HB6.out)).setCell (p := ⟨g, 2, none⟩) (.inl (by simp)) _
  · have hmm : m = past.length := by omega
    subst hmm
    clear hq hrp hlt hq1 hq2
    go_enter Try.func27, Try.ntmps27
    go_wp2_with (first | (go_at_call 42; refine HV.out.mono ?_; rintro e w' ⟨rfl, rfl⟩))
    go_ret
    rw [List.take_length, atL_top past L (Nat.le_refl _)]
    exact ⟨rfl, R9Step.stay H.out 0⟩
end Go.Proofs.Ytdhmjdlkaoflnaa
