/- seepageref08: New, Groups. -/
import Derived.Test.YtiijhppffboogaaRefF
namespace Go.Proofs.Ytiijhppffboogaa
open Go.RowKit
set_option linter.unusedVariables false

theorem refNew_no (w : World) (n : Int) (h : newOk n = false) :
    Calls Try.prog 26 #[.int .i64 n] w fun e w' => e = .returned (.tuple #[.pointer none, .int .i64 2]) ∧ w = w' := by
  have h' : n < 0 ∨ 65536 < n := by simp [newOk] at h; omega
  by_cases h0 : n < 0
  · clear h h'
    go_enter Try.func26, Try.ntmps26
    go_wp2_with fail
    go_ret2
    exact ⟨rfl, rfl⟩
  · have h1 : 65536 < n := by omega
    clear h h'
    go_enter Try.func26, Try.ntmps26
    go_wp2_with fail
    go_ret2
    exact ⟨rfl, rfl⟩

theorem arr_snoc (k : Nat) (f : Nat → Nat) : (arr (k + 1) f).toList = (arr k f).toList ++ (#[Value.int .i64 (f k : Int)] : Array Value).toList := by simp [arr, List.range_succ]
theorem arr_nil (f : Nat → Nat) : (arr 0 f).toList = [] := by simp [arr]

set_option maxHeartbeats 4000000 in
theorem refNew_ok (w : World) (n : Nat) (hn : n ≤ 65536) :
    Calls Try.prog 26 #[.int .i64 (n : Int)] w fun e w' => ∃ g : Nat, e = .returned (.tuple #[.pointer (some ⟨g, 0, none⟩), .int .i64 0]) ∧ Ref w' g n (fun i => i) w.heap.size ∧ Below w.heap.size w w' := by
  obtain ⟨i0, hi, hz0, hz1, hz2⟩ := info_parts int_info0
  have hi' := hide hi
  have hz0' := hide hz0
  have hz1' := hide hz1
  have hz2' := hide hz2
  clear hi hz0 hz1 hz2
  go_enter Try.func26, Try.ntmps26
  go_wp2_with fail
  have hb0 : Blk (w.alloc (.cells #[.bool true, .slice none 0 0] 60)) w.heap.size 60 #[.bool true, .slice none 0 0] := Blk.new _ _ _
  have hbel : Below w.heap.size w (w.alloc (.cells #[.bool true, .slice none 0 0] 60)) := (Below.refl _ _).alloc (Nat.le_refl _) _
  generalize w.alloc (.cells #[.bool true, .slice none 0 0] 60) = w0 at *
  generalize hg : w.heap.size = g at *
  have HB0 := hide hb0
  have HBEL := hide hbel
  have HG := hide hg
  clear hb0 hbel hg
  go_loopg [5] n (fun q v wr => ∃ (k : Nat) (V : Value), k + q = n ∧ v = .int .i64 (k : Int) ∧ Blk wr g 60 #[.bool true, V] ∧ wr.ownsRow g 3 1 V k (arr k fun i => i).toList ∧ Below g w wr)
  case atStart => exact ⟨0, .slice none 0 0, by omega, rfl, HB0.out, own_nil _ _ _ _, HBEL.out⟩
  case round =>
    obtain ⟨k, V, hk, rfl, hb, ho, hbel⟩ := hrel
    have HK := hide hk
    have hkn : k ≤ n := by omega
    clear hk HB0 HBEL
    by_cases hlt : k < n
    · have c1 : wr.cell? ⟨g, 1, none⟩ = some V := by rw [hb.cell]; rfl
      have hnb := own_notBlk ho hb (by decide)
      have HNB := hide hnb
      have HB := hide hb
      have HO := hide ho
      have HBL := hide hbel
      have hsz : g ≤ wr.heap.size := Nat.le_of_lt hb.lt
      clear hb ho hbel hnb
      go_wp2_with (first | (at_builtin; go_loud (refine app_one 32 3 Try.underlying32 hi'.out hz0'.out hz1'.out hz2'.out rfl (by decide) wr #[.int .i64 (k : Int)] rfl (by intro u hu; simp at hu; subst hu; rfl) rfl (.tmp 23) (.tmp 25) rfl g V k _ rfl HO.out rfl (by unfold maxLen; omega) (by omega) hsz ?_; intro vo' w5 ho5 hg5 hat5 hb5; obtain ⟨A5, c5, rfl, _⟩ := own_form ho5; have hb6 := HB.out.grown hg5 HNB.out; have f6 := hb6.frozen 1; have c6 := (show w5.cell? ⟨g, 1, none⟩ = some V from (hb6.cell 1).trans rfl); have HB6 := hide hb6; have HO5 := hide ho5; have HB5 := hide hb5; clear hb6 ho5 hg5 hat5 hb5)))
      go_roundg (n - (k + 1))
      case measure => have := HK.out; omega
      case rel =>
        have hb7 := HB6.out.set_ 1 (.slice A5 (k + 1) c5)
        have ho7 := own_fr HO5.out ((Fr.refl [g] _).setCell (p := ⟨g, 1, none⟩) (.inl (by simp)) (.slice A5 (k + 1) c5)) (fun b e => by simp; intro e2; subst e2; exact own_notBlk HO5.out HB6.out (by decide) e)
        refine ⟨k + 1, .slice A5 (k + 1) c5, by omega, by go_num, hb7, ?_, (HBL.out.trans HB5.out).setCell (p := ⟨g, 1, none⟩) (Nat.le_refl _) _⟩
        rw [arr_snoc]; exact ho7
    · have hkk : k = n := by omega
      subst hkk
      go_wp2_with fail
      go_ret2
      rw [HG.out]
      refine ⟨g, rfl, ⟨Nat.le_refl _, hn, ?_⟩, hbel⟩
      rcases Nat.eq_zero_or_pos k with e | e
      · subst e
        rcases ho.2 with ⟨rfl, _⟩ | ⟨g', cap, cur, rfl, hB, hh, hc, hm, hs, ht⟩
        · exact ⟨none, 0, hb, .inl ⟨rfl, rfl⟩⟩
        · obtain ⟨r, hr, hr2⟩ := own_arx (cap := cap) ho
          exact ⟨some ⟨g', 0, none⟩, cap, hb, .inr ⟨g', r, rfl, hr2, hr⟩⟩
      · obtain ⟨g', cap, rfl⟩ := own_some ho (fun e2 => by
          rcases ho.2 with ⟨_, h0⟩ | ⟨g', cap, cur, h0, _⟩
          · omega
          · rw [e2] at h0; cases h0)
        obtain ⟨r, hr, hr2⟩ := own_arx (cap := cap) ho
        exact ⟨some ⟨g', 0, none⟩, cap, hb, .inr ⟨g', r, rfl, hr2, hr⟩⟩

/-- Groups under construction. -/
def grpk (n : Nat) (L : Nat → Nat) (k : Nat) : List (List Int) := (rts L k).map fun r => (mem n L r).map fun (i : Nat) => (i : Int)
theorem grpk_in {n : Nat} {L : Nat → Nat} {k : Nat} (h : L k = k) : grpk n L (k + 1) = grpk n L k ++ [(mem n L k).map fun (i : Nat) => (i : Int)] := by simp [grpk, rts_succ_in h]
theorem grpk_out {n : Nat} {L : Nat → Nat} {k : Nat} (h : L k ≠ k) : grpk n L (k + 1) = grpk n L k := by simp [grpk, rts_succ_out h]
def OwnGrp (w : World) (B : Nat) (V : Value) (G : List (List Int)) : Prop :=
  ∃ vs : List Value, w.ownsRow B 32 1 V G.length vs ∧ ∀ j (hj : j < G.length), ∃ v, vs[j]? = some v ∧ w.ownsRow B 3 1 v G[j].length (is G[j])
theorem OwnGrp.nil (w : World) (B : Nat) : OwnGrp w B (.slice none 0 0) [] := ⟨[], own_nil _ _ _ _, fun j hj => by simp at hj⟩
theorem OwnGrp.below {w w' : World} {B : Nat} {V : Value} {G : List (List Int)} (h : OwnGrp w B V G) (k : Below w.heap.size w w') : OwnGrp w' B V G := by
  obtain ⟨vs, ho, hg⟩ := h
  exact ⟨vs, own_below ho k, fun j hj => by obtain ⟨v, e, h⟩ := hg j hj; exact ⟨v, e, own_below h k⟩⟩
theorem OwnGrp.is_ {w : World} {B : Nat} {V : Value} {G : List (List Int)} (h : OwnGrp w B V G) : IsGrp w B V G := by
  obtain ⟨vs, ho, hg⟩ := h
  obtain ⟨A, c, rfl, hr, hA, _⟩ := own_form ho
  refine ⟨A, c, vs, rfl, fun ad e => (hA ad e).2.1, hr, fun j hj => ?_⟩
  obtain ⟨v, e, h⟩ := hg j hj
  obtain ⟨A', c', rfl, hr', hA', _⟩ := own_form h
  exact ⟨A', c', e, fun ad e => (hA' ad e).2.1, hr'⟩
/-- One more group. -/
theorem OwnGrp.add {w w' : World} {B : Nat} {V V' v : Value} {G : List (List Int)} {g : List Int} {vs : List Value}
    (ho : w.ownsRow B 32 1 V G.length vs) (hg : ∀ j (hj : j < G.length), ∃ v, vs[j]? = some v ∧ w.ownsRow B 3 1 v G[j].length (is G[j]))
    (h1 : w.ownsRow B 3 1 v g.length (is g)) (h' : w'.ownsRow B 32 1 V' (G.length + 1) (vs ++ [v])) (hgr : w.grownBy w' V.ownBlock) : OwnGrp w' B V' (G ++ [g]) := by
  have key : ∀ {u : Value} {n : Nat} {xs : List Value}, w.ownsRow B 3 1 u n xs → w'.ownsRow B 3 1 u n xs := fun hu => by
    refine World.ownsRow.kept hu hgr ?_
    exact own_ne hu ho (by decide)
  have hlen : vs.length = G.length := by simpa using ho.1
  refine ⟨vs ++ [v], by rw [List.length_append]; exact h', fun j hj => ?_⟩
  by_cases e : j < G.length
  · obtain ⟨u, e1, hu⟩ := hg j e
    refine ⟨u, by rw [List.getElem?_append_left (by omega)]; exact e1, ?_⟩
    rw [List.getElem_append_left e]; exact key hu
  · have ej : j = G.length := by simp at hj; omega
    subst ej
    refine ⟨v, by rw [List.getElem?_append_right (by omega), hlen]; simp, ?_⟩
    rw [List.getElem_append_right (by omega)]
    simpa using key h1
end Go.Proofs.Ytiijhppffboogaa
