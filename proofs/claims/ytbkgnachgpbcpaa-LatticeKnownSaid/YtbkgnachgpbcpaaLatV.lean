/- Clone of edges; lattice.Weights and the document's; the walk of LatticeWeighs. -/
import Derived.Test.YtbkgnachgpbcpaaOpenE
import Derived.Test.YtbkgnachgpbcpaaLatL2
import Derived.Lib.SliceRun
import Derived.Deep.RegionHeld3
import Derived.BigRegion
import Derived.Deep.AppendLies
import Derived.Deep.RegionLaw
namespace Go.Proofs.Ytbkgnachgpbcpaa
open Go.RowKit
set_option linter.unusedVariables false

theorem i64_info : (Try.prog.info? 2).map (fun i => (i.zero, i.size, i.bytes)) = some (some (.int .i64 0), 1, 8) := by kernel_rfl
def wz (l : List (Int × Int × Int)) (ws : List Int) : List (Int × Int × Int) := List.zipWith (fun e x => (e.1, e.2.1, x)) l ws
theorem wz_len (l : List (Int × Int × Int)) (ws : List Int) (h : l.length = ws.length) : (wz l ws).length = l.length := by simp [wz, h]
theorem wz_snoc {l : List (Int × Int × Int)} {ws : List Int} {k : Nat} (h : l.length = ws.length) (hk : k < l.length) : wz (l.take (k + 1)) (ws.take (k + 1)) = wz (l.take k) (ws.take k) ++ [(l[k].1, l[k].2.1, ws[k]'(by omega))] := by
  rw [List.take_succ_eq_append_getElem hk, List.take_succ_eq_append_getElem (show k < ws.length by omega)]
  unfold wz
  rw [List.zipWith_append (by simp [h])]
  rfl

theorem clone_edges (w : World) (a : Addr) (n c : Nat) (l : List (Int × Int × Int)) (hr : Rd w (some a) n 3 (ecs l)) (hl : l.length = n) (hn : n ≤ 1000000) :
    Calls Try.prog 35 #[.slice (some a) n c] w
      fun e w' => ∃ (g cap : Nat), e = .returned (.slice (some ⟨g, 0, none⟩) n cap) ∧ OwnE w' w.heap.size (.slice (some ⟨g, 0, none⟩) n cap) l ∧ Below w.heap.size w w' := by
  obtain ⟨i0, hi, hz0, hz1, hz2⟩ := info_parts edge_info
  have hne := fun W => Lib.run_eql_slice_nil (P := Try.prog) W 22 37 (some a) n c 0 0 Try.underlying22
  have hr' := hide (hr.alloc (.cells #[] 37))
  have ho := hide (World.ownsRow_made (e := 37) (size := 3) (base := w.heap.size) w #[] 0 (Nat.le_refl _) (by simp [maxLen]) rfl)
  have hi' := hide hi
  have hz0' := hide hz0
  have hz1' := hide hz1
  have hz2' := hide hz2
  clear hr hi hz0 hz1 hz2
  go_enter Try.func35, Try.ntmps35
  go_wp2_with (at_builtin; (refine app_any2 22 37 Try.underlying22 hi'.out hz0'.out hz1'.out hz2'.out rfl (by decide) _ _ _ _ _ hr'.out (ecs_oneCell l) rfl _ _ rfl w.heap.size _ 0 [] rfl ho.out rfl (by unfold maxLen; omega) (by omega) (by simp) ?_; intro v' w1 hown hgr hat hnn hbel))
  go_ret
  simp only [Nat.zero_add, List.nil_append] at hown
  have hsome : ∃ g cap, v' = .slice (some ⟨g, 0, none⟩) n cap := by
    rcases hown.2 with ⟨e, _⟩ | ⟨g, cap, cur, e, _⟩
    · have := hnn e; cases this
    · exact ⟨g, cap, e⟩
  obtain ⟨g, cap, rfl⟩ := hsome
  refine ⟨g, cap, rfl, ?_, ((Below.refl _ _).alloc (Nat.le_refl _) _).trans (hbel.mono (Nat.le_refl _))⟩
  unfold OwnE
  rw [hl]; exact hown

theorem ecs_set (l : List (Int × Int × Int)) (k : Nat) (x : Int) (hk : k < l.length) : (ecs l).set (k * 3 + 2) (.int .i64 x) = ecs (l.set k (l[k].1, l[k].2.1, x)) := by
  induction l generalizing k with
  | nil => simp at hk
  | cons e l ih =>
    have e1 : ∀ (e : Int × Int × Int) l, ecs (e :: l) = .int .i64 e.1 :: .int .i64 e.2.1 :: .int .i64 e.2.2 :: ecs l := fun _ _ => rfl
    cases k with
    | zero => simp [e1]
    | succ k =>
      have e2 : (k + 1) * 3 + 2 = (k * 3 + 2) + 1 + 1 + 1 := by omega
      rw [e1, e2]
      simp only [List.set_cons_succ, List.getElem_cons_succ, e1]
      rw [ih k (by simpa using hk)]

def mix (l : List (Int × Int × Int)) (ws : List Int) (k : Nat) : List (Int × Int × Int) := wz (l.take k) (ws.take k) ++ l.drop k
theorem mix_len {l : List (Int × Int × Int)} {ws : List Int} (h : l.length = ws.length) (k : Nat) : (mix l ws k).length = l.length := by
  simp [mix, wz, h]; omega
theorem mix_get {l : List (Int × Int × Int)} {ws : List Int} {k : Nat} (h : l.length = ws.length) (hk : k < l.length) : (mix l ws k)[k]'(by rw [mix_len h]; exact hk) = l[k] := by
  have hA : (wz (l.take k) (ws.take k)).length = k := by simp [wz]; omega
  unfold mix
  rw [List.getElem_append_right (by omega)]
  simp [hA]
theorem mix_set {l : List (Int × Int × Int)} {ws : List Int} {k : Nat} (h : l.length = ws.length) (hk : k < l.length) : (mix l ws k).set k (l[k].1, l[k].2.1, ws[k]'(by omega)) = mix l ws (k + 1) := by
  have hA : (wz (l.take k) (ws.take k)).length = k := by simp [wz]; omega
  unfold mix
  rw [List.set_append_right _ _ (by omega), hA, Nat.sub_self, List.drop_eq_getElem_cons hk, List.set_cons_zero, wz_snoc h hk, List.append_assoc]
  rfl

set_option maxHeartbeats 4000000 in
theorem weights_ok (w : World) (a : Addr) (n c c2 : Nat) (A2 : Option Addr) (l : List (Int × Int × Int)) (ws : List Int) (hr : Rd w (some a) n 3 (ecs l)) (hl : l.length = n) (hr2 : Rd w A2 n 1 (is ws)) (hl2 : ws.length = n) (hn : n ≤ 1000) :
    Calls Try.prog 29 #[.slice (some a) n c, .slice A2 n c2] w
      fun e w' => ∃ V, e = .returned (.tuple #[V, .int .i64 0]) ∧ OwnE w' w.heap.size V (wz l ws) ∧ Below w.heap.size w w' := by
  have HR := hide hr
  have HL := hide hl
  have HR2 := hide hr2
  have HL2 := hide hl2
  clear hr hl hr2 hl2
  go_enter Try.func29, Try.ntmps29
  go_wp2_with fail
  refine (clone_edges _ _ _ _ _ HR.out HL.out (by omega)).mono ?_
  rintro e w1 ⟨g, cap, rfl, ho1, hb1⟩
  have hgB := (ho1.lt g rfl).1
  have HO1 := hide ho1
  have HB1 := hide hb1
  clear ho1 hb1
  go_wp2_with fail
  go_loopg [17] n (fun q v wr => ∃ k : Nat, k + q = n ∧ v = .int .i64 (k : Int) ∧ OwnE wr w.heap.size (.slice (some ⟨g, 0, none⟩) n cap) (mix l ws k) ∧ Below w.heap.size w wr)
  case atStart => exact ⟨0, by omega, rfl, by simpa [mix, wz] using HO1.out, HB1.out⟩
  case round =>
    obtain ⟨k, hk, rfl, ho, hb⟩ := hrel
    have HK := hide hk
    have hkn : k ≤ n := by omega
    have HO := hide ho
    have HB := hide hb
    clear hk ho hb HO1 HB1
    have hll : Hid (l.length = ws.length) := by show _ = _; rw [HL.out, HL2.out]
    by_cases hlt : k < n
    · have hkw : k < ws.length := by have := HL2.out; omega
      obtain ⟨b, o, rfl, hblt, c0⟩ := HR2.out.int k hkw HL2.out
      have hkl : Hid (k < l.length) := by show _ < _; have := HL.out; omega
      have hms := mix_set hll.out hkl.out
      have hmg := mix_get hll.out hkl.out
      have hes := ecs_set (mix l ws k) k (ws[k]'hkw) (by rw [mix_len hll.out]; exact hkl.out)
      rw [hmg, hms] at hes
      have hold := (ecs_get (mix l ws k) k (by rw [mix_len hll.out]; exact hkl.out)).2.2
      have hmn : (mix l ws k).length = n := by rw [mix_len hll.out]; exact HL.out
      have hmn' : (mix l ws (k + 1)).length = n := by rw [mix_len hll.out]; exact HL.out
      have ho := HO.out
      unfold OwnE at ho
      rw [hmn] at ho
      have d1 := own_cell ho _ _ hold
      have d2 := own_frozen ho (k * 3 + 2)
      have hnew := own_set ho (k * 3 + 2) (.int .i64 (ws[k]'hkw)) (by omega)
      rw [hes] at hnew
      have hnew' : OwnE (wr.setCell ⟨g, k * 3 + 2, none⟩ (.int .i64 (ws[k]'hkw))) w.heap.size (.slice (some ⟨g, 0, none⟩) n cap) (mix l ws (k + 1)) := by unfold OwnE; rw [hmn']; exact hnew
      have c0' : wr.cell? ⟨b, o + k, none⟩ = some (.int .i64 (ws[k]'hkw)) := (HB.out.cell (p := ⟨b, o + k, none⟩) hblt).trans c0
      have hml : k < (mix l ws k).length := by omega
      generalize (mix l ws k)[k]'hml = y at d1
      clear hms hmg hes hold ho hnew c0
      generalize ws[k]'hkw = x at *
      clear hmn hmn'
      have HN := hide hnew'
      clear hnew'
      go_wp2_with fail
      go_roundg (n - (k + 1))
      case measure => have := HK.out; omega
      case rel => exact ⟨k + 1, by omega, by go_num, HN.out, HB.out.setCell (p := ⟨g, k * 3 + 2, none⟩) hgB _⟩
    · have hkk : k = n := by omega
      subst hkk
      go_wp2_with fail
      go_ret2
      have e : mix l ws k = wz l ws := by
        unfold mix
        rw [List.take_of_length_le (by have := HL.out; omega), List.take_of_length_le (by have := HL2.out; omega), List.drop_of_length_le (by have := HL.out; omega), List.append_nil]
      have ho := HO.out
      rw [e] at ho
      exact ⟨_, rfl, ho, HB.out⟩

theorem weights_no (w : World) (A A2 : Option Addr) (n m c c2 : Nat) (hne : n ≠ m) (hn : n ≤ 1000) (hm : m ≤ 1000) :
    Calls Try.prog 29 #[.slice A n c, .slice A2 m c2] w fun e w' => e = .returned (.tuple #[.slice none 0 0, .int .i64 2]) ∧ w = w' := by
  have hf : ((n : Int) == (m : Int)) = false := by simp; omega
  clear hne
  go_enter Try.func29, Try.ntmps29
  go_wp2_with fail
  go_ret2
  exact ⟨rfl, rfl⟩
theorem rweights_no (w : World) (A A2 : Option Addr) (n m c c2 : Nat) (hne : n ≠ m) (hn : n ≤ 1000) (hm : m ≤ 1000) :
    Calls Try.prog 30 #[.slice A n c, .slice A2 m c2] w fun e w' => e = .returned (.tuple #[.slice none 0 0, .int .i64 2]) ∧ w = w' := by
  have hf : ((n : Int) == (m : Int)) = false := by simp; omega
  clear hne
  go_enter Try.func30, Try.ntmps30
  go_wp2_with fail
  go_ret2
  exact ⟨rfl, rfl⟩

theorem step_edge {ops : Array Oper} {o : Oper} {a : Act} {w : World} {K : Act → World → Prop} {Q : Exit → Act → World → Prop} {E : Prop} (u v t : Int) (hgd : o.guard = none) (s x : Operand)
    (ho : o.op = .call { callee := .builtin .append, args := #[s, x], argTypes := #[22, 22] })
    (B : Nat) (V : Value) (l : List (Int × Int × Int)) (hs : a.eval s = V) (hown : OwnE w B V l) (hx : a.eval x = .slice (some ⟨w.heap.size, 0, none⟩) 1 1)
    (hb : l.length ≤ 1000000) (hB : B ≤ w.heap.size)
    (h : ∀ v' w', OwnE w' B v' (l ++ [(u, v, t)]) → w.grownBy w' V.ownBlock → Below B w w' → K (a.put o.dst v') w') :
    if Region.wanted o (yielded ops a.tmps) = true then Oper.wp Try.prog o a (w.alloc (.cells #[.int .i64 u, .int .i64 v, .int .i64 t] 37)) K Q else E := by
  obtain ⟨i0, hi, hz0, hz1, hz2⟩ := info_parts edge_info
  refine step_append_lies (w := w.alloc (.cells #[.int .i64 u, .int .i64 v, .int .i64 t] 37)) hgd s x 22 ho B 37 i0 _ 3 24 Try.underlying22 hi hz0 hz1 hz2 rfl (by decide) V l.length (ecs l) hs (World.ownsRow.alloc hown _)
    ⟨w.heap.size, 0, none⟩ 1 1 [.int .i64 u, .int .i64 v, .int .i64 t] hx rfl (fun j c hj => by rw [Addr.add_lit, Nat.zero_add, World.cell?_alloc_new]; simpa using hj) (by intro c hc; simp at hc; rcases hc with rfl | rfl | rfl <;> rfl) (by decide) (by unfold maxLen; omega) (by omega) (by simp; omega) _ rfl ?_
  intro g cap w' h2 h3 h4 h5
  have g2 := grown_trans2 (World.grownBy_alloc w _ none) h3
  refine h _ w' ?_ g2 ((Below.refl _ _).grown g2 hB (fun k hk => (hown.lt k hk).1))
  show w'.ownsRow B 37 3 _ (l ++ [(u, v, t)]).length _
  rw [List.length_append, ecs_append]; exact h2

set_option maxHeartbeats 4000000 in
theorem rweights_ok (w : World) (n c c2 : Nat) (A A2 : Option Addr) (l : List (Int × Int × Int)) (ws : List Int) (hr : Rd w A n 3 (ecs l)) (hl : l.length = n) (hr2 : Rd w A2 n 1 (is ws)) (hl2 : ws.length = n) (hn : n ≤ 1000) :
    Calls Try.prog 30 #[.slice A n c, .slice A2 n c2] w
      fun e w' => ∃ V, e = .returned (.tuple #[V, .int .i64 0]) ∧ OwnE w' w.heap.size V (wz l ws) ∧ Below w.heap.size w w' := by
  have HR := hide hr
  have HL := hide hl
  have HR2 := hide hr2
  have HL2 := hide hl2
  clear hr hl hr2 hl2
  go_enter Try.func30, Try.ntmps30
  go_wp2_with fail
  go_loopg [6, 7] n (fun q v i wr => ∃ k : Nat, k + q = n ∧ i = .int .i64 (k : Int) ∧ OwnE wr w.heap.size v (wz (l.take k) (ws.take k)) ∧ Below w.heap.size w wr)
  case atStart => exact ⟨0, by omega, rfl, by simpa [wz] using OwnE.nil _ _, Below.refl _ _⟩
  case round =>
    obtain ⟨k, hk, rfl, ho, hb⟩ := hrel
    have HK := hide hk
    have hkn : k ≤ n := by omega
    have HO := hide ho
    have HB := hide hb
    clear hk ho hb
    have hll : Hid (l.length = ws.length) := by show _ = _; rw [HL.out, HL2.out]
    by_cases hlt : k < n
    · obtain ⟨b, o, rfl, hblt, c0, c1, _⟩ := HR.out.edge k (by have := HL.out; omega) HL.out
      obtain ⟨b', o', rfl, hblt', c2⟩ := HR2.out.int k (by have := HL2.out; omega) HL2.out
      have hws := wz_snoc hll.out (show k < l.length by have := HL.out; omega)
      generalize l[k]'(by have := HL.out; omega) = e at *
      generalize ws[k]'(by have := HL2.out; omega) = x at *
      obtain ⟨u, v', t⟩ := e
      simp only at c0 c1 hws
      have HW := hide hws
      clear hws
      have d0 : wr.cell? ⟨b, o + k * 3, none⟩ = some (.int .i64 u) := (HB.out.cell (p := ⟨b, o + k * 3, none⟩) hblt).trans c0
      have d1 : wr.cell? ⟨b, o + k * 3 + 1, none⟩ = some (.int .i64 v') := (HB.out.cell (p := ⟨b, o + k * 3 + 1, none⟩) hblt).trans c1
      have d2 : wr.cell? ⟨b', o' + k, none⟩ = some (.int .i64 x) := (HB.out.cell (p := ⟨b', o' + k, none⟩) hblt').trans c2
      clear c0 c1 c2
      have hlen : (wz (l.take k) (ws.take k)).length ≤ 1000000 := by simp [wz]; omega
      have hs1 := HB.out.size
      have hlt1 : b < wr.heap.size := by omega
      have hlt2 : b' < wr.heap.size := by omega
      go_wp2_with fail
      go_region_law (refine step_edge (w := wr.drew) u v' x rfl (.tmp 19) (.tmp 35) rfl w.heap.size _ _ rfl (HO.out.kept ((Below.refl _ _).drewN 1)) rfl hlen hs1 ?_; intro V' w3 ho3 hg3 hb3')
      all_goals
        have hb3 : Below w.heap.size w w3 := (HB.out.drewN 1).trans hb3'
        go_wp2_with fail
        go_roundg (n - (k + 1))
        case measure => have := HK.out; omega
        case rel => exact ⟨k + 1, by omega, by go_num, by rw [HW.out]; exact ho3, hb3⟩
    · have hkk : k = n := by omega
      subst hkk
      go_wp2_with fail
      go_ret2
      have ho := HO.out
      rw [List.take_of_length_le (by have := HL.out; omega), List.take_of_length_le (by have := HL2.out; omega)] at ho
      exact ⟨_, rfl, ho, HB.out⟩
end Go.Proofs.Ytbkgnachgpbcpaa
