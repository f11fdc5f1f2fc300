/- The walk of DsuOrder. -/
import Derived.Test.YtiijhppffboogaaDsuGC
import Derived.Deep.AppendLies
import Derived.Deep.RegionLaw
namespace Go.Proofs.Ytiijhppffboogaa
open Go.RowKit
set_option linter.unusedVariables false

theorem pair_info : (Try.prog.info? 27).map (fun i => (i.zero, i.size, i.bytes)) = some (some (.agg #[.int .i64 0, .int .i64 0]), 2, 16) := by kernel_rfl
theorem pcs_length (l : List (Int × Int)) : (pcs l).length = l.length * 2 := flatMap_len pc 2 (fun _ => rfl) l
theorem pcs_append (l m : List (Int × Int)) : pcs (l ++ m) = pcs l ++ pcs m := by simp [pcs]

/-- The slice value v is the call's own and holds the pairs l. -/
def OwnP (w : World) (B : Nat) (v : Value) (l : List (Int × Int)) : Prop := w.ownsRow B 27 2 v l.length (pcs l)
theorem step_pair {ops : Array Oper} {o : Oper} {a : Act} {w : World} {K : Act → World → Prop} {Q : Exit → Act → World → Prop} {E : Prop} (u v : Int) (hgd : o.guard = none) (s x : Operand)
    (ho : o.op = .call { callee := .builtin .append, args := #[s, x], argTypes := #[22, 22] })
    (B : Nat) (V : Value) (l : List (Int × Int)) (hs : a.eval s = V) (hown : OwnP w B V l) (hx : a.eval x = .slice (some ⟨w.heap.size, 0, none⟩) 1 1)
    (hb : l.length ≤ 1000000) (hB : B ≤ w.heap.size)
    (h : ∀ v' w', OwnP w' B v' (l ++ [(u, v)]) → Below B w w' → K (a.put o.dst v') w') :
    if Region.wanted o (yielded ops a.tmps) = true then Oper.wp Try.prog o a (w.alloc (.cells #[.int .i64 u, .int .i64 v] 27)) K Q else E := by
  obtain ⟨i0, hi, hz0, hz1, hz2⟩ := info_parts pair_info
  refine step_append_lies (w := w.alloc (.cells #[.int .i64 u, .int .i64 v] 27)) hgd s x 22 ho B 27 i0 _ 2 16 Try.underlying22 hi hz0 hz1 hz2 rfl (by decide) V l.length (pcs l) hs (World.ownsRow.alloc hown _)
    ⟨w.heap.size, 0, none⟩ 1 1 [.int .i64 u, .int .i64 v] hx rfl (fun j c hj => by rw [Addr.add_lit, Nat.zero_add, World.cell?_alloc_new]; simpa using hj) (by intro c hc; simp at hc; rcases hc with rfl | rfl <;> rfl) (by decide) (by unfold maxLen; omega) (by omega) (by simp; omega) _ rfl ?_
  intro g cap w' h2 h3 h4 h5
  have g2 := grown_trans2 (World.grownBy_alloc w _ none) h3
  refine h _ w' ?_ ((Below.refl _ _).grown g2 hB (fun k hk => (hown.lt k hk).1))
  show w'.ownsRow B 27 2 _ (l ++ [(u, v)]).length _
  rw [List.length_append, pcs_append]; exact h2

theorem back_snoc {l : List (Int × Int)} {k : Nat} (hk : k < l.length) : back (l.drop k) = back (l.drop (k + 1)) ++ [(l[k].2, l[k].1)] := by
  rw [List.drop_eq_getElem_cons hk]; simp only [back, List.map_cons, List.reverse_cons]
theorem back_ok {l : List (Int × Int)} (h : ∀ a ∈ l, PairOk a) : ∀ a ∈ back l, PairOk a := by
  intro a ha
  simp [back] at ha
  obtain ⟨x, y, hxy, rfl⟩ := ha
  exact ⟨(h _ hxy).2, (h _ hxy).1⟩

set_option maxRecDepth 100000 in
set_option maxHeartbeats 4000000 in
theorem dsuOrder_walk (a0 : Int) (v1 : Value) (l : List (Int × Int)) (W : World) (w0 : (Lit.int .i64 a0).wf = true) (w1 : IsPairs W v1 l) :
    Calls Try.prog 7 #[.int .i64 a0, v1] W fun e W' => e = .returned (.bool true) ∧ Below W.heap.size W W' := by
  have hp := w1
  obtain ⟨A, m, c, rfl, hm, hlen, hok, hr⟩ := w1
  have hm' : m ≤ 9223372036854775807 := by unfold maxLen at hm; omega
  have HP := hide hp
  have HR := hide hr
  have HLn := hide hlen
  have HOK := hide hok
  clear hp hr hok hlen hm w0
  cases hs : smallB a0 m
  · go_enter Try.func7, Try.ntmps7
    go_wp2_with fail
    refine (small_any _ _ _ _ hm' _).mono ?_
    rintro e w1 ⟨rfl, rfl⟩
    go_wp2_with fail
    refine (works8 _).mono ?_
    rintro e w1 ⟨rfl, hb⟩
    go_wp2_with fail
    go_ret
    exact ⟨rfl, hb⟩
  · have hs' : 0 ≤ a0 ∧ a0 ≤ 300 ∧ m ≤ 300 := by simpa [smallB] using hs
    obtain ⟨n, rfl⟩ := Int.eq_ofNat_of_zero_le hs'.1
    have hn : n ≤ 300 := by omega
    have hmm : m ≤ 300 := hs'.2.2
    clear hs'
    go_enter Try.func7, Try.ntmps7
    go_wp2_with fail
    refine (small_any _ _ _ _ hm' _).mono ?_
    rintro e w1 ⟨rfl, rfl⟩
    go_wp2_with fail
    go_loopg [5, 6] m (fun q v i wr => ∃ k : Nat, k = q ∧ k ≤ m ∧ i = .int .i64 ((k : Int) - 1) ∧ OwnP wr W.heap.size v (back (l.drop k)) ∧ Below W.heap.size W wr)
    case atStart =>
      refine ⟨m, rfl, Nat.le_refl _, rfl, ?_, Below.refl _ _⟩
      rw [List.drop_of_length_le (by have := HLn.out; omega)]
      exact World.ownsRow_nil _ _ _ _
    case round =>
      obtain ⟨k, rfl, hkm, rfl, ho, hb⟩ := hrel
      have HO := hide ho
      have HB := hide hb
      clear ho hb
      by_cases hk0 : 0 < k
      · obtain ⟨k, rfl⟩ : ∃ j, k = j + 1 := ⟨k - 1, by omega⟩
        obtain ⟨b, o, rfl, hblt, c0, c1⟩ := HR.out.pair k (by have := HLn.out; omega) HLn.out
        have hbs := back_snoc (l := l) (k := k) (by have := HLn.out; omega)
        generalize l[k]'(by have := HLn.out; omega) = e at *
        obtain ⟨x, y⟩ := e
        simp only at c0 c1 hbs
        have HBS := hide hbs
        have d0 : wr.cell? ⟨b, o + k * 2, none⟩ = some (.int .i64 x) := (HB.out.cell (p := ⟨b, o + k * 2, none⟩) hblt).trans c0
        have d1 : wr.cell? ⟨b, o + k * 2 + 1, none⟩ = some (.int .i64 y) := (HB.out.cell (p := ⟨b, o + k * 2 + 1, none⟩) hblt).trans c1
        have hlen : (back (l.drop (k + 1))).length ≤ 1000000 := by simp [back]; have := HLn.out; omega
        have hs1 := HB.out.size
        have hc1 : ((k + 1 : Nat) : Int) - 1 = (k : Int) := by omega
        have hkm2 : k < m := by omega
        clear hbs c0 c1 hk0
        rw [hc1]
        clear hc1
        go_wp2_with fail
        go_region_law (refine step_pair (w := wr.drew) y x rfl (.tmp 21) (.tmp 33) rfl W.heap.size _ _ rfl (own_below HO.out ((Below.refl _ _).drewN 1)) rfl hlen hs1 ?_; intro V' w3 ho3 hb3')
        all_goals
          have hb3 : Below W.heap.size W w3 := (HB.out.drewN 1).trans hb3'
          go_wp2_with fail
          go_roundg k
          case measure => omega
          case rel => exact ⟨k, rfl, by omega, by go_num, by rw [HBS.out]; exact ho3, hb3⟩
      · have hkz : k = 0 := by omega
        subst hkz
        have hO := HO.out
        rw [List.drop_zero] at hO
        obtain ⟨A2, c2, rfl, hr2, _⟩ := own_form hO
        have hlb : (back l).length = m := by simp [back]; exact HLn.out
        have HP2 : Hid (IsPairs wr (.slice A2 (back l).length c2) (back l)) := ⟨A2, _, c2, rfl, by rw [hlb]; unfold maxLen; omega, rfl, back_ok HOK.out, hr2⟩
        have HP1 : Hid (IsPairs wr (.slice A m c) l) := ⟨A, m, c, rfl, by unfold maxLen; omega, HLn.out, HOK.out, HR.out.below HB.out⟩
        have BL := back_law n l
        clear hO hr2 hlb
        go_wp2_with fail
        refine (united_ok _ n (by omega) _ _ HP1.out).mono ?_
        rintro e w1 ⟨p, rfl, hd1, hb1, hp1⟩
        have hb1' := HB.out.trans (hb1.mono HB.out.size)
        have HP2' : Hid (IsPairs w1 (.slice A2 (back l).length c2) (back l)) := by
          obtain ⟨A', n', c', e, h1, h2, h3, h4⟩ := HP2.out
          exact ⟨A', n', c', e, h1, h2, h3, h4.below hb1⟩
        go_wp2_with fail
        refine (united_ok _ n (by omega) _ _ HP2'.out).mono ?_
        rintro e w2 ⟨q, rfl, hq2, hb2, hq⟩
        generalize foldU n (back l) (fun i => i) = L2 at *
        generalize foldU n l (fun i => i) = L at *
        have kp := hd1.lt
        have hd2 := hd1.fresh hb2
        have kq := hq2.lt
        have hb2' := hb1'.trans (hb2.mono (by have := hb1'.size; exact this))
        have s2 := hb2.size
        have s0 := HB.out.size
        have s1 := hb1.size
        have fp : ∀ k ∈ [p.bu], W.heap.size ≤ k := fun k hk => by simp at hk; subst hk; have := hp1.2.1; omega
        have fq : ∀ k ∈ [q.bu], W.heap.size ≤ k := fun k hk => by simp at hk; subst hk; have := hq.2.1; omega
        have np : p.g ∉ [q.bu] ∧ p.bu ∉ [q.bu] ∧ p.bl ∉ [q.bu] ∧ p.bz ∉ [q.bu] := by have := hq.2.1; simp; omega
        have nq : q.g ∉ [p.bu] ∧ q.bu ∉ [p.bu] ∧ q.bl ∉ [p.bu] ∧ q.bz ∉ [p.bu] := by have := hq; unfold Loc.from_ at this; simp; omega
        go_wp2_with fail
        refine (dsuLabels _ _ _ _ hd2).mono ?_
        rintro e w3 ⟨b3, rfl, hd3, hk3, hbb3, hf3⟩
        have hq3 := hq2.fr hf3 nq
        have hb3 := hf3.lift hb2' fp hb2'.size
        go_wp2_with fail
        refine (dsuLabels _ _ _ _ hq3).mono ?_
        rintro e w4 ⟨b4, rfl, hq4, hk4, hbb4, hf4⟩
        have hd4 := hd3.fr hf4 np
        have s3 := hf3.size
        have hk34 := hk3.fr hf4 (show b3 ∉ [q.bu] by simp; omega)
        have hb4 := hf4.lift hb3 fq hb3.size
        rw [← arr_congr BL] at hk4
        go_wp2_with fail
        refine (samei_true _ _ _ _ _ _ _ hk34.isr hk4.isr (by simp) (by omega)).mono ?_
        rintro e w5 ⟨rfl, k5, rfl⟩
        go_wp2_with fail
        refine (dsuGroups _ _ _ _ (hd4.drewN k5)).mono ?_
        rintro e w6 ⟨g6, rfl, hd6, hg6, hf6⟩
        have hq6 := (hq4.drewN k5).fr hf6 nq
        have hb6 := hf6.lift (hb4.drewN k5) fp hb4.size
        go_wp2_with fail
        refine (dsuGroups _ _ _ _ hq6).mono ?_
        rintro e w7 ⟨g7, rfl, hq7, hg7, hf7⟩
        have hb7 := hf7.lift hb6 fq hb6.size
        rw [← grp_congr BL] at hg7
        have s4 := hf4.size
        have hg67 := hg6.fr hf7 (fun k hk => by simp at hk; subst hk; show _ < w4.heap.size; omega)
        have hgl : (grp n L).length ≤ 1000000 := by rw [grp_len]; have := cnt_le (fun i => L i == i) n; unfold sets; omega
        go_wp2_with fail
        refine (groups_true _ _ _ _ hg67 hg7 hgl (fun g hg => by have := grp_bound g hg; omega)).mono ?_
        rintro e w8 ⟨rfl, k8, rfl⟩
        go_wp2_with fail
        refine (works8 _).mono ?_
        rintro e w9 ⟨rfl, hb9⟩
        go_wp2_with fail
        go_ret
        exact ⟨rfl, (hb7.drewN k8).trans (hb9.mono (by have := hb7.size; show _ ≤ w7.heap.size; omega))⟩
end Go.Proofs.Ytiijhppffboogaa
