/- The walk of UndoOrders. -/
import Derived.Test.YtdhmjdlkaoflnaaUndoReturnsWalk
import Derived.Deep.AppendLies
import Derived.Deep.RegionLaw
namespace Go.Proofs.Ytdhmjdlkaoflnaa
open Go.RowKit
set_option linter.unusedVariables false

def swap8 (l : List (Nat × Nat)) : List (Nat × Nat) := l.map fun e => (e.2, e.1)
theorem prs_back (l : List (Nat × Nat)) : prs (swap8 l).reverse = back (prs l) := by
  simp [prs, swap8, back, List.map_reverse, List.map_map, Function.comp_def]
theorem madeH_L (l : List (Nat × Nat)) : (madeH l).L = foldU 50 (prs l) (fun i => i) := foldH_L 50 (prs l) h0
theorem made_back (l : List (Nat × Nat)) : arr 50 (madeH l).L = arr 50 (madeH (swap8 l).reverse).L := by
  rw [madeH_L, madeH_L, prs_back]
  exact arr_congr (back_law 50 (prs l))
theorem sets_congr {n : Nat} {L L' : Nat → Nat} (h : ∀ i, i < n → L i = L' i) : sets n L = sets n L' := cnt_congr fun i hi => by rw [h i hi]
theorem made_sets (l : List (Nat × Nat)) : sets 50 (madeH l).L = sets 50 (madeH (swap8 l).reverse).L := by
  rw [madeH_L, madeH_L, prs_back]
  exact sets_congr (back_law 50 (prs l))
theorem info_pair8 : (Try.prog.info? 34).map (fun i => (i.zero, i.size, i.bytes)) = some (some (.agg #[.int .u8 0, .int .u8 0]), 2, 2) := by kernel_rfl
/-- An append of one element that lies in a block of its own, in a region that draws. -/
theorem step_app (T E : TypeId) {i0 : TypeInfo} {z : Value} {sz by_ : Nat} (ht : Try.prog.underlying T = some (.slice E)) (hi : Try.prog.info? E = some i0) (hz : i0.zero = some z) (h1 : i0.size = sz) (h8 : i0.bytes = by_) (hzs : z.cells.size = sz) (hsz : 0 < sz)
    {ops : Array Oper} {o : Oper} {a : Act} {w : World} {K : Act → World → Prop} {Q : Exit → Act → World → Prop} {F : Prop} (cs : Array Value) (hcs : cs.size = sz) (hone : ∀ c ∈ cs.toList, c.oneCell' = true) (hgd : o.guard = none) (s x : Operand)
    (ho : o.op = .call { callee := .builtin .append, args := #[s, x], argTypes := #[T, T] })
    (B : Nat) (V : Value) (n : Nat) (xs : List Value) (hs : a.eval s = V) (hown : w.ownsRow B E sz V n xs) (hx : a.eval x = .slice (some ⟨w.heap.size, 0, none⟩) 1 1)
    (hm : n + 1 ≤ maxLen) (hb : (n + 1) * by_ ≤ 140737488355328) (hB : B ≤ w.heap.size)
    (h : ∀ v' w', w'.ownsRow B E sz v' (n + 1) (xs ++ cs.toList) → Below B w w' → w.grownBy w' V.ownBlock → K (a.put o.dst v') w') :
    if Region.wanted o (yielded ops a.tmps) = true then Oper.wp Try.prog o a (w.alloc (.cells cs E)) K Q else F := by
  refine step_append_lies (w := w.alloc (.cells cs E)) hgd s x T ho B E i0 z sz by_ ht hi hz h1 h8 hzs hsz V n xs hs (World.ownsRow.alloc hown _)
    ⟨w.heap.size, 0, none⟩ 1 1 cs.toList hx (by simpa using hcs) (fun j c hj => by rw [Addr.add_lit, Nat.zero_add, World.cell?_alloc_new]; simpa using hj) hone (by decide) hm hb (by simp; omega) _ rfl ?_
  intro g cap w' h2 h3 h4 h5
  have g2 := grown_trans2 (World.grownBy_alloc w _ none) h3
  exact h _ w' h2 ((Below.refl _ _).grown g2 hB (fun k hk => (hown.lt k hk).1)) g2

def OwnP8 (w : World) (B : Nat) (v : Value) (l : List (Nat × Nat)) : Prop := w.ownsRow B 34 2 v l.length (l.flatMap pc8)
theorem swap8_snoc {l : List (Nat × Nat)} {k : Nat} (hk : k < l.length) : (swap8 (l.drop k)).reverse = (swap8 (l.drop (k + 1))).reverse ++ [(l[k].2, l[k].1)] := by
  rw [List.drop_eq_getElem_cons hk]; simp only [swap8, List.map_cons, List.reverse_cons]
theorem swap8_ok {l : List (Nat × Nat)} (h : ∀ a ∈ l, P8Ok a) : ∀ a ∈ (swap8 l).reverse, P8Ok a := by
  intro a ha
  simp [swap8] at ha
  obtain ⟨x, y, hxy, rfl⟩ := ha
  exact ⟨(h _ hxy).2, (h _ hxy).1⟩

set_option maxRecDepth 100000 in
set_option maxHeartbeats 8000000 in
theorem undoOrders_walk (v0 : Value) (l : List (Nat × Nat)) (W : World) (w0 : IsPairs8 W v0 l) :
    Calls Try.prog 4 #[v0] W fun e W' => e = .returned (.bool true) ∧ Below W.heap.size W W' := by
  have HP := hide w0
  obtain ⟨A, m, c, rfl, hm, hlen, hok, hr⟩ := w0
  have hm' : m ≤ 9223372036854775807 := by unfold maxLen at hm; omega
  have HR := hide hr
  have HLn := hide hlen
  have HOK := hide hok
  clear hr hlen hok hm
  by_cases h1 : 100 < m
  · go_enter Try.func4, Try.ntmps4
    go_wp2_with fail
    refine (works9 _).mono ?_
    rintro e w13 ⟨rfl, hb13⟩
    go_wp2_with fail
    go_ret
    exact ⟨rfl, hb13⟩
  · have hmm : m ≤ 100 := by omega
    obtain ⟨i0, hi, hz0, hz1, hz2⟩ := info_parts info_pair8
    have HI := hide hi
    have HZ0 := hide hz0
    have HZ1 := hide hz1
    have HZ2 := hide hz2
    clear h1 hi hz0 hz1 hz2
    go_enter Try.func4, Try.ntmps4
    go_wp2_with fail
    go_loopg [3, 4] m (fun q v i wr => ∃ k : Nat, k = q ∧ k ≤ m ∧ i = .int .i64 ((k : Int) - 1) ∧ OwnP8 wr W.heap.size v (swap8 (l.drop k)).reverse ∧ Below W.heap.size W wr)
    case atStart =>
      refine ⟨m, rfl, Nat.le_refl _, rfl, ?_, Below.refl _ _⟩
      rw [List.drop_of_length_le (by have := HLn.out; omega)]
      exact World.ownsRow_nil _ _ _ _
    case round =>
      obtain ⟨k, rfl, hkm, rfl, ho, hb⟩ := hrel
      have HO := hide ho
      have HB := hide hb
      clear ho hb
      by_cases hk0 : 0 < k
      · obtain ⟨k, rfl⟩ : ∃ j, k = j + 1 := ⟨k - 1, by omega⟩
        have hkl : k < l.length := by have := HLn.out; omega
        obtain ⟨b, o, rfl, hblt, c0, c1⟩ := HR.out.pair8 k hkl HLn.out
        have hbs := swap8_snoc hkl
        generalize l[k] = e at *
        obtain ⟨x, y⟩ := e
        simp only at c0 c1 hbs
        have HBS := hide hbs
        have d0 : wr.cell? ⟨b, o + k * 2, none⟩ = some (.int .u8 (x : Int)) := (HB.out.cell (p := ⟨b, o + k * 2, none⟩) hblt).trans c0
        have d1 : wr.cell? ⟨b, o + k * 2 + 1, none⟩ = some (.int .u8 (y : Int)) := (HB.out.cell (p := ⟨b, o + k * 2 + 1, none⟩) hblt).trans c1
        have hlen : (swap8 (l.drop (k + 1))).reverse.length ≤ 1000000 := by simp [swap8]; have := HLn.out; omega
        have hs1 := HB.out.size
        have hc1 : ((k + 1 : Nat) : Int) - 1 = (k : Int) := by omega
        have hkm2 : k < m := by omega
        clear hbs c0 c1 hk0
        rw [hc1]
        clear hc1
        go_wp2_with fail
        go_region_law (refine step_app 22 34 Try.underlying22 HI.out HZ0.out HZ1.out HZ2.out rfl (by decide) (w := wr.drew) #[.int .u8 (y : Int), .int .u8 (x : Int)] rfl (by intro c hc; simp at hc; rcases hc with rfl | rfl <;> rfl) rfl (.tmp 18) (.tmp 30) rfl W.heap.size _ _ _ rfl (own_below HO.out ((Below.refl _ _).drewN 1)) rfl (by unfold maxLen; omega) (by omega) hs1 ?_; intro V' w3 ho3 hb3' _)
        all_goals
          have hb3 : Below W.heap.size W w3 := (HB.out.drewN 1).trans hb3'
          go_wp2_with fail
          go_roundg k
          case measure => omega
          case rel => exact ⟨k, rfl, by omega, by go_num, by rw [HBS.out]; show w3.ownsRow _ _ _ _ _ _; rw [List.length_append, List.flatMap_append]; exact ho3, hb3⟩
      · have hkz : k = 0 := by omega
        subst hkz
        have hO := HO.out
        rw [List.drop_zero] at hO
        obtain ⟨A2, c2, rfl, hr2, _⟩ := own_form hO
        have hip : IsPairs8 wr (.slice A2 (swap8 l).reverse.length c2) (swap8 l).reverse := ⟨A2, _, c2, rfl, by unfold maxLen; simp [swap8]; have := HLn.out; omega, rfl, swap8_ok HOK.out, hr2⟩
        have HIP := hide hip
        have hil : (swap8 l).reverse.length ≤ 1000000 := by simp [swap8]; have := HLn.out; omega
        have E1 := hide (made_back l)
        have E2 := hide (made_sets l)
        clear hO hr2 hip
        generalize (swap8 l).reverse.length = z at *
        generalize (swap8 l).reverse = lb at *
        go_wp2_with fail
        refine (made_true wr _ l (HP.out.below HB.out)).mono ?_
        rintro e w2 ⟨ga, rfl, ha2, hb2⟩
        have HB2 := hide (HB.out.trans (hb2.mono HB.out.size))
        go_wp2_with fail
        refine (made_true w2 _ lb (HIP.out.below hb2)).mono ?_
        rintro e w3 ⟨gb, rfl, hb3, hbe3⟩
        have ha3 := ha2.fresh hbe3
        have HB3 := hide (HB2.out.trans (hbe3.mono HB2.out.size))
        have ca := ha3.cnt
        have cb := hb3.cnt
        rw [E2.out] at ca
        have ce : (madeH l).past.length = (madeH lb).past.length := by omega
        have MA := fun w h => atMark w ga wr.heap.size 50 (madeH l).past (madeH l).L h
        rw [ce] at MA
        have HMA := hide MA
        have HA3 := hide ha3
        have HB3' := hide hb3
        clear hb2 ha2 hbe3 ha3 hb3 ca cb ce MA
        go_wp2_with fail
        refine (atLabels _ _ _ _ _ _ HA3.out).mono ?_
        rintro e w4 ⟨b4, rfl, hk4, _, hbe4⟩
        have ha4 := HA3.out.fresh hbe4
        have hb4 := HB3'.out.fresh hbe4
        have HB4 := hide (HB3.out.trans (hbe4.mono HB3.out.size))
        go_wp2_with fail
        refine (atLabels _ _ _ _ _ _ hb4).mono ?_
        rintro e w5 ⟨b5, rfl, hk5, _, hbe5⟩
        have ha5 := ha4.fresh hbe5
        have hb5 := hb4.fresh hbe5
        have HB5 := hide (HB4.out.trans (hbe5.mono HB4.out.size))
        have hk4' := hk4.below hbe5 hk4.lt
        rw [E1.out] at hk4'
        have HK4 := hide hk4'
        have HK5 := hide hk5
        have HA5 := hide ha5
        have HB5' := hide hb5
        clear hbe4 hbe5 ha4 hb4 ha5 hb5 hk4 hk4' hk5
        go_wp2_with fail
        refine (sameL_true w5 b4 b5 50 _ _ (madeH lb).L HK4.out HK5.out (by decide)).mono ?_
        rintro e w6 ⟨rfl, k6, rfl⟩
        go_wp2_with fail
        refine (HMA.out _ (HA5.out.drewN k6)).mono ?_
        rintro e w7 ⟨rfl, rfl⟩
        go_wp2_with fail
        refine (atMark _ gb _ 50 _ _ (HB5'.out.drewN k6)).mono ?_
        rintro e w7 ⟨rfl, rfl⟩
        go_wp2_with fail
        refine (works9 _).mono ?_
        rintro e w8 ⟨rfl, hb8⟩
        go_wp2_with fail
        go_ret
        exact ⟨rfl, (HB5.out.drewN k6).trans (hb8.mono HB5.out.size)⟩
end Go.Proofs.Ytdhmjdlkaoflnaa
