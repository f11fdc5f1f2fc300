/- graph: Around, and what it goes over. -/
import Derived.RangeFuncNested
import Derived.RangeFuncBound
import Derived.RangeFuncCalls
import Derived.RangeFuncLeaves
import Derived.Shelf.Abstract
import Derived.Shelf.RegionOpen
import Derived.WalkKit
import Derived.OwnWalkIn
import Derived.TacticsInMore
import Derived.LoopNIn
import Derived.LoopIn
import Derived.Test.YtpgkhmjlbaoagaaGraCr
namespace Go.Proofs.Ytpgkhmjlbaoagaa
open Go.RowKit Go.Shelf
attribute [local go_sem] Oper.semAt_some
set_option linter.unusedVariables false

/-- The edges around a vertex: index and other end, in order. -/
def arnd (n : Nat) (l : List (Int × Int × Int)) (v : Int) : List (Nat × Nat) := if inB n v then (inc l v.toNat).map fun j => (j / 2, eQ l j) else []
/-- The half-edges of a vertex. -/
abbrev HE (l : List (Int × Int × Int)) (u : Nat) : Type := {j : Nat // j < 2 * l.length ∧ eP l j = u}
def hes (n : Nat) (l : List (Int × Int × Int)) (v : Int) : List Nat := if inB n v then inc l v.toNat else []
def heL (l : List (Int × Int × Int)) (u : Nat) : List (HE l u) := (inc l u).attach.map fun j => ⟨j.1, inc_mem.1 j.2⟩
/-- The numbers of some half-edges. -/
def hvals {l : List (Int × Int × Int)} {u : Nat} (pre : List (HE l u)) : List Nat := pre.map Subtype.val
theorem hvals_snoc {l : List (Int × Int × Int)} {u : Nat} (pre : List (HE l u)) (x : HE l u) : hvals (pre ++ [x]) = hvals pre ++ [x.1] := by simp [hvals]
theorem hvals_len {l : List (Int × Int × Int)} {u : Nat} (pre : List (HE l u)) : (hvals pre).length = pre.length := by simp [hvals]
theorem heL_val (l : List (Int × Int × Int)) (u : Nat) : (heL l u).map Subtype.val = inc l u := by unfold heL; rw [List.map_map]; exact List.attach_map_subtype_val _
theorem heL_len (l : List (Int × Int × Int)) (u : Nat) : (heL l u).length = (inc l u).length := by rw [← heL_val l u, List.length_map]
theorem heL_get {l : List (Int × Int × Int)} {u k j : Nat} (h : (inc l u)[k]? = some j) : ∃ x : HE l u, x.1 = j ∧ (heL l u)[k]? = some x := by
  rw [← heL_val l u, List.getElem?_map, Option.map_eq_some_iff] at h
  obtain ⟨x, h1, h2⟩ := h
  exact ⟨x, h2, h1⟩
theorem arnd_hes (n : Nat) (l : List (Int × Int × Int)) (v : Int) : arnd n l v = (hes n l v).map fun j => (j / 2, eQ l j) := by unfold arnd hes; split <;> simp
theorem hes_nat {n : Nat} {l : List (Int × Int × Int)} {u : Nat} (h : u < n) : hes n l (u : Int) = inc l u := by unfold hes; rw [inB_nat h]; rfl
theorem arnd_len (n : Nat) (l : List (Int × Int × Int)) (v : Int) : (arnd n l v).length = gdeg n l v := by unfold arnd gdeg; split <;> simp
/-- What a round of a caller keeps: what lay below n₀, and the blocks of S. -/
def KpA (n₀ : Nat) (S : List Nat) (A B : World) : Prop := Below n₀ A B ∧ ∀ b ∈ S, B.heap[b]? = A.heap[b]?
theorem KpA.refl (n₀ : Nat) (S : List Nat) (A : World) : KpA n₀ S A A := ⟨Below.refl _ _, fun _ _ => rfl⟩
theorem KpA.t {n₀ : Nat} {S : List Nat} {A B C : World} (h : KpA n₀ S A B) (k : KpA n₀ S B C) : KpA n₀ S A C := ⟨h.1.trans k.1, fun b hb => (k.2 b hb).trans (h.2 b hb)⟩
theorem KpA.b {n₀ : Nat} {S : List Nat} {w : World} (hn : n₀ ≤ w.heap.size) (hS : ∀ b ∈ S, b < w.heap.size) (W : World) (l : Nat) (o o' : Obj) (hl : w.heap.size ≤ l) (ho : W.heap[l]? = some o) (h1 : o.isCells = false) (h2 : o.isWalk = false) : KpA n₀ S W (W.putObj l o') :=
  ⟨belowK_b hn W l o o' hl ho h1 h2, fun b hb => World.putObj_heap_other (by have := hS b hb; omega)⟩
theorem cell_of_heap {A B : World} {p : Addr} (h : B.heap[p.block]? = A.heap[p.block]?) : B.cell? p = A.cell? p := World.cell?_of_block h

theorem graAround (w : World) (g : Nat) (v : Int) :
    Calls Try.prog 24 #[.pointer (some ⟨g, 0, none⟩), .int .i64 v] w
      fun e w' => e = .returned (.func (.func 50) #[] #[.pointer (some ⟨w.heap.size, 0, none⟩), .pointer (some ⟨w.heap.size + 1, 0, none⟩)]) ∧
        w' = (w.alloc (.cells #[.pointer (some ⟨g, 0, none⟩)] 25)).alloc (.cells #[.int .i64 v] 3) := by
  go_enter Try.func24, Try.ntmps24
  go_wp2
  go_ret
  exact ⟨rfl, rfl⟩

theorem grown_drewN (w : World) (k : Nat) : w.grownBy (w.drewN k) none := ⟨rfl, rfl, rfl, Nat.le_refl _, fun _ _ _ => rfl⟩

set_option maxRecDepth 100000 in
set_option maxHeartbeats 4000000 in
/-- The closure, at a vertex that there is. -/
theorem graAround1_in (N : Nat) (hN : 1 ≤ N) (L bg bv : Nat) (p : GLoc) (n B : Nat) (l : List (Int × Int × Int)) (v : Nat) (hv : v < n) (w0 : World) (h : Gr w0 p n B l) (J Jx : List (HE l v) → World → Prop) (W : World) (hJ : AbidesFrom W.heap.size J)
    (hY : ∀ pre x W1, J pre W1 → pre.length < (inc l v).length → YieldAt Fence.wide (N - 1) Try.prog L #[.int .i64 ((x.1 / 2 : Nat) : Int), .int .i64 ((eQ l x.1 : Nat) : Int)] W1 fun e W' =>
      (e = .returned (.bool true) ∧ J (pre ++ [x]) W' ∧ KpA w0.heap.size [bg, bv] W1 W') ∨ (e = .returned (.bool false) ∧ Jx (pre ++ [x]) W'))
    (hW : Below w0.heap.size w0 W) (cg : W.cell? ⟨bg, 0, none⟩ = some (.pointer (some ⟨p.g, 0, none⟩))) (cv : W.cell? ⟨bv, 0, none⟩ = some (.int .i64 (v : Int))) (h0 : J [] W) :
    CallsIn Fence.wide N Try.prog 50 #[.func (.yield L) #[] #[], .pointer (some ⟨bg, 0, none⟩), .pointer (some ⟨bv, 0, none⟩)] W fun e W' => (∃ v, e = .returned v) ∧
      ((∃ ys, ys = heL l v ∧ J ys W') ∨ (∃ pre, pre <+: heL l v ∧ Jx pre W')) := by
  have HG := hide h
  have HY := hide hY
  have HJ := hide hJ
  have HW := hide hW
  have H0 := hide h0
  have HAt := hide (graAt W v p n B l (h.fresh hW) hv)
  clear h hY hJ hW h0
  refine callsIn_of_wp Try.func50 rfl trivial ?_ rfl
  simp only [Try.ntmps50, List.size_toArray, List.length_cons, List.length_nil, Nat.reduceAdd, Nat.reduceSub, Array.replicate_succ, Array.replicate_zero, List.push_toArray, List.append_toArray, List.nil_append, List.cons_append]
  gi_wp2_with fail
  refine ⟨trivial, (callsIn_wide.2 HAt.out).mono ?_⟩
  rintro e w1 ⟨⟨o, c, rfl, ho⟩, kd, rfl⟩
  have hd : (heL l v).length = (inc l v).length := heL_len l v
  generalize hdd : (inc l v).length = d at *
  have hd8 : d ≤ 32768 := by
    have := stt_end (l := l) v
    have := stt_le2 (l := l) (v + 1)
    have := HG.out.ok.2.2
    omega
  have HDD := hide hdd
  have HD := hide hd
  have HO := hide ho
  clear hdd hd ho HAt
  gi_wp2_with fail
  gi_loopw [12] (fun i wr => ∃ k : Nat, k ≤ d ∧ i = .int .i64 k ∧ J ((heL l v).take k) wr ∧ KpA w0.heap.size [bg, bv] W wr) (fun i _ => d - (intOf i).toNat)
  case atStart => exact ⟨0, Nat.zero_le _, rfl, HJ.out _ _ _ none H0.out (grown_drewN W kd) (fun _ h => by cases h), ⟨(Below.refl _ _).drewN kd, fun _ _ => rfl⟩⟩
  case round =>
    obtain ⟨k, hk, rfl, hJs, hK⟩ := hrel
    have HJs := hide hJs
    have HK := hide hK
    have cg' := (cell_of_heap (p := ⟨bg, 0, none⟩) (HK.out.2 bg (by simp))).trans cg
    have cv' := (cell_of_heap (p := ⟨bv, 0, none⟩) (HK.out.2 bv (by simp))).trans cv
    have hG := HG.out.fresh (HW.out.trans HK.out.1)
    clear hJs hK
    by_cases hlt : k < d
    · obtain ⟨j, hj⟩ : ∃ j, (inc l v)[k]? = some j := ⟨_, List.getElem?_eq_getElem (by rw [HDD.out]; exact hlt)⟩
      obtain ⟨hj1, hj2⟩ := inc_get hj
      have hjm : j / 2 < l.length := by omega
      obtain ⟨b, q, e1, hbl, e0, e1', e2⟩ := hG.rd.edge (j / 2) hjm rfl
      obtain ⟨x1, x2, x3, x4, x5⟩ := hG.ok.1.at_ hjm
      have c1 := hG.cells.2.1
      rw [e1] at c1
      obtain ⟨xe, hxe, hxk⟩ := heL_get hj
      have htk : (heL l v).take (k + 1) = (heL l v).take k ++ [xe] := by
        rw [List.take_add_one, hxk]; rfl
      have cl : wr.cell? ⟨p.bl, o + k, none⟩ = some (.int .i64 ((j / 2 : Nat) : Int)) := by
        rw [HO.out (by omega)]
        obtain ⟨h1, h2, h3, h4, h5, h6, lst, h7, h8⟩ := hG
        have := h8.hl.int (i := stt (2 * l.length) (eP l) v + k) (by
          have := stt_end (l := l) v
          have := stt_le2 (l := l) (v + 1)
          rw [HDD.out] at *
          omega)
        rw [h7.row hj] at this
        exact this
      rw [x1] at e0
      rw [x2] at e1'
      have hl16 := hG.ok.2.2
      have hn4 := hG.ok.2.1
      have HTK := hide htk
      have HXK := hide hxk
      have cg1 := hG.cells.1
      obtain ⟨m, hm⟩ : ∃ m, m = l.length := ⟨_, rfl⟩
      obtain ⟨t, ht⟩ : ∃ t, t = l[j / 2].2.2 := ⟨_, rfl⟩
      obtain ⟨i, hi⟩ : ∃ i, i = j / 2 := ⟨_, rfl⟩
      rw [← ht] at e2
      rw [← hm] at c1
      have hjm' : i < m := by omega
      have hm16 : m ≤ 16384 := by omega
      have hx : eQ l j < n := (hG.ok.1.P_lt hj1).2.1
      have hcs : (eU l (j / 2) = v ∧ eV l (j / 2) = eQ l j ∧ eQ l j ≠ v) ∨ (eV l (j / 2) = v ∧ eU l (j / 2) = eQ l j ∧ eQ l j ≠ v) := by
        unfold eP at hj2
        unfold eQ
        by_cases hpar : j % 2 = 0
        · rw [if_pos hpar] at hj2 ⊢
          exact .inl ⟨hj2, rfl, by omega⟩
        · rw [if_neg hpar] at hj2 ⊢
          exact .inr ⟨hj2, rfl, by omega⟩
      rw [← hi] at e0 e1' e2 cl
      have HTK := hide htk
      have hY1 := HY.out ((heL l v).take k) xe
      have hlen : ((heL l v).take k).length < d := by rw [List.length_take, HD.out]; omega
      rw [hxe, ← hi] at hY1
      generalize hq : eQ l j = x at *
      have HYX := hide (fun W1 h => hY1 W1 h hlen)
      have hJa := HJ.out
      clear hq htk hxk hxe hY1 hlen x1 x2 x3 x4 x5 hj hj1 hj2 ht hm hjm hbl e1 hG
      have hdw : d - k = d - (k + 1) + 1 := by omega
      have hcl8 : k < 32768 := by omega
      rcases hcs with ⟨g1, g2, hne⟩ | ⟨g1, g2, hne⟩
      all_goals (rw [← hi] at g1 g2; have hne1 : ((x : Int) == (v : Int)) = false := beq_nat_false hne)
      · rw [g1] at e0
        rw [g2] at e1'
        clear g1 g2 HXK hi
        obtain ⟨fn, tmps, assign, body, hy, hR⟩ := HYX.out (wr.alloc (.cells #[.int .i64 (v : Int), .int .i64 (x : Int), .int .i64 t] 48)) (hJa _ _ _ none HJs.out (World.grownBy_alloc _ _ _) (fun _ h => by cases h))
        try dsimp only at hy
        have HR := hide hR
        have cv2 : (wr.alloc (.cells #[.int .i64 (v : Int), .int .i64 (x : Int), .int .i64 t] 48)).cell? ⟨bv, 0, none⟩ = some (.int .i64 (v : Int)) := (World.cell?_of_block (Below.heap_alloc _ _ _ (World.block_lt_of_cell? _ _ cv'))).trans cv'
        clear hR
        gi_wp2_with fail
        refine HR.out.mono ?_
        rintro e W3 (⟨rfl, hJ3, hk3⟩ | ⟨rfl, hJx3⟩)
        · rw [← HTK.out] at hJ3
          have HJ3 := hide hJ3
          have HK3 := hide hk3
          clear hJ3 hk3
          gi_wp2_with fail
          go_roundw
          case rel => exact ⟨k + 1, by omega, by go_num, HJ3.out, (HK.out.t ⟨(Below.refl _ _).alloc (Nat.le_trans HW.out.size (HK.out.1.size)) _, fun b hb => Below.heap_alloc _ _ _ (by
              have h1 := World.block_lt_of_cell? _ _ cg'
              have h2 := World.block_lt_of_cell? _ _ cv'
              simp at h1 h2 hb
              rcases hb with rfl | rfl
              · exact h1
              · exact h2)⟩).t HK3.out⟩
          case measure => simp [intOf]; omega
        · rw [← HTK.out] at hJx3
          have HJx3 := hide hJx3
          clear hJx3
          gi_wp2_with fail
          refine bodyPost_ret (results_none rfl _ _ _) rfl ?_
          exact ⟨⟨_, rfl⟩, .inr ⟨_, List.take_prefix _ _, HJx3.out⟩⟩
      · rw [g1] at e1'
        rw [g2] at e0
        clear g1 g2 HXK hi
        obtain ⟨fn, tmps, assign, body, hy, hR⟩ := HYX.out (wr.alloc (.cells #[.int .i64 (x : Int), .int .i64 (v : Int), .int .i64 t] 48)) (hJa _ _ _ none HJs.out (World.grownBy_alloc _ _ _) (fun _ h => by cases h))
        try dsimp only at hy
        have HR := hide hR
        have cv2 : (wr.alloc (.cells #[.int .i64 (x : Int), .int .i64 (v : Int), .int .i64 t] 48)).cell? ⟨bv, 0, none⟩ = some (.int .i64 (v : Int)) := (World.cell?_of_block (Below.heap_alloc _ _ _ (World.block_lt_of_cell? _ _ cv'))).trans cv'
        clear hR
        gi_wp2_with fail
        refine HR.out.mono ?_
        rintro e W3 (⟨rfl, hJ3, hk3⟩ | ⟨rfl, hJx3⟩)
        · rw [← HTK.out] at hJ3
          have HJ3 := hide hJ3
          have HK3 := hide hk3
          clear hJ3 hk3
          gi_wp2_with fail
          go_roundw
          case rel => exact ⟨k + 1, by omega, by go_num, HJ3.out, (HK.out.t ⟨(Below.refl _ _).alloc (Nat.le_trans HW.out.size (HK.out.1.size)) _, fun b hb => Below.heap_alloc _ _ _ (by
              have h1 := World.block_lt_of_cell? _ _ cg'
              have h2 := World.block_lt_of_cell? _ _ cv'
              simp at h1 h2 hb
              rcases hb with rfl | rfl
              · exact h1
              · exact h2)⟩).t HK3.out⟩
          case measure => simp [intOf]; omega
        · rw [← HTK.out] at hJx3
          have HJx3 := hide hJx3
          clear hJx3
          gi_wp2_with fail
          refine bodyPost_ret (results_none rfl _ _ _) rfl ?_
          exact ⟨⟨_, rfl⟩, .inr ⟨_, List.take_prefix _ _, HJx3.out⟩⟩
    · obtain rfl : k = d := by omega
      gi_wp2
      go_end0
      exact ⟨⟨_, rfl⟩, .inl ⟨_, rfl, by have := HJs.out; rwa [List.take_of_length_le (by rw [HD.out]; omega)] at this⟩⟩
set_option maxRecDepth 100000 in
set_option maxHeartbeats 1000000 in
/-- The closure, where there are no edges. -/
theorem graAround1_no (N : Nat) (hN : 1 ≤ N) (L bg bv : Nat) (g : Option Addr) (v : Int) {α : Type} (J : List α → World → Prop) (W : World) (hJ : AbidesFrom W.heap.size J)
    (hat : ∃ k, Calls Try.prog 45 #[.pointer g, .int .i64 v] W fun e w' => e = .returned (.slice none 0 0) ∧ w' = W.drewN k)
    (cg : W.cell? ⟨bg, 0, none⟩ = some (.pointer g)) (cv : W.cell? ⟨bv, 0, none⟩ = some (.int .i64 v)) (h0 : J [] W) :
    CallsIn Fence.wide N Try.prog 50 #[.func (.yield L) #[] #[], .pointer (some ⟨bg, 0, none⟩), .pointer (some ⟨bv, 0, none⟩)] W fun e W' => (∃ v, e = .returned v) ∧ J [] W' := by
  have HJ := hide hJ
  have H0 := hide h0
  obtain ⟨kd, hat⟩ := hat
  have HAt := hide hat
  clear hJ h0 hat
  refine callsIn_of_wp Try.func50 rfl trivial ?_ rfl
  simp only [Try.ntmps50, List.size_toArray, List.length_cons, List.length_nil, Nat.reduceAdd, Nat.reduceSub, Array.replicate_succ, Array.replicate_zero, List.push_toArray, List.append_toArray, List.nil_append, List.cons_append]
  gi_wp2_with fail
  refine ⟨trivial, (callsIn_wide.2 HAt.out).mono ?_⟩
  rintro e w1 ⟨rfl, rfl⟩
  gi_wp2_with fail
  gi_loopw [12] (fun i wr => i = .int .i64 0 ∧ wr = W.drewN kd) (fun _ _ => 0)
  case atStart => exact ⟨rfl, rfl⟩
  case round =>
    obtain ⟨rfl, rfl⟩ := hrel
    gi_wp2
    go_end0
    exact ⟨⟨_, rfl⟩, HJ.out _ _ _ none H0.out (grown_drewN W kd) (fun _ h => by cases h)⟩
/-- What Around hands back, as the laws of a range over a function want it. -/
theorem graAround_stops (N : Nat) (hN : 1 ≤ N) (bg bv : Nat) (p : GLoc) (n B : Nat) (l : List (Int × Int × Int)) (v : Int) (w0 w : World) (h : Gr w0 p n B l) (hw : Below w0.heap.size w0 w)
    (cg : w.cell? ⟨bg, 0, none⟩ = some (.pointer (some ⟨p.g, 0, none⟩))) (cv : w.cell? ⟨bv, 0, none⟩ = some (.int .i64 v)) :
    SeqStopsK Fence.wide N Try.prog 50 #[.pointer (some ⟨bg, 0, none⟩), .pointer (some ⟨bv, 0, none⟩)] (fun x : HE l v.toNat => #[.int .i64 ((x.1 / 2 : Nat) : Int), .int .i64 ((eQ l x.1 : Nat) : Int)])
      (KpA w0.heap.size [bg, bv]) (fun ys => ys.map Subtype.val = hes n l v) (fun pre => pre.map Subtype.val <+: hes n l v) (hes n l v).length w := fun L J Jx W hW hJ hJx hY h0 => by
  have cg' := (hW.cell (p := ⟨bg, 0, none⟩) (World.block_lt_of_cell? _ _ cg)).trans cg
  have cv' := (hW.cell (p := ⟨bv, 0, none⟩) (World.block_lt_of_cell? _ _ cv)).trans cv
  have hw' : Below w0.heap.size w0 W := hw.trans (hW.mono hw.size)
  cases hv : inB n v
  · have e : hes n l v = [] := by unfold hes; rw [hv]; rfl
    refine (graAround1_no N hN L bg bv _ v J W hJ ⟨0, (graAt_no W v p n B l (h.fresh hw') hv).mono fun e w' ⟨he, hw⟩ => ⟨he, hw.symm⟩⟩ cg' cv' h0).mono fun e' W' ⟨he, hj⟩ => ⟨he, .inl ⟨_, by rw [e]; rfl, hj⟩⟩
  · obtain ⟨u, rfl⟩ := Int.eq_ofNat_of_zero_le (show 0 ≤ v by simp [inB] at hv; omega)
    have hu : u < n := inB_lt hv
    rw [hes_nat hu]
    refine (graAround1_in N hN L bg bv p n B l u hu w0 h J Jx W hJ (fun pre x W1 h1 h2 => hY pre x W1 h1 (by rw [hes_nat hu]; exact h2)) hw' cg' cv' h0).mono ?_
    rintro e W' ⟨he, ⟨ys, rfl, hj⟩ | ⟨pre, hp, hj⟩⟩
    · exact ⟨he, .inl ⟨_, heL_val l u, hj⟩⟩
    · exact ⟨he, .inr ⟨pre, by rw [← heL_val l u]; exact hp.map _, hj⟩⟩
end Go.Proofs.Ytpgkhmjlbaoagaa
