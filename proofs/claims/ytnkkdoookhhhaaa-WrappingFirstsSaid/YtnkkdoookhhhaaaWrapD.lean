/- wrapping: join. -/
import Derived.Test.YtnkkdoookhhhaaaWrapC
import Derived.Test.YtnkkdoookhhhaaaInfo
import Derived.Laws.StructEq
import Derived.ChangeKeysEq
namespace Go.Proofs.Ytnkkdoookhhhaaa
open Go.RowKit
set_option linter.unusedVariables false

theorem Fr.pf {w w' : World} {p : TLoc} (k : Fr [p.bp, p.bf] w w') : Fr p.bl w w' := k.mono (by simp [TLoc.bl])
theorem run_neq_pair (a b c d : Int) (W : World) : (binOp .neq 69 (.agg #[.int .i64 a, .int .i64 b]) (.agg #[.int .i64 c, .int .i64 d])).run Try.prog W = .ok (.bool (!((a == c) && (b == d)))) W := by
  obtain ⟨i0, hi, hz0, hz1, hz2⟩ := info_parts int_info0
  have hc : Try.prog.cellsOf 3 = 1 := by kernel_rfl
  have e1 : ∀ W, (Op.equalIn 9999 3 (.int .i64 a) (.int .i64 c)).run Try.prog W = .ok (a == c) W := fun W => run_equalIn_int W 9998 3 .i64 .i64 a c Try.underlying3
  have e2 : ∀ W, (Op.equalIn 9999 3 (.int .i64 b) (.int .i64 d)).run Try.prog W = .ok (b == d) W := fun W => run_equalIn_int W 9998 3 .i64 .i64 b d Try.underlying3
  rw [run_neq_struct, run_equalIn_array W 9999 _ _ Try.underlying69 hi, hc]
  simp [Op.eqItems, List.range_succ, part, go_sem, Try.underlying3]
  by_cases h1 : a = c <;> by_cases h2 : b = d <;> simp [h1, h2]
set_option maxRecDepth 100000 in
set_option maxHeartbeats 16000000 in
theorem torJoin0 (w : World) (q : Int) (v d x y x' y' b e : Nat) (wx wy : Int) (p : TLoc) (W H n M : Nat) (E : List Nat) (up size rep ρ least : Nat → Nat) (F : Nat → Int) (V : Nat → Bool) (ax dn : Bool) (pX pY : Nat → Int)
    (h1 : TS w p W H n up F size V ax dn (sets n (tL W H E))) (h2 : TP W H n E up size rep ρ least M F V ax dn pX pY)
    (q0 : 0 ≤ q) (q8 : q ≤ 8192) (hq1 : q / 2 = (v : Int)) (hq2 : q % 2 = (d : Int)) (hd2 : d < 2) (hv : v < n) (hx : x < W) (hy : y < H) (hvx : (v : Int) % (W : Int) = (x : Int)) (hvy : (v : Int) / (W : Int) = (y : Int))
    (hwx : 0 ≤ wx ∧ wx ≤ 1) (hwy : 0 ≤ wy ∧ wy ≤ 1) (hd : (d = 0 ∧ wx = 1 ∧ wy = 0) ∨ (d = 1 ∧ wx = 0 ∧ wy = 1)) (hy' : ((y : Int) + wy) % (H : Int) = (y' : Int)) (hx' : ((x : Int) + wx) % (W : Int) = (x' : Int)) (hb : (y' : Int) * (W : Int) + (x' : Int) = (b : Int)) (hbn : b < n)
    (he : e < 2 * n) (hes : tS e = v) (het : tT W H e = b) (hex : tX e = wx) (hey : tY e = wy) :
    Calls Try.prog 30 #[.pointer (some ⟨p.g, 0, none⟩), .int .i64 q] w
      fun r w' => r = .returned (.bool (!(tL W H E v == tL W H E b))) ∧ Tor w' p W H n (E ++ [e]) ∧ Fr p.bl w w' := by
  have nb := h1.nb
  have nW := h1.nW
  have nH := h1.nH
  obtain ⟨nW1, nW2⟩ := nW
  obtain ⟨nH1, nH2⟩ := nH
  have hbl := hide h1.lt
  have t1 : q.tdiv 2 = (v : Int) := by rw [Int.tdiv_eq_ediv_of_nonneg q0]; exact hq1
  have t2 : q.tmod 2 = (d : Int) := by rw [Int.tmod_eq_emod_of_nonneg q0]; exact hq2
  have t3 : (v : Int).tmod (W : Int) = (x : Int) := by rw [Int.tmod_eq_emod_of_nonneg (by omega)]; exact hvx
  have t4 : (v : Int).tdiv (W : Int) = (y : Int) := by rw [Int.tdiv_eq_ediv_of_nonneg (by omega)]; exact hvy
  have t5 : ((y : Int) + wy).tmod (H : Int) = (y' : Int) := by rw [Int.tmod_eq_emod_of_nonneg (by omega)]; exact hy'
  have t6 : ((x : Int) + wx).tmod (W : Int) = (x' : Int) := by rw [Int.tmod_eq_emod_of_nonneg (by omega)]; exact hx'
  have i1 : IntKind.i64.wrap (x : Int) = x := IntWalk.i64_in _ (by omega)
  have i2 : IntKind.i64.wrap (y : Int) = y := IntWalk.i64_in _ (by omega)
  have i3 : IntKind.i64.wrap ((y : Int) + wy) = y + wy := IntWalk.i64_in _ (by omega)
  have i4 : IntKind.i64.wrap ((x : Int) + wx) = x + wx := IntWalk.i64_in _ (by omega)
  have i5 : IntKind.i64.wrap (b : Int) = b := IntWalk.i64_in _ (by omega)
  have i6 : IntKind.i64.wrap ((y' : Int) * (W : Int)) = y' * W := IntWalk.i64_in _ (by
    have : (0 : Int) ≤ (y' : Int) * (W : Int) := Int.mul_nonneg (by omega) (by omega)
    omega)
  have i7 : IntKind.i64.wrap (y' : Int) = y' := IntWalk.i64_in _ (by
    have : (y' : Int) < H := by rw [← hy']; exact Int.emod_lt_of_pos _ (by omega)
    omega)
  have i8 : IntKind.i64.wrap (x' : Int) = x' := IntWalk.i64_in _ (by
    have : (x' : Int) < W := by rw [← hx']; exact Int.emod_lt_of_pos _ (by omega)
    omega)
  obtain ⟨c0, c1, c2, c3, _⟩ := h1.cells
  have l1 := h1.hg.lt
  have H1 := hide h1
  have H2 := hide h2
  have HE := hide (And.intro he (And.intro hes (And.intro het (And.intro hex hey))))
  have HD := hide hd
  have hdi : (d : Int) < 2 := by omega
  clear h1 h2 he hes het hex hey hd
  go_enter Try.func30, Try.ntmps30
  go_wp2_with fail
  go_quiet (fail)
  have hT0 := H1.out.drewN nq
  have hF0 : Fr p.bl w (w.drewN nq) := (Fr.refl _ w).drewN nq
  have hS0 : w.heap.size = (w.drewN nq).heap.size := rfl
  rw [hS0] at hbl
  have hWX : w.heap.size ≤ (w.drewN nq).heap.size := Nat.le_refl _
  clear hS0 c0 c1 c2 c3 l1
  generalize w.drewN nq = w0 at *
  obtain ⟨c0, c1, c2, c3, _⟩ := hT0.cells
  have l1 := hT0.hg.lt
  have hz := Blk.new w0 69 (two 0 0)
  have hzd := hz.set_ d (.int .i64 1)
  have hww : (two 0 0).setIfInBounds d (.int .i64 1) = two wx wy := by
    rcases HD.out with ⟨rfl, rfl, rfl⟩ | ⟨rfl, rfl, rfl⟩ <;> rfl
  rw [hww] at hzd
  have fzd : (w0.alloc (.cells #[.int .i64 0, .int .i64 0] 69)).frozen? ⟨w0.heap.size, d, none⟩ = false := hz.frozen d
  have cz : (w0.alloc (.cells #[.int .i64 0, .int .i64 0] 69)).cell? ⟨w0.heap.size, d, none⟩ = some (.int .i64 0) := by
    refine (hz.cell d).trans ?_
    rcases HD.out with ⟨rfl, _⟩ | ⟨rfl, _⟩ <;> rfl
  have hww2 : ([Value.int .i64 0, Value.int .i64 0].set d (.int .i64 1)).toArray = two wx wy := by
    rcases HD.out with ⟨rfl, rfl, rfl⟩ | ⟨rfl, rfl, rfl⟩ <;> rfl
  have HWW := hide hww2
  have HT0 := hide hT0
  have HF0 := hide hF0
  clear hT0 hz hzd hww hF0 hww2
  go_wp2_with fail
  rw [HWW.out]
  clear HWW cz fzd c0 c1 c2 c3 l1
  have hT1 := HT0.out.fr ((Fr.refl [] w0).alloc (.cells (two wx wy) 69)) (by simp)
  have hX1 := Blk.new w0 69 (two wx wy)
  have hF1 := HF0.out.alloc (.cells (two wx wy) 69)
  clear HT0 HF0
  generalize w0.alloc (.cells (two wx wy) 69) = w1 at *
  generalize hXX : w0.heap.size = X at *
  clear hXX
  obtain ⟨c0, c1, c2, c3, _⟩ := hT1.cells
  have x0 : w1.cell? ⟨X, 0, none⟩ = some (.int .i64 wx) := (hX1.cell 0).trans rfl
  have x1 : w1.cell? ⟨X, 1, none⟩ = some (.int .i64 wy) := (hX1.cell 1).trans rfl
  have HT1 := hide hT1
  have HX1 := hide hX1
  have HF1 := hide hF1
  clear hT1 hX1 hF1
  go_quiet (fail)
  have hT2 := HT1.out.drewN nq
  have hX2 := HX1.out.drewN nq
  have hF2 := HF1.out.drewN nq
  clear HT1 HX1 HF1 c0 c1 c2 c3 x0 x1
  generalize w1.drewN nq = w2 at *
  have HT2 := hide hT2
  have HX2 := hide hX2
  have HF2 := hide hF2
  have HQ := hide hq1
  clear hT2 hX2 hF2 t1 t2 t3 t4 t5 t6 i1 i2 i3 i4 i5 i6 i7 i8 hq1 hq2 hvx hvy hy' hx' hb
  go_wp2_with fail
  refine (wrFind _ v p W H n _ M _ _ _ _ _ _ _ _ _ _ HT2.out H2.out.st.fo H2.out.fm H2.out.root H2.out.bnd hv).mono ?_
  rintro r w3 ⟨rfl, up3, F3, hT3, hfo3, hfm3, hf3⟩
  have HP3 := hide (H2.out.find hfo3 hfm3)
  have hX3 := HX2.out.fr hf3 (by have a1 := hbl.out p.bp (by simp [TLoc.bl]); have a2 := hbl.out p.bf (by simp [TLoc.bl]); simp; omega)
  have hF3 := HF2.out.trans hf3.pf
  have HT3 := hide hT3
  have HX3 := hide hX3
  have HF3 := hide hF3
  clear hfo3 hfm3 hT3 hf3 hX3 hF3 HT2 HX2 HF2
  go_wp2_with fail
  have hw4 : w3.alloc (.cells #[.int .i64 (pX v), .int .i64 (pY v)] 69) = w3.alloc (.cells (two (pX v) (pY v)) 69) := rfl
  rw [hw4]
  clear hw4
  have hT4 := HT3.out.fr ((Fr.refl [] w3).alloc (.cells (two (pX v) (pY v)) 69)) (by simp)
  have hA4 := Blk.new w3 69 (two (pX v) (pY v))
  have hX4 := HX3.out.alloc (.cells (two (pX v) (pY v)) 69)
  have hF4 := HF3.out.alloc (.cells (two (pX v) (pY v)) 69)
  have hXA : X < w3.heap.size := HX3.out.lt
  clear HT3 HX3 HF3
  generalize w3.alloc (.cells (two (pX v) (pY v)) 69) = w4 at *
  generalize hAA : w3.heap.size = A at *
  clear hAA
  have HA4 := hide hA4
  have HX4 := hide hX4
  have HF4 := hide hF4
  refine (wrFind _ b p W H n _ M _ _ _ _ _ _ _ _ _ _ hT4 HP3.out.st.fo HP3.out.fm HP3.out.root HP3.out.bnd hbn).mono ?_
  clear hT4 hA4 hX4 hF4
  rintro r w5 ⟨rfl, up5, F5, hT5, hfo5, hfm5, hf5⟩
  have HP5 := hide (HP3.out.find hfo5 hfm5)
  have a1 := hbl.out p.bp (by simp [TLoc.bl])
  have a2 := hbl.out p.bf (by simp [TLoc.bl])
  have hX5 := HX4.out.fr hf5 (by simp; omega)
  have hA5 := HA4.out.fr hf5 (by simp; omega)
  have hF5 := HF4.out.trans hf5.pf
  have hw6 : w5.alloc (.cells #[.int .i64 (pX b), .int .i64 (pY b)] 69) = w5.alloc (.cells (two (pX b) (pY b)) 69) := rfl
  have hT6 := hT5.fr ((Fr.refl [] w5).alloc (.cells (two (pX b) (pY b)) 69)) (by simp)
  have hB6 := Blk.new w5 69 (two (pX b) (pY b))
  have hX6 := hX5.alloc (.cells (two (pX b) (pY b)) 69)
  have hA6 := hA5.alloc (.cells (two (pX b) (pY b)) 69)
  have hF6 := hF5.alloc (.cells (two (pX b) (pY b)) 69)
  have hAB : A < w5.heap.size := hA5.lt
  have x0 : (w5.alloc (.cells #[.int .i64 (pX b), .int .i64 (pY b)] 69)).cell? ⟨X, 0, none⟩ = some (.int .i64 wx) := (hX6.cell 0).trans rfl
  have x1 : (w5.alloc (.cells #[.int .i64 (pX b), .int .i64 (pY b)] 69)).cell? ⟨X, 1, none⟩ = some (.int .i64 wy) := (hX6.cell 1).trans rfl
  have y0 : (w5.alloc (.cells #[.int .i64 (pX b), .int .i64 (pY b)] 69)).cell? ⟨A, 0, none⟩ = some (.int .i64 (pX v)) := (hA6.cell 0).trans rfl
  have y1 : (w5.alloc (.cells #[.int .i64 (pX b), .int .i64 (pY b)] 69)).cell? ⟨A, 1, none⟩ = some (.int .i64 (pY v)) := (hA6.cell 1).trans rfl
  have hpb : -4096 ≤ pX v ∧ pX v ≤ 4096 ∧ -4096 ≤ pY v ∧ pY v ≤ 4096 := by
    have r1 := H2.out.bnd v (rep v) hv (H2.out.st.fo.rep_lt v hv) (H2.out.st.fo.rep_rep hv).symm
    have r2 := H2.out.bnd (rep v) v (H2.out.st.fo.rep_lt v hv) hv (H2.out.st.fo.rep_rep hv)
    have r3 := H2.out.root v hv
    omega
  have hpb2 : -4096 ≤ pX b ∧ pX b ≤ 4096 ∧ -4096 ≤ pY b ∧ pY b ≤ 4096 := by
    have r1 := H2.out.bnd b (rep b) hbn (H2.out.st.fo.rep_lt b hbn) (H2.out.st.fo.rep_rep hbn).symm
    have r2 := H2.out.bnd (rep b) b (H2.out.st.fo.rep_lt b hbn) hbn (H2.out.st.fo.rep_rep hbn)
    have r3 := H2.out.root b hbn
    omega
  obtain ⟨p1, p2, p3, p4⟩ := hpb
  obtain ⟨p5, p6, p7, p8⟩ := hpb2
  obtain ⟨wx1, wx2⟩ := hwx
  obtain ⟨wy1, wy2⟩ := hwy
  have HT6 := hide hT6
  have HX6 := hide hX6
  have HA6 := hide hA6
  have HB6 := hide hB6
  have HF6 := hide hF6
  clear hT5 hfo5 hfm5 hf5 hX5 hA5 hF5 hT6 hB6 hX6 hA6 hF6 hw6 HX4 HA4 HF4
  by_cases hre : rep v = rep b
  · have hbe : ((rep v : Int) == (rep b : Int)) = true := beq_nat_true hre
    have HRE := hide hre
    clear hre
    have hll : (tL W H E v == tL W H E b) = true := by
      rw [beq_iff_eq]
      exact (H2.out.st.same v b hv hbn).1 HRE.out
    have HLL := hide hll
    clear hll
    have hT7 := HT6.out.fr ((Fr.refl [] _).alloc (.cells (two (pX v + wx - pX b) (pY v + wy - pY b)) 69)) (by simp)
    have hR7 : Blk ((w5.alloc (.cells (two (pX b) (pY b)) 69)).alloc (.cells (two (pX v + wx - pX b) (pY v + wy - pY b)) 69)) (w5.heap.size + 1) 69 (two (pX v + wx - pX b) (pY v + wy - pY b)) := by
      have := Blk.new (w5.alloc (.cells (two (pX b) (pY b)) 69)) 69 (two (pX v + wx - pX b) (pY v + wy - pY b))
      simpa using this
    have hF7 := HF6.out.alloc (.cells (two (pX v + wx - pX b) (pY v + wy - pY b)) 69)
    have HT7 := hide hT7
    have HF7 := hide hF7
    have HR7 := hide hR7
    clear hT7 hF7 hR7
    by_cases hr0 : pX v + wx - pX b = 0 ∧ pY v + wy - pY b = 0
    · have hne := fun W => run_neq_pair (pX v + wx - pX b) (pY v + wy - pY b) 0 0 W
      have hq : (!((pX v + wx - pX b == 0) && (pY v + wy - pY b == 0))) = false := by simp [hr0.1, hr0.2]
      rw [hq] at hne
      have HR0 := hide hr0
      clear hr0 hq
      go_wp2_with fail
      go_ret
      have hs := (HP5.out.same HE.out.1 (by rw [HE.out.2.1, HE.out.2.2.1]; exact HRE.out) (q1 := false) (q2 := false) (by rw [HE.out.2.1, HE.out.2.2.1, HE.out.2.2.2.1]; simp [HR0.out.1]) (by rw [HE.out.2.1, HE.out.2.2.1, HE.out.2.2.2.2]; simp [HR0.out.2]))
      obtain ⟨hs, hL⟩ := hs
      rw [Bool.or_false, Bool.or_false, Bool.or_false, Bool.or_false, updb_same' rfl, updb_same' rfl] at hs
      exact ⟨ret_bool (by rw [HLL.out]; rfl), ⟨_, _, _, _, _, _, _, _, _, _, _, _, by rw [hL]; exact HT7.out, hs⟩, HF7.out⟩
    · have hne := fun W => run_neq_pair (pX v + wx - pX b) (pY v + wy - pY b) 0 0 W
      have hq : (!((pX v + wx - pX b == 0) && (pY v + wy - pY b == 0))) = true := by
        by_cases h1 : pX v + wx - pX b = 0
        · have h2 : ¬ pY v + wy - pY b = 0 := fun h2 => hr0 ⟨h1, h2⟩
          simp [h2]
        · simp [h1]
      rw [hq] at hne
      clear hr0 hq
      have hrn := H2.out.st.fo.rep_lt v hv
      go_wp2_with fail
      refine (wrMark _ (rep v) _ _ p W H n _ _ _ _ _ _ _ HT7.out hrn).mono ?_
      rintro r w8 ⟨rfl, hT8, hf8⟩
      have HT8 := hide hT8
      have HF8 := hide (HF7.out.trans hf8)
      clear hT8 hf8
      go_wp2_with fail
      go_ret
      have hs := (HP5.out.same HE.out.1 (by rw [HE.out.2.1, HE.out.2.2.1]; exact HRE.out) (q1 := (pX v + wx - pX b != 0)) (q2 := (pY v + wy - pY b != 0)) (by rw [HE.out.2.1, HE.out.2.2.1, HE.out.2.2.2.1]; simp) (by rw [HE.out.2.1, HE.out.2.2.1, HE.out.2.2.2.2]; simp))
      obtain ⟨hs, hL⟩ := hs
      rw [HE.out.2.1] at hs
      exact ⟨ret_bool (by rw [HLL.out]; rfl), ⟨_, _, _, _, _, _, _, _, _, _, _, _, by rw [hL]; exact HT8.out, hs⟩, HF8.out⟩
  · have hbe : ((rep v : Int) == (rep b : Int)) = false := beq_nat_false hre
    have HRE := hide hre
    clear hre
    go_wp2_with fail
    have hw7 : (w5.alloc (.cells #[.int .i64 (pX b), .int .i64 (pY b)] 69)).alloc (.cells #[.int .i64 (pX v + wx - pX b), .int .i64 (pY v + wy - pY b)] 69) = (w5.alloc (.cells (two (pX b) (pY b)) 69)).alloc (.cells (two (pX v + wx - pX b) (pY v + wy - pY b)) 69) := rfl
    rw [hw7]
    clear hw7
    have hT7 := HT6.out.fr ((Fr.refl [] _).alloc (.cells (two (pX v + wx - pX b) (pY v + wy - pY b)) 69)) (by simp)
    have hR7 : Blk ((w5.alloc (.cells (two (pX b) (pY b)) 69)).alloc (.cells (two (pX v + wx - pX b) (pY v + wy - pY b)) 69)) (w5.heap.size + 1) 69 (two (pX v + wx - pX b) (pY v + wy - pY b)) := by
      have := Blk.new (w5.alloc (.cells (two (pX b) (pY b)) 69)) 69 (two (pX v + wx - pX b) (pY v + wy - pY b))
      simpa using this
    have hF7 := HF6.out.alloc (.cells (two (pX v + wx - pX b) (pY v + wy - pY b)) 69)
    clear HT6 HX6 HA6 HB6 HF6 x0 x1 y0 y1
    generalize (w5.alloc (.cells (two (pX b) (pY b)) 69)).alloc (.cells (two (pX v + wx - pX b) (pY v + wy - pY b)) 69) = w7 at *
    generalize hDD : w5.heap.size + 1 = D at *
    have hXD : X < D := by omega
    obtain ⟨_, _, c2, c3, c4, c5, _, _, c8⟩ := hT7.cells
    have rvn := H2.out.st.fo.rep_lt v hv
    have rbn := H2.out.st.fo.rep_lt b hbn
    have z1 := hT7.hz.int rvn
    have z2 := hT7.hz.int rbn
    have HT7 := hide hT7
    have HR7 := hide hR7
    have HF7 := hide hF7
    clear hT7 hR7 hF7 hDD
    have hss1 : size (rep b) ≤ 4096 := by rw [H2.out.st.sz b hbn]; exact Nat.le_trans (cnt_le _ _) nb
    have hss2 : size (rep v) ≤ 4096 := by rw [H2.out.st.sz v hv]; exact Nat.le_trans (cnt_le _ _) nb
    have hll : (tL W H E v == tL W H E b) = false := by
      rw [beq_eq_false_iff_ne]
      exact fun e2 => HRE.out ((H2.out.st.same v b hv hbn).2 e2)
    have HLL := hide hll
    clear hll
    by_cases hsz : size (rep v) < size (rep b)
    · go_quiet (fail)
      have hT8 := HT7.out.drewN nq
      have hR8 := HR7.out.drewN nq
      have hF8 := HF7.out.drewN nq
      clear HT7 HR7 HF7 c2 c3 c4 c5 c8 z1 z2
      generalize w7.drewN nq = w8 at *
      have d0 : w8.cell? ⟨D, 0, none⟩ = some (.int .i64 (pX v + wx - pX b)) := (hR8.cell 0).trans rfl
      have d1 : w8.cell? ⟨D, 1, none⟩ = some (.int .i64 (pY v + wy - pY b)) := (hR8.cell 1).trans rfl
      have fd0 := hR8.frozen 0
      have fd1 := hR8.frozen 1
      have hR9 := (hR8.set_ 0 (.int .i64 (-(pX v + wx - pX b)))).set_ 1 (.int .i64 (-(pY v + wy - pY b)))
      have hfr9 : Fr [D] w8 ((w8.setCell ⟨D, 0, none⟩ (.int .i64 (-(pX v + wx - pX b)))).setCell ⟨D, 1, none⟩ (.int .i64 (-(pY v + wy - pY b)))) := ((Fr.refl [D] w8).setCell (p := ⟨D, 0, none⟩) (.inl (by simp)) _).setCell (p := ⟨D, 1, none⟩) (.inl (by simp)) _
      have hT9 := hT8.fr hfr9 (fun k hk hm => by have := hbl.out k hk; rw [List.mem_singleton.1 hm] at this; omega)
      have hF9 := hF8.trans_new hfr9 (fun k hk => .inr (by rw [List.mem_singleton.1 hk]; omega))
      have HR9 := hide hR9
      have HT9 := hide hT9
      have HF9 := hide hF9
      clear hT8 hR8 hF8 hR9 hT9 hF9 hfr9
      go_wp2_with fail
      have hR10 : Blk ((w8.setCell ⟨D, 0, none⟩ (.int .i64 (-(pX v + wx - pX b)))).setCell ⟨D, 1, none⟩ (.int .i64 (-(pY v + wy - pY b)))) D 69 (two (-(pX v + wx - pX b)) (-(pY v + wy - pY b))) := HR9.out
      clear HR9 d0 d1 fd0 fd1
      generalize (w8.setCell ⟨D, 0, none⟩ (.int .i64 (-(pX v + wx - pX b)))).setCell ⟨D, 1, none⟩ (.int .i64 (-(pY v + wy - pY b))) = w9 at *
      have hj := HP5.out.join HE.out.1 (by rw [HE.out.2.1, HE.out.2.2.1]; exact HRE.out) (R := rep b) (O := rep v) (rx := -(pX v + wx - pX b)) (ry := -(pY v + wy - pY b)) (.inr (by rw [HE.out.2.1, HE.out.2.2.1, HE.out.2.2.2.1, HE.out.2.2.2.2]; exact ⟨rfl, rfl, rfl, rfl⟩))
      have HJ := hide hj
      clear hj
      have hnRO : rep b ≠ rep v := fun e2 => HRE.out e2.symm
      have HRn := rbn
      have HOn := rvn
      generalize -(pX v + wx - pX b) = rx at *
      generalize -(pY v + wy - pY b) = ry at *
      have d0 : w9.cell? ⟨D, 0, none⟩ = some (.int .i64 rx) := (hR10.cell 0).trans rfl
      have d1 : w9.cell? ⟨D, 1, none⟩ = some (.int .i64 ry) := (hR10.cell 1).trans rfl
      have HR9 := hide hR10
      have s1 := hss1
      have s2 := hss2
      clear hR10 hbe hsz hss1 hss2 rbn rvn HRE
      generalize hRR : rep b = R at *
      generalize hOO : rep v = O at *
      clear hRR hOO
      have hRn := HRn
      have hOn := HOn
      obtain ⟨_, _, c2, c3, c4, c5, _, _, c8⟩ := HT9.out.cells
      have cu := HT9.out.hp.int hOn
      have cf0 := HT9.out.hf.intz (i := O * 2) (by omega)
      have cf1 := HT9.out.hf.intz (i := O * 2 + 1) (by omega)
      have fz := HT9.out.hp.frozen O
      have ff0 := HT9.out.hf.frozen (O * 2)
      have ff1 := HT9.out.hf.frozen (O * 2 + 1)
      have gp := HT9.out.gp
      have gf := HT9.out.gf
      have pf := HT9.out.pf
      have gp' := gp.symm
      have gf' := gf.symm
      have pf' := pf.symm
      have hDp : D ≠ p.bp := by omega
      have hDf : D ≠ p.bf := by omega
      go_region
      have hT10 := (((HT9.out.setUp O R).setFrom (O * 2) rx).setFrom (O * 2 + 1) ry).drew
      have hF10 := (((HF9.out.setCell (p := ⟨p.bp, O, none⟩) (.inl (by simp [TLoc.bl])) (.int .i64 (R : Int))).setCell (p := ⟨p.bf, O * 2, none⟩) (.inl (by simp [TLoc.bl])) (.int .i64 rx)).setCell (p := ⟨p.bf, O * 2 + 1, none⟩) (.inl (by simp [TLoc.bl])) (.int .i64 ry)).drew
      clear c2 c3 c4 c5 c8 cu cf0 cf1 fz ff0 ff1 d0 d1 HT9 HF9 HR9
      generalize (((w9.setCell ⟨p.bp, O, none⟩ (.int .i64 (R : Int))).setCell ⟨p.bf, O * 2, none⟩ (.int .i64 rx)).setCell ⟨p.bf, O * 2 + 1, none⟩ (.int .i64 ry)).drew = w10 at *
      obtain ⟨_, _, _, _, c4, _⟩ := hT10.cells
      have z1 := hT10.hz.int hRn
      have z2 := hT10.hz.int hOn
      have fz := hT10.hz.frozen R
      have gz := hT10.gz
      have gz' := gz.symm
      have HT10 := hide hT10
      have HF10 := hide hF10
      clear hT10 hF10
      go_wp2_with fail
      go_region
      have hT11 := (HT10.out.setSize R (size R + size O)).drew
      have hF11 := (HF10.out.setCell (p := ⟨p.bz, R, none⟩) (.inl (by simp [TLoc.bl])) (.int .i64 ((size R + size O : Nat) : Int))).drew
      have es : ((size R + size O : Nat) : Int) = (size R : Int) + (size O : Int) := Int.natCast_add _ _
      rw [es] at hT11 hF11
      clear es c4 z1 z2 fz HT10 HF10
      generalize (w10.setCell ⟨p.bz, R, none⟩ (.int .i64 ((size R : Int) + (size O : Int)))).drew = w11 at *
      obtain ⟨_, _, _, _, _, c5, _⟩ := hT11.cells
      have v0 := hT11.hw.bool (i := O * 2) (by omega)
      have v1 := hT11.hw.bool (i := O * 2 + 1) (by omega)
      have HT11 := hide hT11
      have HF11 := hide hF11
      clear hT11 hF11
      go_wp2_with fail
      refine (wrMark _ R (V (O * 2)) (V (O * 2 + 1)) p W H n _ _ _ _ _ _ _ HT11.out hRn).mono ?_
      rintro r w12 ⟨rfl, hT12, hf12⟩
      have hF12 := HF11.out.trans hf12
      obtain ⟨_, _, _, _, _, _, _, _, c8⟩ := hT12.cells
      have fz8 := hT12.hg.frozen 8
      have HT12 := hide hT12
      have HF12 := hide hF12
      clear hT12 hF12 hf12 c5 v0 v1 HT11 HF11
      have hk1 : 1 ≤ sets n (tL W H E) := by obtain ⟨_, _, _, _, _, _, hc⟩ := HJ.out; omega
      have hk2 : sets n (tL W H E) ≤ 4096 := Nat.le_trans (cnt_le _ _) nb
      go_wp2_with fail
      go_ret
      obtain ⟨rep', ρ', least', pX', pY', hP, hc⟩ := HJ.out
      refine ⟨ret_bool (by rw [HLL.out]; rfl), ⟨_, _, rep', ρ', least', _, _, _, _, _, pX', pY', ?_, hP⟩, HF12.out.setCell (p := ⟨p.g, 8, none⟩) (.inl (by simp [TLoc.bl])) _⟩
      have e2 : (sets n (tL W H E) : Int) - 1 = (sets n (tL W H (E ++ [e])) : Nat) := by omega
      rw [e2]
      exact HT12.out.setHead 8 (.int .i64 _) rfl
    · go_quiet (fail)
      go_wp2_with fail
      have hT9 := HT7.out.drewN nq
      have hR10 := HR7.out.drewN nq
      have hF9 := HF7.out.drewN nq
      clear HT7 HR7 HF7 c2 c3 c4 c5 c8 z1 z2
      generalize w7.drewN nq = w9 at *
      have HT9 := hide hT9
      have HF9 := hide hF9
      clear hT9 hF9
      have hj := HP5.out.join HE.out.1 (by rw [HE.out.2.1, HE.out.2.2.1]; exact HRE.out) (R := rep v) (O := rep b) (rx := pX v + wx - pX b) (ry := pY v + wy - pY b) (.inl (by rw [HE.out.2.1, HE.out.2.2.1, HE.out.2.2.2.1, HE.out.2.2.2.2]; exact ⟨rfl, rfl, rfl, rfl⟩))
      have HJ := hide hj
      clear hj
      have hnRO : rep v ≠ rep b := HRE.out
      have HRn := rvn
      have HOn := rbn
      generalize pX v + wx - pX b = rx at *
      generalize pY v + wy - pY b = ry at *
      have d0 : w9.cell? ⟨D, 0, none⟩ = some (.int .i64 rx) := (hR10.cell 0).trans rfl
      have d1 : w9.cell? ⟨D, 1, none⟩ = some (.int .i64 ry) := (hR10.cell 1).trans rfl
      have HR9 := hide hR10
      have s1 := hss2
      have s2 := hss1
      clear hR10 hbe hsz hss1 hss2 rbn rvn HRE
      generalize hRR : rep v = R at *
      generalize hOO : rep b = O at *
      clear hRR hOO
      have hRn := HRn
      have hOn := HOn
      obtain ⟨_, _, c2, c3, c4, c5, _, _, c8⟩ := HT9.out.cells
      have cu := HT9.out.hp.int hOn
      have cf0 := HT9.out.hf.intz (i := O * 2) (by omega)
      have cf1 := HT9.out.hf.intz (i := O * 2 + 1) (by omega)
      have fz := HT9.out.hp.frozen O
      have ff0 := HT9.out.hf.frozen (O * 2)
      have ff1 := HT9.out.hf.frozen (O * 2 + 1)
      have gp := HT9.out.gp
      have gf := HT9.out.gf
      have pf := HT9.out.pf
      have gp' := gp.symm
      have gf' := gf.symm
      have pf' := pf.symm
      have hDp : D ≠ p.bp := by omega
      have hDf : D ≠ p.bf := by omega
      go_region
      have hT10 := (((HT9.out.setUp O R).setFrom (O * 2) rx).setFrom (O * 2 + 1) ry).drew
      have hF10 := (((HF9.out.setCell (p := ⟨p.bp, O, none⟩) (.inl (by simp [TLoc.bl])) (.int .i64 (R : Int))).setCell (p := ⟨p.bf, O * 2, none⟩) (.inl (by simp [TLoc.bl])) (.int .i64 rx)).setCell (p := ⟨p.bf, O * 2 + 1, none⟩) (.inl (by simp [TLoc.bl])) (.int .i64 ry)).drew
      clear c2 c3 c4 c5 c8 cu cf0 cf1 fz ff0 ff1 d0 d1 HT9 HF9 HR9
      generalize (((w9.setCell ⟨p.bp, O, none⟩ (.int .i64 (R : Int))).setCell ⟨p.bf, O * 2, none⟩ (.int .i64 rx)).setCell ⟨p.bf, O * 2 + 1, none⟩ (.int .i64 ry)).drew = w10 at *
      obtain ⟨_, _, _, _, c4, _⟩ := hT10.cells
      have z1 := hT10.hz.int hRn
      have z2 := hT10.hz.int hOn
      have fz := hT10.hz.frozen R
      have gz := hT10.gz
      have gz' := gz.symm
      have HT10 := hide hT10
      have HF10 := hide hF10
      clear hT10 hF10
      go_wp2_with fail
      go_region
      have hT11 := (HT10.out.setSize R (size R + size O)).drew
      have hF11 := (HF10.out.setCell (p := ⟨p.bz, R, none⟩) (.inl (by simp [TLoc.bl])) (.int .i64 ((size R + size O : Nat) : Int))).drew
      have es : ((size R + size O : Nat) : Int) = (size R : Int) + (size O : Int) := Int.natCast_add _ _
      rw [es] at hT11 hF11
      clear es c4 z1 z2 fz HT10 HF10
      generalize (w10.setCell ⟨p.bz, R, none⟩ (.int .i64 ((size R : Int) + (size O : Int)))).drew = w11 at *
      obtain ⟨_, _, _, _, _, c5, _⟩ := hT11.cells
      have v0 := hT11.hw.bool (i := O * 2) (by omega)
      have v1 := hT11.hw.bool (i := O * 2 + 1) (by omega)
      have HT11 := hide hT11
      have HF11 := hide hF11
      clear hT11 hF11
      go_wp2_with fail
      refine (wrMark _ R (V (O * 2)) (V (O * 2 + 1)) p W H n _ _ _ _ _ _ _ HT11.out hRn).mono ?_
      rintro r w12 ⟨rfl, hT12, hf12⟩
      have hF12 := HF11.out.trans hf12
      obtain ⟨_, _, _, _, _, _, _, _, c8⟩ := hT12.cells
      have fz8 := hT12.hg.frozen 8
      have HT12 := hide hT12
      have HF12 := hide hF12
      clear hT12 hF12 hf12 c5 v0 v1 HT11 HF11
      have hk1 : 1 ≤ sets n (tL W H E) := by obtain ⟨_, _, _, _, _, _, hc⟩ := HJ.out; omega
      have hk2 : sets n (tL W H E) ≤ 4096 := Nat.le_trans (cnt_le _ _) nb
      go_wp2_with fail
      go_ret
      obtain ⟨rep', ρ', least', pX', pY', hP, hc⟩ := HJ.out
      refine ⟨ret_bool (by rw [HLL.out]; rfl), ⟨_, _, rep', ρ', least', _, _, _, _, _, pX', pY', ?_, hP⟩, HF12.out.setCell (p := ⟨p.g, 8, none⟩) (.inl (by simp [TLoc.bl])) _⟩
      have e2 : (sets n (tL W H E) : Int) - 1 = (sets n (tL W H (E ++ [e])) : Nat) := by omega
      rw [e2]
      exact HT12.out.setHead 8 (.int .i64 _) rfl
end Go.Proofs.Ytnkkdoookhhhaaa
