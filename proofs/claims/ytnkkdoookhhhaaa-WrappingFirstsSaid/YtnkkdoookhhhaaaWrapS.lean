/- seepageref30: walked. -/
import Derived.Test.YtnkkdoookhhhaaaWrapR
namespace Go.Proofs.Ytnkkdoookhhhaaa
open Go.RowKit
set_option linter.unusedVariables false

/-- The lists of the flood, in memory: R is the result's block, K that of the lists. -/
structure FS (w wr : World) (R K bi bx bz n : Nat) (fi dx dy : Nat → Int) : Prop where
  hR : Blk wr R 75 #[.slice none 0 0, .slice none 0 0, .slice none 0 0]
  hK : Blk wr K 75 #[.slice (some ⟨bi, 0, none⟩) n n, .slice (some ⟨bx, 0, none⟩) n n, .slice (some ⟨bz, 0, none⟩) n n]
  hi : Blk wr bi 3 (arz n fi)
  hx : Blk wr bx 3 (arz n dx)
  hy : Blk wr bz 3 (arz n dy)
  ix : bi ≠ bx
  iy : bi ≠ bz
  xy : bx ≠ bz
  RK : R ≠ K
  fresh : w.heap.size ≤ R ∧ w.heap.size ≤ K ∧ w.heap.size ≤ bi ∧ w.heap.size ≤ bx ∧ w.heap.size ≤ bz
  bel : Below w.heap.size w wr
section
variable {w wr : World} {R K bi bx bz n : Nat} {fi dx dy : Nat → Int}
theorem FS.cells (h : FS w wr R K bi bx bz n fi dx dy) : wr.cell? ⟨K, 0, none⟩ = some (.slice (some ⟨bi, 0, none⟩) n n) ∧ wr.cell? ⟨K, 1, none⟩ = some (.slice (some ⟨bx, 0, none⟩) n n) ∧ wr.cell? ⟨K, 2, none⟩ = some (.slice (some ⟨bz, 0, none⟩) n n) :=
  ⟨(h.hK.cell 0).trans rfl, (h.hK.cell 1).trans rfl, (h.hK.cell 2).trans rfl⟩
theorem FS.Ki (h : FS w wr R K bi bx bz n fi dx dy) : K ≠ bi := h.hK.ne_ h.hi (by decide)
theorem FS.Kx (h : FS w wr R K bi bx bz n fi dx dy) : K ≠ bx := h.hK.ne_ h.hx (by decide)
theorem FS.Kz (h : FS w wr R K bi bx bz n fi dx dy) : K ≠ bz := h.hK.ne_ h.hy (by decide)
theorem FS.Ri (h : FS w wr R K bi bx bz n fi dx dy) : R ≠ bi := h.hR.ne_ h.hi (by decide)
theorem FS.Rx (h : FS w wr R K bi bx bz n fi dx dy) : R ≠ bx := h.hR.ne_ h.hx (by decide)
theorem FS.Rz (h : FS w wr R K bi bx bz n fi dx dy) : R ≠ bz := h.hR.ne_ h.hy (by decide)
theorem FS.drewN (h : FS w wr R K bi bx bz n fi dx dy) (k : Nat) : FS w (wr.drewN k) R K bi bx bz n fi dx dy := ⟨h.hR, h.hK, h.hi, h.hx, h.hy, h.ix, h.iy, h.xy, h.RK, h.fresh, h.bel.drewN k⟩
theorem FS.drew (h : FS w wr R K bi bx bz n fi dx dy) : FS w wr.drew R K bi bx bz n fi dx dy := ⟨h.hR, h.hK, h.hi, h.hx, h.hy, h.ix, h.iy, h.xy, h.RK, h.fresh, h.bel.drewN 1⟩
theorem FS.setI (h : FS w wr R K bi bx bz n fi dx dy) (i : Nat) (v : Int) : FS w (wr.setCell ⟨bi, i, none⟩ (.int .i64 v)) R K bi bx bz n (updz fi i v) dx dy :=
  ⟨h.hR.far (p := ⟨bi, i, none⟩) h.Ri _, h.hK.far (p := ⟨bi, i, none⟩) h.Ki _, h.hi.setIntz i v, h.hx.far (p := ⟨bi, i, none⟩) h.ix.symm _, h.hy.far (p := ⟨bi, i, none⟩) h.iy.symm _, h.ix, h.iy, h.xy, h.RK, h.fresh, h.bel.setCell (p := ⟨bi, i, none⟩) h.fresh.2.2.1 _⟩
theorem FS.setX (h : FS w wr R K bi bx bz n fi dx dy) (i : Nat) (v : Int) : FS w (wr.setCell ⟨bx, i, none⟩ (.int .i64 v)) R K bi bx bz n fi (updz dx i v) dy :=
  ⟨h.hR.far (p := ⟨bx, i, none⟩) h.Rx _, h.hK.far (p := ⟨bx, i, none⟩) h.Kx _, h.hi.far (p := ⟨bx, i, none⟩) h.ix _, h.hx.setIntz i v, h.hy.far (p := ⟨bx, i, none⟩) h.xy.symm _, h.ix, h.iy, h.xy, h.RK, h.fresh, h.bel.setCell (p := ⟨bx, i, none⟩) h.fresh.2.2.2.1 _⟩
theorem FS.setY (h : FS w wr R K bi bx bz n fi dx dy) (i : Nat) (v : Int) : FS w (wr.setCell ⟨bz, i, none⟩ (.int .i64 v)) R K bi bx bz n fi dx (updz dy i v) :=
  ⟨h.hR.far (p := ⟨bz, i, none⟩) h.Rz _, h.hK.far (p := ⟨bz, i, none⟩) h.Kz _, h.hi.far (p := ⟨bz, i, none⟩) h.iy _, h.hx.far (p := ⟨bz, i, none⟩) h.xy _, h.hy.setIntz i v, h.ix, h.iy, h.xy, h.RK, h.fresh, h.bel.setCell (p := ⟨bz, i, none⟩) h.fresh.2.2.2.2 _⟩
end
/-- What walked returns: lists from B on. -/
structure Wk (B : Nat) (w : World) (W H n : Nat) (E : List Nat) (bi bx bz : Nat) (fi dx dy : Nat → Int) : Prop where
  hi : Blk w bi 3 (arz n fi)
  hx : Blk w bx 3 (arz n dx)
  hy : Blk w bz 3 (arz n dy)
  fr : B ≤ bi ∧ B ≤ bx ∧ B ≤ bz
  lab : ∀ i, i < n → fi i = (tL W H E i : Int)
  wlk : Wlk W H E dx dy
theorem arz_zero (n : Nat) : (arr n fun _ => 0) = arz n fun _ => 0 := by simp [arr, arz]
theorem arz_congr {n : Nat} {f h : Nat → Int} (e : ∀ i, i < n → f i = h i) : arz n f = arz n h := by
  unfold arz
  congr 1
  exact List.map_congr_left fun i hi => by rw [e i (by simpa using hi)]

theorem heap4w (w : World) (A B C D : Obj) : ((((w.alloc A).alloc B).alloc C).alloc D).heap[w.heap.size]? = some A ∧ ((((w.alloc A).alloc B).alloc C).alloc D).heap[w.heap.size + 1]? = some B ∧
    ((((w.alloc A).alloc B).alloc C).alloc D).heap[w.heap.size + 1 + 1]? = some C ∧ ((((w.alloc A).alloc B).alloc C).alloc D).heap[w.heap.size + 1 + 1 + 1]? = some D := by
  have e1 : w.heap.size + 1 = (w.alloc A).heap.size := by simp
  have e2 : w.heap.size + 1 + 1 = ((w.alloc A).alloc B).heap.size := by simp
  have e3 : w.heap.size + 1 + 1 + 1 = (((w.alloc A).alloc B).alloc C).heap.size := by simp
  refine ⟨?_, ?_, ?_, ?_⟩
  · rw [Below.heap_alloc _ _ _ (by simp <;> omega), Below.heap_alloc _ _ _ (by simp <;> omega), Below.heap_alloc _ _ _ (by simp)]; exact heap_alloc_new w A
  · rw [Below.heap_alloc _ _ _ (by simp <;> omega), Below.heap_alloc _ _ _ (by simp), e1]; exact heap_alloc_new _ B
  · rw [Below.heap_alloc _ _ _ (by simp), e2]; exact heap_alloc_new _ C
  · rw [e3]; exact heap_alloc_new _ D

theorem below4w (w : World) (A B C D : Obj) (k : Nat) : Below w.heap.size w (((((w.alloc A).alloc B).alloc C).alloc D).drewN k) :=
  (((((Below.refl _ _).alloc (Nat.le_refl _) _).alloc (by simp) _).alloc (by simp; omega) _).alloc (by simp; omega) _).drewN k

theorem z4 {w : World} {g n : Nat} (h : Blk w g 3 (arr n fun _ => 0)) : Blk w g 3 (arz n fun _ => 0) := by rw [← arz_zero]; exact h
theorem heap4d (w : World) (A B C D : Array Value) (ta tb tc td : TypeId) : Blk ((((w.alloc (.cells A ta)).alloc (.cells B tb)).alloc (.cells C tc)).alloc (.cells D td)).drew w.heap.size ta A ∧
    Blk ((((w.alloc (.cells A ta)).alloc (.cells B tb)).alloc (.cells C tc)).alloc (.cells D td)).drew (w.heap.size + 1) tb B ∧ Blk ((((w.alloc (.cells A ta)).alloc (.cells B tb)).alloc (.cells C tc)).alloc (.cells D td)).drew (w.heap.size + 1 + 1) tc C ∧
    Blk ((((w.alloc (.cells A ta)).alloc (.cells B tb)).alloc (.cells C tc)).alloc (.cells D td)).drew (w.heap.size + 1 + 1 + 1) td D := heap4w w _ _ _ _
theorem FS.made {w w1 w2 : World} {R K bi bx bz n : Nat} (hR0 : Blk w1 R 75 #[.slice none 0 0, .slice none 0 0, .slice none 0 0]) (hB : Below R w w1) (hs : R < w1.heap.size) (hw : w.heap.size = R) (h4 : Below w1.heap.size w1 w2)
    (hK : Blk w2 K 75 #[.slice (some ⟨bi, 0, none⟩) n n, .slice (some ⟨bx, 0, none⟩) n n, .slice (some ⟨bz, 0, none⟩) n n]) (hi : Blk w2 bi 3 (arr n fun _ => 0)) (hx : Blk w2 bx 3 (arr n fun _ => 0)) (hy : Blk w2 bz 3 (arr n fun _ => 0))
    (gK : w1.heap.size ≤ K) (gi : w1.heap.size ≤ bi) (gx : w1.heap.size ≤ bx) (gz : w1.heap.size ≤ bz) (ix : bi ≠ bx) (iy : bi ≠ bz) (xy : bx ≠ bz) : FS w w2 R K bi bx bz n (fun _ => 0) (fun _ => 0) (fun _ => 0) :=
  ⟨hR0.below h4 hs, hK, z4 hi, z4 hx, z4 hy, ix, iy, xy, by omega, by omega, by rw [hw]; exact hB.trans (h4.mono (by omega))⟩
theorem ge0 (s : Nat) : s ≤ s := by omega
theorem ne01 (s : Nat) : s ≠ s + 1 := by omega
theorem ne02 (s : Nat) : s ≠ s + 1 + 1 := by omega
theorem ne03 (s : Nat) : s ≠ s + 1 + 1 + 1 := by omega
theorem ge1 (s : Nat) : s ≤ s + 1 := by omega
theorem ne10 (s : Nat) : s + 1 ≠ s := by omega
theorem ne12 (s : Nat) : s + 1 ≠ s + 1 + 1 := by omega
theorem ne13 (s : Nat) : s + 1 ≠ s + 1 + 1 + 1 := by omega
theorem ge2 (s : Nat) : s ≤ s + 1 + 1 := by omega
theorem ne20 (s : Nat) : s + 1 + 1 ≠ s := by omega
theorem ne21 (s : Nat) : s + 1 + 1 ≠ s + 1 := by omega
theorem ne23 (s : Nat) : s + 1 + 1 ≠ s + 1 + 1 + 1 := by omega
theorem ge3 (s : Nat) : s ≤ s + 1 + 1 + 1 := by omega
theorem ne30 (s : Nat) : s + 1 + 1 + 1 ≠ s := by omega
theorem ne31 (s : Nat) : s + 1 + 1 + 1 ≠ s + 1 := by omega
theorem ne32 (s : Nat) : s + 1 + 1 + 1 ≠ s + 1 + 1 := by omega
set_option maxRecDepth 100000 in
set_option maxHeartbeats 16000000 in
theorem r30Walked (w : World) (p : RLoc) (W H n : Nat) (E : List Nat) (h : RT w p W H n E) :
    Calls Try.prog 41 #[.pointer (some ⟨p.g, 0, none⟩)] w
      fun e w' => ∃ bi bx bz fi dx dy, e = .returned (.agg #[.slice (some ⟨bi, 0, none⟩) n n, .slice (some ⟨bx, 0, none⟩) n n, .slice (some ⟨bz, 0, none⟩) n n]) ∧ Wk w.heap.size w' W H n E bi bx bz fi dx dy ∧ Below w.heap.size w w' := by
  have nb := h.nb
  have n1 := h.n1
  have hWH : (W : Int) * (H : Int) = (n : Int) := by rw [h.nn]; push_cast; rfl
  have HBL := hide h.lt
  have hP0 := FP.new h.nn h.nb h.ie
  have HP0 := hide hP0
  have HRT := hide h
  obtain ⟨i0, hi, hz0, hz1, hz2⟩ := info_parts int_info0
  have hmk := fun W => run_make_ints 22 3 i0 Try.underlying22 hi hz0 hz1 hz2 n (by omega) W
  obtain ⟨_, c1, c2, c3⟩ := (h.fresh ((Below.refl _ _).alloc (Nat.le_refl _) (.cells #[.slice none 0 0, .slice none 0 0, .slice none 0 0] 75))).cells
  clear h hi hz0 hz1 hz2 hP0
  go_enter Try.func41, Try.ntmps41
  go_wp2_with fail
  go_quiet (fail)
  have hR0 : Blk ((w.alloc (.cells #[.slice none 0 0, .slice none 0 0, .slice none 0 0] 75)).drewN nq) w.heap.size 75 #[.slice none 0 0, .slice none 0 0, .slice none 0 0] := Blk.new w _ _
  have hB0 : Below w.heap.size w ((w.alloc (.cells #[.slice none 0 0, .slice none 0 0, .slice none 0 0] 75)).drewN nq) := ((Below.refl _ _).alloc (Nat.le_refl _) _).drewN nq
  have hs0 : w.heap.size < ((w.alloc (.cells #[.slice none 0 0, .slice none 0 0, .slice none 0 0] 75)).drewN nq).heap.size := hR0.lt
  clear c1 c2 c3
  generalize (w.alloc (.cells #[.slice none 0 0, .slice none 0 0, .slice none 0 0] 75)).drewN nq = w1 at *
  generalize hRR : w.heap.size = R at *
  have HRR := hide hRR
  have HR0 := hide hR0
  have HB0 := hide hB0
  clear hRR hR0 hB0
  go_upto_region 2 with fail
  go_cut [4] (fun s4 wx => ∃ K bi bx bz : Nat, s4 = .pointer (some ⟨K, 0, none⟩) ∧ FS w wx R K bi bx bz n (fun _ => 0) (fun _ => 0) (fun _ => 0))
  case first =>
    as_aux_lemma =>
      go_region
      all_goals (go_wp2_with fail; go_meet)
      all_goals clear HRT HP0 HBL hmk hWH
      · exact ⟨_, _, _, _, rfl, FS.made HR0.out HB0.out hs0 HRR.out (below4w w1 _ _ _ _ 1) (heap4d w1 _ _ _ _ _ _ _ _).2.2.2 (heap4d w1 _ _ _ _ _ _ _ _).1 (heap4d w1 _ _ _ _ _ _ _ _).2.1 (heap4d w1 _ _ _ _ _ _ _ _).2.2.1 (ge3 _) (ge0 _) (ge1 _) (ge2 _) (ne01 _) (ne02 _) (ne12 _)⟩
      · exact ⟨_, _, _, _, rfl, FS.made HR0.out HB0.out hs0 HRR.out (below4w w1 _ _ _ _ 1) (heap4d w1 _ _ _ _ _ _ _ _).2.2.1 (heap4d w1 _ _ _ _ _ _ _ _).1 (heap4d w1 _ _ _ _ _ _ _ _).2.1 (heap4d w1 _ _ _ _ _ _ _ _).2.2.2 (ge2 _) (ge0 _) (ge1 _) (ge3 _) (ne01 _) (ne03 _) (ne13 _)⟩
      · exact ⟨_, _, _, _, rfl, FS.made HR0.out HB0.out hs0 HRR.out (below4w w1 _ _ _ _ 1) (heap4d w1 _ _ _ _ _ _ _ _).2.2.2 (heap4d w1 _ _ _ _ _ _ _ _).1 (heap4d w1 _ _ _ _ _ _ _ _).2.2.1 (heap4d w1 _ _ _ _ _ _ _ _).2.1 (ge3 _) (ge0 _) (ge2 _) (ge1 _) (ne02 _) (ne01 _) (ne21 _)⟩
      · exact ⟨_, _, _, _, rfl, FS.made HR0.out HB0.out hs0 HRR.out (below4w w1 _ _ _ _ 1) (heap4d w1 _ _ _ _ _ _ _ _).2.2.1 (heap4d w1 _ _ _ _ _ _ _ _).1 (heap4d w1 _ _ _ _ _ _ _ _).2.2.2 (heap4d w1 _ _ _ _ _ _ _ _).2.1 (ge2 _) (ge0 _) (ge3 _) (ge1 _) (ne03 _) (ne01 _) (ne31 _)⟩
      · exact ⟨_, _, _, _, rfl, FS.made HR0.out HB0.out hs0 HRR.out (below4w w1 _ _ _ _ 1) (heap4d w1 _ _ _ _ _ _ _ _).2.1 (heap4d w1 _ _ _ _ _ _ _ _).1 (heap4d w1 _ _ _ _ _ _ _ _).2.2.1 (heap4d w1 _ _ _ _ _ _ _ _).2.2.2 (ge1 _) (ge0 _) (ge2 _) (ge3 _) (ne02 _) (ne03 _) (ne23 _)⟩
      · exact ⟨_, _, _, _, rfl, FS.made HR0.out HB0.out hs0 HRR.out (below4w w1 _ _ _ _ 1) (heap4d w1 _ _ _ _ _ _ _ _).2.1 (heap4d w1 _ _ _ _ _ _ _ _).1 (heap4d w1 _ _ _ _ _ _ _ _).2.2.2 (heap4d w1 _ _ _ _ _ _ _ _).2.2.1 (ge1 _) (ge0 _) (ge3 _) (ge2 _) (ne03 _) (ne02 _) (ne32 _)⟩
      · exact ⟨_, _, _, _, rfl, FS.made HR0.out HB0.out hs0 HRR.out (below4w w1 _ _ _ _ 1) (heap4d w1 _ _ _ _ _ _ _ _).2.2.2 (heap4d w1 _ _ _ _ _ _ _ _).2.1 (heap4d w1 _ _ _ _ _ _ _ _).1 (heap4d w1 _ _ _ _ _ _ _ _).2.2.1 (ge3 _) (ge1 _) (ge0 _) (ge2 _) (ne10 _) (ne12 _) (ne02 _)⟩
      · exact ⟨_, _, _, _, rfl, FS.made HR0.out HB0.out hs0 HRR.out (below4w w1 _ _ _ _ 1) (heap4d w1 _ _ _ _ _ _ _ _).2.2.1 (heap4d w1 _ _ _ _ _ _ _ _).2.1 (heap4d w1 _ _ _ _ _ _ _ _).1 (heap4d w1 _ _ _ _ _ _ _ _).2.2.2 (ge2 _) (ge1 _) (ge0 _) (ge3 _) (ne10 _) (ne13 _) (ne03 _)⟩
      · exact ⟨_, _, _, _, rfl, FS.made HR0.out HB0.out hs0 HRR.out (below4w w1 _ _ _ _ 1) (heap4d w1 _ _ _ _ _ _ _ _).2.2.2 (heap4d w1 _ _ _ _ _ _ _ _).2.2.1 (heap4d w1 _ _ _ _ _ _ _ _).1 (heap4d w1 _ _ _ _ _ _ _ _).2.1 (ge3 _) (ge2 _) (ge0 _) (ge1 _) (ne20 _) (ne21 _) (ne01 _)⟩
      · exact ⟨_, _, _, _, rfl, FS.made HR0.out HB0.out hs0 HRR.out (below4w w1 _ _ _ _ 1) (heap4d w1 _ _ _ _ _ _ _ _).2.2.1 (heap4d w1 _ _ _ _ _ _ _ _).2.2.2 (heap4d w1 _ _ _ _ _ _ _ _).1 (heap4d w1 _ _ _ _ _ _ _ _).2.1 (ge2 _) (ge3 _) (ge0 _) (ge1 _) (ne30 _) (ne31 _) (ne01 _)⟩
      · exact ⟨_, _, _, _, rfl, FS.made HR0.out HB0.out hs0 HRR.out (below4w w1 _ _ _ _ 1) (heap4d w1 _ _ _ _ _ _ _ _).2.1 (heap4d w1 _ _ _ _ _ _ _ _).2.2.1 (heap4d w1 _ _ _ _ _ _ _ _).1 (heap4d w1 _ _ _ _ _ _ _ _).2.2.2 (ge1 _) (ge2 _) (ge0 _) (ge3 _) (ne20 _) (ne23 _) (ne03 _)⟩
      · exact ⟨_, _, _, _, rfl, FS.made HR0.out HB0.out hs0 HRR.out (below4w w1 _ _ _ _ 1) (heap4d w1 _ _ _ _ _ _ _ _).2.1 (heap4d w1 _ _ _ _ _ _ _ _).2.2.2 (heap4d w1 _ _ _ _ _ _ _ _).1 (heap4d w1 _ _ _ _ _ _ _ _).2.2.1 (ge1 _) (ge3 _) (ge0 _) (ge2 _) (ne30 _) (ne32 _) (ne02 _)⟩
      · exact ⟨_, _, _, _, rfl, FS.made HR0.out HB0.out hs0 HRR.out (below4w w1 _ _ _ _ 1) (heap4d w1 _ _ _ _ _ _ _ _).2.2.2 (heap4d w1 _ _ _ _ _ _ _ _).2.1 (heap4d w1 _ _ _ _ _ _ _ _).2.2.1 (heap4d w1 _ _ _ _ _ _ _ _).1 (ge3 _) (ge1 _) (ge2 _) (ge0 _) (ne12 _) (ne10 _) (ne20 _)⟩
      · exact ⟨_, _, _, _, rfl, FS.made HR0.out HB0.out hs0 HRR.out (below4w w1 _ _ _ _ 1) (heap4d w1 _ _ _ _ _ _ _ _).2.2.1 (heap4d w1 _ _ _ _ _ _ _ _).2.1 (heap4d w1 _ _ _ _ _ _ _ _).2.2.2 (heap4d w1 _ _ _ _ _ _ _ _).1 (ge2 _) (ge1 _) (ge3 _) (ge0 _) (ne13 _) (ne10 _) (ne30 _)⟩
      · exact ⟨_, _, _, _, rfl, FS.made HR0.out HB0.out hs0 HRR.out (below4w w1 _ _ _ _ 1) (heap4d w1 _ _ _ _ _ _ _ _).2.2.2 (heap4d w1 _ _ _ _ _ _ _ _).2.2.1 (heap4d w1 _ _ _ _ _ _ _ _).2.1 (heap4d w1 _ _ _ _ _ _ _ _).1 (ge3 _) (ge2 _) (ge1 _) (ge0 _) (ne21 _) (ne20 _) (ne10 _)⟩
      · exact ⟨_, _, _, _, rfl, FS.made HR0.out HB0.out hs0 HRR.out (below4w w1 _ _ _ _ 1) (heap4d w1 _ _ _ _ _ _ _ _).2.2.1 (heap4d w1 _ _ _ _ _ _ _ _).2.2.2 (heap4d w1 _ _ _ _ _ _ _ _).2.1 (heap4d w1 _ _ _ _ _ _ _ _).1 (ge2 _) (ge3 _) (ge1 _) (ge0 _) (ne31 _) (ne30 _) (ne10 _)⟩
      · exact ⟨_, _, _, _, rfl, FS.made HR0.out HB0.out hs0 HRR.out (below4w w1 _ _ _ _ 1) (heap4d w1 _ _ _ _ _ _ _ _).2.1 (heap4d w1 _ _ _ _ _ _ _ _).2.2.1 (heap4d w1 _ _ _ _ _ _ _ _).2.2.2 (heap4d w1 _ _ _ _ _ _ _ _).1 (ge1 _) (ge2 _) (ge3 _) (ge0 _) (ne23 _) (ne20 _) (ne30 _)⟩
      · exact ⟨_, _, _, _, rfl, FS.made HR0.out HB0.out hs0 HRR.out (below4w w1 _ _ _ _ 1) (heap4d w1 _ _ _ _ _ _ _ _).2.1 (heap4d w1 _ _ _ _ _ _ _ _).2.2.2 (heap4d w1 _ _ _ _ _ _ _ _).2.2.1 (heap4d w1 _ _ _ _ _ _ _ _).1 (ge1 _) (ge3 _) (ge2 _) (ge0 _) (ne32 _) (ne30 _) (ne20 _)⟩
      · exact ⟨_, _, _, _, rfl, FS.made HR0.out HB0.out hs0 HRR.out (below4w w1 _ _ _ _ 1) (heap4d w1 _ _ _ _ _ _ _ _).1 (heap4d w1 _ _ _ _ _ _ _ _).2.1 (heap4d w1 _ _ _ _ _ _ _ _).2.2.1 (heap4d w1 _ _ _ _ _ _ _ _).2.2.2 (ge0 _) (ge1 _) (ge2 _) (ge3 _) (ne12 _) (ne13 _) (ne23 _)⟩
      · exact ⟨_, _, _, _, rfl, FS.made HR0.out HB0.out hs0 HRR.out (below4w w1 _ _ _ _ 1) (heap4d w1 _ _ _ _ _ _ _ _).1 (heap4d w1 _ _ _ _ _ _ _ _).2.1 (heap4d w1 _ _ _ _ _ _ _ _).2.2.2 (heap4d w1 _ _ _ _ _ _ _ _).2.2.1 (ge0 _) (ge1 _) (ge3 _) (ge2 _) (ne13 _) (ne12 _) (ne32 _)⟩
      · exact ⟨_, _, _, _, rfl, FS.made HR0.out HB0.out hs0 HRR.out (below4w w1 _ _ _ _ 1) (heap4d w1 _ _ _ _ _ _ _ _).1 (heap4d w1 _ _ _ _ _ _ _ _).2.2.1 (heap4d w1 _ _ _ _ _ _ _ _).2.1 (heap4d w1 _ _ _ _ _ _ _ _).2.2.2 (ge0 _) (ge2 _) (ge1 _) (ge3 _) (ne21 _) (ne23 _) (ne13 _)⟩
      · exact ⟨_, _, _, _, rfl, FS.made HR0.out HB0.out hs0 HRR.out (below4w w1 _ _ _ _ 1) (heap4d w1 _ _ _ _ _ _ _ _).1 (heap4d w1 _ _ _ _ _ _ _ _).2.2.2 (heap4d w1 _ _ _ _ _ _ _ _).2.1 (heap4d w1 _ _ _ _ _ _ _ _).2.2.1 (ge0 _) (ge3 _) (ge1 _) (ge2 _) (ne31 _) (ne32 _) (ne12 _)⟩
      · exact ⟨_, _, _, _, rfl, FS.made HR0.out HB0.out hs0 HRR.out (below4w w1 _ _ _ _ 1) (heap4d w1 _ _ _ _ _ _ _ _).1 (heap4d w1 _ _ _ _ _ _ _ _).2.2.1 (heap4d w1 _ _ _ _ _ _ _ _).2.2.2 (heap4d w1 _ _ _ _ _ _ _ _).2.1 (ge0 _) (ge2 _) (ge3 _) (ge1 _) (ne23 _) (ne21 _) (ne31 _)⟩
      · exact ⟨_, _, _, _, rfl, FS.made HR0.out HB0.out hs0 HRR.out (below4w w1 _ _ _ _ 1) (heap4d w1 _ _ _ _ _ _ _ _).1 (heap4d w1 _ _ _ _ _ _ _ _).2.2.2 (heap4d w1 _ _ _ _ _ _ _ _).2.2.1 (heap4d w1 _ _ _ _ _ _ _ _).2.1 (ge0 _) (ge3 _) (ge2 _) (ge1 _) (ne32 _) (ne31 _) (ne21 _)⟩
  case rest =>
    obtain ⟨K, bi, bx, bz, rfl, hS⟩ := hcut
    have e0 : (fun _ : Nat => (0 : Int)) = mone 0 := by funext i; simp [mone]
    have hS' : FS w wc R K bi bx bz n (mone 0) (fun _ => 0) (fun _ => 0) := by rw [← e0]; exact hS
    have HS := hide hS'
    clear hS hS' e0
    go_wp2_with fail
    go_loopg [5] n (fun q v wr => ∃ k : Nat, k + q = n ∧ v = .int .i64 (k : Int) ∧ FS w wr R K bi bx bz n (mone k) (fun _ => 0) (fun _ => 0))
    case atStart => exact ⟨0, by omega, rfl, HS.out⟩
    case round =>
      obtain ⟨k, hk, rfl, hS⟩ := hrel
      have HK := hide hk
      have hkn : k ≤ n := by omega
      clear hk HS
      by_cases hlt : k < n
      · obtain ⟨k0, _, _⟩ := hS.cells
        have ci := hS.hi.intz hlt
        have fz := hS.hi.frozen k
        have HS := hide hS
        clear hS
        go_wp2_with fail
        go_roundg (n - (k + 1))
        case measure => have := HK.out; omega
        case rel => exact ⟨k + 1, by omega, by go_num, by rw [← mone_succ]; exact HS.out.setI k (-1)⟩
      · have hkk : k = n := by omega
        have e1 : arz n (mone k) = arz n fun _ => -1 := arz_congr fun i hi => by unfold mone; rw [if_pos (by omega)]
        have hS2 : FS w wr R K bi bx bz n (fun _ => -1) (fun _ => 0) (fun _ => 0) := ⟨hS.hR, hS.hK, by rw [← e1]; exact hS.hi, hS.hx, hS.hy, hS.ix, hS.iy, hS.xy, hS.RK, hS.fresh, hS.bel⟩
        have HS := hide hS2
        clear hS hS2 e1 HK
        subst hkk
        go_wp2_with fail
        go_loopg [6] k (fun q s wr => ∃ (v : Nat) (fi dx dy : Nat → Int), v + q = k ∧ s = .int .i64 (v : Int) ∧ FS w wr R K bi bx bz k fi dx dy ∧ FP W H k E v fi dx dy ∧ ∀ i, i < k → 0 ≤ fi i → fi i < v)
        case atStart => exact ⟨0, fun _ => -1, fun _ => 0, fun _ => 0, by omega, rfl, HS.out, HP0.out, fun i _ h => by simp at h⟩
        case round =>
          obtain ⟨v, fi, dx, dy, hv, rfl, hS, hP, hlo⟩ := hrel
          have HV := hide hv
          have hvn : v ≤ k := by omega
          have HP := hide hP
          have HLO := hide hlo
          clear hv HS hP hlo
          obtain ⟨k0, k1, k2⟩ := hS.cells
          by_cases hlt2 : v < k
          · have ci := hS.hi.intz hlt2
            have fz := hS.hi.frozen v
            by_cases hf : fi v < 0
            · have hS2 := hS.setI v (v : Int)
              have hP2 := HP.out.root HLO.out hlt2 hf
              have hr2 : updz fi v (v : Int) v = v := updz_same _ _ _
              have HS2 := hide hS2
              have HP2 := hide hP2
              have HR2 := hide hr2
              clear hS hS2 hP2 hr2
              go_wp2_with fail
              go_loopg [7] (2 * k + 1) (fun q s wr => ∃ (c : Bool) (fi dx dy : Nat → Int), s = .bool c ∧ 2 * (k - fnd fi k) + c.toNat ≤ q ∧ FS w wr R K bi bx bz k fi dx dy ∧ FP W H k E v fi dx dy ∧ fi v = v ∧ (c = false → ∀ e ∈ E, fi (tS e) = v ↔ fi (tT W H e) = v))
              case atStart => exact ⟨true, _, _, _, rfl, by have e : true.toNat = 1 := rfl; omega, HS2.out, HP2.out, HR2.out, fun h => by cases h⟩
              case round =>
                obtain ⟨c, fi3, dx3, dy3, rfl, hq, hS3, hP3, hv3, hc3⟩ := hrel
                have HQ := hide hq
                have HS3 := hide hS3
                have HP3 := hide hP3
                have HV3 := hide hv3
                have HC3 := hide hc3
                clear hq hS3 hP3 hv3 hc3 HS2 HP2 HR2 k0 k1 k2 ci fz
                cases c
                · go_wp2_with fail
                  go_roundg (k - (v + 1))
                  case measure => have := HV.out; omega
                  case rel =>
                    obtain ⟨a, b⟩ := HP3.out.next hlt2 HV3.out (HC3.out (by trivial))
                    exact ⟨v + 1, _, _, _, by omega, by go_num, HS3.out, a, b⟩
                · go_wp2_with fail
                  go_loopg [7, 8] (2 * k) (fun q s s8 wr => ∃ (c : Bool) (j : Nat) (fi dx dy : Nat → Int), j + q = 2 * k ∧ s = .bool c ∧ s8 = .int .i64 (j : Int) ∧ FS w wr R K bi bx bz k fi dx dy ∧ FP W H k E v fi dx dy ∧ fi v = v ∧
                    (c = false → fnd fi k = fnd fi3 k ∧ ∀ e ∈ E, e < j → (fi (tS e) = v ↔ fi (tT W H e) = v)) ∧ (c = true → fnd fi3 k < fnd fi k))
                  case atStart => exact ⟨false, 0, _, _, _, by omega, rfl, rfl, HS3.out, HP3.out, HV3.out, fun _ => ⟨rfl, fun e _ h => by omega⟩, fun h => by cases h⟩
                  case round =>
                    obtain ⟨c, j, fi, dx, dy, hj, rfl, rfl, hS4, hP4, hv4, hc4, hd4⟩ := hrel
                    have HJ := hide hj
                    have hjn : j ≤ 2 * k := by omega
                    have HS4 := hide hS4
                    have HP4 := hide hP4
                    have HV4 := hide hv4
                    have HC4 := hide hc4
                    have HD4 := hide hd4
                    have HRT4 := hide (HRT.out.fresh hS4.bel)
                    clear hj hS4 hP4 hv4 hc4 hd4 HS3
                    by_cases hlt3 : j < 2 * k
                    · obtain ⟨_, _, _, c3⟩ := HRT4.out.cells
                      have cE := HRT4.out.hh.bool hlt3
                      cases hE : E.contains j
                      · rw [hE] at cE
                        have HE := hide hE
                        clear hE
                        go_wp2_with fail
                        go_roundg (2 * k - (j + 1))
                        case measure => have := HJ.out; omega
                        case rel =>
                          refine ⟨c, j + 1, _, _, _, by omega, rfl, by go_num, HS4.out, HP4.out, HV4.out, fun h => ⟨(HC4.out h).1, fun e he h2 => ?_⟩, HD4.out⟩
                          by_cases h3 : e = j
                          · subst h3
                            have := HE.out
                            simp at this
                            exact absurd he this
                          · exact (HC4.out h).2 e he (by omega)
                      · rw [hE] at cE
                        have hmem : j ∈ E := by simpa using hE
                        have hends := HP4.out.ends hlt3
                        have HM := hide hmem
                        clear hE hmem
                        go_wp2_with fail
                        refine (r30Ends _ j p W H k E HRT4.out hlt3).mono ?_
                        rintro r w2 ⟨rfl, kq, rfl⟩
                        have hle : fnd fi3 k ≤ fnd fi k := by
                          cases c
                          · have := (HC4.out rfl).1; omega
                          · have := HD4.out rfl; omega
                        have hcs := HP4.out.cases_ HV4.out HM.out
                        have PA := hide (fun h1 h2 => HP4.out.putA HV4.out HM.out h1 h2)
                        have PB := hide (fun h1 h2 => HP4.out.putB HV4.out HM.out h1 h2)
                        have ba := HP4.out.bd hends.1
                        have bb := HP4.out.bd hends.2
                        have HLE := hide hle
                        have HS5 := hide (HS4.out.drewN kq)
                        obtain ⟨ha, hb⟩ := hends
                        generalize hae : tS j = a at *
                        generalize hbe : tT W H j = b at *
                        generalize hde : j % 2 = d at *
                        have HAE := hide hae
                        have HBE := hide hbe
                        have hd2 : d < 2 := by rw [← hde]; exact Nat.mod_lt _ (by decide)
                        have td : (j : Int).tmod 2 = (d : Int) := by rw [Int.tmod_eq_emod_of_nonneg (by omega), ← hde]; push_cast; rfl
                        have td2 : (j : Int) % 2 = (d : Int) := by rw [← hde]; push_cast; rfl
                        have wd : IntKind.i64.wrap (d : Int) = d := IntWalk.i64_in _ (by omega)
                        clear hae hbe hde hle HS4 c3 cE
                        generalize wr.drewN kq = w3 at *
                        obtain ⟨k0, k1, k2⟩ := HS5.out.cells
                        have ca := HS5.out.hi.intz ha
                        have cb := HS5.out.hi.intz hb
                        have iKi := HS5.out.Ki
                        have iKx := HS5.out.Kx
                        have iKz := HS5.out.Kz
                        have ix := HS5.out.ix
                        have iy := HS5.out.iy
                        have xy := HS5.out.xy
                        have iKi' := iKi.symm
                        have iKx' := iKx.symm
                        have iKz' := iKz.symm
                        have ix' := ix.symm
                        have iy' := iy.symm
                        have xy' := xy.symm
                        obtain ⟨a1, a2, a3, a4⟩ := ba
                        obtain ⟨b1, b2, b3, b4⟩ := bb
                        rcases hcs with ⟨h1, h2⟩ | ⟨h1, h2⟩ | ⟨h1, h2⟩ | ⟨h1, h2⟩
                        · as_aux_lemma =>
                            have hab : a ≠ b := by rintro rfl; omega
                            have hab' := hab.symm
                            have PP := hide (PA.out h1 h2)
                            have xa := HS5.out.hx.intz ha
                            have ya := HS5.out.hy.intz ha
                            have zb := HS5.out.hi.frozen b
                            have zx := HS5.out.hx.frozen b
                            have zy := HS5.out.hy.frozen b
                            have ob := HS5.out.hi.intz hb
                            have oxb := HS5.out.hx.intz hb
                            have oyb := HS5.out.hy.intz hb
                            rw [h1] at ca
                            have H1 := hide h1
                            clear PA PB h1
                            go_upto_region 22 with fail
                            go_cut [] (fun wx => FS w wx R K bi bx bz k (updz fi b (v : Int)) (updz dx b (dx a + (1 - (d : Int)))) (updz dy b (dy a + (d : Int))))
                            case first =>
                              have hI := HS5.out.setI b (v : Int)
                              have hX := hI.setX b (dx a + (1 - (d : Int)))
                              obtain ⟨i0, i1, i2⟩ := hI.cells
                              obtain ⟨j0, j1, j2⟩ := hX.cells
                              have ixa := hI.hx.intz ha
                              have iya := hI.hy.intz ha
                              have jxa := hX.hx.intz ha
                              rw [updz_other _ _ hab] at jxa
                              have jya := hX.hy.intz ha
                              have hY := hX.setY b (dy a + (d : Int))
                              obtain ⟨m0, m1, m2⟩ := hY.cells
                              have mxa := hY.hx.intz ha
                              rw [updz_other _ _ hab] at mxa
                              have mya := hY.hy.intz ha
                              rw [updz_other _ _ hab] at mya
                              have wx : IntKind.i64.wrap (dx a + (1 - (d : Int))) = dx a + (1 - (d : Int)) := IntWalk.i64_in _ (by omega)
                              have wy : IntKind.i64.wrap (dy a + (d : Int)) = dy a + (d : Int) := IntWalk.i64_in _ (by omega)
                              clear h2 td td2 wd a1 a2 a3 a4 b1 b2 b3 b4 hI hX hY
                              go_region_held3 (fun w' => w'.cell? ⟨K, 0, none⟩ = some (.slice (some ⟨bi, 0, none⟩) k k) ∧ w'.cell? ⟨K, 1, none⟩ = some (.slice (some ⟨bx, 0, none⟩) k k) ∧ w'.cell? ⟨K, 2, none⟩ = some (.slice (some ⟨bz, 0, none⟩) k k) ∧ w'.cell? ⟨bx, a, none⟩ = some (.int .i64 (dx a)) ∧ w'.cell? ⟨bz, a, none⟩ = some (.int .i64 (dy a)))
                                (first | exact ⟨k0, k1, k2, xa, ya⟩ | exact ⟨i0, i1, i2, ixa, iya⟩ | exact ⟨j0, j1, j2, jxa, jya⟩ | exact ⟨m0, m1, m2, mxa, mya⟩)
                                (first | fail)
                              go_wp2_with fail
                              go_meet
                              exact (((HS5.out.setI b (v : Int)).setX b (dx a + (1 - (d : Int)))).setY b (dy a + (d : Int))).drew
                            case rest =>
                              have hS6 := hcut
                              have cb2 := hS6.hi.intz hb
                              rw [updz_same] at cb2
                              have ca2 := hS6.hi.intz ha
                              rw [updz_other _ _ hab, H1.out] at ca2
                              obtain ⟨k02, k12, k22⟩ := hS6.cells
                              have HS6 := hide hS6
                              clear hS6 hcut HS5 k0 k1 k2 ca cb xa ya zb zx zy ob oxb oyb
                              generalize updz fi b (v : Int) = fi2 at *
                              generalize updz dx b (dx a + (1 - (d : Int))) = dx2 at *
                              generalize updz dy b (dy a + (d : Int)) = dy2 at *
                              clear h2 td td2 wd a1 a2 a3 a4 b1 b2 b3 b4 hd2
                              go_wp2_with fail
                              go_roundg (2 * k - (j + 1))
                              case measure => have := HJ.out; omega
                              case rel => exact ⟨true, j + 1, _, _, _, by omega, rfl, by go_num, HS6.out, PP.out.1, PP.out.2.1, fun h => (by cases h), fun _ => by have := PP.out.2.2; have := HLE.out; omega⟩
                        · as_aux_lemma =>
                            have hab : b ≠ a := by rintro rfl; omega
                            have hab' := hab.symm
                            have PP := hide (PB.out h1 h2)
                            have xa := HS5.out.hx.intz hb
                            have ya := HS5.out.hy.intz hb
                            have zb := HS5.out.hi.frozen a
                            have zx := HS5.out.hx.frozen a
                            have zy := HS5.out.hy.frozen a
                            have ob := HS5.out.hi.intz ha
                            have oxb := HS5.out.hx.intz ha
                            have oyb := HS5.out.hy.intz ha
                            rw [h1] at cb
                            have H1 := hide h1
                            clear PA PB h1
                            go_upto_region 25 with fail
                            go_cut [] (fun wx => FS w wx R K bi bx bz k (updz fi a (v : Int)) (updz dx a (dx b - (1 - (d : Int)))) (updz dy a (dy b - (d : Int))))
                            case first =>
                              have hI := HS5.out.setI a (v : Int)
                              have hX := hI.setX a (dx b - (1 - (d : Int)))
                              obtain ⟨i0, i1, i2⟩ := hI.cells
                              obtain ⟨j0, j1, j2⟩ := hX.cells
                              have ixa := hI.hx.intz hb
                              have iya := hI.hy.intz hb
                              have jxa := hX.hx.intz hb
                              rw [updz_other _ _ hab] at jxa
                              have jya := hX.hy.intz hb
                              have hY := hX.setY a (dy b - (d : Int))
                              obtain ⟨m0, m1, m2⟩ := hY.cells
                              have mxa := hY.hx.intz hb
                              rw [updz_other _ _ hab] at mxa
                              have mya := hY.hy.intz hb
                              rw [updz_other _ _ hab] at mya
                              have wx : IntKind.i64.wrap (dx b - (1 - (d : Int))) = dx b - (1 - (d : Int)) := IntWalk.i64_in _ (by omega)
                              have wy : IntKind.i64.wrap (dy b - (d : Int)) = dy b - (d : Int) := IntWalk.i64_in _ (by omega)
                              clear h2 td td2 wd a1 a2 a3 a4 b1 b2 b3 b4 hI hX hY
                              go_region_held3 (fun w' => w'.cell? ⟨K, 0, none⟩ = some (.slice (some ⟨bi, 0, none⟩) k k) ∧ w'.cell? ⟨K, 1, none⟩ = some (.slice (some ⟨bx, 0, none⟩) k k) ∧ w'.cell? ⟨K, 2, none⟩ = some (.slice (some ⟨bz, 0, none⟩) k k) ∧ w'.cell? ⟨bx, b, none⟩ = some (.int .i64 (dx b)) ∧ w'.cell? ⟨bz, b, none⟩ = some (.int .i64 (dy b)))
                                (first | exact ⟨k0, k1, k2, xa, ya⟩ | exact ⟨i0, i1, i2, ixa, iya⟩ | exact ⟨j0, j1, j2, jxa, jya⟩ | exact ⟨m0, m1, m2, mxa, mya⟩)
                                (first | fail)
                              go_wp2_with fail
                              go_meet
                              exact (((HS5.out.setI a (v : Int)).setX a (dx b - (1 - (d : Int)))).setY a (dy b - (d : Int))).drew
                            case rest =>
                              have hS6 := hcut
                              have ca2 := hS6.hi.intz ha
                              rw [updz_same] at ca2
                              have cb2 := hS6.hi.intz hb
                              rw [updz_other _ _ hab, H1.out] at cb2
                              obtain ⟨k02, k12, k22⟩ := hS6.cells
                              have HS6 := hide hS6
                              clear hS6 hcut HS5 k0 k1 k2 ca cb xa ya zb zx zy ob oxb oyb
                              generalize updz fi a (v : Int) = fi2 at *
                              generalize updz dx a (dx b - (1 - (d : Int))) = dx2 at *
                              generalize updz dy a (dy b - (d : Int)) = dy2 at *
                              clear h2 td td2 wd a1 a2 a3 a4 b1 b2 b3 b4 hd2
                              go_wp2_with fail
                              go_roundg (2 * k - (j + 1))
                              case measure => have := HJ.out; omega
                              case rel => exact ⟨true, j + 1, _, _, _, by omega, rfl, by go_num, HS6.out, PP.out.1, PP.out.2.1, fun h => (by cases h), fun _ => by have := PP.out.2.2; have := HLE.out; omega⟩
                        · as_aux_lemma =>
                            rw [h1] at ca
                            rw [h2] at cb
                            have H12 := hide (And.intro h1 h2)
                            clear PA PB h1 h2
                            go_wp2_with fail
                            go_roundg (2 * k - (j + 1))
                            case measure => have := HJ.out; omega
                            case rel =>
                              refine ⟨c, j + 1, _, _, _, by omega, rfl, by go_num, HS5.out, HP4.out, HV4.out, fun h => ⟨(HC4.out h).1, fun e he h2 => ?_⟩, HD4.out⟩
                              by_cases h3 : e = j
                              · subst h3
                                rw [HAE.out, HBE.out, H12.out.1, H12.out.2]
                              · exact (HC4.out h).2 e he (by omega)
                        · as_aux_lemma =>
                            have f1 : (fi a == (v : Int)) = false := by simpa using h1
                            have f2 : (fi b == (v : Int)) = false := by simpa using h2
                            have H12 := hide (And.intro h1 h2)
                            clear PA PB h1 h2
                            go_wp2_with fail
                            go_roundg (2 * k - (j + 1))
                            case measure => have := HJ.out; omega
                            case rel =>
                              refine ⟨c, j + 1, _, _, _, by omega, rfl, by go_num, HS5.out, HP4.out, HV4.out, fun h => ⟨(HC4.out h).1, fun e he h2 => ?_⟩, HD4.out⟩
                              by_cases h3 : e = j
                              · subst h3
                                rw [HAE.out, HBE.out]
                                exact ⟨fun h => absurd h H12.out.1, fun h => absurd h H12.out.2⟩
                              · exact (HC4.out h).2 e he (by omega)
                    · as_aux_lemma =>
                        have hjj : j = 2 * k := by omega
                        clear HRT4
                        go_wp2_with fail
                        go_roundg (2 * (k - fnd fi k) + c.toNat)
                        case measure =>
                          have l1 := fnd_le fi k
                          have l3 := fnd_le fi3 k
                          have hq := HQ.out
                          have e1 : true.toNat = 1 := rfl
                          have e0 : false.toNat = 0 := rfl
                          cases c
                          · have := (HC4.out rfl).1; omega
                          · have := HD4.out rfl; omega
                        case rel =>
                          refine ⟨c, fi, dx, dy, rfl, Nat.le_refl _, HS4.out, HP4.out, HV4.out, fun h e he => (HC4.out h).2 e he ?_⟩
                          have := HP4.out.ie e he; omega
            · have hS2 := hide hS
              clear hS
              go_wp2_with fail
              go_roundg (k - (v + 1))
              case measure => have := HV.out; omega
              case rel =>
                obtain ⟨a, b⟩ := HP.out.skip HLO.out hlt2 (by omega)
                exact ⟨v + 1, _, _, _, by omega, by go_num, hS2.out, a, b⟩
          · as_aux_lemma =>
              have hvk : v = k := by omega
              subst hvk
              have r0 : wr.cell? ⟨R, 0, none⟩ = some (.slice none 0 0) := (hS.hR.cell 0).trans rfl
              have r1 : wr.cell? ⟨R, 1, none⟩ = some (.slice none 0 0) := (hS.hR.cell 1).trans rfl
              have r2 : wr.cell? ⟨R, 2, none⟩ = some (.slice none 0 0) := (hS.hR.cell 2).trans rfl
              have hd := HP.out.done
              have HS2 := hide hS
              have HD := hide hd
              have hRK := hS.RK
              have hRK' := hRK.symm
              have fr0 := hS.hR.frozen 0
              have fr1 := hS.hR.frozen 1
              have fr2 := hS.hR.frozen 2
              clear hS hd
              go_wp2_with fail
              have hR3 : Blk (((wr.setCell ⟨R, 0, none⟩ (.slice (some ⟨bi, 0, none⟩) v v)).setCell ⟨R, 1, none⟩ (.slice (some ⟨bx, 0, none⟩) v v)).setCell ⟨R, 2, none⟩ (.slice (some ⟨bz, 0, none⟩) v v)) R 75 #[.slice (some ⟨bi, 0, none⟩) v v, .slice (some ⟨bx, 0, none⟩) v v, .slice (some ⟨bz, 0, none⟩) v v] := ((HS2.out.hR.set_ 0 _).set_ 1 _).set_ 2 _
              have z0 := (hR3.cell 0).trans rfl
              have z1 := (hR3.cell 1).trans rfl
              have z2 := (hR3.cell 2).trans rfl
              have hge := HS2.out.fresh
              refine bodyPost_ret (v := .agg #[.slice (some ⟨bi, 0, none⟩) v v, .slice (some ⟨bx, 0, none⟩) v v, .slice (some ⟨bz, 0, none⟩) v v]) (by simp [results, Try.results41, go_sem, z0, z1, z2]) rfl
                ⟨bi, bx, bz, fi, dx, dy, rfl, ⟨(((HS2.out.hi.far (p := ⟨R, 0, none⟩) HS2.out.Ri.symm _).far (p := ⟨R, 1, none⟩) HS2.out.Ri.symm _).far (p := ⟨R, 2, none⟩) HS2.out.Ri.symm _), (((HS2.out.hx.far (p := ⟨R, 0, none⟩) HS2.out.Rx.symm _).far (p := ⟨R, 1, none⟩) HS2.out.Rx.symm _).far (p := ⟨R, 2, none⟩) HS2.out.Rx.symm _), (((HS2.out.hy.far (p := ⟨R, 0, none⟩) HS2.out.Rz.symm _).far (p := ⟨R, 1, none⟩) HS2.out.Rz.symm _).far (p := ⟨R, 2, none⟩) HS2.out.Rz.symm _), ⟨hge.2.2.1, hge.2.2.2⟩, HD.out.1, HD.out.2⟩, ((HS2.out.bel.setCell (p := ⟨R, 0, none⟩) hge.1 _).setCell (p := ⟨R, 1, none⟩) hge.1 _).setCell (p := ⟨R, 2, none⟩) hge.1 _⟩
end Go.Proofs.Ytnkkdoookhhhaaa
