/- wrapping: New. -/
import Derived.Test.YtnkkdoookhhhaaaWrapF
namespace Go.Proofs.Ytnkkdoookhhhaaa
open Go.RowKit
set_option linter.unusedVariables false

theorem heap5 (w : World) (A B C D O : Obj) : (((((w.alloc A).alloc B).alloc C).alloc D).alloc O).heap[w.heap.size]? = some A ∧ (((((w.alloc A).alloc B).alloc C).alloc D).alloc O).heap[w.heap.size + 1]? = some B ∧
    (((((w.alloc A).alloc B).alloc C).alloc D).alloc O).heap[w.heap.size + 1 + 1]? = some C ∧ (((((w.alloc A).alloc B).alloc C).alloc D).alloc O).heap[w.heap.size + 1 + 1 + 1]? = some D ∧
    (((((w.alloc A).alloc B).alloc C).alloc D).alloc O).heap[w.heap.size + 1 + 1 + 1 + 1]? = some O := by
  have e1 : w.heap.size + 1 = (w.alloc A).heap.size := by simp
  have e2 : w.heap.size + 1 + 1 = ((w.alloc A).alloc B).heap.size := by simp
  have e3 : w.heap.size + 1 + 1 + 1 = (((w.alloc A).alloc B).alloc C).heap.size := by simp
  have e4 : w.heap.size + 1 + 1 + 1 + 1 = ((((w.alloc A).alloc B).alloc C).alloc D).heap.size := by simp
  refine ⟨?_, ?_, ?_, ?_, ?_⟩
  · rw [Below.heap_alloc _ _ _ (by simp <;> omega), Below.heap_alloc _ _ _ (by simp <;> omega), Below.heap_alloc _ _ _ (by simp <;> omega), Below.heap_alloc _ _ _ (by simp)]; exact heap_alloc_new w A
  · rw [Below.heap_alloc _ _ _ (by simp <;> omega), Below.heap_alloc _ _ _ (by simp <;> omega), Below.heap_alloc _ _ _ (by simp), e1]; exact heap_alloc_new _ B
  · rw [Below.heap_alloc _ _ _ (by simp <;> omega), Below.heap_alloc _ _ _ (by simp), e2]; exact heap_alloc_new _ C
  · rw [Below.heap_alloc _ _ _ (by simp), e3]; exact heap_alloc_new _ D
  · rw [e4]; exact heap_alloc_new _ O
theorem below5 (w : World) (A B C D O : Obj) (k : Nat) : Below w.heap.size w ((((((w.alloc A).alloc B).alloc C).alloc D).alloc O).drewN k) :=
  ((((((Below.refl _ _).alloc (Nat.le_refl _) _).alloc (by simp) _).alloc (by simp; omega) _).alloc (by simp; omega) _).alloc (by simp; omega) _).drewN k
def filT (k : Nat) : Nat → Nat := fun i => if i < k then i else 0
def oneT (k : Nat) : Nat → Nat := fun i => if i < k then 1 else 0
theorem filT_succ (k : Nat) : upd (filT k) k k = filT (k + 1) := by
  funext i; unfold upd filT; split
  · subst_vars; simp
  · split <;> split <;> omega
theorem oneT_succ (k : Nat) : upd (oneT k) k 1 = oneT (k + 1) := by
  funext i; unfold upd oneT; split
  · subst_vars; simp
  · split <;> split <;> omega
/-- The part of New before the loop: five new blocks. -/
structure TNewZ (w wx : World) (g bp bf bz bw : Nat) (W H n : Nat) : Prop where
  hg : Blk wx g 59 #[.int .i64 (W : Int), .int .i64 (H : Int), .slice (some ⟨bp, 0, none⟩) n n, .slice (some ⟨bf, 0, none⟩) n n, .slice (some ⟨bz, 0, none⟩) n n, .slice (some ⟨bw, 0, none⟩) n n, .bool false, .bool false, .int .i64 (n : Int)]
  hp : Blk wx bp 3 (arr n fun _ => 0)
  hf : Blk wx bf 69 (arz (n * 2) fun _ => 0)
  hz : Blk wx bz 3 (arr n fun _ => 0)
  hw : Blk wx bw 72 (arb (n * 2) fun _ => false)
  pz : bp ≠ bz
  fresh : w.heap.size ≤ g ∧ w.heap.size ≤ bp ∧ w.heap.size ≤ bf ∧ w.heap.size ≤ bz ∧ w.heap.size ≤ bw
  bel : Below w.heap.size w wx
set_option maxRecDepth 100000 in
set_option maxHeartbeats 8000000 in
theorem torNew_ok (w : World) (W H : Nat) (h : torB (W : Int) (H : Int) = true) :
    Calls Try.prog 19 #[.int .i64 (W : Int), .int .i64 (H : Int)] w
      fun e w' => ∃ p : TLoc, e = .returned (.tuple #[.pointer (some ⟨p.g, 0, none⟩), .int .i64 0]) ∧ Tor w' p W H (W * H) [] ∧ Below w.heap.size w w' ∧ p.from_ w.heap.size := by
  have HI := wrIs (W : Int) (H : Int) w
  rw [h] at HI
  obtain ⟨h1, h2, h3, h4, h5⟩ : 1 ≤ (W : Int) ∧ 1 ≤ (H : Int) ∧ (W : Int) ≤ 4096 ∧ (H : Int) ≤ 4096 ∧ (W : Int) * (H : Int) ≤ 4096 := by unfold torB at h; exact of_decide_eq_true h
  obtain ⟨n, hn⟩ : ∃ n, n = W * H := ⟨_, rfl⟩
  have hn2 : (W : Int) * (H : Int) = (n : Int) := by rw [hn]; push_cast; rfl
  have hnb : n ≤ 4096 := by omega
  have hn1 : 1 ≤ n := by rw [hn]; exact Nat.mul_pos (by omega) (by omega)
  rw [← hn]
  obtain ⟨i0, hi, hz0, hz1, hz2⟩ := info_parts int_info0
  have hmk := fun W => run_make_ints 22 3 i0 Try.underlying22 hi hz0 hz1 hz2 n (by omega) W
  have hmp := fun W => run_make_pairs n hnb W
  have hmb := fun W => run_make_bpairs n hnb W
  have HN := hide hn
  have HI2 := hide HI
  clear hi hz0 hz1 hz2 HI h hn
  go_enter Try.func19, Try.ntmps19
  go_wp2_with fail
  refine HI2.out.mono ?_
  rintro e w' ⟨rfl, rfl⟩
  go_upto_region 4 with fail
  go_cut [7] (fun s7 wx => ∃ g bp bf bz bw : Nat, s7 = .pointer (some ⟨g, 0, none⟩) ∧ TNewZ w wx g bp bf bz bw W H n)
  case first =>
    go_region
    all_goals (go_wp2_with fail; go_meet)
    all_goals (refine ⟨_, _, _, _, _, rfl, ⟨(heap5 w _ _ _ _ _).2.2.2.2, ?_, ?_, ?_, ?_, by omega, by omega, below5 w _ _ _ _ _ 1⟩⟩ <;> first | exact (heap5 w _ _ _ _ _).1 | exact (heap5 w _ _ _ _ _).2.1 | exact (heap5 w _ _ _ _ _).2.2.1 | exact (heap5 w _ _ _ _ _).2.2.2.1)
  case rest =>
    obtain ⟨g, bp, bf, bz, bw, rfl, hZ⟩ := hcut
    have z0 : arr n (fun _ => 0) = arr n (filT 0) := arr_congr fun i _ => by simp [filT]
    have z1 : arr n (fun _ => 0) = arr n (oneT 0) := arr_congr fun i _ => by simp [oneT]
    have hD : TS wc ⟨g, bp, bf, bz, bw⟩ W H n (filT 0) (fun _ => 0) (oneT 0) (fun _ => false) false false n :=
      ⟨hZ.hg, by rw [← z0]; exact hZ.hp, hZ.hf, by rw [← z1]; exact hZ.hz, hZ.hw, hZ.pz, by omega, by omega, HN.out, hnb⟩
    have hB := hZ.bel
    obtain ⟨f1, f2, f3, f4, f5⟩ := hZ.fresh
    clear hZ z0 z1
    obtain ⟨p, hp⟩ : ∃ p : TLoc, p = ⟨g, bp, bf, bz, bw⟩ := ⟨_, rfl⟩
    have e1 : g = p.g := by rw [hp]
    have e2 : w.heap.size ≤ p.bp ∧ w.heap.size ≤ p.bf ∧ w.heap.size ≤ p.bz ∧ w.heap.size ≤ p.bw := by rw [hp]; exact ⟨f2, f3, f4, f5⟩
    rw [← hp] at hD
    subst e1
    obtain ⟨f2', f3', f4', f5'⟩ := e2
    clear hp f2 f3 f4 f5
    go_wp2_with fail
    go_loopg [30] n (fun q v wr => ∃ k : Nat, k + q = n ∧ v = .int .i64 (k : Int) ∧ TS wr p W H n (filT k) (fun _ => 0) (oneT k) (fun _ => false) false false n ∧ Below w.heap.size w wr)
    case atStart => exact ⟨0, by omega, rfl, hD, hB⟩
    case round =>
      obtain ⟨k, hk, rfl, hd, hb⟩ := hrel
      have HK := hide hk
      have hkn : k ≤ n := by omega
      clear hk hD hB
      by_cases hlt : k < n
      · obtain ⟨_, _, c2, _, c4, _⟩ := hd.cells
        have cu := hd.hp.int hlt
        have cz := hd.hz.int hlt
        have zu := hd.hp.frozen k
        have zz := hd.hz.frozen k
        have gp := hd.gp
        have gz := hd.gz
        have pz := hd.pz
        have gp' := gp.symm
        have gz' := gz.symm
        have pz' := pz.symm
        have HD := hide hd
        have HB := hide hb
        clear hd hb
        go_wp2_with fail
        go_roundg (n - (k + 1))
        case measure => have := HK.out; omega
        case rel =>
          refine ⟨k + 1, by omega, by go_num, ?_, ?_⟩
          · have h := (HD.out.setUp k k).setSize k 1
            rw [filT_succ, oneT_succ] at h
            exact h
          · exact ((HB.out.setCell (p := ⟨p.bp, k, none⟩) f2' _).setCell (p := ⟨p.bz, k, none⟩) f4' _)
      · have hkk : k = n := by omega
        subst hkk
        go_wp2_with fail
        go_ret2
        have e1 : arr k (filT k) = arr k (fun i => i) := arr_congr fun i hi => by simp [filT, hi]
        have e2 : arr k (oneT k) = arr k (fun _ => 1) := arr_congr fun i hi => by simp [oneT, hi]
        have e3 : k = sets k (tL W H []) := (sets_id k).symm
        have hP : TP W H k [] (fun i => i) (fun _ => 1) (fun i => i) (fun _ => 0) (fun i => i) 0 (fun _ => 0) (fun _ => false) false false (fun _ => 0) (fun _ => 0) := by
          have := TP.new W H (by rw [← HN.out]; exact hnb)
          rw [← HN.out] at this
          exact this
        have hS : TS wr p W H k (fun i => i) (fun _ => 0) (fun _ => 1) (fun _ => false) false false (sets k (tL W H [])) :=
          ⟨by rw [← e3]; exact hd.hg, by rw [← e1]; exact hd.hp, hd.hf, by rw [← e2]; exact hd.hz, hd.hw, hd.pz, hd.nW, hd.nH, hd.nn, hd.nb⟩
        refine ⟨p, rfl, ⟨_, _, _, _, _, _, _, _, _, _, _, _, hS, hP⟩, hb, ?_⟩
        · intro j hj
          simp only [TLoc.bl, List.mem_cons, List.not_mem_nil, or_false] at hj
          rcases hj with rfl | rfl | rfl | rfl | rfl
          · exact f1
          · exact f2'
          · exact f3'
          · exact f4'
          · exact f5'
end Go.Proofs.Ytnkkdoookhhhaaa
