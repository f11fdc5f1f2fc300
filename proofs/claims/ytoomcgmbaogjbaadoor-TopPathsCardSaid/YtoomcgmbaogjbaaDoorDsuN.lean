/- dsu: New. -/
import Derived.Test.YtoomcgmbaogjbaaDoorDsuB0
import Derived.Laws.MakeOwn
import Derived.Deep.DeepCutAuto
namespace Go.Proofs.YtoomcgmbaogjbaaDoor
open Go.RowKit
set_option linter.unusedVariables false


theorem heap4 (w : World) (A B C D : Obj) : ((((w.alloc A).alloc B).alloc C).alloc D).heap[w.heap.size]? = some A ∧ ((((w.alloc A).alloc B).alloc C).alloc D).heap[w.heap.size + 1]? = some B ∧
    ((((w.alloc A).alloc B).alloc C).alloc D).heap[w.heap.size + 1 + 1]? = some C ∧ ((((w.alloc A).alloc B).alloc C).alloc D).heap[w.heap.size + 1 + 1 + 1]? = some D := by
  have e1 : w.heap.size + 1 = (w.alloc A).heap.size := by simp
  have e2 : w.heap.size + 1 + 1 = ((w.alloc A).alloc B).heap.size := by simp
  have e3 : w.heap.size + 1 + 1 + 1 = (((w.alloc A).alloc B).alloc C).heap.size := by simp
  refine ⟨?_, ?_, ?_, ?_⟩
  · rw [Below.heap_alloc _ _ _ (by simp <;> omega), Below.heap_alloc _ _ _ (by simp <;> omega), Below.heap_alloc _ _ _ (by simp)]; exact heap_alloc_new w A
  · rw [Below.heap_alloc _ _ _ (by simp <;> omega), Below.heap_alloc _ _ _ (by simp), e1]; exact heap_alloc_new _ B
  · rw [Below.heap_alloc _ _ _ (by simp), e2]; exact heap_alloc_new _ C
  · rw [e3]; exact heap_alloc_new _ D

/-- The part of the function before the loop: four new blocks. -/
structure NewZ (w wx : World) (g bu bl bz n : Nat) (z : Value) : Prop where
  hg : Blk wx g 91 #[z, .slice (some ⟨bu, 0, none⟩) n n, .slice (some ⟨bl, 0, none⟩) n n, .slice (some ⟨bz, 0, none⟩) n n, .int .i64 (n : Int)]
  hu : Blk wx bu 3 (arr n fun _ => 0)
  hl : Blk wx bl 3 (arr n fun _ => 0)
  hz : Blk wx bz 3 (arr n fun _ => 0)
  ul : bu ≠ bl
  uz : bu ≠ bz
  lz : bl ≠ bz
  fresh : w.heap.size ≤ g ∧ w.heap.size ≤ bu ∧ w.heap.size ≤ bl ∧ w.heap.size ≤ bz
  bel : Below w.heap.size w wx

theorem below4 (w : World) (A B C D : Obj) (k : Nat) : Below w.heap.size w (((((w.alloc A).alloc B).alloc C).alloc D).drewN k) :=
  (((((Below.refl _ _).alloc (Nat.le_refl _) _).alloc (by simp) _).alloc (by simp; omega) _).alloc (by simp; omega) _).drewN k

def fil (k : Nat) : Nat → Nat := fun i => if i < k then i else 0
def one (k : Nat) : Nat → Nat := fun i => if i < k then 1 else 0
theorem fil_succ (k : Nat) : upd (fil k) k k = fil (k + 1) := by
  funext i; unfold upd fil; split
  · subst_vars; simp
  · split <;> split <;> omega
theorem one_succ (k : Nat) : upd (one k) k 1 = one (k + 1) := by
  funext i; unfold upd one; split
  · subst_vars; simp
  · split <;> split <;> omega

/-- Sets of n elements in blocks that New has just made. -/
def newLoc (g bu bl bz n : Nat) : Loc := ⟨g, bu, bl, bz, n, n, n, #[], #[], #[]⟩

/-- All blocks of the sets lie from B on. -/
def Loc.from_ (p : Loc) (B : Nat) : Prop := B ≤ p.g ∧ B ≤ p.bu ∧ B ≤ p.bl ∧ B ≤ p.bz

set_option maxHeartbeats 4000000 in
theorem dsuNew_ok (w : World) (n : Nat) (hn : n ≤ 65536) :
    Calls Tryd.prog 15 #[.int .i64 (n : Int)] w fun e w' => ∃ p : Loc, e = .returned (.tuple #[.pointer (some ⟨p.g, 0, none⟩), .int .i64 0]) ∧ Dsu w' p n (fun i => i) ∧ Below w.heap.size w w' ∧ p.from_ w.heap.size := by
  have hinfo : (Tryd.prog.info? 3).map (fun i => (i.zero, i.size, i.bytes)) = some (some (.int .i64 0), 1, 8) := by kernel_rfl
  obtain ⟨i0, hi, hz0, hz1, hz2⟩ := info_parts hinfo
  have hmk := fun W => run_make_ints 30 3 i0 Tryd.underlying30 hi hz0 hz1 hz2 n (by omega) W
  clear hinfo hi hz0 hz1 hz2
  go_enter Tryd.func15, Tryd.ntmps15
  go_upto_region 3 with fail
  go_cut [4] (fun s4 wx => ∃ g bu bl bz : Nat, s4 = .pointer (some ⟨g, 0, none⟩) ∧ NewZ w wx g bu bl bz n (.pointer none))
  case first =>
    go_region
    all_goals (go_wp2_with fail; go_meet)
    all_goals (refine ⟨_, _, _, _, rfl, ⟨(heap4 w _ _ _ _).2.2.2, ?_, ?_, ?_, by omega, by omega, by omega, by omega, below4 w _ _ _ _ 1⟩⟩ <;> first | exact (heap4 w _ _ _ _).1 | exact (heap4 w _ _ _ _).2.1 | exact (heap4 w _ _ _ _).2.2.1)
  case rest =>
    obtain ⟨g, bu, bl, bz, rfl, hZ⟩ := hcut
    have c0 : wc.cell? ⟨g, 0, none⟩ = some (.pointer none) := by rw [hZ.hg.cell]; rfl
    have f0 := hZ.hg.frozen 0
    have hD : DS (wc.setCell ⟨g, 0, none⟩ (.pointer (some ⟨g, 0, none⟩))) (newLoc g bu bl bz n) n (fil 0) (fil 0) (one 0) n := by
      have gu := hZ.hg.ne_ hZ.hu (by decide)
      have gl := hZ.hg.ne_ hZ.hl (by decide)
      have gz := hZ.hg.ne_ hZ.hz (by decide)
      have z0 : arr n (fun _ => 0) = arx n (fil 0) #[] := by rw [arx_nil]; exact arr_congr fun i _ => by simp [fil]
      have z1 : arr n (fun _ => 0) = arx n (one 0) #[] := by rw [arx_nil]; exact arr_congr fun i _ => by simp [one]
      refine ⟨hZ.hg.set_ 0 _, ?_, ?_, ?_, hZ.ul, hZ.uz, hZ.lz, hn⟩
      · show Blk _ bu _ (arx n (fil 0) #[]); rw [← z0]; exact hZ.hu.far (p := ⟨g, 0, none⟩) gu.symm _
      · show Blk _ bl _ (arx n (fil 0) #[]); rw [← z0]; exact hZ.hl.far (p := ⟨g, 0, none⟩) gl.symm _
      · show Blk _ bz _ (arx n (one 0) #[]); rw [← z1]; exact hZ.hz.far (p := ⟨g, 0, none⟩) gz.symm _
    have hB : Below w.heap.size w (wc.setCell ⟨g, 0, none⟩ (.pointer (some ⟨g, 0, none⟩))) := hZ.bel.setCell hZ.fresh.1 _
    obtain ⟨f1, f2, f3, f4⟩ := hZ.fresh
    clear hZ
    go_wp2_with fail
    go_loopg [26] n (fun q v wr => ∃ k : Nat, k + q = n ∧ v = .int .i64 (k : Int) ∧ DS wr (newLoc g bu bl bz n) n (fil k) (fil k) (one k) n ∧ Below w.heap.size w wr)
    case atStart => exact ⟨0, by omega, rfl, hD, hB⟩
    case round =>
      obtain ⟨k, hk, rfl, hd, hb⟩ := hrel
      have HK := hide hk
      have hkn : k ≤ n := by omega
      clear hk hD hB c0 f0
      by_cases hlt : k < n
      · have k1 : wr.cell? ⟨g, 1, none⟩ = some (.slice (some ⟨bu, 0, none⟩) n n) := hd.c1
        have k2 : wr.cell? ⟨g, 2, none⟩ = some (.slice (some ⟨bl, 0, none⟩) n n) := hd.c2
        have k3 : wr.cell? ⟨g, 3, none⟩ = some (.slice (some ⟨bz, 0, none⟩) n n) := hd.c3
        have cu : wr.cell? ⟨bu, k, none⟩ = some (.int .i64 (fil k k : Int)) := hd.hu.intx hlt
        have cl : wr.cell? ⟨bl, k, none⟩ = some (.int .i64 (fil k k : Int)) := hd.hl.intx hlt
        have cz : wr.cell? ⟨bz, k, none⟩ = some (.int .i64 (one k k : Int)) := hd.hz.intx hlt
        have zu : wr.frozen? ⟨bu, k, none⟩ = false := hd.hu.frozen k
        have zl : wr.frozen? ⟨bl, k, none⟩ = false := hd.hl.frozen k
        have zz : wr.frozen? ⟨bz, k, none⟩ = false := hd.hz.frozen k
        have gu : g ≠ bu := hd.gu
        have gl : g ≠ bl := hd.gl
        have gz : g ≠ bz := hd.gz
        have ul : bu ≠ bl := hd.ul
        have uz : bu ≠ bz := hd.uz
        have lz : bl ≠ bz := hd.lz
        have gu' := gu.symm
        have gl' := gl.symm
        have gz' := gz.symm
        have ul' := ul.symm
        have uz' := uz.symm
        have lz' := lz.symm
        have HD := hide hd
        have HB := hide hb
        clear hd hb
        go_wp2_with fail
        go_region
        go_wp2_with fail
        go_roundg (n - (k + 1))
        case measure => have := HK.out; omega
        case rel =>
          refine ⟨k + 1, by omega, by go_num, ?_, ?_⟩
          · have h := ((HD.out.setUp k hlt).setLeast k hlt).setSize 1 hlt
            rw [fil_succ, one_succ] at h
            exact h.drewN 1
          · exact (((HB.out.setCell (p := ⟨bu, k, none⟩) f2 _).setCell (p := ⟨bl, k, none⟩) f3 _).setCell (p := ⟨bz, k, none⟩) f4 _).drewN 1
      · have hkk : k = n := by omega
        subst hkk
        go_wp2_with fail
        go_ret2
        have e1 : arx k (fil k) #[] = arx k (fun i => i) #[] := arx_congr _ fun i hi => by simp [fil, hi]
        have e2 : arx k (one k) #[] = arx k (fun _ => 1) #[] := arx_congr _ fun i hi => by simp [one, hi]
        refine ⟨newLoc g bu bl bz k, rfl, ⟨_, _, _, _, _, _, _, ⟨hd.hg, ?_, ?_, ?_, hd.ul, hd.uz, hd.lz, hn⟩, Sts.new k, Lab.id_ k⟩, hb, f1, f2, f3, f4⟩
        · show Blk _ bu _ (arx k (fun i => i) #[]); rw [← e1]; exact hd.hu
        · show Blk _ bl _ (arx k (fun i => i) #[]); rw [← e1]; exact hd.hl
        · show Blk _ bz _ (arx k (fun _ => 1) #[]); rw [← e2]; exact hd.hz
end Go.Proofs.YtoomcgmbaogjbaaDoor
