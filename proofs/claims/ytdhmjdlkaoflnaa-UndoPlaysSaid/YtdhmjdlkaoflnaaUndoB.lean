/- undo: New, unite, Union. -/
import Derived.Test.YtdhmjdlkaoflnaaUndoA
import Derived.Deep.DeepCutAuto
import Derived.BigRegion
namespace Go.Proofs.Ytdhmjdlkaoflnaa
open Go.RowKit
set_option linter.unusedVariables false

theorem int_info0 : (Try.prog.info? 3).map (fun i => (i.zero, i.size, i.bytes)) = some (some (.int .i64 0), 1, 8) := by kernel_rfl

def newOk (n : Int) : Bool := decide (0 ≤ n ∧ n ≤ 65536)
theorem undoNew_no (w : World) (n : Int) (h : newOk n = false) :
    Calls Try.prog 19 #[.int .i64 n] w fun e w' => e = .returned (.tuple #[.pointer none, .int .i64 2]) ∧ w = w' := by
  have h' : n < 0 ∨ 65536 < n := by simp [newOk] at h; omega
  by_cases h0 : n < 0
  · clear h h'
    go_enter Try.func19, Try.ntmps19
    go_wp2_with fail
    go_ret2
    exact ⟨rfl, rfl⟩
  · have h1 : 65536 < n := by omega
    clear h h'
    go_enter Try.func19, Try.ntmps19
    go_wp2_with fail
    go_ret2
    exact ⟨rfl, rfl⟩

theorem heap3 (w : World) (A B C : Obj) : (((w.alloc A).alloc B).alloc C).heap[w.heap.size]? = some A ∧ (((w.alloc A).alloc B).alloc C).heap[w.heap.size + 1]? = some B ∧
    (((w.alloc A).alloc B).alloc C).heap[w.heap.size + 1 + 1]? = some C := by
  have e1 : w.heap.size + 1 = (w.alloc A).heap.size := by simp
  have e2 : w.heap.size + 1 + 1 = ((w.alloc A).alloc B).heap.size := by simp
  refine ⟨?_, ?_, ?_⟩
  · rw [Below.heap_alloc _ _ _ (by simp <;> omega), Below.heap_alloc _ _ _ (by simp)]; exact heap_alloc_new w A
  · rw [Below.heap_alloc _ _ _ (by simp), e1]; exact heap_alloc_new _ B
  · rw [e2]; exact heap_alloc_new _ C

structure NewZ (w wx : World) (g bu bz n : Nat) : Prop where
  hg : Blk wx g 60 #[.pointer none, .slice (some ⟨bu, 0, none⟩) n n, .slice (some ⟨bz, 0, none⟩) n n, .slice none 0 0]
  hu : Blk wx bu 3 (arr n fun _ => 0)
  hz : Blk wx bz 3 (arr n fun _ => 0)
  uz : bu ≠ bz
  fresh : w.heap.size ≤ g ∧ w.heap.size ≤ bu ∧ w.heap.size ≤ bz
  bel : Below w.heap.size w wx
theorem below3 (w : World) (A B C : Obj) (k : Nat) : Below w.heap.size w ((((w.alloc A).alloc B).alloc C).drewN k) :=
  ((((Below.refl _ _).alloc (Nat.le_refl _) _).alloc (by simp) _).alloc (by simp; omega) _).drewN k

def fil (k : Nat) : Nat → Nat := fun i => if i < k then i else 0
def one (k : Nat) : Nat → Nat := fun i => if i < k then 1 else 0
theorem fil_succ (k : Nat) : upd (fil k) k k = fil (k + 1) := by
  funext i; unfold upd fil; split
  · subst_vars; simp
  · split <;> split <;> omega
theorem one_succ (k : Nat) : upd (one k) k 1 = one (k + 1) := by
  funext i; unfold upd one; split
  · subst_vars; simp
  · split <;> split <;> omega

def newLoc (g bu bz n : Nat) : ULoc := ⟨g, bu, bz, n, n, #[], #[], none, 0⟩
def ULoc.from_ (p : ULoc) (B : Nat) : Prop := ∀ k ∈ p.bl, B ≤ k

theorem US.setUp {w : World} {p : ULoc} {n : Nat} {up size : Nat → Nat} {log : List Nat} (h : US w p n up size log) {i : Nat} (v : Nat) (hi : i < n) :
    US (w.setCell ⟨p.bu, i, none⟩ (.int .i64 (v : Int))) p n (upd up i v) size log :=
  ⟨h.hg.far (p := ⟨p.bu, i, none⟩) h.gu _, h.hu.setIntx v hi, h.hz.far (p := ⟨p.bu, i, none⟩) h.uz.symm _,
    own_fr h.ho ((Fr.refl [p.bu] _).setCell (p := ⟨p.bu, i, none⟩) (.inl (by simp)) _) (fun b hb => by rw [ownBlock_slice] at hb; simp; rintro rfl; exact h.uo hb), h.uz, h.uo, h.zo, h.nb⟩
theorem US.setSize {w : World} {p : ULoc} {n : Nat} {up size : Nat → Nat} {log : List Nat} (h : US w p n up size log) {i : Nat} (v : Nat) (hi : i < n) :
    US (w.setCell ⟨p.bz, i, none⟩ (.int .i64 (v : Int))) p n up (upd size i v) log :=
  ⟨h.hg.far (p := ⟨p.bz, i, none⟩) h.gz _, h.hu.far (p := ⟨p.bz, i, none⟩) h.uz _, h.hz.setIntx v hi,
    own_fr h.ho ((Fr.refl [p.bz] _).setCell (p := ⟨p.bz, i, none⟩) (.inl (by simp)) _) (fun b hb => by rw [ownBlock_slice] at hb; simp; rintro rfl; exact h.zo hb), h.uz, h.uo, h.zo, h.nb⟩

set_option maxHeartbeats 4000000 in
theorem undoNew_ok (w : World) (n : Nat) (hn : n ≤ 65536) :
    Calls Try.prog 19 #[.int .i64 (n : Int)] w fun e w' => ∃ p : ULoc, e = .returned (.tuple #[.pointer (some ⟨p.g, 0, none⟩), .int .i64 0]) ∧ Und w' p n [] (fun i => i) ∧ Below w.heap.size w w' ∧ p.from_ w.heap.size := by
  obtain ⟨i0, hi, hz0, hz1, hz2⟩ := info_parts int_info0
  have hmk := fun W => run_make_ints 27 3 i0 Try.underlying27 hi hz0 hz1 hz2 n (by omega) W
  clear hi hz0 hz1 hz2
  go_enter Try.func19, Try.ntmps19
  go_upto_region 3 with fail
  go_cut [4] (fun s4 wx => ∃ g bu bz : Nat, s4 = .pointer (some ⟨g, 0, none⟩) ∧ NewZ w wx g bu bz n)
  case first =>
    go_region
    all_goals (go_wp2_with fail; go_meet)
    all_goals (refine ⟨_, _, _, rfl, ⟨(heap3 w _ _ _).2.2, ?_, ?_, by omega, by omega, below3 w _ _ _ 1⟩⟩ <;> first | exact (heap3 w _ _ _).1 | exact (heap3 w _ _ _).2.1)
  case rest =>
    obtain ⟨g, bu, bz, rfl, hZ⟩ := hcut
    have c0 : wc.cell? ⟨g, 0, none⟩ = some (.pointer none) := by rw [hZ.hg.cell]; rfl
    have f0 := hZ.hg.frozen 0
    have hD : US (wc.setCell ⟨g, 0, none⟩ (.pointer (some ⟨g, 0, none⟩))) (newLoc g bu bz n) n (fil 0) (one 0) [] := by
      have gu := hZ.hg.ne_ hZ.hu (by decide)
      have gz := hZ.hg.ne_ hZ.hz (by decide)
      have z0 : arr n (fun _ => 0) = arx n (fil 0) #[] := by rw [arx_nil]; exact arr_congr fun i _ => by simp [fil]
      have z1 : arr n (fun _ => 0) = arx n (one 0) #[] := by rw [arx_nil]; exact arr_congr fun i _ => by simp [one]
      refine ⟨hZ.hg.set_ 0 _, ?_, ?_, own_nil _ _ _ _, hZ.uz, by simp [newLoc, blkOf], by simp [newLoc, blkOf], hn⟩
      · show Blk _ bu _ (arx n (fil 0) #[]); rw [← z0]; exact hZ.hu.far (p := ⟨g, 0, none⟩) gu.symm _
      · show Blk _ bz _ (arx n (one 0) #[]); rw [← z1]; exact hZ.hz.far (p := ⟨g, 0, none⟩) gz.symm _
    have hB : Below w.heap.size w (wc.setCell ⟨g, 0, none⟩ (.pointer (some ⟨g, 0, none⟩))) := hZ.bel.setCell hZ.fresh.1 _
    obtain ⟨f1, f2, f4⟩ := hZ.fresh
    clear hZ
    go_wp2_with fail
    go_loopg [23] n (fun q v wr => ∃ k : Nat, k + q = n ∧ v = .int .i64 (k : Int) ∧ US wr (newLoc g bu bz n) n (fil k) (one k) [] ∧ Below w.heap.size w wr)
    case atStart => exact ⟨0, by omega, rfl, hD, hB⟩
    case round =>
      obtain ⟨k, hk, rfl, hd, hb⟩ := hrel
      have HK := hide hk
      have hkn : k ≤ n := by omega
      clear hk hD hB c0 f0
      by_cases hlt : k < n
      · have k1 : wr.cell? ⟨g, 1, none⟩ = some (.slice (some ⟨bu, 0, none⟩) n n) := hd.c1
        have k2 : wr.cell? ⟨g, 2, none⟩ = some (.slice (some ⟨bz, 0, none⟩) n n) := hd.c2
        have cu : wr.cell? ⟨bu, k, none⟩ = some (.int .i64 (fil k k : Int)) := hd.hu.intx hlt
        have cz : wr.cell? ⟨bz, k, none⟩ = some (.int .i64 (one k k : Int)) := hd.hz.intx hlt
        have zu : wr.frozen? ⟨bu, k, none⟩ = false := hd.hu.frozen k
        have zz : wr.frozen? ⟨bz, k, none⟩ = false := hd.hz.frozen k
        have gu : g ≠ bu := hd.gu
        have gz : g ≠ bz := hd.gz
        have uz : bu ≠ bz := hd.uz
        have gu' := gu.symm
        have gz' := gz.symm
        have uz' := uz.symm
        have HD := hide hd
        have HB := hide hb
        clear hd hb
        go_wp2_with fail
        go_region
        go_wp2_with fail
        go_roundg (n - (k + 1))
        case measure => have := HK.out; omega
        case rel =>
          refine ⟨k + 1, by omega, by go_num, ?_, ?_⟩
          · have h := (HD.out.setUp k hlt).setSize 1 hlt
            rw [fil_succ, one_succ] at h
            exact h.drewN 1
          · exact ((HB.out.setCell (p := ⟨bu, k, none⟩) f2 _).setCell (p := ⟨bz, k, none⟩) f4 _).drewN 1
      · have hkk : k = n := by omega
        subst hkk
        go_wp2_with fail
        go_ret2
        have e1 : arx k (fil k) #[] = arx k (fun i => i) #[] := arx_congr _ fun i hi => by simp [fil, hi]
        have e2 : arx k (one k) #[] = arx k (fun _ => 1) #[] := arx_congr _ fun i hi => by simp [one, hi]
        refine ⟨newLoc g bu bz k, rfl, ⟨_, _, [], ⟨hd.hg, ?_, ?_, hd.ho, hd.uz, hd.uo, hd.zo, hn⟩, Hist.new⟩, hb, ?_⟩
        · show Blk _ bu _ (arx k (fun i => i) #[]); rw [← e1]; exact hd.hu
        · show Blk _ bz _ (arx k (fun _ => 1) #[]); rw [← e2]; exact hd.hz
        · intro j hj
          rcases ULoc.mem_bl.1 hj with rfl | rfl | rfl | hj
          · exact f1
          · exact f2
          · exact f4
          · simp [newLoc, blkOf] at hj

/-- Where sets lie behind an operation: the same struct and lists; the log may have moved to a new block. -/
structure Moved (w : World) (p p' : ULoc) : Prop where
  g : p'.g = p.g
  bl : ∀ k ∈ p'.bl, k ∈ p.bl ∨ w.heap.size ≤ k
theorem Moved.refl (w : World) (p : ULoc) : Moved w p p := ⟨rfl, fun k hk => .inl hk⟩
theorem Moved.trans {w w' : World} {p p' p2 : ULoc} (h : Moved w p p') (k : Moved w' p' p2) (hs : w.heap.size ≤ w'.heap.size) : Moved w p p2 :=
  ⟨k.g.trans h.g, fun b hb => by
    rcases k.bl b hb with h1 | h1
    · exact h.bl b h1
    · exact .inr (by omega)⟩
theorem Moved.from_ {w : World} {p p' : ULoc} {B : Nat} (h : Moved w p p') (hp : p.from_ B) (hB : B ≤ w.heap.size) : p'.from_ B := fun k hk => by
  rcases h.bl k hk with h1 | h1
  · exact hp k h1
  · omega

/-- The log has grown by an element. -/
theorem US.pushLog {w w5 : World} {p : ULoc} {n : Nat} {up size : Nat → Nat} {log : List Nat} {A5 : Option Addr} {c5 : Nat} (y : Nat) (h : US w p n up size log)
    (ho : w5.ownsRow 0 3 1 (.slice A5 (log.length + 1) c5) (log.length + 1) (nats log ++ (#[Value.int .i64 (y : Int)] : Array Value).toList))
    (hg : w.grownBy w5 (Value.slice p.A log.length p.cl).ownBlock) (hat : (Value.slice A5 (log.length + 1) c5).ownBlock = (Value.slice p.A log.length p.cl).ownBlock ∨ (Value.slice A5 (log.length + 1) c5).ownBlock = some (w.heap.size + 1)) :
    US (w5.setCell ⟨p.g, 3, none⟩ (.slice A5 (log.length + 1) c5)) { p with A := A5, cl := c5 } n up size (log ++ [y]) ∧ Moved w p { p with A := A5, cl := c5 } ∧
      Fr p.bl w (w5.setCell ⟨p.g, 3, none⟩ (.slice A5 (log.length + 1) c5)) := by
  rw [ownBlock_slice] at hg
  rw [ownBlock_slice, ownBlock_slice] at hat
  have hu5 := h.hu.grown hg h.uo
  have hz5 := h.hz.grown hg h.zo
  have hg5 := h.hg.grown hg h.go_
  have fr : Fr p.bl w w5 := Fr.grown hg (fun k hk => ULoc.mem_bl.2 (.inr (.inr (.inr hk))))
  have hlt := h.hg.lt
  have hlu := h.hu.lt
  have hlz := h.hz.lt
  have ne : ∀ b, b < w.heap.size → blkOf p.A ≠ some b → blkOf A5 ≠ some b := fun b hb hne e => by
    rcases hat with hat | hat
    · exact hne (by rw [← hat]; exact e)
    · rw [hat] at e; injection e with e; omega
  refine ⟨⟨?_, hu5.far (p := ⟨p.g, 3, none⟩) h.gu.symm _, hz5.far (p := ⟨p.g, 3, none⟩) h.gz.symm _, ?_, h.uz, ne _ hlu h.uo, ne _ hlz h.zo, h.nb⟩, ⟨rfl, fun k hk => ?_⟩, ?_⟩
  · have := hg5.set_ 3 (.slice A5 (log.length + 1) c5)
    rw [List.length_append]; exact this
  · have e : nats (log ++ [y]) = nats log ++ (#[Value.int .i64 (y : Int)] : Array Value).toList := by simp [nats, is]
    rw [e, List.length_append]
    exact own_fr ho ((Fr.refl [p.g] _).setCell (p := ⟨p.g, 3, none⟩) (.inl (by simp)) _) (fun b hb => by
      rw [ownBlock_slice] at hb
      simp
      rintro rfl
      exact ne _ hlt h.go_ hb)
  · rcases ULoc.mem_bl.1 hk with rfl | rfl | rfl | hk
    · exact .inl (ULoc.mem_bl.2 (.inl rfl))
    · exact .inl (ULoc.mem_bl.2 (.inr (.inl rfl)))
    · exact .inl (ULoc.mem_bl.2 (.inr (.inr (.inl rfl))))
    · have hk : blkOf A5 = some k := hk
      rcases hat with hat | hat
      · exact .inl (ULoc.mem_bl.2 (.inr (.inr (.inr (by rw [← hat]; exact hk)))))
      · rw [hat] at hk; injection hk with hk; exact .inr (by omega)
  · exact fr.setCell (p := ⟨p.g, 3, none⟩) (.inl (ULoc.mem_bl.2 (.inl rfl))) _
end Go.Proofs.Ytdhmjdlkaoflnaa
