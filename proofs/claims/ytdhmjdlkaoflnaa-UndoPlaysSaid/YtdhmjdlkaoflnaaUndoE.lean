/- undo: Labels, row. -/
import Derived.Test.YtdhmjdlkaoflnaaUndoD
import Derived.Test.YtdhmjdlkaoflnaaRowP
namespace Go.Proofs.Ytdhmjdlkaoflnaa
open Go.RowKit
set_option linter.unusedVariables false

/-- What Labels has noted of roots after k elements. -/
def lstF (L rep : Nat → Nat) (k : Nat) : Nat → Nat := fun r => if cnt (fun i => rep i == r) k = 0 then 0 else L r + 1
theorem lstF_zero (L rep : Nat → Nat) (r : Nat) : lstF L rep 0 r = 0 := by simp [lstF, cnt]
section
variable {n M c : Nat} {L up least size rep ρ : Nat → Nat}
theorem Sts.lab_rep (h : Sts n L up least size rep ρ M c) {k : Nat} (hk : k < n) : L (rep k) = L k := (h.same _ _ (h.fo.rep_lt k hk) hk).1 (h.fo.rep_rep hk)
theorem lstF_in (h : Sts n L up least size rep ρ M c) (hl : Lab n L) {k : Nat} (hk : k < n) (h0 : cnt (fun i => rep i == rep k) k = 0) :
    lstF L rep k (rep k) = 0 ∧ L k = k ∧ upd (lstF L rep k) (rep k) (k + 1) = lstF L rep (k + 1) := by
  have e : L k = k := by
    have h1 := hl.le k hk
    have h2 := hl.idem k hk
    rcases Nat.lt_or_ge (L k) k with h3 | h3
    · have : 1 ≤ cnt (fun i => rep i == rep k) k := cnt_pos h3 (by simpa using (h.same _ _ (by omega) hk).2 h2)
      omega
    · omega
  refine ⟨by simp [lstF, h0], e, ?_⟩
  funext r
  unfold upd lstF
  by_cases hr : r = rep k
  · subst hr
    have : cnt (fun i => rep i == rep k) (k + 1) ≠ 0 := by rw [cnt_succ_true (by simp)]; omega
    rw [if_pos rfl, if_neg this, h.lab_rep hk, e]
  · have : cnt (fun i => rep i == r) (k + 1) = cnt (fun i => rep i == r) k := cnt_succ_false (by simp; omega)
    rw [if_neg hr, this]
theorem lstF_out (h : Sts n L up least size rep ρ M c) {k : Nat} (hk : k < n) (h0 : cnt (fun i => rep i == rep k) k ≠ 0) :
    lstF L rep k (rep k) = L k + 1 ∧ lstF L rep k = lstF L rep (k + 1) := by
  refine ⟨by unfold lstF; rw [if_neg h0, h.lab_rep hk], ?_⟩
  funext r
  unfold lstF
  by_cases hr : r = rep k
  · subst hr
    rw [cnt_succ_true (by simp), if_neg h0, if_neg (by omega)]
  · have : cnt (fun i => rep i == r) (k + 1) = cnt (fun i => rep i == r) k := cnt_succ_false (by simp; omega)
    rw [this]
end

set_option maxHeartbeats 4000000 in
theorem undoLabels (w : World) (p : ULoc) (n : Nat) (past : List (Nat → Nat)) (L : Nat → Nat) (h : Und w p n past L) :
    Calls Try.prog 14 #[.pointer (some ⟨p.g, 0, none⟩)] w fun e w' => ∃ b, e = .returned (.slice (some ⟨b, 0, none⟩) n n) ∧ Blk w' b 3 (arr n L) ∧ w.heap.size ≤ b ∧ Below w.heap.size w w' := by
  have V := undoValid w p n past L h
  have nb := h.nb
  obtain ⟨i0, hi, hz0, hz1, hz2⟩ := info_parts int_info0
  have hmk := fun W => run_make_ints 27 3 i0 Try.underlying27 hi hz0 hz1 hz2 n (by omega) W
  clear hi hz0 hz1 hz2
  obtain ⟨up, size, log, h, hh⟩ := h
  obtain ⟨least, rep, ρ, M, c, hs, hl, _⟩ := hh.st
  have c1 := h.c1
  have hgl := h.hg.lt
  have H := hide h
  have HS := hide hs
  have HL := hide hl
  have HV := hide V
  clear h hh hs hl V
  go_enter Try.func14, Try.ntmps14
  go_wp2_with (go_at_call 31; refine HV.out.mono ?_; rintro e w' ⟨rfl, rfl⟩)
  have hb1 : Blk ((w.alloc (.cells (arr n fun _ => 0) 3)).alloc (.cells (arr n fun _ => 0) 3)) w.heap.size 3 (arr n fun _ => 0) := (Blk.new _ _ _).alloc _
  have hb2 : Blk ((w.alloc (.cells (arr n fun _ => 0) 3)).alloc (.cells (arr n fun _ => 0) 3)) (w.heap.size + 1) 3 (arr n fun _ => 0) := by
    have := Blk.new (w.alloc (.cells (arr n fun _ => 0) 3)) 3 (arr n fun _ => 0)
    have e : (w.alloc (.cells (arr n fun _ => 0) 3)).heap.size = w.heap.size + 1 := by simp
    rwa [e] at this
  have hbel : Below w.heap.size w ((w.alloc (.cells (arr n fun _ => 0) 3)).alloc (.cells (arr n fun _ => 0) 3)) := ((Below.refl _ _).alloc (Nat.le_refl _) _).alloc (by simp) _
  generalize (w.alloc (.cells (arr n fun _ => 0) 3)).alloc (.cells (arr n fun _ => 0) 3) = w0 at *
  generalize hx2 : w.heap.size + 1 = b2 at *
  have hb2' : w.heap.size ≤ b2 := by omega
  have hne : w.heap.size ≠ b2 := by omega
  have hne' := hne.symm
  generalize hx1 : w.heap.size = b1 at *
  have HX1 := hide hx1
  have HB1 := hide hb1
  have HB2 := hide hb2
  have HBEL := hide hbel
  clear hb1 hb2 hbel hx1 hx2 hmk c1
  go_loopg [24] n (fun q v wr => ∃ k : Nat, k + q = n ∧ v = .int .i64 (k : Int) ∧ Blk wr b1 3 (arr n (filL L k)) ∧ Blk wr b2 3 (arr n (lstF L rep k)) ∧ Below b1 w wr)
  case atStart =>
    refine ⟨0, by omega, rfl, ?_, ?_, HBEL.out⟩
    · have e : arr n (filL L 0) = arr n (fun _ => 0) := arr_congr fun i _ => by simp [filL]
      rw [e]; exact HB1.out
    · have e : arr n (lstF L rep 0) = arr n (fun _ => 0) := arr_congr fun i _ => lstF_zero _ _ _
      rw [e]; exact HB2.out
  case round =>
    obtain ⟨k, hk, rfl, hk1, hk2, hb⟩ := hrel
    have HK := hide hk
    have hkn : k ≤ n := by omega
    clear hk HB1 HB2 HBEL
    by_cases hlt : k < n
    · have hr := HS.out.fo.rep_lt k hlt
      have hU : US wr p n up size log := H.out.fresh (by rw [HX1.out]; exact hb)
      have R := undoRoot wr k p n M up size rep ρ log hU HS.out.fo hlt
      have ck := hk1.int hlt
      have fk1 := hk1.frozen k
      have fk2 := hk2.frozen (rep k)
      have hLk := HL.out.le k hlt
      by_cases h0 : cnt (fun i => rep i == rep k) k = 0
      · obtain ⟨e1, e2, e3⟩ := lstF_in HS.out HL.out hlt h0
        have cr := hk2.int hr
        rw [e1] at cr
        have cr' : wr.cell? ⟨b2, rep k, none⟩ = some (.int .i64 0) := cr
        have E2 := hide e2
        have E3 := hide e3
        have HR := hide R
        have HK1 := hide hk1
        have HK2 := hide hk2
        have HBB := hide hb
        clear h0 e1 e2 e3 R hU hk1 hk2 hb cr
        go_wp2_with (go_at_call 32; refine HR.out.mono ?_; rintro e w' ⟨rfl, rfl⟩)
        go_roundg (n - (k + 1))
        case measure => have := HK.out; omega
        case rel =>
          have h2 := HK2.out.setInt (rep k) (k + 1)
          rw [E3.out] at h2
          have h1 := (HK1.out.far (p := ⟨b2, rep k, none⟩) hne (.int .i64 ((k + 1 : Nat) : Int))).setInt k k
          have e4 : upd (filL L k) k k = filL L (k + 1) := by have := filL_succ L k; rwa [E2.out] at this
          rw [e4] at h1
          exact ⟨k + 1, by omega, by go_num, h1, h2.far (p := ⟨b1, k, none⟩) hne' _, (HBB.out.setCell (p := ⟨b2, rep k, none⟩) hb2' _).setCell (p := ⟨b1, k, none⟩) (Nat.le_refl _) _⟩
      · obtain ⟨e1, e3⟩ := lstF_out HS.out hlt h0
        have cr := hk2.int hr
        rw [e1] at cr
        have HR := hide R
        have HK1 := hide hk1
        have HK2 := hide hk2
        have HBB := hide hb
        have E3 := hide e3
        clear h0 e1 e3 R hU hk1 hk2 hb
        obtain ⟨s, hs⟩ : ∃ s, s = L k + 1 := ⟨_, rfl⟩
        rw [← hs] at cr
        have hs0 : ((s : Int) == 0) = false := by simp; omega
        have hs1 : 1 ≤ s := by omega
        have hs2 : s ≤ 65537 := by omega
        have HSS := hide hs
        clear hs
        go_wp2_with (go_at_call 32; refine HR.out.mono ?_; rintro e w' ⟨rfl, rfl⟩)
        go_roundg (n - (k + 1))
        case measure => have := HK.out; omega
        case rel =>
          have e5 : ((s : Int) - 1) = ((L k : Nat) : Int) := by have := HSS.out; omega
          have h1 := HK1.out.setInt k (L k)
          rw [filL_succ] at h1
          rw [e5]
          exact ⟨k + 1, by omega, by go_num, h1, by rw [← E3.out]; exact HK2.out.far (p := ⟨b1, k, none⟩) hne' _, HBB.out.setCell (p := ⟨b1, k, none⟩) (Nat.le_refl _) _⟩
    · have hkk : k = n := by omega
      subst hkk
      go_wp2_with fail
      go_ret
      have e1 : arr k (filL L k) = arr k L := arr_congr fun i hi => by simp [filL, hi]
      rw [e1] at hk1
      rw [HX1.out]
      exact ⟨b1, rfl, hk1, Nat.le_refl _, hb⟩
end Go.Proofs.Ytdhmjdlkaoflnaa
