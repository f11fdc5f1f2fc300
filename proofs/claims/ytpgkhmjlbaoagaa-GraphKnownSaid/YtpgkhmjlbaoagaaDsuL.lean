/- dsu: New's refusals, Labels, Copy. -/
import Derived.Test.YtpgkhmjlbaoagaaDsuN
import Derived.Test.YtpgkhmjlbaoagaaInfo
namespace Go.Proofs.Ytpgkhmjlbaoagaa
open Go.RowKit
set_option linter.unusedVariables false

def newOk (n : Int) : Bool := decide (0 ≤ n ∧ n ≤ 65536)
theorem dsuNew_no (w : World) (n : Int) (h : newOk n = false) :
    Calls Try.prog 60 #[.int .i64 n] w fun e w' => e = .returned (.tuple #[.pointer none, .int .i64 2]) ∧ w = w' := by
  have h' : n < 0 ∨ 65536 < n := by simp [newOk] at h; omega
  by_cases h0 : n < 0
  · clear h h'
    go_enter Try.func60, Try.ntmps60
    go_wp2_with fail
    go_ret2
    exact ⟨rfl, rfl⟩
  · have h1 : 65536 < n := by omega
    clear h h'
    go_enter Try.func60, Try.ntmps60
    go_wp2_with fail
    go_ret2
    exact ⟨rfl, rfl⟩


set_option maxHeartbeats 4000000 in
theorem dsuLabels (w : World) (p : Loc) (n : Nat) (L : Nat → Nat) (h : Dsu w p n L) :
    Calls Try.prog 53 #[.pointer (some ⟨p.g, 0, none⟩)] w fun e w' => ∃ b, e = .returned (.slice (some ⟨b, 0, none⟩) n n) ∧ Dsu w' p n L ∧ Blk w' b 3 (arr n L) ∧ w.heap.size ≤ b ∧ Fr [p.bu] w w' := by
  have H := hide h
  have nb := h.nb
  have hinfo : (Try.prog.info? 3).map (fun i => (i.zero, i.size, i.bytes)) = some (some (.int .i64 0), 1, 8) := by kernel_rfl
  obtain ⟨i0, hi, hz0, hz1, hz2⟩ := info_parts hinfo
  have hmk := fun W => run_make_ints 40 3 i0 Try.underlying40 hi hz0 hz1 hz2 n (by omega) W
  clear hinfo hi hz0 hz1 hz2
  obtain ⟨up, least, size, rep, ρ, M, c, hd, hs, hl⟩ := h
  have c1 := hd.c1
  have HS := hide hs
  have hlt := hd.hg.lt
  have hltu := hd.hu.lt
  have HD := hide hd
  clear hd hs
  go_enter Try.func53, Try.ntmps53
  go_wp2_with (first | (go_at_call 62; refine (dsuValid _ _ _ _ H.out).mono ?_; rintro e w' ⟨rfl, rfl⟩))
  clear c1 hmk
  go_loopg [16] n (fun q v wr => ∃ (k : Nat) (up' : Nat → Nat), k + q = n ∧ v = .int .i64 (k : Int) ∧ DS wr p n up' least size c ∧ Forest n up' rep ρ M ∧ Blk wr w.heap.size 3 (arr n (filL L k)) ∧ Fr [p.bu] w wr)
  case atStart =>
    refine ⟨0, up, by omega, rfl, HD.out.fr (S := []) ((Fr.refl _ _).alloc _) (by simp), HS.out.fo, ?_, (Fr.refl _ _).alloc _⟩
    have e : arr n (filL L 0) = arr n (fun _ => 0) := arr_congr fun i _ => by simp [filL]
    rw [e]; exact Blk.new _ _ _
  case round =>
    obtain ⟨k, up', hk, rfl, hd, hf, hb, hfr⟩ := hrel
    have HK := hide hk
    have hkn : k ≤ n := by omega
    clear hk
    have HF := hide hf
    have HFR := hide hfr
    clear hf hfr
    by_cases hlt : k < n
    · have hr := HS.out.fo.rep_lt k hlt
      have c2 := hd.c2
      have cl := hd.hl.intx hr
      have wu : w.heap.size ≠ p.bu := by omega
      have HD2 := hide hd
      have HB := hide hb
      have hag : p.g ≠ w.heap.size := by have := HD.out.hg.lt; omega
      have hal : p.bl ≠ w.heap.size := by have := HD.out.hl.lt; omega
      have hle : Hid (least (rep k) = L k) := HS.out.le k hlt
      clear hd hb
      go_wp2_with fail
      go_region_held3 (fun w' => w'.cell? ⟨p.g, 2, none⟩ = some (.slice (some ⟨p.bl, 0, none⟩) n p.cl) ∧ w'.cell? ⟨p.bl, rep k, none⟩ = some (.int .i64 (least (rep k) : Int)))
        (first | exact ⟨c2, cl⟩ | exact ⟨hd1.c2, hd1.hl.intx hr⟩ | exact ⟨(cell_far _ _ hag).trans hd1.c2, (cell_far _ _ hal).trans (hd1.hl.intx hr)⟩)
        (first | (go_at_call 63; refine (dsuRoot _ _ _ _ _ _ _ _ _ _ _ (HD2.out.drewN 1) HF.out hlt).mono ?_; rintro e w1 ⟨rfl, up1, hd1, hf1, hfr1⟩; have hb1 := (HB.out.drewN 1).fr hfr1 (by simpa using wu); have cc := hb1.int hlt; have ff := hb1.frozen k))
      go_wp2_with fail
      go_roundg (n - (k + 1))
      case measure => have := HK.out; omega
      case rel =>
        have ha : w.heap.size ≠ p.g ∧ w.heap.size ≠ p.bu ∧ w.heap.size ≠ p.bl ∧ w.heap.size ≠ p.bz := by
          have a1 := HD.out.hg.lt; have a2 := HD.out.hu.lt; have a3 := HD.out.hl.lt; have a4 := HD.out.hz.lt; omega
        refine ⟨k + 1, up1, by omega, by go_num, ?_, hf1, ?_, ?_⟩
        · refine hd1.fr (S := [w.heap.size]) ?_ (by simp; omega)
          rw [hle.out]
          exact (Fr.refl _ _).setCell (p := ⟨w.heap.size, k, none⟩) (.inl (by simp)) _
        · have := hb1.setInt k (L k)
          rw [filL_succ] at this
          rw [hle.out]; exact this
        · exact ((HFR.out.drewN 1).trans hfr1).setCell (p := ⟨w.heap.size, k, none⟩) (.inr (Nat.le_refl _)) _
    · have hkk : k = n := by omega
      subst hkk
      go_wp2_with fail
      go_ret
      have e1 : arr k (filL L k) = arr k L := arr_congr fun i hi => by simp [filL, hi]
      rw [e1] at hb
      exact ⟨w.heap.size, rfl, ⟨up', least, size, rep, ρ, M, c, hd, ⟨HF.out, HS.out.le, HS.out.same, HS.out.sz, HS.out.cn⟩, hl⟩, hb, Nat.le_refl _, HFR.out⟩
end Go.Proofs.Ytpgkhmjlbaoagaa
