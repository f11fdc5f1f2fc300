/- undo: back (called, and deferred), Undo. -/
import Derived.Test.YtdhmjdlkaoflnaaUndoC
import Derived.Defers
namespace Go.Proofs.Ytdhmjdlkaoflnaa
open Go.RowKit
set_option linter.unusedVariables false

theorem own_take {w : World} {B : Nat} {E : TypeId} {A : Option Addr} {n c : Nat} {xs : List Value} (h : w.ownsRow B E 1 (.slice A n c) n xs) {k : Nat} (hk : k ≤ n) : w.ownsRow B E 1 (.slice A k c) k (xs.take k) := by
  refine ⟨by have := h.1; simp; omega, ?_⟩
  rcases h.2 with ⟨e, h0⟩ | ⟨g, cap, cur, e, hb, hh, hc, hm, hs, ht⟩
  · injection e with e1 e2 e3
    subst e1; subst e3
    have : k = 0 := by omega
    subst this
    exact .inl ⟨rfl, rfl⟩
  · injection e with e1 e2 e3
    subst e1; subst e3
    refine .inr ⟨g, c, cur, rfl, hb, hh, by omega, hm, hs, ?_⟩
    rw [← ht, List.take_take]
    congr 1; omega

/-- The log cut down to k elements. -/
theorem US.cutLog {w : World} {p : ULoc} {n : Nat} {up size : Nat → Nat} {log : List Nat} (h : US w p n up size log) {k : Nat} (hk : k ≤ log.length) :
    US (w.setCell ⟨p.g, 3, none⟩ (.slice p.A k p.cl)) p n up size (log.take k) := by
  have hl : (log.take k).length = k := by simp; omega
  refine ⟨?_, h.hu.far (p := ⟨p.g, 3, none⟩) h.gu.symm _, h.hz.far (p := ⟨p.g, 3, none⟩) h.gz.symm _, ?_, h.uz, h.uo, h.zo, h.nb⟩
  · have := h.hg.set_ 3 (.slice p.A k p.cl)
    rw [hl]; exact this
  · have e : nats (log.take k) = (nats log).take k := by simp [nats, is, List.map_take]
    rw [hl, e]
    exact own_fr (own_take h.ho hk) ((Fr.refl [p.g] _).setCell (p := ⟨p.g, 3, none⟩) (.inl (by simp)) _) (fun b hb => by
      rw [ownBlock_slice] at hb
      simp
      rintro rfl
      exact h.go_ hb)

theorem US.cap {w : World} {p : ULoc} {n : Nat} {up size : Nat → Nat} {log : List Nat} (h : US w p n up size log) : log.length ≤ p.cl ∧ p.cl ≤ 9223372036854775807 := by
  obtain ⟨A, c, e, _, _, h1, h2⟩ := own_form h.ho
  injection e with _ _ e3
  unfold maxLen at h2
  omega
/-- What back leaves. -/
def UndB (w w' : World) (p : ULoc) (n : Nat) (past : List (Nat → Nat)) (L : Nat → Nat) : Prop := Und w' p n past L ∧ Fr p.bl w w'

set_option maxRecDepth 100000 in
set_option maxHeartbeats 8000000 in
theorem undoBack (w : World) (m : Nat) (p : ULoc) (n : Nat) (past : List (Nat → Nat)) (L : Nat → Nat) (h : Und w p n past L) (hm : m ≤ past.length) :
    Calls Try.prog 33 #[.pointer (some ⟨p.g, 0, none⟩), .int .i64 (m : Int)] w
      fun e w' => e = .returned (.tuple #[]) ∧ UndB w w' p n (past.take m) (atL past L m) := by
  obtain ⟨up0, size0, log, h, hh⟩ := h
  obtain ⟨_, _, _, _, c, hs, hl, hcn, hp, hmm⟩ := hh.st
  have nb := h.nb
  have hln : log.length ≤ n := by omega
  have gu := h.gu
  have gz := h.gz
  have uz := h.uz
  have gu' := gu.symm
  have gz' := gz.symm
  have uz' := uz.symm
  have hml : m ≤ log.length := by omega
  have H := hide h
  have HH := hide hh
  have HP := hide hp
  have HMM := hide hmm
  clear h hh hs hl hcn hp hmm hm
  go_enter Try.func33, Try.ntmps33
  go_wp2_with fail
  go_loopg [4, 5] log.length (fun q v4 v5 wr => ∃ (up size : Nat → Nat), m ≤ q ∧ q ≤ log.length ∧ US wr p n up size (log.take q) ∧ Hist n up size (log.take q) (past.take q) (atL past L q) ∧ Fr p.bl w wr)
  case atStart => exact ⟨up0, size0, hml, Nat.le_refl _, by rw [List.take_length]; exact H.out, HH.out.full, Fr.refl _ _⟩
  case round =>
    obtain ⟨up, size, hq1, hq2, hd, hh, hf⟩ := hrel
    have e3 : (log.take gk).length = gk := by simp; omega
    have c3 := hd.c3
    rw [e3] at c3
    have HD := hide hd
    have HHI := hide hh
    have HF := hide hf
    have E3 := hide e3
    clear hd hh hf e3
    by_cases hlt : m < gk
    · obtain ⟨k, rfl⟩ : ∃ k, gk = k + 1 := ⟨gk - 1, by omega⟩
      have hkl : k < log.length := by omega
      obtain ⟨hy, hx, hne, hxx, hsz, hhist⟩ := Hist.back1 hkl HP.out HHI.out
      obtain ⟨b, hA, hblt, cl⟩ := HD.out.lg (k := k) (by have := E3.out; omega)
      have ey : (log.take (k + 1))[k]'(by have := E3.out; omega) = log[k] := by simp
      rw [ey] at cl
      generalize log[k] = y at *
      have c1 := HD.out.c1
      have c2 := HD.out.c2
      have uy := HD.out.hu.intx hy
      have zy := HD.out.hz.intx hy
      have zx := HD.out.hz.intx hx
      have fu := HD.out.hu.frozen y
      have fz := HD.out.hz.frozen (up y)
      have fg := HD.out.hg.frozen 3
      have HHI2 := hide hhist
      have hsy : size (up y) ≤ 65536 := by
        obtain ⟨_, rep, _, _, _, hs, _⟩ := HHI.out.st
        have h1 := hs.sz (up y) hx
        rw [hs.fo.root _ hx hxx] at h1
        rw [h1]; exact Nat.le_trans (cnt_le _ _) nb
      have hcap := HD.out.cap
      rw [E3.out] at hcap
      obtain ⟨hcap1, hcap2⟩ := hcap
      have hcap3 : k ≤ p.cl := by omega
      have HA := hide hA
      have HNE := hide hne
      have HEY := hide ey
      clear hhist hne ey hxx
      rw [hA] at c3
      clear hA
      go_wp2_with fail
      go_region
      have d2 : US ((wr.setCell ⟨p.bz, up y, none⟩ (.int .i64 ((size (up y) : Int) - (size y : Int)))).drew) p n up (upd size (up y) (size (up y) - size y)) (log.take (k + 1)) := by
        have d := (HD.out.setSize (size (up y) - size y) hx).drewN 1
        have e : ((size (up y) - size y : Nat) : Int) = (size (up y) : Int) - (size y : Int) := by omega
        rw [e] at d
        exact d
      have f2 : Fr p.bl w ((wr.setCell ⟨p.bz, up y, none⟩ (.int .i64 ((size (up y) : Int) - (size y : Int)))).drew) :=
        (HF.out.setCell (p := ⟨p.bz, up y, none⟩) (.inl (ULoc.mem_bl.2 (.inr (.inr (.inl rfl))))) _).drew
      generalize (wr.setCell ⟨p.bz, up y, none⟩ (.int .i64 ((size (up y) : Int) - (size y : Int)))).drew = w2 at *
      have k1 := d2.c1
      have k3 := d2.c3
      rw [E3.out, HA.out] at k3
      have ku := d2.hu.intx hy
      have kfu := d2.hu.frozen y
      have kfg := d2.hg.frozen 3
      have D2 := hide d2
      have F2 := hide f2
      clear d2 f2 c1 c2 c3 uy zy zx fu fz fg cl
      go_wp2_with fail
      go_roundg k
      case measure => omega
      case rel =>
        have d5 := (D2.out.setUp y hy).cutLog (k := k) (by have := E3.out; omega)
        have f5 := (F2.out.setCell (p := ⟨p.bu, y, none⟩) (.inl (ULoc.mem_bl.2 (.inr (.inl rfl)))) (.int .i64 (y : Int))).setCell (p := ⟨p.g, 3, none⟩) (.inl (ULoc.mem_bl.2 (.inl rfl))) (.slice p.A k p.cl)
        rw [List.take_take, Nat.min_eq_left (by omega)] at d5
        rw [HA.out] at d5 f5
        exact ⟨_, _, by omega, by omega, d5, HHI2.out, f5⟩
    · have hqm : gk = m := by omega
      subst hqm
      go_wp2_with fail
      go_end0
      exact ⟨rfl, ⟨⟨up, size, _, HD.out, HHI.out⟩, HF.out⟩⟩

set_option maxRecDepth 100000 in
set_option maxHeartbeats 8000000 in
theorem undoBackD (w : World) (m : Nat) (p : ULoc) (n : Nat) (past : List (Nat → Nat)) (L : Nat → Nat) (u : FrameMode) (h : Und w p n past L) (hm : m ≤ past.length) :
    CallsD Try.prog 33 #[.pointer (some ⟨p.g, 0, none⟩), .int .i64 (m : Int)] u w
      fun e u' w' => u' = u ∧ e = .returned (.tuple #[]) ∧ UndB w w' p n (past.take m) (atL past L m) := by
  obtain ⟨up0, size0, log, h, hh⟩ := h
  obtain ⟨_, _, _, _, c, hs, hl, hcn, hp, hmm⟩ := hh.st
  have nb := h.nb
  have hln : log.length ≤ n := by omega
  have gu := h.gu
  have gz := h.gz
  have uz := h.uz
  have gu' := gu.symm
  have gz' := gz.symm
  have uz' := uz.symm
  have hml : m ≤ log.length := by omega
  have H := hide h
  have HH := hide hh
  have HP := hide hp
  have HMM := hide hmm
  clear h hh hs hl hcn hp hmm hm
  go_enter_d Try.func33, Try.ntmps33
  go_wp2_with fail
  go_loopg [4, 5] log.length (fun q v4 v5 wr => ∃ (up size : Nat → Nat), m ≤ q ∧ q ≤ log.length ∧ US wr p n up size (log.take q) ∧ Hist n up size (log.take q) (past.take q) (atL past L q) ∧ Fr p.bl w wr)
  case atStart => exact ⟨up0, size0, hml, Nat.le_refl _, by rw [List.take_length]; exact H.out, HH.out.full, Fr.refl _ _⟩
  case round =>
    obtain ⟨up, size, hq1, hq2, hd, hh, hf⟩ := hrel
    have e3 : (log.take gk).length = gk := by simp; omega
    have c3 := hd.c3
    rw [e3] at c3
    have HD := hide hd
    have HHI := hide hh
    have HF := hide hf
    have E3 := hide e3
    clear hd hh hf e3
    by_cases hlt : m < gk
    · obtain ⟨k, rfl⟩ : ∃ k, gk = k + 1 := ⟨gk - 1, by omega⟩
      have hkl : k < log.length := by omega
      obtain ⟨hy, hx, hne, hxx, hsz, hhist⟩ := Hist.back1 hkl HP.out HHI.out
      obtain ⟨b, hA, hblt, cl⟩ := HD.out.lg (k := k) (by have := E3.out; omega)
      have ey : (log.take (k + 1))[k]'(by have := E3.out; omega) = log[k] := by simp
      rw [ey] at cl
      generalize log[k] = y at *
      have c1 := HD.out.c1
      have c2 := HD.out.c2
      have uy := HD.out.hu.intx hy
      have zy := HD.out.hz.intx hy
      have zx := HD.out.hz.intx hx
      have fu := HD.out.hu.frozen y
      have fz := HD.out.hz.frozen (up y)
      have fg := HD.out.hg.frozen 3
      have HHI2 := hide hhist
      have hsy : size (up y) ≤ 65536 := by
        obtain ⟨_, rep, _, _, _, hs, _⟩ := HHI.out.st
        have h1 := hs.sz (up y) hx
        rw [hs.fo.root _ hx hxx] at h1
        rw [h1]; exact Nat.le_trans (cnt_le _ _) nb
      have hcap := HD.out.cap
      rw [E3.out] at hcap
      obtain ⟨hcap1, hcap2⟩ := hcap
      have hcap3 : k ≤ p.cl := by omega
      have HA := hide hA
      have HNE := hide hne
      have HEY := hide ey
      clear hhist hne ey hxx
      rw [hA] at c3
      clear hA
      go_wp2_with fail
      go_region
      have d2 : US ((wr.setCell ⟨p.bz, up y, none⟩ (.int .i64 ((size (up y) : Int) - (size y : Int)))).drew) p n up (upd size (up y) (size (up y) - size y)) (log.take (k + 1)) := by
        have d := (HD.out.setSize (size (up y) - size y) hx).drewN 1
        have e : ((size (up y) - size y : Nat) : Int) = (size (up y) : Int) - (size y : Int) := by omega
        rw [e] at d
        exact d
      have f2 : Fr p.bl w ((wr.setCell ⟨p.bz, up y, none⟩ (.int .i64 ((size (up y) : Int) - (size y : Int)))).drew) :=
        (HF.out.setCell (p := ⟨p.bz, up y, none⟩) (.inl (ULoc.mem_bl.2 (.inr (.inr (.inl rfl))))) _).drew
      generalize (wr.setCell ⟨p.bz, up y, none⟩ (.int .i64 ((size (up y) : Int) - (size y : Int)))).drew = w2 at *
      have k1 := d2.c1
      have k3 := d2.c3
      rw [E3.out, HA.out] at k3
      have ku := d2.hu.intx hy
      have kfu := d2.hu.frozen y
      have kfg := d2.hg.frozen 3
      have D2 := hide d2
      have F2 := hide f2
      clear d2 f2 c1 c2 c3 uy zy zx fu fz fg cl
      go_wp2_with fail
      go_roundg k
      case measure => omega
      case rel =>
        have d5 := (D2.out.setUp y hy).cutLog (k := k) (by have := E3.out; omega)
        have f5 := (F2.out.setCell (p := ⟨p.bu, y, none⟩) (.inl (ULoc.mem_bl.2 (.inr (.inl rfl)))) (.int .i64 (y : Int))).setCell (p := ⟨p.g, 3, none⟩) (.inl (ULoc.mem_bl.2 (.inl rfl))) (.slice p.A k p.cl)
        rw [List.take_take, Nat.min_eq_left (by omega)] at d5
        rw [HA.out] at d5 f5
        exact ⟨_, _, by omega, by omega, d5, HHI2.out, f5⟩
    · have hqm : gk = m := by omega
      subst hqm
      go_wp2_with fail
      go_end0
      exact ⟨rfl, ⟨⟨up, size, _, HD.out, HHI.out⟩, HF.out⟩⟩

def undoE (m : Int) (k : Nat) : Int := if decide (0 ≤ m ∧ m ≤ k) then 0 else 3
theorem undoUndo_no (w : World) (m : Int) (p : ULoc) (n : Nat) (past : List (Nat → Nat)) (L : Nat → Nat) (h : Und w p n past L) (hm : m < 0 ∨ (past.length : Int) < m) :
    Calls Try.prog 17 #[.pointer (some ⟨p.g, 0, none⟩), .int .i64 m] w fun e w' => e = .returned (.int .i64 3) ∧ w = w' := by
  have V := undoValid w p n past L h
  obtain ⟨up, size, log, h, hh⟩ := h
  obtain ⟨_, _, _, _, _, _, _, _, hp, _⟩ := hh.st
  have c3 := h.c3
  rw [hp] at hm
  have HV := hide V
  clear h hh V hp
  rcases hm with hm | hm
  · go_enter Try.func17, Try.ntmps17
    go_wp2_with (go_at_call 31; refine HV.out.mono ?_; rintro e w' ⟨rfl, rfl⟩)
    go_ret
    exact ⟨rfl, rfl⟩
  · have hm0 : ¬ m < 0 := by omega
    go_enter Try.func17, Try.ntmps17
    go_wp2_with (go_at_call 31; refine HV.out.mono ?_; rintro e w' ⟨rfl, rfl⟩)
    go_ret
    exact ⟨rfl, rfl⟩
theorem undoUndo_ok (w : World) (m : Nat) (p : ULoc) (n : Nat) (past : List (Nat → Nat)) (L : Nat → Nat) (h : Und w p n past L) (hm : m ≤ past.length) :
    Calls Try.prog 17 #[.pointer (some ⟨p.g, 0, none⟩), .int .i64 (m : Int)] w fun e w' => e = .returned (.int .i64 0) ∧ UndB w w' p n (past.take m) (atL past L m) := by
  have V := undoValid w p n past L h
  have BK := undoBack w m p n past L h hm
  obtain ⟨up, size, log, h, hh⟩ := h
  obtain ⟨_, _, _, _, _, _, _, _, hp, _⟩ := hh.st
  have c3 := h.c3
  have hm' : m ≤ log.length := by omega
  have hm2 : (m : Int) ≤ (log.length : Int) := by omega
  have HV := hide V
  have HB := hide BK
  clear h hh V hp BK hm
  go_enter Try.func17, Try.ntmps17
  go_wp2_with (first | (go_at_call 31; refine HV.out.mono ?_; rintro e w' ⟨rfl, rfl⟩) | (go_at_call 33; refine HB.out.mono ?_; rintro e w' ⟨rfl, hu⟩))
  go_ret
  exact ⟨rfl, hu⟩
end Go.Proofs.Ytdhmjdlkaoflnaa
