/- undo: unite, Union. -/
import Derived.Test.YtdhmjdlkaoflnaaUndoB
namespace Go.Proofs.Ytdhmjdlkaoflnaa
open Go.RowKit
set_option linter.unusedVariables false

theorem Und.union {n : Nat} {up size : Nat → Nat} {log : List Nat} {past : List (Nat → Nat)} {L : Nat → Nat} (h : Hist n up size log past L) {a b : Nat} {least rep ρ : Nat → Nat} {M c : Nat}
    (hs : Sts n L up least size rep ρ M c) (ha : a < n) (hb : b < n) (hne : rep a ≠ rep b) :
    Hist n (upd up (rep b) (rep a)) (upd size (rep a) (size (rep a) + size (rep b))) (log ++ [rep b]) (past ++ [L]) (merge L (L a) (L b)) := by
  have ra := hs.fo.rep_lt a ha
  have rb := hs.fo.rep_lt b hb
  have la : L (rep a) = L a := (hs.same _ _ ra ha).1 (hs.fo.rep_rep ha)
  have lb : L (rep b) = L b := (hs.same _ _ rb hb).1 (hs.fo.rep_rep hb)
  have := Hist.step (rep a) (rep b) h ra rb (hs.fo.rep_root a ha) (hs.fo.rep_root b hb) hne
  rwa [la, lb] at this

/-- The labels ahead of the unions in force, behind one of x and y. -/
def pastU (past : List (Nat → Nat)) (L : Nat → Nat) (x y : Nat) : List (Nat → Nat) := if x = y then past else past ++ [L]
/-- What unite leaves. -/
def Und1 (w w' : World) (p : ULoc) (n : Nat) (past : List (Nat → Nat)) (L : Nat → Nat) : Prop := ∃ p' : ULoc, Und w' p' n past L ∧ Moved w p p' ∧ Fr p.bl w w'

set_option maxRecDepth 100000 in
set_option maxHeartbeats 4000000 in
theorem undoUnite (w : World) (a b : Nat) (p : ULoc) (n : Nat) (past : List (Nat → Nat)) (L : Nat → Nat) (h : Und w p n past L) (ha : a < n) (hb : b < n) :
    Calls Try.prog 40 #[.pointer (some ⟨p.g, 0, none⟩), .int .i64 (a : Int), .int .i64 (b : Int)] w
      fun e w' => e = .returned (.bool (!(L a == L b))) ∧ Und1 w w' p n (pastU past L (L a) (L b)) (merge L (L a) (L b)) := by
  have HU := hide h
  obtain ⟨up, size, log, h, hh⟩ := h
  obtain ⟨least, rep, ρ, M, c, hs, hl, hcn, hp, hm⟩ := hh.st
  have hra := hs.fo.rep_lt a ha
  have hrb := hs.fo.rep_lt b hb
  have R := fun (x : Nat) (hx : x < n) => undoRoot w x p n M up size rep ρ log h hs.fo hx
  have HRA := hide (R a ha)
  have HRB := hide (R b hb)
  have nb := h.nb
  have hln : log.length ≤ n := by omega
  have s1 : size (rep a) ≤ 65536 := by rw [hs.sz a ha]; exact Nat.le_trans (cnt_le _ _) nb
  have s2 : size (rep b) ≤ 65536 := by rw [hs.sz b hb]; exact Nat.le_trans (cnt_le _ _) nb
  have c1 := h.c1
  have c2 := h.c2
  have c3 := h.c3
  have za := h.hz.intx hra
  have zb := h.hz.intx hrb
  have ua := h.hu.intx hra
  have ub := h.hu.intx hrb
  have fua := h.hu.frozen (rep a)
  have fub := h.hu.frozen (rep b)
  have fza := h.hz.frozen (rep a)
  have fzb := h.hz.frozen (rep b)
  have fg := h.hg.frozen 3
  have gu := h.gu
  have gz := h.gz
  have uz := h.uz
  have gu' := gu.symm
  have gz' := gz.symm
  have uz' := uz.symm
  have hlab := hs.same a b ha hb
  obtain ⟨i0, hi, hz0, hz1, hz2⟩ := info_parts int_info0
  have hi' := hide hi
  have hz0' := hide hz0
  have hz1' := hide hz1
  have hz2' := hide hz2
  have HS := hide hs
  have H := hide h
  have HH := hide hh
  have HA : Hid (a < n) := ha
  have HB : Hid (b < n) := hb
  have HLAB := hide hlab
  clear h hh hs hl hcn hp hm R ha hb hi hz0 hz1 hz2 hlab
  by_cases he : rep a = rep b
  · have he' := beq_nat_true he
    have HE := hide he
    clear he
    go_enter Try.func40, Try.ntmps40
    go_wp2_with (first | (go_at_call_of 32 (Value.int .i64 (a : Int)); refine HRA.out.mono ?_; rintro e w' ⟨rfl, rfl⟩) | (go_at_call_of 32 (Value.int .i64 (b : Int)); refine HRB.out.mono ?_; rintro e w' ⟨rfl, rfl⟩))
    go_ret
    have hL : L a = L b := HLAB.out.1 HE.out
    refine ⟨by simp [hL], p, ?_, Moved.refl _ _, Fr.refl _ _⟩
    unfold pastU
    rw [if_pos hL, hL, merge_self]; exact HU.out
  · have he' := beq_nat_false he
    have HE := hide he
    clear he
    by_cases hz : size (rep a) < size (rep b)
    · go_enter Try.func40, Try.ntmps40
      go_wp2_with (first | (go_at_call_of 32 (Value.int .i64 (a : Int)); refine HRA.out.mono ?_; rintro e w' ⟨rfl, rfl⟩) | (go_at_call_of 32 (Value.int .i64 (b : Int)); refine HRB.out.mono ?_; rintro e w' ⟨rfl, rfl⟩))
      go_quiet (fail)
      go_wp2_with fail
      go_region
      have d2 : US ((((w.drewN nq).setCell ⟨p.bu, rep a, none⟩ (.int .i64 (rep b : Int))).setCell ⟨p.bz, rep b, none⟩ (.int .i64 ((size (rep b) : Int) + (size (rep a) : Int)))).drew) p n (upd up (rep a) (rep b)) (upd size (rep b) (size (rep b) + size (rep a))) log := by
        have d1 := (H.out.drewN nq).setUp (rep b) hra
        have d2 := (d1.setSize (size (rep b) + size (rep a)) hrb).drewN 1
        have e : ((size (rep b) + size (rep a) : Nat) : Int) = (size (rep b) : Int) + (size (rep a) : Int) := by omega
        rw [e] at d2
        exact d2
      have f2 : Fr p.bl w ((((w.drewN nq).setCell ⟨p.bu, rep a, none⟩ (.int .i64 (rep b : Int))).setCell ⟨p.bz, rep b, none⟩ (.int .i64 ((size (rep b) : Int) + (size (rep a) : Int)))).drew) :=
        ((((Fr.refl _ _).drewN nq).setCell (p := ⟨p.bu, rep a, none⟩) (.inl (ULoc.mem_bl.2 (.inr (.inl rfl)))) _).setCell (p := ⟨p.bz, rep b, none⟩) (.inl (ULoc.mem_bl.2 (.inr (.inr (.inl rfl))))) _).drew
      generalize (((w.drewN nq).setCell ⟨p.bu, rep a, none⟩ (.int .i64 (rep b : Int))).setCell ⟨p.bz, rep b, none⟩ (.int .i64 ((size (rep b) : Int) + (size (rep a) : Int)))).drew = w2 at *
      have q3 := d2.c3
      have D2 := hide d2
      have F2 := hide f2
      have ho := hide d2.ho
      have hsz := f2.size
      clear d2 f2 c1 c2 c3 za zb ua ub fua fub fza fzb fg
      go_wp2_with (first | (at_builtin; go_loud (refine app_one 27 3 Try.underlying27 hi'.out hz0'.out hz1'.out hz2'.out rfl (by decide) w2 #[.int .i64 (rep a : Int)] rfl (by intro u hu; simp at hu; subst hu; rfl) rfl (.tmp 62) (.tmp 64) rfl 0 (.slice p.A log.length p.cl) log.length _ rfl ho.out rfl (by unfold maxLen; omega) (by omega) (Nat.zero_le _) ?_; intro v5 w5 ho5 hg5 hat5 hb5; obtain ⟨A5, c5, rfl, _⟩ := own_form ho5; have P := D2.out.pushLog (rep a) ho5 hg5 hat5; have kg := D2.out.hg.grown hg5 (by rw [ownBlock_slice]; exact D2.out.go_); have k3 := (show w5.cell? ⟨p.g, 3, none⟩ = some (.slice p.A log.length p.cl) from (kg.cell 3).trans rfl); have kf := kg.frozen 3; have HP := hide P; clear ho5 hg5 hat5 hb5 P kg)))
      go_ret
      have hLn : ¬ L a = L b := fun e => HE.out (HLAB.out.2 e)
      obtain ⟨P1, P2, P3⟩ := HP.out
      refine ⟨by simp [hLn], _, ⟨_, _, _, P1, ?_⟩, ⟨P2.g, fun k hk => (P2.bl k hk).imp id (fun h => by omega)⟩, F2.out.trans P3⟩
      unfold pastU
      rw [if_neg hLn]
      have := Und.union HH.out HS.out HB.out HA.out (fun e => HE.out e.symm)
      rwa [merge_comm] at this
    · go_enter Try.func40, Try.ntmps40
      go_wp2_with (first | (go_at_call_of 32 (Value.int .i64 (a : Int)); refine HRA.out.mono ?_; rintro e w' ⟨rfl, rfl⟩) | (go_at_call_of 32 (Value.int .i64 (b : Int)); refine HRB.out.mono ?_; rintro e w' ⟨rfl, rfl⟩))
      go_quiet (fail)
      go_wp2_with fail
      go_region
      have d2 : US ((((w.drewN nq).setCell ⟨p.bu, rep b, none⟩ (.int .i64 (rep a : Int))).setCell ⟨p.bz, rep a, none⟩ (.int .i64 ((size (rep a) : Int) + (size (rep b) : Int)))).drew) p n (upd up (rep b) (rep a)) (upd size (rep a) (size (rep a) + size (rep b))) log := by
        have d1 := (H.out.drewN nq).setUp (rep a) hrb
        have d2 := (d1.setSize (size (rep a) + size (rep b)) hra).drewN 1
        have e : ((size (rep a) + size (rep b) : Nat) : Int) = (size (rep a) : Int) + (size (rep b) : Int) := by omega
        rw [e] at d2
        exact d2
      have f2 : Fr p.bl w ((((w.drewN nq).setCell ⟨p.bu, rep b, none⟩ (.int .i64 (rep a : Int))).setCell ⟨p.bz, rep a, none⟩ (.int .i64 ((size (rep a) : Int) + (size (rep b) : Int)))).drew) :=
        ((((Fr.refl _ _).drewN nq).setCell (p := ⟨p.bu, rep b, none⟩) (.inl (ULoc.mem_bl.2 (.inr (.inl rfl)))) _).setCell (p := ⟨p.bz, rep a, none⟩) (.inl (ULoc.mem_bl.2 (.inr (.inr (.inl rfl))))) _).drew
      generalize (((w.drewN nq).setCell ⟨p.bu, rep b, none⟩ (.int .i64 (rep a : Int))).setCell ⟨p.bz, rep a, none⟩ (.int .i64 ((size (rep a) : Int) + (size (rep b) : Int)))).drew = w2 at *
      have q3 := d2.c3
      have D2 := hide d2
      have F2 := hide f2
      have ho := hide d2.ho
      have hsz := f2.size
      clear d2 f2 c1 c2 c3 za zb ua ub fua fub fza fzb fg
      go_wp2_with (first | (at_builtin; go_loud (refine app_one 27 3 Try.underlying27 hi'.out hz0'.out hz1'.out hz2'.out rfl (by decide) w2 #[.int .i64 (rep b : Int)] rfl (by intro u hu; simp at hu; subst hu; rfl) rfl (.tmp 62) (.tmp 64) rfl 0 (.slice p.A log.length p.cl) log.length _ rfl ho.out rfl (by unfold maxLen; omega) (by omega) (Nat.zero_le _) ?_; intro v5 w5 ho5 hg5 hat5 hb5; obtain ⟨A5, c5, rfl, _⟩ := own_form ho5; have P := D2.out.pushLog (rep b) ho5 hg5 hat5; have kg := D2.out.hg.grown hg5 (by rw [ownBlock_slice]; exact D2.out.go_); have k3 := (show w5.cell? ⟨p.g, 3, none⟩ = some (.slice p.A log.length p.cl) from (kg.cell 3).trans rfl); have kf := kg.frozen 3; have HP := hide P; clear ho5 hg5 hat5 hb5 P kg)))
      go_ret
      have hLn : ¬ L a = L b := fun e => HE.out (HLAB.out.2 e)
      obtain ⟨P1, P2, P3⟩ := HP.out
      refine ⟨by simp [hLn], _, ⟨_, _, _, P1, ?_⟩, ⟨P2.g, fun k hk => (P2.bl k hk).imp id (fun h => by omega)⟩, F2.out.trans P3⟩
      unfold pastU
      rw [if_neg hLn]
      exact Und.union HH.out HS.out HA.out HB.out HE.out

def pastV (n : Nat) (past : List (Nat → Nat)) (L : Nat → Nat) (x y : Int) : List (Nat → Nat) := if inB n x && inB n y then pastU past L (L x.toNat) (L y.toNat) else past
theorem undoUnion (w : World) (x y : Int) (p : ULoc) (n : Nat) (past : List (Nat → Nat)) (L : Nat → Nat) (h : Und w p n past L) :
    Calls Try.prog 25 #[.pointer (some ⟨p.g, 0, none⟩), .int .i64 x, .int .i64 y] w
      fun e w' => e = .returned (.tuple #[.bool (unionB n L x y), .int .i64 (unionE n x y)]) ∧ Und1 w w' p n (pastV n past L x y) (unionL n L x y) := by
  have CA := undoHas w x p n past L h
  have CB := undoHas w y p n past L h
  have V := undoValid w p n past L h
  have HV := hide V
  have H := hide h
  clear V
  cases hx : inB n x
  · have e1 : Hid (unionB n L x y = false) := by show _ = _; simp [unionB, hx]
    have e2 : Hid (unionE n x y = 3) := by show _ = _; simp [unionE, hx]
    have e3 : Hid (unionL n L x y = L) := by show _ = _; simp [unionL, hx]
    have e4 : Hid (pastV n past L x y = past) := by show _ = _; simp [pastV, hx]
    rw [hx] at CA
    have HA := hide CA
    clear CA CB h hx
    go_enter Try.func25, Try.ntmps25
    go_wp2_with (first | (go_at_call 31; refine HV.out.mono ?_; rintro e w' ⟨rfl, rfl⟩) | (go_at_call_of 39 (Value.int .i64 x); refine HA.out.mono ?_; rintro e w' ⟨rfl, rfl⟩))
    go_ret2
    exact ⟨by rw [e1.out, e2.out]; rfl, p, by rw [e3.out, e4.out]; exact H.out, Moved.refl _ _, Fr.refl _ _⟩
  · cases hy : inB n y
    · have e1 : Hid (unionB n L x y = false) := by show _ = _; simp [unionB, hy]
      have e2 : Hid (unionE n x y = 3) := by show _ = _; simp [unionE, hy]
      have e3 : Hid (unionL n L x y = L) := by show _ = _; simp [unionL, hy]
      have e4 : Hid (pastV n past L x y = past) := by show _ = _; simp [pastV, hy]
      rw [hx] at CA
      rw [hy] at CB
      have HA := hide CA
      have HB := hide CB
      clear CA CB h hx hy
      go_enter Try.func25, Try.ntmps25
      go_wp2_with (first | (go_at_call 31; refine HV.out.mono ?_; rintro e w' ⟨rfl, rfl⟩) | (go_at_call_of 39 (Value.int .i64 x); refine HA.out.mono ?_; rintro e w' ⟨rfl, rfl⟩) | (go_at_call_of 39 (Value.int .i64 y); refine HB.out.mono ?_; rintro e w' ⟨rfl, rfl⟩))
      go_ret2
      exact ⟨by rw [e1.out, e2.out]; rfl, p, by rw [e3.out, e4.out]; exact H.out, Moved.refl _ _, Fr.refl _ _⟩
    · have a1 : 0 ≤ x ∧ x < n := by simpa [inB] using hx
      have a2 : 0 ≤ y ∧ y < n := by simpa [inB] using hy
      obtain ⟨a, rfl⟩ := Int.eq_ofNat_of_zero_le a1.1
      obtain ⟨b, rfl⟩ := Int.eq_ofNat_of_zero_le a2.1
      have e1 : Hid (unionB n L (a : Int) (b : Int) = !(L a == L b)) := by show _ = _; simp [unionB, hx, hy]
      have e2 : Hid (unionE n (a : Int) (b : Int) = 0) := by show _ = _; simp [unionE, hx, hy]
      have e3 : Hid (unionL n L (a : Int) (b : Int) = merge L (L a) (L b)) := by show _ = _; simp [unionL, hx, hy]
      have e4 : Hid (pastV n past L (a : Int) (b : Int) = pastU past L (L a) (L b)) := by show _ = _; simp [pastV, hx, hy]
      rw [hx] at CA
      rw [hy] at CB
      have HA := hide CA
      have HB := hide CB
      have HAN : Hid (a < n) := by show _ < _; omega
      have HBN : Hid (b < n) := by show _ < _; omega
      clear CA CB h hx hy a1 a2
      go_enter Try.func25, Try.ntmps25
      go_wp2_with (first | (go_at_call 31; refine HV.out.mono ?_; rintro e w' ⟨rfl, rfl⟩) | (go_at_call_of 39 (Value.int .i64 (a : Int)); refine HA.out.mono ?_; rintro e w' ⟨rfl, rfl⟩) | (go_at_call_of 39 (Value.int .i64 (b : Int)); refine HB.out.mono ?_; rintro e w' ⟨rfl, rfl⟩))
      refine (undoUnite _ a b _ _ _ _ H.out HAN.out HBN.out).mono ?_
      rintro e w' ⟨rfl, hu⟩
      go_wp2_with fail
      go_ret2
      exact ⟨by rw [e1.out, e2.out]; rfl, by rw [e3.out, e4.out]; exact hu⟩
end Go.Proofs.Ytdhmjdlkaoflnaa
