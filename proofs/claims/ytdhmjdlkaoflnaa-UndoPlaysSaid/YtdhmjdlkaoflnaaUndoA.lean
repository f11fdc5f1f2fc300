/- undo.Sets in memory; valid, has, root, Same, Size, Count, Mark. -/
import Derived.Test.YtdhmjdlkaoflnaaRows
import Derived.Test.YtdhmjdlkaoflnaaUndoP
import Derived.LaidEqlPtr
import Derived.Laws.Pointers
namespace Go.Proofs.Ytdhmjdlkaoflnaa
open Go.RowKit
set_option linter.unusedVariables false

/-- Where sets lie. -/
structure ULoc where
  g : Nat
  bu : Nat
  bz : Nat
  cu : Nat
  cz : Nat
  ru : Array Value
  rz : Array Value
  A : Option Addr
  cl : Nat

def blkOf (A : Option Addr) : Option Nat := A.map (·.block)
theorem ownBlock_slice (A : Option Addr) (n c : Nat) : (Value.slice A n c).ownBlock = blkOf A := by cases A <;> rfl
def ULoc.bl (p : ULoc) : List Nat := p.g :: p.bu :: p.bz :: (blkOf p.A).toList
theorem ULoc.mem_bl {p : ULoc} {k : Nat} : k ∈ p.bl ↔ k = p.g ∨ k = p.bu ∨ k = p.bz ∨ blkOf p.A = some k := by
  unfold ULoc.bl
  cases h : blkOf p.A <;> simp
  exact ⟨fun h => by rcases h with h | h | h | h <;> simp [h], fun h => by rcases h with h | h | h | h <;> simp [h]⟩

def nats (l : List Nat) : List Value := is (l.map fun (i : Nat) => (i : Int))

structure US (w : World) (p : ULoc) (n : Nat) (up size : Nat → Nat) (log : List Nat) : Prop where
  hg : Blk w p.g 60 #[.pointer (some ⟨p.g, 0, none⟩), .slice (some ⟨p.bu, 0, none⟩) n p.cu, .slice (some ⟨p.bz, 0, none⟩) n p.cz, .slice p.A log.length p.cl]
  hu : Blk w p.bu 3 (arx n up p.ru)
  hz : Blk w p.bz 3 (arx n size p.rz)
  ho : w.ownsRow 0 3 1 (.slice p.A log.length p.cl) log.length (nats log)
  uz : p.bu ≠ p.bz
  uo : blkOf p.A ≠ some p.bu
  zo : blkOf p.A ≠ some p.bz
  nb : n ≤ 65536

section
variable {w w' : World} {p : ULoc} {n : Nat} {up size : Nat → Nat} {log : List Nat}
theorem US.gu (h : US w p n up size log) : p.g ≠ p.bu := h.hg.ne_ h.hu (by decide)
theorem US.gz (h : US w p n up size log) : p.g ≠ p.bz := h.hg.ne_ h.hz (by decide)
theorem US.go_ (h : US w p n up size log) : blkOf p.A ≠ some p.g := by
  have := own_notBlk h.ho h.hg (by decide)
  rwa [ownBlock_slice] at this
theorem US.c0 (h : US w p n up size log) : w.cell? ⟨p.g, 0, none⟩ = some (.pointer (some ⟨p.g, 0, none⟩)) := (h.hg.cell 0).trans rfl
theorem US.c1 (h : US w p n up size log) : w.cell? ⟨p.g, 1, none⟩ = some (.slice (some ⟨p.bu, 0, none⟩) n p.cu) := (h.hg.cell 1).trans rfl
theorem US.c2 (h : US w p n up size log) : w.cell? ⟨p.g, 2, none⟩ = some (.slice (some ⟨p.bz, 0, none⟩) n p.cz) := (h.hg.cell 2).trans rfl
theorem US.c3 (h : US w p n up size log) : w.cell? ⟨p.g, 3, none⟩ = some (.slice p.A log.length p.cl) := (h.hg.cell 3).trans rfl
theorem US.drewN (h : US w p n up size log) (k : Nat) : US (w.drewN k) p n up size log := ⟨h.hg, h.hu, h.hz, h.ho, h.uz, h.uo, h.zo, h.nb⟩
theorem US.lt (h : US w p n up size log) : ∀ k ∈ p.bl, k < w.heap.size := by
  intro k hk
  rcases ULoc.mem_bl.1 hk with rfl | rfl | rfl | hk
  · exact h.hg.lt
  · exact h.hu.lt
  · exact h.hz.lt
  · exact (h.ho.lt k (by rw [ownBlock_slice]; exact hk)).2
theorem US.fr {S : List Nat} (h : US w p n up size log) (k : Fr S w w') (hS : ∀ b ∈ p.bl, b ∉ S) : US w' p n up size log :=
  ⟨h.hg.fr k (hS _ (ULoc.mem_bl.2 (.inl rfl))), h.hu.fr k (hS _ (ULoc.mem_bl.2 (.inr (.inl rfl)))), h.hz.fr k (hS _ (ULoc.mem_bl.2 (.inr (.inr (.inl rfl))))),
    own_fr h.ho k (fun b hb => hS b (ULoc.mem_bl.2 (.inr (.inr (.inr (by rwa [ownBlock_slice] at hb)))))), h.uz, h.uo, h.zo, h.nb⟩
theorem US.fresh (h : US w p n up size log) (k : Below w.heap.size w w') : US w' p n up size log := h.fr (Fr.of_below [] k) (by simp)
/-- What the log holds. -/
theorem US.lg (h : US w p n up size log) {k : Nat} (hk : k < log.length) : ∃ b, p.A = some ⟨b, 0, none⟩ ∧ b < w.heap.size ∧ w.cell? ⟨b, k, none⟩ = some (.int .i64 (log[k] : Int)) := by
  obtain ⟨A', c', e, hr, hA, _⟩ := own_form h.ho
  injection e with e1 e2 e3
  subst e1
  obtain ⟨b, o, e, hb, hc⟩ := hr.2 (by omega)
  have := (hA _ e).2.2
  injection this with _ h2 _
  have ho : o = 0 := h2
  subst ho
  refine ⟨b, e, hb, ?_⟩
  have := hc k (.int .i64 (log[k] : Int)) (by simp [nats, is, hk])
  rwa [Nat.zero_add] at this
end

/-- Sets in memory, and what they stand for. -/
def Und (w : World) (p : ULoc) (n : Nat) (past : List (Nat → Nat)) (L : Nat → Nat) : Prop := ∃ up size log, US w p n up size log ∧ Hist n up size log past L
section
variable {w w' : World} {p : ULoc} {n : Nat} {past : List (Nat → Nat)} {L : Nat → Nat}
theorem Und.drewN (h : Und w p n past L) (k : Nat) : Und (w.drewN k) p n past L := by
  obtain ⟨up, size, log, h1, h2⟩ := h
  exact ⟨up, size, log, h1.drewN k, h2⟩
theorem Und.lt (h : Und w p n past L) : ∀ k ∈ p.bl, k < w.heap.size := by
  obtain ⟨up, size, log, h1, h2⟩ := h
  exact h1.lt
theorem Und.fr {S : List Nat} (h : Und w p n past L) (k : Fr S w w') (hS : ∀ b ∈ p.bl, b ∉ S) : Und w' p n past L := by
  obtain ⟨up, size, log, h1, h2⟩ := h
  exact ⟨up, size, log, h1.fr k hS, h2⟩
theorem Und.fresh (h : Und w p n past L) (k : Below w.heap.size w w') : Und w' p n past L := by
  obtain ⟨up, size, log, h1, h2⟩ := h
  exact ⟨up, size, log, h1.fresh k, h2⟩
theorem Und.nb (h : Und w p n past L) : n ≤ 65536 := by
  obtain ⟨up, size, log, h1, h2⟩ := h
  exact h1.nb
theorem Und.lab (h : Und w p n past L) : Lab n L := by
  obtain ⟨up, size, log, h1, h2⟩ := h
  obtain ⟨_, _, _, _, _, _, hl, _⟩ := h2.st
  exact hl
/-- As many sets as elements less unions. -/
theorem Und.cnt (h : Und w p n past L) : sets n L + past.length = n := by
  obtain ⟨up, size, log, h1, h2⟩ := h
  obtain ⟨_, _, _, _, c, hs, hl, hc, hp, _⟩ := h2.st
  rw [← hs.cn]; omega
end

theorem undo_info : ∃ i, Try.prog.info? 60 = some i ∧ i.size = 4 := by
  have h : (Try.prog.info? 60).map (·.size) = some 4 := by kernel_rfl
  obtain ⟨i, hi, hz⟩ := Option.map_eq_some_iff.1 h
  exact ⟨i, hi, hz⟩

theorem undoValid (w : World) (p : ULoc) (n : Nat) (past : List (Nat → Nat)) (L : Nat → Nat) (h : Und w p n past L) :
    Calls Try.prog 31 #[.pointer (some ⟨p.g, 0, none⟩)] w fun e w' => e = .returned (.bool true) ∧ w = w' := by
  obtain ⟨up, size, log, h, hh⟩ := h
  have c0 := h.c0
  clear hh
  obtain ⟨i, hi, _⟩ := undo_info
  have he := fun W => run_eql_ptr_same (P := Try.prog) W ⟨p.g, 0, none⟩ Try.underlying24 hi
  go_enter Try.func31, Try.ntmps31
  go_wp2
  go_ret
  exact ⟨rfl, rfl⟩

theorem undoHas (w : World) (a : Int) (p : ULoc) (n : Nat) (past : List (Nat → Nat)) (L : Nat → Nat) (h : Und w p n past L) :
    Calls Try.prog 39 #[.pointer (some ⟨p.g, 0, none⟩), .int .i64 a] w fun e w' => e = .returned (.bool (inB n a)) ∧ w = w' := by
  have V := undoValid w p n past L h
  obtain ⟨up, size, log, h, hh⟩ := h
  have c1 := h.c1
  have nb := h.nb
  have HV := hide V
  clear h hh V
  by_cases h0 : 0 ≤ a
  all_goals
    go_enter Try.func39, Try.ntmps39
    go_wp2_with (go_at_call 31; refine HV.out.mono ?_; rintro e w' ⟨rfl, rfl⟩)
    go_ret
    exact ⟨ret_bool (by first | (simp [inB, h0]; done) | (symm; simp [inB]; omega)), rfl⟩

theorem undoRoot (w : World) (a : Nat) (p : ULoc) (n M : Nat) (up size rep ρ : Nat → Nat) (log : List Nat) (h : US w p n up size log) (hf : Forest n up rep ρ M) (ha : a < n) :
    Calls Try.prog 32 #[.pointer (some ⟨p.g, 0, none⟩), .int .i64 (a : Int)] w fun e w' => e = .returned (.int .i64 (rep a : Int)) ∧ w = w' := by
  have nb := h.nb
  have c1 := h.c1
  have H := hide h
  have HF := hide hf
  clear h hf
  go_enter Try.func32, Try.ntmps32
  go_wp2_with fail
  go_loopg [1] (M - ρ a) (fun k v wr => ∃ x : Nat, x < n ∧ v = .int .i64 (x : Int) ∧ rep x = rep a ∧ M - ρ x ≤ k ∧ wr = w)
  case atStart => exact ⟨a, ha, rfl, rfl, Nat.le_refl _, rfl⟩
  case round =>
    obtain ⟨x, hx, rfl, hrep, hk, rfl⟩ := hrel
    have HR := hide hrep
    have hp := HF.out.up_lt x hx
    have cx := H.out.hu.intx hx
    clear hrep ha
    by_cases he : up x = x
    · have he' : ((up x : Int) != (x : Int)) = false := by simp [he]
      have HE := hide he
      clear he
      go_wp2_with fail
      go_ret
      exact ⟨ret_int (by rw [← HR.out, HF.out.root x hx HE.out]), rfl⟩
    · have he' : ((up x : Int) != (x : Int)) = true := by simpa using fun e : (up x : Int) = (x : Int) => he (by omega)
      have HE := hide he
      clear he
      go_wp2_with fail
      go_roundg (M - ρ (up x))
      case measure =>
        have r1 := HF.out.rank x hx
        have r2 := HF.out.rank _ hp
        have h1 := r1.2 HE.out
        omega
      case rel => exact ⟨up x, hp, rfl, by rw [HF.out.rep_up x hx]; exact HR.out, Nat.le_refl _, rfl⟩

theorem undoMark (w : World) (p : ULoc) (n : Nat) (past : List (Nat → Nat)) (L : Nat → Nat) (h : Und w p n past L) :
    Calls Try.prog 13 #[.pointer (some ⟨p.g, 0, none⟩)] w fun e w' => e = .returned (.int .i64 (past.length : Int)) ∧ w = w' := by
  have V := undoValid w p n past L h
  have hc := h.cnt
  obtain ⟨up, size, log, h, hh⟩ := h
  obtain ⟨_, _, _, _, _, _, _, _, hp, _⟩ := hh.st
  have c3 := h.c3
  have HP := hide hp
  have HV := hide V
  clear h hh V hp
  go_enter Try.func13, Try.ntmps13
  go_wp2_with (go_at_call 31; refine HV.out.mono ?_; rintro e w' ⟨rfl, rfl⟩)
  go_ret
  exact ⟨by rw [HP.out]; rfl, rfl⟩

theorem undoCount (w : World) (p : ULoc) (n : Nat) (past : List (Nat → Nat)) (L : Nat → Nat) (h : Und w p n past L) :
    Calls Try.prog 15 #[.pointer (some ⟨p.g, 0, none⟩)] w fun e w' => e = .returned (.int .i64 (sets n L : Int)) ∧ ∃ k, w' = w.drewN k := by
  have V := undoValid w p n past L h
  have hc := h.cnt
  obtain ⟨up, size, log, h, hh⟩ := h
  obtain ⟨_, _, _, _, _, _, _, _, hp, _⟩ := hh.st
  have c1 := h.c1
  have c3 := h.c3
  have nb := h.nb
  rw [hp] at hc
  have HC := hide hc
  have hln : log.length ≤ n := by omega
  have HV := hide V
  clear h hh V hp hc
  go_enter Try.func15, Try.ntmps15
  go_wp2_with (go_at_call 31; refine HV.out.mono ?_; rintro e w' ⟨rfl, rfl⟩)
  go_quiet (fail)
  go_wp2_with fail
  go_ret
  exact ⟨ret_int (by have := HC.out; omega), _, rfl⟩

theorem undoSame (w : World) (a b : Int) (p : ULoc) (n : Nat) (past : List (Nat → Nat)) (L : Nat → Nat) (h : Und w p n past L) :
    Calls Try.prog 22 #[.pointer (some ⟨p.g, 0, none⟩), .int .i64 a, .int .i64 b] w fun e w' => e = .returned (.bool (sameB n L a b)) ∧ w = w' := by
  have CA := undoHas w a p n past L h
  have CB := undoHas w b p n past L h
  cases ha : inB n a
  · have E : Hid (sameB n L a b = false) := by show _ = _; simp [sameB, ha]
    rw [ha] at CA
    have HA := hide CA
    clear CA CB h ha
    go_enter Try.func22, Try.ntmps22
    go_wp2_with (go_at_call_of 39 (Value.int .i64 a); refine HA.out.mono ?_; rintro e w' ⟨rfl, rfl⟩)
    go_ret
    exact ⟨ret_bool (by rw [E.out]), rfl⟩
  · cases hb : inB n b
    · have E : Hid (sameB n L a b = false) := by show _ = _; simp [sameB, hb]
      rw [ha] at CA
      rw [hb] at CB
      have HA := hide CA
      have HB := hide CB
      clear CA CB h ha hb
      go_enter Try.func22, Try.ntmps22
      go_wp2_with (first | (go_at_call_of 39 (Value.int .i64 a); refine HA.out.mono ?_; rintro e w' ⟨rfl, rfl⟩) | (go_at_call_of 39 (Value.int .i64 b); refine HB.out.mono ?_; rintro e w' ⟨rfl, rfl⟩))
      go_ret
      exact ⟨ret_bool (by rw [E.out]), rfl⟩
    · have E : Hid (sameB n L a b = decide (L a.toNat = L b.toNat)) := by show _ = _; simp [sameB, ha, hb]; rfl
      rw [ha] at CA
      rw [hb] at CB
      have ha' : 0 ≤ a ∧ a < n := by simpa [inB] using ha
      have hb' : 0 ≤ b ∧ b < n := by simpa [inB] using hb
      obtain ⟨a, rfl⟩ := Int.eq_ofNat_of_zero_le ha'.1
      obtain ⟨b, rfl⟩ := Int.eq_ofNat_of_zero_le hb'.1
      have han : a < n := by omega
      have hbn : b < n := by omega
      obtain ⟨up, size, log, h, hh⟩ := h
      obtain ⟨least, rep, ρ, M, c, hs, _⟩ := hh.st
      have R := fun (x : Nat) (hx : x < n) => undoRoot w x p n M up size rep ρ log h hs.fo hx
      have HRA := hide (R a han)
      have HRB := hide (R b hbn)
      have HA := hide CA
      have HB := hide CB
      have HS := hide (hs.same a b han hbn)
      clear CA CB h ha hb hh hs R ha' hb' han hbn
      go_enter Try.func22, Try.ntmps22
      go_wp2_with (first | (go_at_call_of 39 (Value.int .i64 (a : Int)); refine HA.out.mono ?_; rintro e w' ⟨rfl, rfl⟩) | (go_at_call_of 39 (Value.int .i64 (b : Int)); refine HB.out.mono ?_; rintro e w' ⟨rfl, rfl⟩) | (go_at_call_of 32 (Value.int .i64 (a : Int)); refine HRA.out.mono ?_; rintro e w' ⟨rfl, rfl⟩) | (go_at_call_of 32 (Value.int .i64 (b : Int)); refine HRB.out.mono ?_; rintro e w' ⟨rfl, rfl⟩))
      go_ret
      refine ⟨ret_bool ?_, rfl⟩
      rw [E.out]
      simp only [Int.toNat_natCast]
      rw [Bool.eq_iff_iff]
      show ((rep a : Int) == (rep b : Int)) = true ↔ _
      rw [beq_iff_eq, decide_eq_true_eq, ← HS.out]
      omega

theorem undoSize (w : World) (a : Int) (p : ULoc) (n : Nat) (past : List (Nat → Nat)) (L : Nat → Nat) (h : Und w p n past L) :
    Calls Try.prog 23 #[.pointer (some ⟨p.g, 0, none⟩), .int .i64 a] w fun e w' => e = .returned (.int .i64 (sizeV n L a)) ∧ ∃ k, w' = w.drewN k := by
  have CA := undoHas w a p n past L h
  cases ha : inB n a
  · have E : Hid (sizeV n L a = 0) := by show _ = _; simp [sizeV, ha]
    rw [ha] at CA
    have HA := hide CA
    clear CA h ha
    go_enter Try.func23, Try.ntmps23
    go_wp2_with (go_at_call_of 39 (Value.int .i64 a); refine HA.out.mono ?_; rintro e w' ⟨rfl, rfl⟩)
    go_ret
    exact ⟨by rw [E.out]; rfl, 0, rfl⟩
  · rw [ha] at CA
    have ha' : 0 ≤ a ∧ a < n := by simpa [inB] using ha
    obtain ⟨a, rfl⟩ := Int.eq_ofNat_of_zero_le ha'.1
    have E : Hid (sizeV n L a = (cls n L (L a) : Int)) := by show _ = _; simp [sizeV, ha]
    have han : a < n := by omega
    obtain ⟨up, size, log, h, hh⟩ := h
    obtain ⟨least, rep, ρ, M, c, hs, _⟩ := hh.st
    have hr := hs.fo.rep_lt a han
    have R := fun (m : Nat) => undoRoot (w.drewN m) a p n M up size rep ρ log (h.drewN m) hs.fo han
    have c2 := h.c2
    have cz := h.hz.intx hr
    have nb := h.nb
    have HR := hide R
    have HA := hide CA
    have HS := hide (hs.sz a han)
    clear CA h ha hh hs R ha' han
    go_enter Try.func23, Try.ntmps23
    go_wp2_with (go_at_call_of 39 (Value.int .i64 (a : Int)); refine HA.out.mono ?_; rintro e w' ⟨rfl, rfl⟩)
    go_quiet ((go_at_call 32; exact quiet_any1 (quiet_eq (HR.out _))))
    go_wp2_with fail
    go_ret
    exact ⟨by rw [E.out, ← HS.out]; rfl, _, rfl⟩
end Go.Proofs.Ytdhmjdlkaoflnaa
