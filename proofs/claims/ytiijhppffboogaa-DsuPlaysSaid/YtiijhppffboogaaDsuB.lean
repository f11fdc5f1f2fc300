/- dsu: Same, Least, Size, Count, Len on sets that New made. -/
import Derived.Test.YtiijhppffboogaaDsuP
namespace Go.Proofs.Ytiijhppffboogaa
open Go.RowKit
set_option linter.unusedVariables false

/-- Sets that New made, in memory, with the labels L. -/
def Dsu (w : World) (p : Loc) (n : Nat) (L : Nat → Nat) : Prop :=
  ∃ (up least size rep ρ : Nat → Nat) (M c : Nat), DS w p n up least size c ∧ Sts n L up least size rep ρ M c ∧ Lab n L

section
variable {w w' : World} {p : Loc} {n : Nat} {L : Nat → Nat}
theorem Dsu.fr {S : List Nat} (h : Dsu w p n L) (k : Fr S w w') (hS : p.g ∉ S ∧ p.bu ∉ S ∧ p.bl ∉ S ∧ p.bz ∉ S) : Dsu w' p n L := by
  obtain ⟨up, least, size, rep, ρ, M, c, hd, hs, hl⟩ := h
  exact ⟨up, least, size, rep, ρ, M, c, hd.fr k hS, hs, hl⟩
theorem Dsu.drewN (h : Dsu w p n L) (k : Nat) : Dsu (w.drewN k) p n L := by
  obtain ⟨up, least, size, rep, ρ, M, c, hd, hs, hl⟩ := h
  exact ⟨up, least, size, rep, ρ, M, c, hd.drewN k, hs, hl⟩
theorem Dsu.below {B : Nat} (h : Dsu w p n L) (k : Below B w w') (hB : p.g < B ∧ p.bu < B ∧ p.bl < B ∧ p.bz < B) : Dsu w' p n L := by
  obtain ⟨up, least, size, rep, ρ, M, c, hd, hs, hl⟩ := h
  exact ⟨up, least, size, rep, ρ, M, c, ⟨hd.hg.below k hB.1, hd.hu.below k hB.2.1, hd.hl.below k hB.2.2.1, hd.hz.below k hB.2.2.2, hd.ul, hd.uz, hd.lz, hd.nb⟩, hs, hl⟩
theorem Dsu.lt (h : Dsu w p n L) : p.g < w.heap.size ∧ p.bu < w.heap.size ∧ p.bl < w.heap.size ∧ p.bz < w.heap.size := by
  obtain ⟨up, least, size, rep, ρ, M, c, hd, hs, hl⟩ := h
  exact ⟨hd.hg.lt, hd.hu.lt, hd.hl.lt, hd.hz.lt⟩
theorem Dsu.lab (h : Dsu w p n L) : Lab n L := by
  obtain ⟨up, least, size, rep, ρ, M, c, hd, hs, hl⟩ := h
  exact hl
theorem Dsu.nb (h : Dsu w p n L) : n ≤ 65536 := by
  obtain ⟨up, least, size, rep, ρ, M, c, hd, hs, hl⟩ := h
  exact hd.nb
theorem Dsu.fresh (h : Dsu w p n L) (k : Below w.heap.size w w') : Dsu w' p n L := h.below k h.lt
end

def inB (n : Nat) (a : Int) : Bool := decide (0 ≤ a ∧ a < n)
def sameB (n : Nat) (L : Nat → Nat) (a b : Int) : Bool := inB n a && inB n b && L a.toNat == L b.toNat
def leastV (n : Nat) (L : Nat → Nat) (a : Int) : Int := if inB n a then (L a.toNat : Int) else 0
def leastE (n : Nat) (a : Int) : Int := if inB n a then 0 else 3
def sizeV (n : Nat) (L : Nat → Nat) (a : Int) : Int := if inB n a then (cls n L (L a.toNat) : Int) else 0

theorem dsuHas (w : World) (a : Int) (p : Loc) (n : Nat) (L : Nat → Nat) (h : Dsu w p n L) :
    Calls Try.prog 30 #[.pointer (some ⟨p.g, 0, none⟩), .int .i64 a] w fun e w' => e = .returned (.bool (inB n a)) ∧ w = w' := by
  obtain ⟨up, least, size, rep, ρ, M, c, hd, hs, hl⟩ := h
  exact dsuHas0 w a p n c up least size hd
theorem dsuValid (w : World) (p : Loc) (n : Nat) (L : Nat → Nat) (h : Dsu w p n L) :
    Calls Try.prog 32 #[.pointer (some ⟨p.g, 0, none⟩)] w fun e w' => e = .returned (.bool true) ∧ w = w' := by
  obtain ⟨up, least, size, rep, ρ, M, c, hd, hs, hl⟩ := h
  exact dsuValid0 w p n c up least size hd

theorem dsuSame (w : World) (a b : Int) (p : Loc) (n : Nat) (L : Nat → Nat) (h : Dsu w p n L) :
    Calls Try.prog 13 #[.pointer (some ⟨p.g, 0, none⟩), .int .i64 a, .int .i64 b] w fun e w' => e = .returned (.bool (sameB n L a b)) ∧ Dsu w' p n L ∧ Fr [p.bu] w w' := by
  have H := hide h
  clear h
  cases ha : inB n a
  · have E : Hid (sameB n L a b = false) := by show _ = _; simp [sameB, ha]
    go_enter Try.func13, Try.ntmps13
    go_wp2_with (go_at_call 30; refine (dsuHas _ _ _ _ _ H.out).mono ?_; rintro e w' ⟨rfl, rfl⟩)
    go_ret
    exact ⟨ret_bool (by rw [E.out]), H.out, Fr.refl _ _⟩
  · cases hb : inB n b
    · have E : Hid (sameB n L a b = false) := by show _ = _; simp [sameB, hb]
      go_enter Try.func13, Try.ntmps13
      go_wp2_with (go_at_call 30; refine (dsuHas _ _ _ _ _ H.out).mono ?_; rintro e w' ⟨rfl, rfl⟩)
      go_ret
      exact ⟨ret_bool (by rw [E.out]), H.out, Fr.refl _ _⟩
    · have E : Hid (sameB n L a b = decide (L a.toNat = L b.toNat)) := by show _ = _; simp [sameB, ha, hb]; rfl
      have ha' : 0 ≤ a ∧ a < n := by simpa [inB] using ha
      have hb' : 0 ≤ b ∧ b < n := by simpa [inB] using hb
      obtain ⟨a, rfl⟩ := Int.eq_ofNat_of_zero_le ha'.1
      obtain ⟨b, rfl⟩ := Int.eq_ofNat_of_zero_le hb'.1
      obtain ⟨up, least, size, rep, ρ, M, c, hd, hs, hl⟩ := H.out
      have HA : Hid (a < n) := by show _ < _; omega
      have HB : Hid (b < n) := by show _ < _; omega
      have HD := hide hd
      have HS := hide hs
      clear ha' hb' hd hs
      go_enter Try.func13, Try.ntmps13
      go_wp2_with (go_at_call 30; refine (dsuHas _ _ _ _ _ H.out).mono ?_; rintro e w' ⟨rfl, rfl⟩)
      refine (dsuRoot _ _ _ _ _ _ _ _ _ _ _ HD.out HS.out.fo HA.out).mono ?_
      rintro e w1 ⟨rfl, up1, hd1, hf1, hfr1⟩
      go_wp2_with fail
      refine (dsuRoot _ _ _ _ _ _ _ _ _ _ _ hd1 hf1 HB.out).mono ?_
      rintro e w2 ⟨rfl, up2, hd2, hf2, hfr2⟩
      go_wp2_with fail
      go_ret
      refine ⟨ret_bool ?_, ⟨up2, least, size, rep, ρ, M, c, hd2, ⟨hf2, HS.out.le, HS.out.same, HS.out.sz, HS.out.cn⟩, hl⟩, hfr1.trans hfr2⟩
      rw [E.out]
      simp only [Int.toNat_natCast]
      rw [Bool.eq_iff_iff]
      show ((rep a : Int) == (rep b : Int)) = true ↔ _
      rw [beq_iff_eq, decide_eq_true_eq, ← HS.out.same a b HA.out HB.out]
      omega

theorem dsuLeast (w : World) (a : Int) (p : Loc) (n : Nat) (L : Nat → Nat) (h : Dsu w p n L) :
    Calls Try.prog 17 #[.pointer (some ⟨p.g, 0, none⟩), .int .i64 a] w fun e w' => e = .returned (.tuple #[.int .i64 (leastV n L a), .int .i64 (leastE n a)]) ∧ Dsu w' p n L ∧ Fr [p.bu] w w' := by
  have H := hide h
  clear h
  cases ha : inB n a
  · have E : Hid (leastV n L a = 0) := by show _ = _; simp [leastV, ha]
    have E2 : Hid (leastE n a = 3) := by show _ = _; simp [leastE, ha]
    go_enter Try.func17, Try.ntmps17
    go_wp2_with (first | (go_at_call 32; refine (dsuValid _ _ _ _ H.out).mono ?_; rintro e w' ⟨rfl, rfl⟩) | (go_at_call 30; refine (dsuHas _ _ _ _ _ H.out).mono ?_; rintro e w' ⟨rfl, rfl⟩))
    go_ret2
    exact ⟨by rw [E.out, E2.out]; rfl, H.out, Fr.refl _ _⟩
  · have ha' : 0 ≤ a ∧ a < n := by simpa [inB] using ha
    obtain ⟨a, rfl⟩ := Int.eq_ofNat_of_zero_le ha'.1
    have E : Hid (leastV n L a = (L a : Int)) := by show _ = _; simp [leastV, ha]
    have E2 : Hid (leastE n a = 0) := by show _ = _; simp [leastE, ha]
    obtain ⟨up, least, size, rep, ρ, M, c, hd, hs, hl⟩ := H.out
    have HA : Hid (a < n) := by show _ < _; omega
    have hr := hs.fo.rep_lt a HA.out
    have c2 := hd.c2
    have cl := hd.hl.intx hr
    have nb := hd.nb
    have HD := hide hd
    have HS := hide hs
    clear ha' hd hs
    go_enter Try.func17, Try.ntmps17
    go_wp2_with (first | (go_at_call 32; refine (dsuValid _ _ _ _ H.out).mono ?_; rintro e w' ⟨rfl, rfl⟩) | (go_at_call 30; refine (dsuHas _ _ _ _ _ H.out).mono ?_; rintro e w' ⟨rfl, rfl⟩))
    go_region_held3 (fun w' => w'.cell? ⟨p.g, 2, none⟩ = some (.slice (some ⟨p.bl, 0, none⟩) n p.cl) ∧ w'.cell? ⟨p.bl, rep a, none⟩ = some (.int .i64 (least (rep a) : Int)))
      (first | exact ⟨c2, cl⟩ | exact ⟨hd1.c2, hd1.hl.intx hr⟩)
      (first | (go_at_call 31; refine (dsuRoot _ _ _ _ _ _ _ _ _ _ _ (HD.out.drewN 1) HS.out.fo HA.out).mono ?_; rintro e w1 ⟨rfl, up1, hd1, hf1, hfr1⟩))
    go_wp2_with fail
    go_ret2
    refine ⟨?_, ⟨up1, least, size, rep, ρ, M, c, hd1, ⟨hf1, HS.out.le, HS.out.same, HS.out.sz, HS.out.cn⟩, hl⟩, ((Fr.refl _ _).drewN 1).trans hfr1⟩
    rw [E.out, E2.out, ← HS.out.le a HA.out]; rfl

theorem dsuSize (w : World) (a : Int) (p : Loc) (n : Nat) (L : Nat → Nat) (h : Dsu w p n L) :
    Calls Try.prog 14 #[.pointer (some ⟨p.g, 0, none⟩), .int .i64 a] w fun e w' => e = .returned (.int .i64 (sizeV n L a)) ∧ Dsu w' p n L ∧ Fr [p.bu] w w' := by
  have H := hide h
  clear h
  cases ha : inB n a
  · have E : Hid (sizeV n L a = 0) := by show _ = _; simp [sizeV, ha]
    go_enter Try.func14, Try.ntmps14
    go_wp2_with (first | (go_at_call 30; refine (dsuHas _ _ _ _ _ H.out).mono ?_; rintro e w' ⟨rfl, rfl⟩))
    go_ret
    exact ⟨by rw [E.out]; rfl, H.out, Fr.refl _ _⟩
  · have ha' : 0 ≤ a ∧ a < n := by simpa [inB] using ha
    obtain ⟨a, rfl⟩ := Int.eq_ofNat_of_zero_le ha'.1
    have E : Hid (sizeV n L a = (cls n L (L a) : Int)) := by show _ = _; simp [sizeV, ha]
    obtain ⟨up, least, size, rep, ρ, M, c, hd, hs, hl⟩ := H.out
    have HA : Hid (a < n) := by show _ < _; omega
    have hr := hs.fo.rep_lt a HA.out
    have c3 := hd.c3
    have cz := hd.hz.intx hr
    have nb := hd.nb
    have HD := hide hd
    have HS := hide hs
    clear ha' hd hs
    go_enter Try.func14, Try.ntmps14
    go_wp2_with (first | (go_at_call 30; refine (dsuHas _ _ _ _ _ H.out).mono ?_; rintro e w' ⟨rfl, rfl⟩))
    go_region_held3 (fun w' => w'.cell? ⟨p.g, 3, none⟩ = some (.slice (some ⟨p.bz, 0, none⟩) n p.cz) ∧ w'.cell? ⟨p.bz, rep a, none⟩ = some (.int .i64 (size (rep a) : Int)))
      (first | exact ⟨c3, cz⟩ | exact ⟨hd1.c3, hd1.hz.intx hr⟩)
      (first | (go_at_call 31; refine (dsuRoot _ _ _ _ _ _ _ _ _ _ _ (HD.out.drewN 1) HS.out.fo HA.out).mono ?_; rintro e w1 ⟨rfl, up1, hd1, hf1, hfr1⟩))
    go_wp2_with fail
    go_ret
    refine ⟨?_, ⟨up1, least, size, rep, ρ, M, c, hd1, ⟨hf1, HS.out.le, HS.out.same, HS.out.sz, HS.out.cn⟩, hl⟩, ((Fr.refl _ _).drewN 1).trans hfr1⟩
    rw [E.out, ← HS.out.sz a HA.out]; rfl

theorem dsuCount (w : World) (p : Loc) (n : Nat) (L : Nat → Nat) (h : Dsu w p n L) :
    Calls Try.prog 22 #[.pointer (some ⟨p.g, 0, none⟩)] w fun e w' => e = .returned (.int .i64 (sets n L : Int)) ∧ w = w' := by
  have H := hide h
  obtain ⟨up, least, size, rep, ρ, M, c, hd, hs, hl⟩ := h
  have c4 := hd.c4
  have E : Hid (c = sets n L) := hs.cn
  clear hd hs
  go_enter Try.func22, Try.ntmps22
  go_wp2_with (first | (go_at_call 32; refine (dsuValid _ _ _ _ H.out).mono ?_; rintro e w' ⟨rfl, rfl⟩))
  go_ret
  exact ⟨by rw [← E.out]; rfl, rfl⟩

theorem dsuLen (w : World) (p : Loc) (n : Nat) (L : Nat → Nat) (h : Dsu w p n L) :
    Calls Try.prog 24 #[.pointer (some ⟨p.g, 0, none⟩)] w fun e w' => e = .returned (.int .i64 (n : Int)) ∧ w = w' := by
  have H := hide h
  obtain ⟨up, least, size, rep, ρ, M, c, hd, hs, hl⟩ := h
  have c1 := hd.c1
  clear hd hs
  go_enter Try.func24, Try.ntmps24
  go_wp2_with (first | (go_at_call 32; refine (dsuValid _ _ _ _ H.out).mono ?_; rintro e w' ⟨rfl, rfl⟩))
  go_ret
  exact ⟨rfl, rfl⟩
end Go.Proofs.Ytiijhppffboogaa
