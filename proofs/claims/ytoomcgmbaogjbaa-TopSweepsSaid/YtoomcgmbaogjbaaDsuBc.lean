/- dsu (Count, Least): Same, Least, Size, Len. -/
import Derived.Test.YtoomcgmbaogjbaaDsuB0
namespace Go.Proofs.Ytoomcgmbaogjbaa
open Go.RowKit
set_option linter.unusedVariables false

theorem dsuCount (w : World) (p : Loc) (n : Nat) (L : Nat → Nat) (h : Dsu w p n L) :
    Calls Try.prog 43 #[.pointer (some ⟨p.g, 0, none⟩)] w fun e w' => e = .returned (.int .i64 (sets n L : Int)) ∧ w = w' := by
  have H := hide h
  obtain ⟨up, least, size, rep, ρ, M, c, hd, hs, hl⟩ := h
  have c4 := hd.c4
  have E : Hid (c = sets n L) := hs.cn
  clear hd hs
  go_enter Try.func43, Try.ntmps43
  go_wp2_with (first | (go_at_call 35; refine (dsuValid _ _ _ _ H.out).mono ?_; rintro e w' ⟨rfl, rfl⟩))
  go_ret
  exact ⟨by rw [← E.out]; rfl, rfl⟩
theorem dsuLeast (w : World) (a : Int) (p : Loc) (n : Nat) (L : Nat → Nat) (h : Dsu w p n L) :
    Calls Try.prog 50 #[.pointer (some ⟨p.g, 0, none⟩), .int .i64 a] w fun e w' => e = .returned (.tuple #[.int .i64 (leastV n L a), .int .i64 (leastE n a)]) ∧ Dsu w' p n L ∧ Fr [p.bu] w w' := by
  have H := hide h
  clear h
  cases ha : inB n a
  · have E : Hid (leastV n L a = 0) := by show _ = _; simp [leastV, ha]
    have E2 : Hid (leastE n a = 3) := by show _ = _; simp [leastE, ha]
    go_enter Try.func50, Try.ntmps50
    go_wp2_with (first | (go_at_call 35; refine (dsuValid _ _ _ _ H.out).mono ?_; rintro e w' ⟨rfl, rfl⟩) | (go_at_call 45; refine (dsuHas _ _ _ _ _ H.out).mono ?_; rintro e w' ⟨rfl, rfl⟩))
    go_ret2
    exact ⟨by rw [E.out, E2.out]; rfl, H.out, Fr.refl _ _⟩
  · have ha' : 0 ≤ a ∧ a < n := by simpa [inB] using ha
    obtain ⟨a, rfl⟩ := Int.eq_ofNat_of_zero_le ha'.1
    have E : Hid (leastV n L a = (L a : Int)) := by show _ = _; simp [leastV, ha]
    have E2 : Hid (leastE n a = 0) := by show _ = _; simp [leastE, ha]
    obtain ⟨up, least, size, rep, ρ, M, c, hd, hs, hl⟩ := H.out
    have HA : Hid (a < n) := by show _ < _; omega
    have hr := hs.fo.rep_lt a HA.out
    have c2 := hd.c2
    have cl := hd.hl.intx hr
    have nb := hd.nb
    have HD := hide hd
    have HS := hide hs
    clear ha' hd hs
    go_enter Try.func50, Try.ntmps50
    go_wp2_with (first | (go_at_call 35; refine (dsuValid _ _ _ _ H.out).mono ?_; rintro e w' ⟨rfl, rfl⟩) | (go_at_call 45; refine (dsuHas _ _ _ _ _ H.out).mono ?_; rintro e w' ⟨rfl, rfl⟩))
    go_region_held3 (fun w' => w'.cell? ⟨p.g, 2, none⟩ = some (.slice (some ⟨p.bl, 0, none⟩) n p.cl) ∧ w'.cell? ⟨p.bl, rep a, none⟩ = some (.int .i64 (least (rep a) : Int)))
      (first | exact ⟨c2, cl⟩ | exact ⟨hd1.c2, hd1.hl.intx hr⟩)
      (first | (go_at_call 36; refine (dsuRoot _ _ _ _ _ _ _ _ _ _ _ (HD.out.drewN 1) HS.out.fo HA.out).mono ?_; rintro e w1 ⟨rfl, up1, hd1, hf1, hfr1⟩))
    go_wp2_with fail
    go_ret2
    refine ⟨?_, ⟨up1, least, size, rep, ρ, M, c, hd1, ⟨hf1, HS.out.le, HS.out.same, HS.out.sz, HS.out.cn⟩, hl⟩, ((Fr.refl _ _).drewN 1).trans hfr1⟩
    rw [E.out, E2.out, ← HS.out.le a HA.out]; rfl

end Go.Proofs.Ytoomcgmbaogjbaa
