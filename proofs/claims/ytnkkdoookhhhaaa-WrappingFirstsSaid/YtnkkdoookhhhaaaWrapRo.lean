/- seepageref30: valid, Wraps, exists, Same, Count, Offset. -/
import Derived.Test.YtnkkdoookhhhaaaWrapCl
namespace Go.Proofs.Ytnkkdoookhhhaaa
open Go.RowKit
set_option linter.unusedVariables false

theorem r30Valid (w : World) (p : RLoc) (W H n : Nat) (E : List Nat) (h : RT w p W H n E) :
    Calls Try.prog 39 #[.pointer (some ⟨p.g, 0, none⟩)] w fun e w' => e = .returned (.bool true) ∧ w = w' := by
  obtain ⟨c0, _⟩ := h.cells
  clear h
  go_enter Try.func39, Try.ntmps39
  go_wp2_with fail
  go_ret
  exact ⟨rfl, rfl⟩
theorem r30ClosedAny (w : World) (B : Nat) (p : RLoc) (W H n : Nat) (E : List Nat) (bi bx bz : Nat) (fi dx dy : Nat → Int) (h : RT w p W H n E) (hw : Wk B w W H n E bi bx bz fi dx dy) :
    Calls Try.prog 43 #[.pointer (some ⟨p.g, 0, none⟩), .agg #[.slice (some ⟨bi, 0, none⟩) n n, .slice (some ⟨bx, 0, none⟩) n n, .slice (some ⟨bz, 0, none⟩) n n], .int .i64 (-1)] w
      fun e w' => e = .returned (.tuple #[.bool (anyB W H tX E), .bool (anyB W H tY E)]) ∧ Below w.heap.size w w' := by
  have := r30Closed w B p W H n E bi bx bz fi dx dy (-1) h hw (by omega)
  rwa [cloK_any h.nn h.ie hw.wlk.px, cloK_any h.nn h.ie hw.wlk.py] at this
theorem r30ClosedAt (w : World) (B : Nat) (p : RLoc) (W H n : Nat) (E : List Nat) (bi bx bz : Nat) (fi dx dy : Nat → Int) (a : Nat) (h : RT w p W H n E) (hw : Wk B w W H n E bi bx bz fi dx dy) (ha : a < n) :
    Calls Try.prog 43 #[.pointer (some ⟨p.g, 0, none⟩), .agg #[.slice (some ⟨bi, 0, none⟩) n n, .slice (some ⟨bx, 0, none⟩) n n, .slice (some ⟨bz, 0, none⟩) n n], .int .i64 (tL W H E a : Int)] w
      fun e w' => e = .returned (.tuple #[.bool (wndB W H tX E a), .bool (wndB W H tY E a)]) ∧ Below w.heap.size w w' := by
  have hlt : tL W H E a < n := by rw [h.nn]; exact (tL_lab W H E).lt (by rw [← h.nn]; exact ha)
  have hnb := h.nb
  have := r30Closed w B p W H n E bi bx bz fi dx dy (tL W H E a : Int) h hw (by omega)
  rwa [cloK_wnd h.nn h.ie hw.wlk.px hw.lab ha, cloK_wnd h.nn h.ie hw.wlk.py hw.lab ha] at this
theorem Wk.below {B : Nat} {w w' : World} {W H n : Nat} {E : List Nat} {bi bx bz : Nat} {fi dx dy : Nat → Int} (h : Wk B w W H n E bi bx bz fi dx dy) (k : Below w.heap.size w w') : Wk B w' W H n E bi bx bz fi dx dy :=
  ⟨h.hi.below k h.hi.lt, h.hx.below k h.hx.lt, h.hy.below k h.hy.lt, h.fr, h.lab, h.wlk⟩

set_option maxHeartbeats 4000000 in
theorem r30Wraps (w : World) (p : RLoc) (W H n : Nat) (E : List Nat) (h : RT w p W H n E) :
    Calls Try.prog 31 #[.pointer (some ⟨p.g, 0, none⟩)] w
      fun e w' => e = .returned (.tuple #[.bool (anyB W H tX E), .bool (anyB W H tY E)]) ∧ Below w.heap.size w w' := by
  have V := hide (r30Valid w p W H n E h)
  have HW := hide (r30Walked w p W H n E h)
  have HR := hide h
  clear h
  go_enter Try.func31, Try.ntmps31
  go_wp2_with (go_at_call 39; refine V.out.mono ?_; rintro e w' ⟨rfl, rfl⟩)
  refine HW.out.mono ?_
  rintro e w1 ⟨bi, bx, bz, fi, dx, dy, rfl, hw, hb⟩
  have HC := hide (r30ClosedAny w1 _ p W H n E bi bx bz fi dx dy (HR.out.fresh hb) hw)
  have HB := hide hb
  clear hw hb
  go_wp2_with fail
  refine HC.out.mono ?_
  rintro e w2 ⟨rfl, hb2⟩
  have HB2 := hide (HB.out.trans (hb2.mono HB.out.size))
  clear hb2
  go_wp2_with fail
  go_ret2
  exact ⟨rfl, HB2.out⟩
set_option maxHeartbeats 4000000 in
theorem r30Exists (w : World) (a : Int) (p : RLoc) (W H n : Nat) (E : List Nat) (h : RT w p W H n E) :
    Calls Try.prog 45 #[.pointer (some ⟨p.g, 0, none⟩), .int .i64 a] w
      fun e w' => e = .returned (.bool (inB n a)) ∧ ∃ k, w' = w.drewN k := by
  have V := hide (fun w h => r30Valid w p W H n E h)
  obtain ⟨_, c1, c2, _⟩ := h.cells
  have hWH : (W : Int) * (H : Int) = (n : Int) := by rw [h.nn]; push_cast; rfl
  have hnb := h.nb
  have HR := hide h
  clear h
  by_cases h0 : 0 ≤ a
  · by_cases h1 : a < n
    · have e : inB n a = true := by simp [inB]; omega
      rw [e]
      go_enter Try.func45, Try.ntmps45
      go_wp2_with fail
      go_quiet ((go_at_call 39; exact quiet_any1 (quiet_eq (V.out _ (HR.out.drewN _)))))
      go_wp2_with fail
      go_ret
      exact ⟨rfl, _, rfl⟩
    · have e : inB n a = false := by simp [inB]; omega
      rw [e]
      have h2 : decide (a < (n : Int)) = false := by simpa using h1
      go_enter Try.func45, Try.ntmps45
      go_wp2_with fail
      go_quiet ((go_at_call 39; exact quiet_any1 (quiet_eq (V.out _ (HR.out.drewN _)))))
      go_wp2_with fail
      go_ret
      exact ⟨rfl, _, rfl⟩
  · have e : inB n a = false := by simp [inB]; omega
    rw [e]
    have h2 : decide (0 ≤ a) = false := by simpa using h0
    go_enter Try.func45, Try.ntmps45
    go_wp2_with fail
    go_quiet ((go_at_call 39; exact quiet_any1 (quiet_eq (V.out _ (HR.out.drewN _)))))
    go_wp2_with fail
    go_ret
    exact ⟨rfl, _, rfl⟩
set_option maxHeartbeats 8000000 in
theorem r30Same (w : World) (a b : Int) (p : RLoc) (W H n : Nat) (E : List Nat) (h : RT w p W H n E) :
    Calls Try.prog 37 #[.pointer (some ⟨p.g, 0, none⟩), .int .i64 a, .int .i64 b] w
      fun e w' => e = .returned (.bool (sameB n (tL W H E) a b)) ∧ Below w.heap.size w w' := by
  have HA := fun w h => r30Exists w a p W H n E h
  have HB := fun w h => r30Exists w b p W H n E h
  have HR := hide h
  have hb0 : Hid (∀ k, Below w.heap.size w (w.drewN k)) := fun k => (Below.refl _ _).drewN k
  cases ha : inB n a
  · have hs : sameB n (tL W H E) a b = false := by simp [sameB, ha]
    rw [ha] at HA
    rw [hs]
    have HHA := hide HA
    clear HA HB h ha hs
    go_enter Try.func37, Try.ntmps37
    go_wp2_with fail
    refine (HHA.out _ HR.out).mono ?_
    rintro e w' ⟨rfl, k, rfl⟩
    go_wp2_with fail
    go_ret
    exact ⟨rfl, hb0.out _⟩
  · cases hb : inB n b
    · have hs : sameB n (tL W H E) a b = false := by simp [sameB, hb]
      rw [ha] at HA
      rw [hb] at HB
      rw [hs]
      have HHA := hide HA
      have HHB := hide HB
      clear HA HB h ha hb hs
      go_enter Try.func37, Try.ntmps37
      go_wp2_with fail
      refine (HHA.out _ HR.out).mono ?_
      rintro e w' ⟨rfl, k, rfl⟩
      go_wp2_with fail
      refine (HHB.out _ (HR.out.drewN k)).mono ?_
      rintro e w' ⟨rfl, k2, rfl⟩
      go_wp2_with fail
      go_ret
      exact ⟨rfl, hb0.out _⟩
    · rw [ha] at HA
      rw [hb] at HB
      obtain ⟨a, rfl⟩ := Int.eq_ofNat_of_zero_le (show 0 ≤ a by simp [inB] at ha; omega)
      obtain ⟨b, rfl⟩ := Int.eq_ofNat_of_zero_le (show 0 ≤ b by simp [inB] at hb; omega)
      have la : a < n := inB_lt ha
      have lb : b < n := inB_lt hb
      rw [same_nat la lb]
      have HHA := hide HA
      have HHB := hide HB
      clear HA HB ha hb h
      go_enter Try.func37, Try.ntmps37
      go_wp2_with fail
      refine (HHA.out _ HR.out).mono ?_
      rintro e w' ⟨rfl, k, rfl⟩
      go_wp2_with fail
      refine (HHB.out _ (HR.out.drewN k)).mono ?_
      rintro e w' ⟨rfl, k2, rfl⟩
      go_wp2_with fail
      refine (r30Walked _ p W H n E (HR.out.drewN (k + k2))).mono ?_
      rintro e w1 ⟨bi, bx, bz, fi, dx, dy, rfl, hw, hb⟩
      have HB1 := hide ((hb0.out (k + k2)).trans hb)
      have HW := hide hw
      clear hw hb
      go_wp2_with fail
      have hA := (Below.refl w1.heap.size w1).alloc (Nat.le_refl _) (.cells #[.slice (some ⟨bi, 0, none⟩) n n, .slice (some ⟨bx, 0, none⟩) n n, .slice (some ⟨bz, 0, none⟩) n n] 75)
      have hK := Blk.new w1 75 #[.slice (some ⟨bi, 0, none⟩) n n, .slice (some ⟨bx, 0, none⟩) n n, .slice (some ⟨bz, 0, none⟩) n n]
      have hW2 := HW.out.below hA
      have HB2 := hide (HB1.out.trans (hA.mono HB1.out.size))
      clear hA
      generalize w1.alloc (.cells #[.slice (some ⟨bi, 0, none⟩) n n, .slice (some ⟨bx, 0, none⟩) n n, .slice (some ⟨bz, 0, none⟩) n n] 75) = w2 at *
      generalize w1.heap.size = K at *
      have k0 : w2.cell? ⟨K, 0, none⟩ = some (.slice (some ⟨bi, 0, none⟩) n n) := (hK.cell 0).trans rfl
      have fa := hW2.hi.intz la
      have fb := hW2.hi.intz lb
      rw [hW2.lab a la] at fa
      rw [hW2.lab b lb] at fb
      clear hK hW2
      go_quiet (fail)
      go_wp2_with fail
      go_ret
      exact ⟨ret_bool (by rw [Bool.eq_iff_iff, beq_iff_eq, beq_iff_eq]; omega), HB2.out.drewN _⟩
end Go.Proofs.Ytnkkdoookhhhaaa
