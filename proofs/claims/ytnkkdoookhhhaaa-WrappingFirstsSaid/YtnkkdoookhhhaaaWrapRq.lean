/- seepageref30: Offset. -/
import Derived.Test.YtnkkdoookhhhaaaWrapRp
namespace Go.Proofs.Ytnkkdoookhhhaaa
open Go.RowKit
set_option linter.unusedVariables false

theorem wlk_off {W H n : Nat} {E : List Nat} {dx dy : Nat → Int} (hn : n = W * H) (h : Wlk W H E dx dy) {a b : Nat} (la : a < n) (lb : b < n) (hl : tL W H E a = tL W H E b) (h1 : wndB W H tX E a = false) (h2 : wndB W H tY E a = false) :
    offOk W H E (a : Int) (b : Int) = true ∧ offX W H E (a : Int) (b : Int) = dx b - dx a ∧ offY W H E (a : Int) (b : Int) = dy b - dy a := by
  subst hn
  have ok := (offOk_iff (E := E) la lb).2 ⟨hl, h1, h2⟩
  have hid : tL W H E (tL W H E a) = tL W H E a := (tL_lab W H E).idem a la
  refine ⟨ok, ?_, ?_⟩
  · unfold offX; rw [if_pos ok]; exact offI_eq (wndB_false.1 h1) hid (h.px a la) (by rw [hl]; exact h.px b lb)
  · unfold offY; rw [if_pos ok]; exact offI_eq (wndB_false.1 h2) hid (h.py a la) (by rw [hl]; exact h.py b lb)
theorem wlk_no {W H n : Nat} {E : List Nat} (hn : n = W * H) {a b : Nat} (la : a < n) (lb : b < n) (h : wndB W H tX E a = true ∨ wndB W H tY E a = true) : offOk W H E (a : Int) (b : Int) = false := by
  subst hn
  rw [← Bool.not_eq_true]
  intro k
  obtain ⟨-, k1, k2⟩ := (offOk_iff (E := E) la lb).1 k
  rcases h with h | h
  · rw [k1] at h; exact absurd h (by decide)
  · rw [k2] at h; exact absurd h (by decide)

theorem ret_off {x x' y y' : Int} {o o' : Bool} (h : x = x') (k : y = y') (l : o = o') : Ending.returned (.tuple #[.int .i64 x, .int .i64 y, .bool o]) = .returned (.tuple #[.int .i64 x', .int .i64 y', .bool o']) := by rw [h, k, l]
set_option maxHeartbeats 8000000 in
theorem r30Offset (w : World) (a b : Int) (p : RLoc) (W H n : Nat) (E : List Nat) (h : RT w p W H n E) :
    Calls Try.prog 36 #[.pointer (some ⟨p.g, 0, none⟩), .int .i64 a, .int .i64 b] w
      fun e w' => e = .returned (.tuple #[.int .i64 (offX W H E a b), .int .i64 (offY W H E a b), .bool (offOk W H E a b)]) ∧ Below w.heap.size w w' := by
  have HSA := r30Same w a b p W H n E h
  have hn := h.nn
  have hnb := h.nb
  have HR := hide h
  clear h
  cases hs : sameB n (tL W H E) a b
  · have ho : offOk W H E a b = false := by unfold offOk; rw [← hn, hs]; rfl
    rw [hs] at HSA
    rw [ho, (offOk_false ho).1, (offOk_false ho).2]
    have HSA2 := hide HSA
    clear HSA ho hs
    go_enter Try.func36, Try.ntmps36
    go_wp2_with fail
    refine HSA2.out.mono ?_
    rintro e w1 ⟨rfl, hb1⟩
    have HB1 := hide hb1
    clear hb1
    go_wp2_with fail
    go_ret3
    exact ⟨rfl, HB1.out⟩
  · rw [hs] at HSA
    have ha : inB n a = true := by unfold sameB at hs; simp at hs; exact hs.1.1
    have hb : inB n b = true := by unfold sameB at hs; simp at hs; exact hs.1.2
    obtain ⟨a, rfl⟩ := Int.eq_ofNat_of_zero_le (show 0 ≤ a by simp [inB] at ha; omega)
    obtain ⟨b, rfl⟩ := Int.eq_ofNat_of_zero_le (show 0 ≤ b by simp [inB] at hb; omega)
    have la : a < n := inB_lt ha
    have lb : b < n := inB_lt hb
    rw [same_nat la lb] at hs
    have HL := hide (beq_iff_eq.1 hs)
    have HSA2 := hide HSA
    have HN := hide hn
    clear HSA hs ha hb hn
    go_enter Try.func36, Try.ntmps36
    go_wp2_with fail
    refine HSA2.out.mono ?_
    rintro e w1 ⟨rfl, hb1⟩
    have HB1 := hide hb1
    have HR1 := hide (HR.out.fresh hb1)
    clear hb1
    go_wp2_with fail
    refine (r30Walked _ p W H n E HR1.out).mono ?_
    rintro e w1 ⟨bi, bx, bz, fi, dx, dy, rfl, hw, hb⟩
    have HB1 := hide (HB1.out.trans (hb.mono HB1.out.size))
    have HRT1 := hide (HR1.out.fresh hb)
    have HW := hide hw
    clear hw hb
    go_wp2_with fail
    have hA := (Below.refl w1.heap.size w1).alloc (Nat.le_refl _) (.cells #[.slice (some ⟨bi, 0, none⟩) n n, .slice (some ⟨bx, 0, none⟩) n n, .slice (some ⟨bz, 0, none⟩) n n] 75)
    have hK := Blk.new w1 75 #[.slice (some ⟨bi, 0, none⟩) n n, .slice (some ⟨bx, 0, none⟩) n n, .slice (some ⟨bz, 0, none⟩) n n]
    have HW2 := hide (HW.out.below hA)
    have HRT2 := hide (HRT1.out.fresh hA)
    have HB2 := hide (HB1.out.trans (hA.mono HB1.out.size))
    clear hA
    generalize w1.alloc (.cells #[.slice (some ⟨bi, 0, none⟩) n n, .slice (some ⟨bx, 0, none⟩) n n, .slice (some ⟨bz, 0, none⟩) n n] 75) = w2 at *
    generalize w1.heap.size = K at *
    have HC : Hid (∀ k, Calls Try.prog 43 #[.pointer (some ⟨p.g, 0, none⟩), .agg #[.slice (some ⟨bi, 0, none⟩) n n, .slice (some ⟨bx, 0, none⟩) n n, .slice (some ⟨bz, 0, none⟩) n n], .int .i64 (tL W H E a : Int)] (w2.drewN k)
      fun e w' => e = .returned (.tuple #[.bool (wndB W H tX E a), .bool (wndB W H tY E a)]) ∧ Below w2.heap.size w2 w') := fun k =>
      (r30ClosedAt (w2.drewN k) _ p W H n E bi bx bz fi dx dy a (HRT2.out.drewN k) (HW2.out.below ((Below.refl _ _).drewN k)) la).mono fun e w' ⟨h1, h2⟩ => ⟨h1, ((Below.refl _ _).drewN k).trans (h2.mono (Nat.le_refl _))⟩
    have k0 : w2.cell? ⟨K, 0, none⟩ = some (.slice (some ⟨bi, 0, none⟩) n n) := (hK.cell 0).trans rfl
    have k1 : w2.cell? ⟨K, 1, none⟩ = some (.slice (some ⟨bx, 0, none⟩) n n) := (hK.cell 1).trans rfl
    have k2 : w2.cell? ⟨K, 2, none⟩ = some (.slice (some ⟨bz, 0, none⟩) n n) := (hK.cell 2).trans rfl
    have hKlt : K < w2.heap.size := hK.lt
    have hilt := HW2.out.hi.lt
    have fa := HW2.out.hi.intz la
    rw [HW2.out.lab a la] at fa
    have HBX : Hid (∀ w', Below w2.heap.size w2 w' → Blk w' K 75 #[.slice (some ⟨bi, 0, none⟩) n n, .slice (some ⟨bx, 0, none⟩) n n, .slice (some ⟨bz, 0, none⟩) n n] ∧ Blk w' bx 3 (arz n dx) ∧ Blk w' bz 3 (arz n dy)) := fun w' hb => ⟨hK.below hb hKlt, HW2.out.hx.below hb HW2.out.hx.lt, HW2.out.hy.below hb HW2.out.hy.lt⟩
    have hda := HW2.out.wlk.bd a (by rw [← HN.out]; exact la)
    have hdb := HW2.out.wlk.bd b (by rw [← HN.out]; exact lb)
    rw [← HN.out] at hda hdb
    have HWL := hide HW2.out.wlk
    have HLA := hide la
    have HLB := hide lb
    obtain ⟨ea, hea⟩ : ∃ ea, ea = tL W H E a := ⟨_, rfl⟩
    rw [← hea] at HC fa
    clear hea hK
    obtain ⟨a1, a2, a3, a4⟩ := hda
    obtain ⟨b1, b2, b3, b4⟩ := hdb
    have wx : IntKind.i64.wrap (dx b - dx a) = dx b - dx a := IntWalk.i64_in _ (by omega)
    have wy : IntKind.i64.wrap (dy b - dy a) = dy b - dy a := IntWalk.i64_in _ (by omega)
    have HWW : Hid ((wndB W H tX E a = false → wndB W H tY E a = false → offOk W H E (a : Int) (b : Int) = true ∧ offX W H E (a : Int) (b : Int) = dx b - dx a ∧ offY W H E (a : Int) (b : Int) = dy b - dy a) ∧ (wndB W H tX E a = true ∨ wndB W H tY E a = true → offOk W H E (a : Int) (b : Int) = false ∧ offX W H E (a : Int) (b : Int) = 0 ∧ offY W H E (a : Int) (b : Int) = 0)) :=
      ⟨fun h1 h2 => wlk_off HN.out HWL.out la lb HL.out h1 h2, fun h => ⟨wlk_no HN.out la lb h, offOk_false (wlk_no HN.out la lb h)⟩⟩
    generalize wndB W H tX E a = ua at *
    generalize wndB W H tY E a = ub at *
    cases ua <;> cases ub
    · obtain ⟨z1, z2, z3⟩ := HWW.out.1 rfl rfl
      have Z1 := hide z1
      have Z2 := hide z2
      have Z3 := hide z3
      clear z1 z2 z3
      go_region_held3 (fun w' => w'.cell? ⟨K, 0, none⟩ = some (.slice (some ⟨bi, 0, none⟩) n n) ∧ w'.cell? ⟨K, 1, none⟩ = some (.slice (some ⟨bx, 0, none⟩) n n) ∧ w'.cell? ⟨K, 2, none⟩ = some (.slice (some ⟨bz, 0, none⟩) n n) ∧ w'.cell? ⟨bi, a, none⟩ = some (.int .i64 (ea : Int)))
        (first | exact ⟨k0, k1, k2, fa⟩ | exact ⟨(hb8.cell (p := ⟨K, 0, none⟩) hKlt).trans k0, (hb8.cell (p := ⟨K, 1, none⟩) hKlt).trans k1, (hb8.cell (p := ⟨K, 2, none⟩) hKlt).trans k2, (hb8.cell (p := ⟨bi, a, none⟩) hilt).trans fa⟩)
        (first | (go_at_call 43; refine (HC.out _).mono ?_; rintro e w8 ⟨rfl, hb8⟩))
      have HB8 := hide (HB2.out.trans (hb8.mono HB2.out.size))
      obtain ⟨y1, y2, y3⟩ := HBX.out _ hb8
      have q1 : w8.cell? ⟨K, 1, none⟩ = some (.slice (some ⟨bx, 0, none⟩) n n) := (y1.cell 1).trans rfl
      have q2 : w8.cell? ⟨K, 2, none⟩ = some (.slice (some ⟨bz, 0, none⟩) n n) := (y1.cell 2).trans rfl
      have xa := y2.intz la
      have xb := y2.intz lb
      have ya := y3.intz la
      have yb := y3.intz lb
      clear y1 y2 y3 hb8
      go_wp2_with fail
      go_quiet (fail)
      go_wp2_with fail
      go_ret3
      exact ⟨ret_off Z2.out.symm Z3.out.symm Z1.out.symm, HB8.out.drewN _⟩
    · obtain ⟨z1, z2, z3⟩ := HWW.out.2 (by simp)
      have Z1 := hide z1
      have Z2 := hide z2
      have Z3 := hide z3
      clear z1 z2 z3
      go_region_held3 (fun w' => w'.cell? ⟨K, 0, none⟩ = some (.slice (some ⟨bi, 0, none⟩) n n) ∧ w'.cell? ⟨K, 1, none⟩ = some (.slice (some ⟨bx, 0, none⟩) n n) ∧ w'.cell? ⟨K, 2, none⟩ = some (.slice (some ⟨bz, 0, none⟩) n n) ∧ w'.cell? ⟨bi, a, none⟩ = some (.int .i64 (ea : Int)))
        (first | exact ⟨k0, k1, k2, fa⟩ | exact ⟨(hb8.cell (p := ⟨K, 0, none⟩) hKlt).trans k0, (hb8.cell (p := ⟨K, 1, none⟩) hKlt).trans k1, (hb8.cell (p := ⟨K, 2, none⟩) hKlt).trans k2, (hb8.cell (p := ⟨bi, a, none⟩) hilt).trans fa⟩)
        (first | (go_at_call 43; refine (HC.out _).mono ?_; rintro e w8 ⟨rfl, hb8⟩))
      have HB8 := hide (HB2.out.trans (hb8.mono HB2.out.size))
      clear hb8
      go_wp2_with fail
      go_ret3
      exact ⟨ret_off Z2.out.symm Z3.out.symm Z1.out.symm, HB8.out⟩
    · obtain ⟨z1, z2, z3⟩ := HWW.out.2 (by simp)
      have Z1 := hide z1
      have Z2 := hide z2
      have Z3 := hide z3
      clear z1 z2 z3
      go_region_held3 (fun w' => w'.cell? ⟨K, 0, none⟩ = some (.slice (some ⟨bi, 0, none⟩) n n) ∧ w'.cell? ⟨K, 1, none⟩ = some (.slice (some ⟨bx, 0, none⟩) n n) ∧ w'.cell? ⟨K, 2, none⟩ = some (.slice (some ⟨bz, 0, none⟩) n n) ∧ w'.cell? ⟨bi, a, none⟩ = some (.int .i64 (ea : Int)))
        (first | exact ⟨k0, k1, k2, fa⟩ | exact ⟨(hb8.cell (p := ⟨K, 0, none⟩) hKlt).trans k0, (hb8.cell (p := ⟨K, 1, none⟩) hKlt).trans k1, (hb8.cell (p := ⟨K, 2, none⟩) hKlt).trans k2, (hb8.cell (p := ⟨bi, a, none⟩) hilt).trans fa⟩)
        (first | (go_at_call 43; refine (HC.out _).mono ?_; rintro e w8 ⟨rfl, hb8⟩))
      have HB8 := hide (HB2.out.trans (hb8.mono HB2.out.size))
      clear hb8
      go_wp2_with fail
      go_ret3
      exact ⟨ret_off Z2.out.symm Z3.out.symm Z1.out.symm, HB8.out⟩
    · obtain ⟨z1, z2, z3⟩ := HWW.out.2 (by simp)
      have Z1 := hide z1
      have Z2 := hide z2
      have Z3 := hide z3
      clear z1 z2 z3
      go_region_held3 (fun w' => w'.cell? ⟨K, 0, none⟩ = some (.slice (some ⟨bi, 0, none⟩) n n) ∧ w'.cell? ⟨K, 1, none⟩ = some (.slice (some ⟨bx, 0, none⟩) n n) ∧ w'.cell? ⟨K, 2, none⟩ = some (.slice (some ⟨bz, 0, none⟩) n n) ∧ w'.cell? ⟨bi, a, none⟩ = some (.int .i64 (ea : Int)))
        (first | exact ⟨k0, k1, k2, fa⟩ | exact ⟨(hb8.cell (p := ⟨K, 0, none⟩) hKlt).trans k0, (hb8.cell (p := ⟨K, 1, none⟩) hKlt).trans k1, (hb8.cell (p := ⟨K, 2, none⟩) hKlt).trans k2, (hb8.cell (p := ⟨bi, a, none⟩) hilt).trans fa⟩)
        (first | (go_at_call 43; refine (HC.out _).mono ?_; rintro e w8 ⟨rfl, hb8⟩))
      have HB8 := hide (HB2.out.trans (hb8.mono HB2.out.size))
      clear hb8
      go_wp2_with fail
      go_ret3
      exact ⟨ret_off Z2.out.symm Z3.out.symm Z1.out.symm, HB8.out⟩
end Go.Proofs.Ytnkkdoookhhhaaa
