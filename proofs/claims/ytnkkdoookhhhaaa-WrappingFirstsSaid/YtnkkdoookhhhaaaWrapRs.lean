/- seepageref30: Add. -/
import Derived.Test.YtnkkdoookhhhaaaWrapRq
namespace Go.Proofs.Ytnkkdoookhhhaaa
open Go.RowKit
set_option linter.unusedVariables false

theorem ret_bi9 {a b : Bool} {x : Int} (h : a = b) : Ending.returned (.tuple #[.bool a, .int .i64 x]) = .returned (.tuple #[.bool b, .int .i64 x]) := by rw [h]
theorem RT.put {w : World} {p : RLoc} {W H n : Nat} {E : List Nat} (h : RT w p W H n E) {e : Nat} (he : e < 2 * n) : RT (w.setCell ⟨p.b, e, none⟩ (.bool true)) p W H n (E ++ [e]) :=
  ⟨h.hg.far (p := ⟨p.b, e, none⟩) (h.hg.ne_ h.hh (by decide)) _, by
    have := h.hh.setBool e true
    rwa [show updb (fun c => E.contains c) e true = fun c => (E ++ [e]).contains c from funext fun c => by
      unfold updb
      rw [Bool.eq_iff_iff]
      split <;> simp_all] at this, h.nW, h.nH, h.nn, h.nb, fun a ha => by
    rw [List.mem_append, List.mem_singleton] at ha
    rcases ha with ha | rfl
    · exact h.ie a ha
    · exact he⟩
theorem r30Add_range (w : World) (x y d : Int) (p : RLoc) (W H n : Nat) (E : List Nat) (h : RT w p W H n E) (hp : placeB W H x y = false) :
    Calls Try.prog 28 #[.pointer (some ⟨p.g, 0, none⟩), .int .i64 x, .int .i64 y, .int .i64 d] w
      fun r w' => r = .returned (.tuple #[.bool false, .int .i64 3]) ∧ w = w' := by
  have VV := r30Valid w p W H n E h
  have h1 := h
  have h2 := h
  obtain ⟨_, c0, c1, _⟩ := h1.cells
  clear h
  have HV := hide VV
  have hc : x < 0 ∨ (0 ≤ x ∧ (W : Int) ≤ x) ∨ (0 ≤ x ∧ x < W ∧ y < 0) ∨ (0 ≤ x ∧ x < W ∧ 0 ≤ y ∧ (H : Int) ≤ y) := by simp [placeB] at hp; omega
  clear h1 h2 VV hp
  rcases hc with hx | ⟨hx, hx2⟩ | ⟨hx, hx2, hy⟩ | ⟨hx, hx2, hy, hy2⟩
  all_goals
    go_enter Try.func28, Try.ntmps28
    go_wp2_with (first | (go_at_call 39; refine HV.out.mono ?_; rintro e w' ⟨rfl, rfl⟩))
    go_ret2
    exact ⟨rfl, rfl⟩
set_option maxRecDepth 100000 in
set_option maxHeartbeats 4000000 in
theorem r30Add_arg (w : World) (x y d : Int) (p : RLoc) (W H n : Nat) (E : List Nat) (h : RT w p W H n E) (hp : placeB W H x y = true) (hd : d ≠ 0 ∧ d ≠ 1) :
    Calls Try.prog 28 #[.pointer (some ⟨p.g, 0, none⟩), .int .i64 x, .int .i64 y, .int .i64 d] w
      fun r w' => r = .returned (.tuple #[.bool false, .int .i64 2]) ∧ w = w' := by
  have VV := r30Valid w p W H n E h
  have h1 := h
  have h2 := h
  obtain ⟨_, c0, c1, _⟩ := h1.cells
  clear h
  have HV := hide VV
  obtain ⟨hx, hx2, hy, hy2⟩ : 0 ≤ x ∧ x < W ∧ 0 ≤ y ∧ y < H := by simpa [placeB] using hp
  have d0 : (d != 0) = true := by simpa using hd.1
  have d1 : (d != 1) = true := by simpa using hd.2
  clear h1 h2 VV hp hd
  go_enter Try.func28, Try.ntmps28
  go_wp2_with (first | (go_at_call 39; refine HV.out.mono ?_; rintro e w' ⟨rfl, rfl⟩))
  go_ret2
  exact ⟨rfl, rfl⟩

set_option maxRecDepth 100000 in
set_option maxHeartbeats 4000000 in
theorem r30Add_ok (w : World) (x y d : Nat) (p : RLoc) (W H n : Nat) (E : List Nat) (h : RT w p W H n E) (hx : x < W) (hy : y < H) (hd : d < 2) :
    Calls Try.prog 28 #[.pointer (some ⟨p.g, 0, none⟩), .int .i64 (x : Int), .int .i64 (y : Int), .int .i64 (d : Int)] w
      fun r w' => r = .returned (.tuple #[.bool (!(tL W H E (tS (2 * (y * W + x) + d)) == tL W H E (tT W H (2 * (y * W + x) + d)))), .int .i64 0]) ∧ RT w' p W H n (E ++ [2 * (y * W + x) + d]) ∧ Fr p.bl w w' := by
  have hn := h.nn
  have nb := h.nb
  have hv : y * W + x < n := by rw [hn]; exact mul_add_lt hy hx
  have VV := r30Valid w p W H n E h
  obtain ⟨_, c0, c1, _⟩ := h.cells
  have ec : 2 * ((y : Int) * (W : Int) + (x : Int)) + (d : Int) = ((2 * (y * W + x) + d : Nat) : Int) := by push_cast; rfl
  have hyW : 0 ≤ (y : Int) * (W : Int) := Int.mul_nonneg (by omega) (by omega)
  have hyW2 : (y : Int) * (W : Int) + (x : Int) < 4096 := by
    have : ((y * W + x : Nat) : Int) < 4096 := by omega
    push_cast at this; exact this
  have hbe := tE_in (W := W) (H := H) (e := 2 * (y * W + x) + d) (by rw [← hn]; omega)
  have he : 2 * (y * W + x) + d < 2 * n := by omega
  rw [← hn] at hbe
  obtain ⟨e, hee⟩ : ∃ e, e = 2 * (y * W + x) + d := ⟨_, rfl⟩
  rw [← hee] at ec hbe he ⊢
  have HEE := hide hee
  have HV := hide VV
  have HR := hide h
  have HBE := hide hbe
  have HE := hide he
  clear h VV hn hv hee hbe
  have hx2 : decide (W ≤ x) = false := by simp; omega
  have hy2 : decide (H ≤ y) = false := by simp; omega
  have hd2 : d = 0 ∨ d = 1 := by omega
  rcases hd2 with rfl | rfl
  · rw [show ((0 : Nat) : Int) = 0 from rfl, Int.add_zero] at ec
    go_enter Try.func28, Try.ntmps28
    go_wp2_with (first | (go_at_call 39; refine HV.out.mono ?_; rintro e w' ⟨rfl, rfl⟩))
    refine (r30Ends _ e p W H n E HR.out HE.out).mono ?_
    rintro r w2 ⟨rfl, kq, rfl⟩
    clear ec hyW hyW2
    go_wp2_with fail
    refine (r30Walked _ p W H n E (HR.out.drewN kq)).mono ?_
    rintro r w1 ⟨bi, bx, bz, fi, dx, dy, rfl, hw, hb⟩
    have HB1 := hide (((Below.refl w.heap.size w).drewN kq).trans hb)
    have HRT1 := hide (HR.out.fresh HB1.out)
    have HW := hide hw
    clear hw hb
    have hA := (Below.refl w1.heap.size w1).alloc (Nat.le_refl _) (.cells #[.slice (some ⟨bi, 0, none⟩) n n, .slice (some ⟨bx, 0, none⟩) n n, .slice (some ⟨bz, 0, none⟩) n n] 75)
    have hK := Blk.new w1 75 #[.slice (some ⟨bi, 0, none⟩) n n, .slice (some ⟨bx, 0, none⟩) n n, .slice (some ⟨bz, 0, none⟩) n n]
    have hW2 := HW.out.below hA
    have hRT2 := HRT1.out.fresh hA
    have hB2 := HB1.out.trans (hA.mono HB1.out.size)
    have hKb : w1.heap.size ≠ p.b := fun h => by have := HRT1.out.hh.lt; omega
    have hbb : bi ≠ p.b := fun h => by have := HW.out.fr.1; have := (HR.out.drewN kq).hh.lt; rw [h] at *; omega
    clear hA
    have x3 : (w1.alloc (.cells #[.slice (some ⟨bi, 0, none⟩) n n, .slice (some ⟨bx, 0, none⟩) n n, .slice (some ⟨bz, 0, none⟩) n n] 75)).cell? ⟨p.g, 3, none⟩ = some (.slice (some ⟨p.b, 0, none⟩) (2 * n) (2 * n)) := hRT2.cells.2.2.2
    have x4 : (w1.alloc (.cells #[.slice (some ⟨bi, 0, none⟩) n n, .slice (some ⟨bx, 0, none⟩) n n, .slice (some ⟨bz, 0, none⟩) n n] 75)).cell? ⟨p.b, e, none⟩ = some (.bool (E.contains e)) := hRT2.hh.bool he
    have x5 : (w1.alloc (.cells #[.slice (some ⟨bi, 0, none⟩) n n, .slice (some ⟨bx, 0, none⟩) n n, .slice (some ⟨bz, 0, none⟩) n n] 75)).frozen? ⟨p.b, e, none⟩ = false := hRT2.hh.frozen e
    have hRT3 := hRT2.put he
    have hK3 := hK.far (p := ⟨p.b, e, none⟩) hKb (.bool true)
    have hF3 : Fr p.bl w ((w1.alloc (.cells #[.slice (some ⟨bi, 0, none⟩) n n, .slice (some ⟨bx, 0, none⟩) n n, .slice (some ⟨bz, 0, none⟩) n n] 75)).setCell ⟨p.b, e, none⟩ (.bool true)) := (Fr.of_below p.bl hB2).setCell (Or.inl (by simp [RLoc.bl])) _
    have hI3 := hW2.hi.far (p := ⟨p.b, e, none⟩) hbb (.bool true)
    have k0 : ((w1.alloc (.cells #[.slice (some ⟨bi, 0, none⟩) n n, .slice (some ⟨bx, 0, none⟩) n n, .slice (some ⟨bz, 0, none⟩) n n] 75)).setCell ⟨p.b, e, none⟩ (.bool true)).cell? ⟨w1.heap.size, 0, none⟩ = some (.slice (some ⟨bi, 0, none⟩) n n) := (hK3.cell 0).trans rfl
    have fa := hI3.intz HBE.out.1
    have fb := hI3.intz HBE.out.2
    rw [hW2.lab _ HBE.out.1] at fa
    rw [hW2.lab _ HBE.out.2] at fb
    have HRT3 := hide hRT3
    have HF3 := hide hF3
    clear hRT2 hRT3 hF3 hI3 hW2 hB2 hK hK3
    generalize hl1 : tL W H E (tS e) = l1 at *
    generalize hl2 : tL W H E (tT W H e) = l2 at *
    generalize hsa : tS e = sa at *
    generalize htb : tT W H e = tb at *
    have hsan : sa < n := HBE.out.1
    have htbn : tb < n := HBE.out.2
    have HL1 := hide hl1
    have HL2 := hide hl2
    have HSA := hide hsa
    have HTB := hide htb
    clear hl1 hl2 hsa htb
    go_wp2_with fail
    generalize hw5 : (w1.alloc (.cells #[.slice (some ⟨bi, 0, none⟩) n n, .slice (some ⟨bx, 0, none⟩) n n, .slice (some ⟨bz, 0, none⟩) n n] 75)).setCell ⟨p.b, e, none⟩ (.bool true) = w5 at *
    clear hw5
    go_quiet (fail)
    go_wp2_with fail
    go_ret2
    exact ⟨ret_bi9 (by rw [HSA.out, HTB.out, HL1.out, HL2.out, Bool.eq_iff_iff]; simp; omega), HRT3.out.drewN _, HF3.out.drewN _⟩
  · rw [show ((1 : Nat) : Int) = 1 from rfl] at ec
    go_enter Try.func28, Try.ntmps28
    go_wp2_with (first | (go_at_call 39; refine HV.out.mono ?_; rintro e w' ⟨rfl, rfl⟩))
    refine (r30Ends _ e p W H n E HR.out HE.out).mono ?_
    rintro r w2 ⟨rfl, kq, rfl⟩
    clear ec hyW hyW2
    go_wp2_with fail
    refine (r30Walked _ p W H n E (HR.out.drewN kq)).mono ?_
    rintro r w1 ⟨bi, bx, bz, fi, dx, dy, rfl, hw, hb⟩
    have HB1 := hide (((Below.refl w.heap.size w).drewN kq).trans hb)
    have HRT1 := hide (HR.out.fresh HB1.out)
    have HW := hide hw
    clear hw hb
    have hA := (Below.refl w1.heap.size w1).alloc (Nat.le_refl _) (.cells #[.slice (some ⟨bi, 0, none⟩) n n, .slice (some ⟨bx, 0, none⟩) n n, .slice (some ⟨bz, 0, none⟩) n n] 75)
    have hK := Blk.new w1 75 #[.slice (some ⟨bi, 0, none⟩) n n, .slice (some ⟨bx, 0, none⟩) n n, .slice (some ⟨bz, 0, none⟩) n n]
    have hW2 := HW.out.below hA
    have hRT2 := HRT1.out.fresh hA
    have hB2 := HB1.out.trans (hA.mono HB1.out.size)
    have hKb : w1.heap.size ≠ p.b := fun h => by have := HRT1.out.hh.lt; omega
    have hbb : bi ≠ p.b := fun h => by have := HW.out.fr.1; have := (HR.out.drewN kq).hh.lt; rw [h] at *; omega
    clear hA
    have x3 : (w1.alloc (.cells #[.slice (some ⟨bi, 0, none⟩) n n, .slice (some ⟨bx, 0, none⟩) n n, .slice (some ⟨bz, 0, none⟩) n n] 75)).cell? ⟨p.g, 3, none⟩ = some (.slice (some ⟨p.b, 0, none⟩) (2 * n) (2 * n)) := hRT2.cells.2.2.2
    have x4 : (w1.alloc (.cells #[.slice (some ⟨bi, 0, none⟩) n n, .slice (some ⟨bx, 0, none⟩) n n, .slice (some ⟨bz, 0, none⟩) n n] 75)).cell? ⟨p.b, e, none⟩ = some (.bool (E.contains e)) := hRT2.hh.bool he
    have x5 : (w1.alloc (.cells #[.slice (some ⟨bi, 0, none⟩) n n, .slice (some ⟨bx, 0, none⟩) n n, .slice (some ⟨bz, 0, none⟩) n n] 75)).frozen? ⟨p.b, e, none⟩ = false := hRT2.hh.frozen e
    have hRT3 := hRT2.put he
    have hK3 := hK.far (p := ⟨p.b, e, none⟩) hKb (.bool true)
    have hF3 : Fr p.bl w ((w1.alloc (.cells #[.slice (some ⟨bi, 0, none⟩) n n, .slice (some ⟨bx, 0, none⟩) n n, .slice (some ⟨bz, 0, none⟩) n n] 75)).setCell ⟨p.b, e, none⟩ (.bool true)) := (Fr.of_below p.bl hB2).setCell (Or.inl (by simp [RLoc.bl])) _
    have hI3 := hW2.hi.far (p := ⟨p.b, e, none⟩) hbb (.bool true)
    have k0 : ((w1.alloc (.cells #[.slice (some ⟨bi, 0, none⟩) n n, .slice (some ⟨bx, 0, none⟩) n n, .slice (some ⟨bz, 0, none⟩) n n] 75)).setCell ⟨p.b, e, none⟩ (.bool true)).cell? ⟨w1.heap.size, 0, none⟩ = some (.slice (some ⟨bi, 0, none⟩) n n) := (hK3.cell 0).trans rfl
    have fa := hI3.intz HBE.out.1
    have fb := hI3.intz HBE.out.2
    rw [hW2.lab _ HBE.out.1] at fa
    rw [hW2.lab _ HBE.out.2] at fb
    have HRT3 := hide hRT3
    have HF3 := hide hF3
    clear hRT2 hRT3 hF3 hI3 hW2 hB2 hK hK3
    generalize hl1 : tL W H E (tS e) = l1 at *
    generalize hl2 : tL W H E (tT W H e) = l2 at *
    generalize hsa : tS e = sa at *
    generalize htb : tT W H e = tb at *
    have hsan : sa < n := HBE.out.1
    have htbn : tb < n := HBE.out.2
    have HL1 := hide hl1
    have HL2 := hide hl2
    have HSA := hide hsa
    have HTB := hide htb
    clear hl1 hl2 hsa htb
    go_wp2_with fail
    generalize hw5 : (w1.alloc (.cells #[.slice (some ⟨bi, 0, none⟩) n n, .slice (some ⟨bx, 0, none⟩) n n, .slice (some ⟨bz, 0, none⟩) n n] 75)).setCell ⟨p.b, e, none⟩ (.bool true) = w5 at *
    clear hw5
    go_quiet (fail)
    go_wp2_with fail
    go_ret2
    exact ⟨ret_bi9 (by rw [HSA.out, HTB.out, HL1.out, HL2.out, Bool.eq_iff_iff]; simp; omega), HRT3.out.drewN _, HF3.out.drewN _⟩
end Go.Proofs.Ytnkkdoookhhhaaa
