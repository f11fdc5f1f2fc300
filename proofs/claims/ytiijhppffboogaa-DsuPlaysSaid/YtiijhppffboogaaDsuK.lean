/- slices.Clone of ints; dsu: Copy. -/
import Derived.Test.YtiijhppffboogaaDsuL
import Derived.Lib.SliceRun
namespace Go.Proofs.Ytiijhppffboogaa
open Go.RowKit
set_option linter.unusedVariables false

theorem int_info0 : (Try.prog.info? 3).map (fun i => (i.zero, i.size, i.bytes)) = some (some (.int .i64 0), 1, 8) := by kernel_rfl

theorem own_some {w : World} {B : Nat} {E : TypeId} {sz n : Nat} {v : Value} {xs : List Value} (h : w.ownsRow B E sz v n xs) (hv : v ≠ .slice none 0 0) : ∃ g cap, v = .slice (some ⟨g, 0, none⟩) n cap := by
  rcases h.2 with ⟨e, _⟩ | ⟨g, cap, cur, e, _⟩
  · exact absurd e hv
  · exact ⟨g, cap, e⟩

theorem clone_ints (w : World) (b n c t : Nat) (f : Nat → Nat) (r : Array Value) (h : Blk w b t (arx n f r)) (hn : n ≤ 1000000) :
    Calls Try.prog 33 #[.slice (some ⟨b, 0, none⟩) n c] w
      fun e w' => ∃ (b' c' : Nat) (r' : Array Value), e = .returned (.slice (some ⟨b', 0, none⟩) n c') ∧ Blk w' b' 3 (arx n f r') ∧ w.heap.size ≤ b' ∧ Below w.heap.size w w' := by
  obtain ⟨i0, hi, hz0, hz1, hz2⟩ := info_parts int_info0
  have hne := fun W => Lib.run_eql_slice_nil (P := Try.prog) W 32 3 (some ⟨b, 0, none⟩) n c 0 0 Try.underlying32
  have hr := hide ((arx_rd h).alloc (.cells #[] 3))
  have ho := hide (World.ownsRow_made (e := 3) (size := 1) (base := w.heap.size) w #[] 0 (Nat.le_refl _) (by simp [maxLen]) rfl)
  have hi' := hide hi
  have hz0' := hide hz0
  have hz1' := hide hz1
  have hz2' := hide hz2
  clear h hi hz0 hz1 hz2
  go_enter Try.func33, Try.ntmps33
  go_wp2_with (at_builtin; refine app_any 32 3 Try.underlying32 hi'.out hz0'.out hz1'.out hz2'.out rfl (by decide) _ _ _ _ _ hr.out (arr_toList_one n f) rfl _ _ rfl w.heap.size _ 0 [] rfl ho.out rfl (by unfold maxLen; omega) (by omega) (by simp) ?_; intro v' w1 hown hgr hat hnn hbel)
  go_ret
  simp only [Nat.zero_add, List.nil_append] at hown
  obtain ⟨g, cap, hv⟩ := own_some hown (fun e => by have := hnn e; cases this)
  rw [hv] at hown
  obtain ⟨r', hb, hB⟩ := own_arx hown
  exact ⟨g, cap, r', by show Ending.returned v' = _; rw [hv], hb, hB, ((Below.refl _ _).alloc (Nat.le_refl _) _).trans (hbel.mono (Nat.le_refl _))⟩

set_option maxHeartbeats 4000000 in
theorem dsuCopy (w : World) (p : Loc) (n : Nat) (L : Nat → Nat) (h : Dsu w p n L) :
    Calls Try.prog 18 #[.pointer (some ⟨p.g, 0, none⟩)] w
      fun e w' => ∃ p' : Loc, e = .returned (.pointer (some ⟨p'.g, 0, none⟩)) ∧ Dsu w' p' n L ∧ Below w.heap.size w w' ∧ p'.from_ w.heap.size := by
  have H := hide h
  have nb := h.nb
  obtain ⟨up, least, size, rep, ρ, M, c, hd, hs, hl⟩ := h
  have c1 := hd.c1
  have c2 := hd.c2
  have c3 := hd.c3
  have c4 := hd.c4
  have hlt := hd.hg.lt
  have HS := hide hs
  have HD := hide hd
  clear hd hs
  go_enter Try.func18, Try.ntmps18
  go_wp2_with (first | (go_at_call 32; refine (dsuValid _ _ _ _ H.out).mono ?_; rintro e w' ⟨rfl, rfl⟩))
  go_region_held3 (fun w' => w'.cell? ⟨p.g, 1, none⟩ = some (.slice (some ⟨p.bu, 0, none⟩) n p.cu) ∧ w'.cell? ⟨p.g, 2, none⟩ = some (.slice (some ⟨p.bl, 0, none⟩) n p.cl) ∧ w'.cell? ⟨p.g, 3, none⟩ = some (.slice (some ⟨p.bz, 0, none⟩) n p.cz) ∧ w'.cell? ⟨p.g, 4, none⟩ = some (.int .i64 (c : Int)))
    (first
      | exact ⟨c1, c2, c3, c4⟩
      | exact ⟨(hb1.cell (p := ⟨p.g, 1, none⟩) hlt).trans c1, (hb1.cell (p := ⟨p.g, 2, none⟩) hlt).trans c2, (hb1.cell (p := ⟨p.g, 3, none⟩) hlt).trans c3, (hb1.cell (p := ⟨p.g, 4, none⟩) hlt).trans c4⟩
      | exact ⟨(hb2.cell (p := ⟨p.g, 1, none⟩) hlt).trans c1, (hb2.cell (p := ⟨p.g, 2, none⟩) hlt).trans c2, (hb2.cell (p := ⟨p.g, 3, none⟩) hlt).trans c3, (hb2.cell (p := ⟨p.g, 4, none⟩) hlt).trans c4⟩
      | exact ⟨(hb3.cell (p := ⟨p.g, 1, none⟩) hlt).trans c1, (hb3.cell (p := ⟨p.g, 2, none⟩) hlt).trans c2, (hb3.cell (p := ⟨p.g, 3, none⟩) hlt).trans c3, (hb3.cell (p := ⟨p.g, 4, none⟩) hlt).trans c4⟩
      | exact ⟨(World.cell?_alloc_lt _ _ ⟨p.g, 1, none⟩ hlt3).trans ((hb3.cell (p := ⟨p.g, 1, none⟩) hlt).trans c1), (World.cell?_alloc_lt _ _ ⟨p.g, 2, none⟩ hlt3).trans ((hb3.cell (p := ⟨p.g, 2, none⟩) hlt).trans c2), (World.cell?_alloc_lt _ _ ⟨p.g, 3, none⟩ hlt3).trans ((hb3.cell (p := ⟨p.g, 3, none⟩) hlt).trans c3), (World.cell?_alloc_lt _ _ ⟨p.g, 4, none⟩ hlt3).trans ((hb3.cell (p := ⟨p.g, 4, none⟩) hlt).trans c4)⟩)
    (first
      | (go_at_call_of 33 (Value.slice (some ⟨p.bu, 0, none⟩) n p.cu); (refine (clone_ints _ p.bu n p.cu _ up p.ru (HD.out.drewN 1).hu (by omega)).mono ?_); rintro e w1 ⟨bu', cu', ru', rfl, hu1, lu1, hb1'⟩; have hb1 : Below w.heap.size w w1 := ((Below.refl _ _).drewN 1).trans hb1'; clear hb1')
      | (go_at_call_of 33 (Value.slice (some ⟨p.bl, 0, none⟩) n p.cl); (refine (clone_ints _ p.bl n p.cl _ least p.rl (HD.out.hl.below hb1 HD.out.hl.lt) (by omega)).mono ?_); rintro e w2 ⟨bl', cl', rl', rfl, hl2, ll2, hb2'⟩; have hb2 : Below w.heap.size w w2 := hb1.trans (hb2'.mono hb1.size); have hu2 := hu1.below hb2' hu1.lt)
      | (go_at_call_of 33 (Value.slice (some ⟨p.bz, 0, none⟩) n p.cz); (refine (clone_ints _ p.bz n p.cz _ size p.rz (HD.out.hz.below hb2 HD.out.hz.lt) (by omega)).mono ?_); rintro e w3 ⟨bz', cz', rz', rfl, hz3, lz3, hb3'⟩; have hb3 : Below w.heap.size w w3 := hb2.trans (hb3'.mono hb2.size); have hu3 := hu2.below hb3' hu2.lt; have hl3 := hl2.below hb3' hl2.lt; have hlt3 : p.g < w3.heap.size := Nat.lt_of_lt_of_le hlt hb3.size))
  go_wp2_with fail
  go_ret
  have x1 := hu1.lt
  have x2 := hl2.lt
  have x3 : w.heap.size ≤ bu' := lu1
  have hsz := hb1.size
  have hsz2 := hb2.size
  have hsz3 := hb3.size
  refine ⟨⟨w3.heap.size, bu', bl', bz', cu', cl', cz', ru', rl', rz'⟩, rfl, ⟨up, least, size, rep, ρ, M, c, ⟨Blk.new _ _ _, hu3.alloc _, hl3.alloc _, hz3.alloc _, ?_, ?_, ?_, nb⟩, HS.out, hl⟩, hb3.alloc hsz3 _, hsz3, x3, ?_, ?_⟩
  · show bu' ≠ bl'; omega
  · show bu' ≠ bz'; omega
  · show bl' ≠ bz'; omega
  · show w.heap.size ≤ bl'; omega
  · show w.heap.size ≤ bz'; omega
end Go.Proofs.Ytiijhppffboogaa
