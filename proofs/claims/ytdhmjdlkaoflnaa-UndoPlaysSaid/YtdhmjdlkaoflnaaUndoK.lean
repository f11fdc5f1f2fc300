/- undo: Copy, Trial's refusal. -/
import Derived.Test.YtdhmjdlkaoflnaaUndoW
import Derived.Lib.SliceRun
import Derived.Deep.RegionHeld3
import Derived.Defers
namespace Go.Proofs.Ytdhmjdlkaoflnaa
open Go.RowKit
set_option linter.unusedVariables false

theorem clone_rd (w : World) (ad : Addr) (n c : Nat) (xs : List Value) (h : Rd w (some ad) n 1 xs) (hone : ∀ u ∈ xs, u.oneCell' = true) (hn : n ≤ 1000000) :
    Calls Try.prog 46 #[.slice (some ad) n c] w
      fun e w' => ∃ v', e = .returned v' ∧ w'.ownsRow w.heap.size 3 1 v' n xs ∧ v' ≠ .slice none 0 0 ∧ Below w.heap.size w w' := by
  obtain ⟨i0, hi, hz0, hz1, hz2⟩ := info_parts int_info0
  have hne := fun W => Lib.run_eql_slice_nil (P := Try.prog) W 27 3 (some ad) n c 0 0 Try.underlying27
  have hr := hide (h.alloc (.cells #[] 3))
  have ho := hide (World.ownsRow_made (e := 3) (size := 1) (base := w.heap.size) w #[] 0 (Nat.le_refl _) (by simp [maxLen]) rfl)
  have hi' := hide hi
  have hz0' := hide hz0
  have hz1' := hide hz1
  have hz2' := hide hz2
  have HO := hide hone
  clear h hi hz0 hz1 hz2 hone
  go_enter Try.func46, Try.ntmps46
  go_wp2_with (at_builtin; refine app_any 27 3 Try.underlying27 hi'.out hz0'.out hz1'.out hz2'.out rfl (by decide) _ _ _ _ _ hr.out HO.out rfl _ _ rfl w.heap.size _ 0 [] rfl ho.out rfl (by unfold maxLen; omega) (by omega) (by simp) ?_; intro v' w1 hown hgr hat hnn hbel)
  go_ret
  simp only [Nat.zero_add, List.nil_append] at hown
  exact ⟨v', rfl, hown, (fun e => by have := hnn e; cases this), ((Below.refl _ _).alloc (Nat.le_refl _) _).trans (hbel.mono (Nat.le_refl _))⟩
theorem clone_nil (w : World) : Calls Try.prog 46 #[.slice none 0 0] w fun e w' => e = .returned (.slice none 0 0) ∧ w = w' := by
  have hne := fun W => Lib.run_eql_slice_nil (P := Try.prog) W 27 3 none 0 0 0 0 Try.underlying27
  go_enter Try.func46, Try.ntmps46
  go_wp2
  go_ret
  exact ⟨rfl, rfl⟩
/-- A clone of an owned row. -/
theorem clone_own (w : World) (A : Option Addr) (n c : Nat) (xs : List Value) (h : w.ownsRow 0 3 1 (.slice A n c) n xs) (hone : ∀ u ∈ xs, u.oneCell' = true) (hn : n ≤ 1000000) :
    Calls Try.prog 46 #[.slice A n c] w
      fun e w' => ∃ A' c', e = .returned (.slice A' n c') ∧ w'.ownsRow w.heap.size 3 1 (.slice A' n c') n xs ∧ Below w.heap.size w w' := by
  obtain ⟨A2, c2, e, hr, _, _, _⟩ := own_form h
  injection e with e1 e2 e3
  subst e1; subst e3
  rcases A with _ | ad
  · rcases h.2 with ⟨e, h0⟩ | ⟨g, cap, cur, e, _⟩
    · injection e with _ _ e3
      subst e3; subst h0
      refine (clone_nil w).mono fun e w' ⟨he, hw⟩ => ?_
      subst hw
      have : xs = [] := List.eq_nil_of_length_eq_zero (by simpa using h.1)
      subst this
      exact ⟨none, 0, he, own_nil _ _ _ _, Below.refl _ _⟩
    · cases e
  · refine (clone_rd w ad n c xs hr hone hn).mono fun e w' ⟨v', he, ho, hv, hb⟩ => ?_
    obtain ⟨g, cap, rfl⟩ := own_some ho hv
    exact ⟨_, cap, he, ho, hb⟩
theorem nats_one (l : List Nat) : ∀ u ∈ nats l, u.oneCell' = true := by
  intro u hu
  simp only [nats, is, List.mem_map] at hu
  obtain ⟨_, _, rfl⟩ := hu
  rfl
theorem clone_arx (w : World) (b n c t : Nat) (f : Nat → Nat) (r : Array Value) (h : Blk w b t (arx n f r)) (hn : n ≤ 1000000) :
    Calls Try.prog 46 #[.slice (some ⟨b, 0, none⟩) n c] w
      fun e w' => ∃ (b' c' : Nat) (r' : Array Value), e = .returned (.slice (some ⟨b', 0, none⟩) n c') ∧ Blk w' b' 3 (arx n f r') ∧ w.heap.size ≤ b' ∧ Below w.heap.size w w' := by
  refine (clone_rd w _ n c _ (arx_rd h) (arr_toList_one n f) hn).mono fun e w' ⟨v', he, ho, hv, hb⟩ => ?_
  obtain ⟨g, cap, rfl⟩ := own_some ho hv
  obtain ⟨r', hk, hB⟩ := own_arx ho
  exact ⟨g, cap, r', he, hk, hB, hb⟩

set_option maxHeartbeats 4000000 in
theorem undoCopy (w : World) (p : ULoc) (n : Nat) (past : List (Nat → Nat)) (L : Nat → Nat) (h : Und w p n past L) :
    Calls Try.prog 29 #[.pointer (some ⟨p.g, 0, none⟩)] w
      fun e w' => ∃ p' : ULoc, e = .returned (.pointer (some ⟨p'.g, 0, none⟩)) ∧ Und w' p' n past L ∧ Below w.heap.size w w' ∧ p'.from_ w.heap.size := by
  have V := undoValid w p n past L h
  have nb := h.nb
  obtain ⟨up, size, log, h, hh⟩ := h
  obtain ⟨_, _, _, _, _, _, _, hcn, _, _⟩ := hh.st
  have hln : log.length ≤ 65536 := by omega
  have c1 := h.c1
  have c2 := h.c2
  have c3 := h.c3
  have hlt := h.hg.lt
  have hne1 : Value.slice p.A log.length p.cl ≠ .slice (some ⟨p.bu, 0, none⟩) n p.cu := fun e => by
    injection e with e1 _ _
    exact h.uo (by rw [e1]; rfl)
  have HV := hide V
  have H := hide h
  have HH := hide hh
  have HNE := hide hne1
  clear V h hh hcn hne1
  go_enter Try.func29, Try.ntmps29
  go_wp2_with (first | (go_at_call 31; refine HV.out.mono ?_; rintro e w' ⟨rfl, rfl⟩))
  go_region_held3 (fun w' => w'.cell? ⟨p.g, 1, none⟩ = some (.slice (some ⟨p.bu, 0, none⟩) n p.cu) ∧ w'.cell? ⟨p.g, 2, none⟩ = some (.slice (some ⟨p.bz, 0, none⟩) n p.cz) ∧ w'.cell? ⟨p.g, 3, none⟩ = some (.slice p.A log.length p.cl))
    (first
      | exact ⟨c1, c2, c3⟩
      | exact ⟨(hb1.cell (p := ⟨p.g, 1, none⟩) hlt).trans c1, (hb1.cell (p := ⟨p.g, 2, none⟩) hlt).trans c2, (hb1.cell (p := ⟨p.g, 3, none⟩) hlt).trans c3⟩
      | exact ⟨(hb2.cell (p := ⟨p.g, 1, none⟩) hlt).trans c1, (hb2.cell (p := ⟨p.g, 2, none⟩) hlt).trans c2, (hb2.cell (p := ⟨p.g, 3, none⟩) hlt).trans c3⟩
      | exact ⟨(hb3.cell (p := ⟨p.g, 1, none⟩) hlt).trans c1, (hb3.cell (p := ⟨p.g, 2, none⟩) hlt).trans c2, (hb3.cell (p := ⟨p.g, 3, none⟩) hlt).trans c3⟩
      | exact ⟨(World.cell?_alloc_lt _ _ ⟨p.g, 1, none⟩ hlt3).trans ((hb3.cell (p := ⟨p.g, 1, none⟩) hlt).trans c1), (World.cell?_alloc_lt _ _ ⟨p.g, 2, none⟩ hlt3).trans ((hb3.cell (p := ⟨p.g, 2, none⟩) hlt).trans c2), (World.cell?_alloc_lt _ _ ⟨p.g, 3, none⟩ hlt3).trans ((hb3.cell (p := ⟨p.g, 3, none⟩) hlt).trans c3)⟩)
    (first
      | (go_at_call_of 46 (Value.slice (some ⟨p.bu, 0, none⟩) n p.cu); (refine (clone_arx _ p.bu n p.cu _ up p.ru (H.out.drewN 1).hu (by omega)).mono ?_); rintro e w1 ⟨bu', cu', ru', rfl, hu1, lu1, hb1'⟩; have hb1 : Below w.heap.size w w1 := ((Below.refl _ _).drewN 1).trans hb1'; clear hb1')
      | (go_at_call_of 46 (Value.slice (some ⟨p.bz, 0, none⟩) n p.cz); (refine (clone_arx _ p.bz n p.cz _ size p.rz (H.out.hz.below hb1 H.out.hz.lt) (by omega)).mono ?_); rintro e w2 ⟨bz', cz', rz', rfl, hz2, lz2, hb2'⟩; have hb2 : Below w.heap.size w w2 := hb1.trans (hb2'.mono hb1.size); have hu2 := hu1.below hb2' hu1.lt)
      | (go_at_call_of 46 (Value.slice p.A log.length p.cl); (refine (clone_own _ p.A log.length p.cl (nats log) (own_below H.out.ho hb2) (nats_one log) (by omega)).mono ?_); rintro e w3 ⟨A', c', rfl, ho3, hb3'⟩; have hb3 : Below w.heap.size w w3 := hb2.trans (hb3'.mono hb2.size); have hu3 := hu2.below hb3' hu2.lt; have hz3 := hz2.below hb3' hz2.lt; have hlt3 : p.g < w3.heap.size := Nat.lt_of_lt_of_le hlt hb3.size))
  go_wp2_with fail
  go_ret
  have x1 := hu1.lt
  have x2 := hz2.lt
  have x3 : w.heap.size ≤ bu' := lu1
  have hsz := hb1.size
  have hsz2 := hb2.size
  have hsz3 := hb3.size
  have hA : ∀ k, blkOf A' = some k → w2.heap.size ≤ k := fun k hk => (World.ownsRow.lt ho3 k (by rw [ownBlock_slice]; exact hk)).1
  have ho4 : (w3.alloc (.cells #[.pointer (some ⟨w3.heap.size, 0, none⟩), .slice (some ⟨bu', 0, none⟩) n cu', .slice (some ⟨bz', 0, none⟩) n cz', .slice A' log.length c'] 60)).ownsRow 0 3 1 (.slice A' log.length c') log.length (nats log) := own_base (World.ownsRow.alloc ho3 _) (Nat.zero_le _)
  refine ⟨⟨w3.heap.size, bu', bz', cu', cz', ru', rz', A', c'⟩, rfl, ⟨up, size, log, ⟨Blk.new _ _ _, hu3.alloc _, hz3.alloc _, ho4, ?_, ?_, ?_, nb⟩, HH.out⟩, hb3.alloc hsz3 _, ?_⟩
  · exact Nat.ne_of_lt (Nat.lt_of_lt_of_le hu1.lt lz2)
  · intro e; exact absurd (hA _ e) (Nat.not_le.2 hu2.lt)
  · intro e; exact absurd (hA _ e) (Nat.not_le.2 hz2.lt)
  · intro k hk
    rcases ULoc.mem_bl.1 hk with rfl | rfl | rfl | hk
    · exact hsz3
    · exact x3
    · exact Nat.le_trans hb1.size lz2
    · have := hA k hk; omega

theorem first_bad {n : Nat} : ∀ (l : List (Int × Int)), ¬ allIn n l → ∃ k, ∃ hk : k < l.length, (∀ j (hj : j < k), inB n (l[j]'(by omega)).1 = true ∧ inB n (l[j]'(by omega)).2 = true) ∧ (inB n l[k].1 && inB n l[k].2) = false := by
  intro l
  induction l with
  | nil => intro h; exact absurd (fun e he => by simp at he) h
  | cons e l ih =>
    intro h
    by_cases he : (inB n e.1 && inB n e.2) = true
    · have he' : inB n e.1 = true ∧ inB n e.2 = true := by simpa using he
      have : ¬ allIn n l := fun hl => h (fun x hx => by
        rcases List.mem_cons.1 hx with rfl | hx
        · exact he'
        · exact hl x hx)
      obtain ⟨k, hk, h1, h2⟩ := ih this
      refine ⟨k + 1, by simpa using hk, fun j hj => ?_, by simpa using h2⟩
      cases j with
      | zero => exact he'
      | succ j => exact h1 j (by omega)
    · exact ⟨0, by simp, fun j hj => by omega, by simpa using he⟩

set_option maxRecDepth 100000 in
set_option maxHeartbeats 8000000 in
theorem undoTrial_no (w : World) (p : ULoc) (n : Nat) (past : List (Nat → Nat)) (L : Nat → Nat) (v : Value) (l : List (Int × Int)) (h : Und w p n past L) (hl : IsPairs w v l) (ha : ¬ allIn n l) :
    Calls Try.prog 24 #[.pointer (some ⟨p.g, 0, none⟩), v] w
      fun e w' => e = .returned (.tuple #[.agg #[.int .i64 0, .int .i64 0, .int .i64 0], .int .i64 3]) ∧ Below w.heap.size w w' := by
  obtain ⟨A, m, c, rfl, hm, hlen, hok, hr⟩ := hl
  have hm' : m ≤ 9223372036854775807 := by unfold maxLen at hm; omega
  obtain ⟨k0, hk0, hgood, hbad⟩ := first_bad l ha
  have HR := hide hr
  have HLn := hide hlen
  have HG := hide hgood
  have HBD := hide hbad
  have H := hide h
  have hk0m : k0 < m := by omega
  clear hr hok hlen hm h ha hgood hbad
  go_enter_defers Try.func24, Try.ntmps24
  go_wp2_with fail
  refine (undoValid _ p n past L (H.out.fresh ((Below.refl _ _).alloc (Nat.le_refl _) _))).mono ?_
  rintro e w' ⟨rfl, rfl⟩
  go_wp2_with fail
  have hR0 : Blk (w.alloc (.cells zeroRow 48)) w.heap.size 48 zeroRow := Blk.new w _ _
  have hB0 : Below w.heap.size w (w.alloc (.cells zeroRow 48)) := (Below.refl _ _).alloc (Nat.le_refl _) _
  have hw0 : w.alloc (.cells #[.int .i64 0, .int .i64 0, .int .i64 0] 48) = w.alloc (.cells zeroRow 48) := rfl
  rw [hw0]
  clear hw0
  generalize w.alloc (.cells zeroRow 48) = w0 at *
  generalize hrr : w.heap.size = R at *
  have HRR := hide hrr
  have HR0 := hide hR0
  have HB0 := hide hB0
  clear hR0 hB0 hrr
  go_loopg [16] m (fun q v wr => ∃ k : Nat, k + q = m ∧ k ≤ k0 ∧ v = .int .i64 (k : Int) ∧ Blk wr R 48 zeroRow ∧ Below R w wr)
  case atStart => exact ⟨0, by omega, Nat.zero_le _, rfl, HR0.out, HB0.out⟩
  case round =>
    obtain ⟨k, hk, hkk, rfl, hR, hb⟩ := hrel
    have HK := hide hk
    have hlt : k < m := by omega
    have HRB := hide hR
    have HBB2 := hide hb
    have hU : Und wr p n past L := H.out.fresh (by rw [HRR.out]; exact hb)
    have HU := hide hU
    have hkl : k < l.length := by have := HLn.out; omega
    obtain ⟨b, o, rfl, hblt, c0, c1⟩ := HR.out.pair k hkl HLn.out
    have hgd : k < k0 → inB n l[k].1 = true ∧ inB n l[k].2 = true := fun h => HG.out k h
    have hbd : k = k0 → (inB n l[k].1 && inB n l[k].2) = false := fun e => by subst e; exact HBD.out
    generalize l[k] = e at *
    obtain ⟨x, y⟩ := e
    simp only at hgd hbd c0 c1
    have d0 : wr.cell? ⟨b, o + k * 2, none⟩ = some (.int .i64 x) := (HBB2.out.cell (p := ⟨b, o + k * 2, none⟩) (by rw [← HRR.out]; exact hblt)).trans c0
    have d1 : wr.cell? ⟨b, o + k * 2 + 1, none⟩ = some (.int .i64 y) := (HBB2.out.cell (p := ⟨b, o + k * 2 + 1, none⟩) (by rw [← HRR.out]; exact hblt)).trans c1
    have CX := fun W h => undoHas W x p n past L h
    have CY := fun W h => undoHas W y p n past L h
    have hRs : R ≤ wr.heap.size := Nat.le_of_lt HRB.out.lt
    clear hk hR hb HR0 HB0 hU c0 c1
    by_cases hc : k < k0
    · obtain ⟨hx, hy⟩ := hgd hc
      rw [hx] at CX
      rw [hy] at CY
      have HCX := hide CX
      have HCY := hide CY
      clear CX CY hx hy hgd hbd
      go_wp2_with (first | (go_at_call_of 39 (Value.int .i64 x); refine (HCX.out _ (HU.out.fresh ((Below.refl _ _).alloc (Nat.le_refl _) _))).mono ?_; rintro e w' ⟨rfl, rfl⟩) | (go_at_call_of 39 (Value.int .i64 y); refine (HCY.out _ (HU.out.fresh ((Below.refl _ _).alloc (Nat.le_refl _) _))).mono ?_; rintro e w' ⟨rfl, rfl⟩))
      go_roundg (m - (k + 1))
      case measure => have := HK.out; omega
      case rel => exact ⟨k + 1, by omega, by omega, by go_num, HRB.out.alloc _, HBB2.out.alloc hRs _⟩
    · have hke : k = k0 := by omega
      have hb2 := hbd hke
      have hRb := HRB.out.alloc (.cells #[.int .i64 x, .int .i64 y] 46)
      have r0 : (wr.alloc (.cells #[.int .i64 x, .int .i64 y] 46)).cell? ⟨R, 0, none⟩ = some (.int .i64 0) := (hRb.cell 0).trans rfl
      have r1 : (wr.alloc (.cells #[.int .i64 x, .int .i64 y] 46)).cell? ⟨R, 1, none⟩ = some (.int .i64 0) := (hRb.cell 1).trans rfl
      have r2 : (wr.alloc (.cells #[.int .i64 x, .int .i64 y] 46)).cell? ⟨R, 2, none⟩ = some (.int .i64 0) := (hRb.cell 2).trans rfl
      have rf0 := hRb.frozen 0
      have rf1 := hRb.frozen 1
      have rf2 := hRb.frozen 2
      have HRb := hide hRb
      clear hgd hbd hRb hke hc
      cases hx : inB n x
      · rw [hx] at CX
        have HCX := hide CX
        clear CX CY hx hb2
        go_wp2_with (first | (go_at_call_of 39 (Value.int .i64 x); refine (HCX.out _ (HU.out.fresh ((Below.refl _ _).alloc (Nat.le_refl _) _))).mono ?_; rintro e w' ⟨rfl, rfl⟩))
        have hRs2 : w.heap.size ≤ R := by rw [HRR.out]; exact Nat.le_refl _
        have b5 := ((HRb.out.set_ 0 (.int .i64 0)).set_ 1 (.int .i64 0)).set_ 2 (.int .i64 0)
        have q0 := b5.cell 0
        have q1 := b5.cell 1
        have q2 := b5.cell 2
        have hfin : Below w.heap.size w ((((wr.alloc (.cells #[.int .i64 x, .int .i64 y] 46)).setCell ⟨R, 0, none⟩ (.int .i64 0)).setCell ⟨R, 1, none⟩ (.int .i64 0)).setCell ⟨R, 2, none⟩ (.int .i64 0)) := by
          have h1 : Below w.heap.size w wr := by rw [HRR.out]; exact HBB2.out
          exact (((h1.alloc (by rw [HRR.out]; exact hRs) _).setCell (p := ⟨R, 0, none⟩) hRs2 _).setCell (p := ⟨R, 1, none⟩) hRs2 _).setCell (p := ⟨R, 2, none⟩) hRs2 _
        exact ⟨.tuple #[.agg #[.int .i64 0, .int .i64 0, .int .i64 0], .int .i64 3], by simp [results, Try.results24, go_sem, r0, r1, r2], rfl, hfin⟩
      · have hy : inB n y = false := by simpa [hx] using hb2
        rw [hx] at CX
        rw [hy] at CY
        have HCX := hide CX
        have HCY := hide CY
        clear CX CY hx hy hb2
        go_wp2_with (first | (go_at_call_of 39 (Value.int .i64 x); refine (HCX.out _ (HU.out.fresh ((Below.refl _ _).alloc (Nat.le_refl _) _))).mono ?_; rintro e w' ⟨rfl, rfl⟩) | (go_at_call_of 39 (Value.int .i64 y); refine (HCY.out _ (HU.out.fresh ((Below.refl _ _).alloc (Nat.le_refl _) _))).mono ?_; rintro e w' ⟨rfl, rfl⟩))
        have hRs2 : w.heap.size ≤ R := by rw [HRR.out]; exact Nat.le_refl _
        have b5 := ((HRb.out.set_ 0 (.int .i64 0)).set_ 1 (.int .i64 0)).set_ 2 (.int .i64 0)
        have q0 := b5.cell 0
        have q1 := b5.cell 1
        have q2 := b5.cell 2
        have hfin : Below w.heap.size w ((((wr.alloc (.cells #[.int .i64 x, .int .i64 y] 46)).setCell ⟨R, 0, none⟩ (.int .i64 0)).setCell ⟨R, 1, none⟩ (.int .i64 0)).setCell ⟨R, 2, none⟩ (.int .i64 0)) := by
          have h1 : Below w.heap.size w wr := by rw [HRR.out]; exact HBB2.out
          exact (((h1.alloc (by rw [HRR.out]; exact hRs) _).setCell (p := ⟨R, 0, none⟩) hRs2 _).setCell (p := ⟨R, 1, none⟩) hRs2 _).setCell (p := ⟨R, 2, none⟩) hRs2 _
        exact ⟨.tuple #[.agg #[.int .i64 0, .int .i64 0, .int .i64 0], .int .i64 3], by simp [results, Try.results24, go_sem, r0, r1, r2], rfl, hfin⟩
end Go.Proofs.Ytdhmjdlkaoflnaa
