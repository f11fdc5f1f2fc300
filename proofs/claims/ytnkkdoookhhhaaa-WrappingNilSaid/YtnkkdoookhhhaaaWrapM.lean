/- seepagelaw30: put, works. -/
import Derived.Test.YtnkkdoookhhhaaaWrapL
namespace Go.Proofs.Ytnkkdoookhhhaaa
open Go.RowKit
set_option linter.unusedVariables false

theorem sets_step {W H : Nat} {E : List Nat} {e : Nat} (he : e < 2 * (W * H)) :
    (tL W H E (tS e) = tL W H E (tT W H e) ∧ sets (W * H) (tL W H (E ++ [e])) = sets (W * H) (tL W H E)) ∨ (tL W H E (tS e) ≠ tL W H E (tT W H e) ∧ sets (W * H) (tL W H (E ++ [e])) + 1 = sets (W * H) (tL W H E)) := by
  have hb := tE_in he
  by_cases hs : tL W H E (tS e) = tL W H E (tT W H e)
  · exact .inl ⟨hs, by rw [tL_snoc he, hs, merge_self]⟩
  · exact .inr ⟨hs, by rw [tL_snoc he]; exact sets_merge (tL_lab W H E) hb.1 hb.2 hs⟩
set_option maxRecDepth 100000 in
set_option maxHeartbeats 8000000 in
theorem put_fwd (w : World) (p : TLoc) (W H n : Nat) (A : Option Addr) (m c : Nat) (l E : List Nat) (h : Tor w p W H n E) (hr : Rd w A m 1 (natv l)) (hl : l.length = m) (hm : m ≤ 1000000) (hE : ∀ e ∈ l, e < 2 * n)
    (hA : ∀ ad, A = some ad → ad.block ∉ p.bl) :
    Calls Try.prog 21 #[.pointer (some ⟨p.g, 0, none⟩), .int .i64 (W : Int), .slice A m c, .bool false] w
      fun e w' => e = .returned (.int .i64 ((sets n (tL W H E) : Int) - sets n (tL W H (E ++ l)))) ∧ Tor w' p W H n (E ++ l) ∧ Fr p.bl w w' := by
  obtain ⟨hn, nb, nW, nH, nW2, nH2, n1⟩ := h.nn
  have HT := hide h
  have HR := hide hr
  have HL := hide hl
  have HE := hide hE
  have HN := hide hn
  have HAA := hide hA
  have hs0 : sets n (tL W H E) ≤ 4096 := Nat.le_trans (cnt_le _ _) nb
  generalize hs : sets n (tL W H E) = s0 at *
  have HS := hide hs
  clear h hr hl hE hn hA hs
  go_enter Try.func21, Try.ntmps21
  go_wp2_with fail
  go_loopg [9, 10] m (fun q V v wr => ∃ (k s : Nat), k + q = m ∧ s ≤ s0 ∧ v = .int .i64 (k : Int) ∧ V = .int .i64 ((s0 : Int) - (s : Int)) ∧ sets n (tL W H (E ++ l.take k)) = s ∧ Tor wr p W H n (E ++ l.take k) ∧ Fr p.bl w wr)
  case atStart => exact ⟨0, s0, by omega, by omega, rfl, by simp, by simpa using HS.out, by simpa using HT.out, Fr.refl _ _⟩
  case round =>
    obtain ⟨k, s, hk, hss, rfl, rfl, hsk, hT, hF⟩ := hrel
    have HK := hide hk
    have HSK := hide hsk
    have HT2 := hide hT
    have HF := hide hF
    have hkm : k ≤ m := by omega
    clear hk hsk hT hF
    by_cases hlt : k < m
    · have hkl : k < l.length := by rw [HL.out]; exact hlt
      obtain ⟨b, o, rfl, hblt, cl⟩ := HR.out.nat k hkl HL.out
      have cl' : wr.cell? ⟨b, o + k, none⟩ = some (.int .i64 (l[k] : Int)) := (World.cell?_of_block (HF.out.block b hblt (HAA.out _ rfl))).trans cl
      have hx := HE.out l[k] (List.getElem_mem hkl)
      have htk : l.take (k + 1) = l.take k ++ [l[k]] := List.take_succ_eq_append_getElem hkl
      generalize l[k] = e at *
      have HTK := hide htk
      clear htk cl
      have hn2 : e < 2 * (W * H) := by rw [← HN.out]; exact hx
      have hb := tE_in hn2
      have hr := row_lt hb.1
      have hstep := sets_step (E := E ++ l.take k) hn2
      rw [← HN.out] at hstep
      have hadd := torAdd_ok (wr.drewN 1) (tS e % W) (tS e / W) (e % 2) p W H n _ (HT2.out.drewN 1) (Nat.mod_lt _ nW) hr (by omega)
      have he : 2 * (tS e / W * W + tS e % W) + e % 2 = e := by
        have := Nat.div_add_mod (tS e) W
        rw [Nat.mul_comm] at this
        rw [this]; unfold tS; omega
      rw [he] at hadd
      obtain ⟨x, hxe⟩ : ∃ x, x = tS e % W := ⟨_, rfl⟩
      obtain ⟨y, hye⟩ : ∃ y, y = tS e / W := ⟨_, rfl⟩
      obtain ⟨d, hde⟩ : ∃ d, d = e % 2 := ⟨_, rfl⟩
      obtain ⟨v, hve⟩ : ∃ v, v = tS e := ⟨_, rfl⟩
      rw [← hxe, ← hye, ← hde] at hadd
      have q1 : (e : Int) / 2 = (v : Int) := by rw [hve]; unfold tS; push_cast; rfl
      have q2 : (v : Int) % (W : Int) = (x : Int) := by rw [hxe, hve]; push_cast; rfl
      have q3 : (v : Int) / (W : Int) = (y : Int) := by rw [hye, hve]; push_cast; rfl
      have q4 : (e : Int) % 2 = (d : Int) := by rw [hde]; push_cast; rfl
      have t1 : (e : Int).tdiv 2 = (v : Int) := by rw [Int.tdiv_eq_ediv_of_nonneg (by omega)]; exact q1
      have t2 : (v : Int).tmod (W : Int) = (x : Int) := by rw [Int.tmod_eq_emod_of_nonneg (by omega)]; exact q2
      have t3 : (v : Int).tdiv (W : Int) = (y : Int) := by rw [Int.tdiv_eq_ediv_of_nonneg (by omega)]; exact q3
      have t4 : (e : Int).tmod 2 = (d : Int) := by rw [Int.tmod_eq_emod_of_nonneg (by omega)]; exact q4
      have bv : v < n := by rw [hve, HN.out]; exact hb.1
      have bx : x < W := by rw [hxe]; exact Nat.mod_lt _ nW
      have by_ : y < H := by rw [hye]; exact hr
      have bd : d < 2 := by omega
      have i1 : IntKind.i64.wrap (v : Int) = v := IntWalk.i64_in _ (by omega)
      have i2 : IntKind.i64.wrap (x : Int) = x := IntWalk.i64_in _ (by omega)
      have i3 : IntKind.i64.wrap (y : Int) = y := IntWalk.i64_in _ (by omega)
      have i4 : IntKind.i64.wrap (d : Int) = d := IntWalk.i64_in _ (by omega)
      have hWi : (0 : Int) < (W : Int) := by omega
      have hWne : ((W : Int) == 0) = false := by simp; omega
      have hWne2 : ¬ W = 0 := by omega
      clear hxe hye hde hve he hr hb hn2
      rcases hstep with ⟨h1, h2⟩ | ⟨h1, h2⟩
      · have hbq : (!(tL W H (E ++ l.take k) (tS e) == tL W H (E ++ l.take k) (tT W H e))) = false := by simp [h1]
        rw [hbq] at hadd
        have HADD := hide hadd
        have HS2 := hide h2
        clear hadd h1 h2 hbq
        go_wp2_with fail
        go_region_held3 (fun w' => True) (first | trivial) (first | (go_at_call 27; (refine HADD.out.mono ?_); rintro r w3 ⟨rfl, hT3, hF3⟩))
        rw [List.append_assoc, ← HTK.out] at hT3
        have HT3 := hide hT3
        have HF3 := hide (((Fr.refl p.bl wr).drewN 1).trans hF3)
        clear hT3 hF3
        go_wp2_with fail
        go_roundg (m - (k + 1))
        case measure => have := HK.out; omega
        case rel =>
          have h4 := HS2.out
          rw [List.append_assoc, ← HTK.out] at h4
          have h5 := HSK.out
          exact ⟨k + 1, s, by omega, by omega, by go_num, by go_num, by omega, HT3.out, HF.out.trans HF3.out⟩
      · have hbq : (!(tL W H (E ++ l.take k) (tS e) == tL W H (E ++ l.take k) (tT W H e))) = true := by simp [h1]
        rw [hbq] at hadd
        have HADD := hide hadd
        have HS2 := hide h2
        clear hadd h1 h2 hbq
        go_wp2_with fail
        go_region_held3 (fun w' => True) (first | trivial) (first | (go_at_call 27; (refine HADD.out.mono ?_); rintro r w3 ⟨rfl, hT3, hF3⟩))
        rw [List.append_assoc, ← HTK.out] at hT3
        have HT3 := hide hT3
        have HF3 := hide (((Fr.refl p.bl wr).drewN 1).trans hF3)
        clear hT3 hF3
        go_wp2_with fail
        go_roundg (m - (k + 1))
        case measure => have := HK.out; omega
        case rel =>
          have h4 := HS2.out
          rw [List.append_assoc, ← HTK.out] at h4
          have h5 := HSK.out
          exact ⟨k + 1, s - 1, by omega, by omega, by go_num, by go_num, by omega, HT3.out, HF.out.trans HF3.out⟩
    · have hkk : k = m := by omega
      subst hkk
      have htk : l.take k = l := by rw [← HL.out]; exact List.take_length
      have h2 := HT2.out
      have h3 := HSK.out
      rw [htk] at h2 h3
      have H2 := hide h2
      have H3 := hide h3
      clear h2 h3 htk
      go_wp2_with fail
      go_ret
      rw [H3.out]
      exact ⟨rfl, H2.out, HF.out⟩
set_option maxRecDepth 100000 in
set_option maxHeartbeats 8000000 in
theorem put_bwd (w : World) (p : TLoc) (W H n : Nat) (A : Option Addr) (m c : Nat) (l E : List Nat) (h : Tor w p W H n E) (hr : Rd w A m 1 (natv l)) (hl : l.length = m) (hm : m ≤ 1000000) (hE : ∀ e ∈ l, e < 2 * n)
    (hA : ∀ ad, A = some ad → ad.block ∉ p.bl) :
    Calls Try.prog 21 #[.pointer (some ⟨p.g, 0, none⟩), .int .i64 (W : Int), .slice A m c, .bool true] w
      fun e w' => e = .returned (.int .i64 ((sets n (tL W H E) : Int) - sets n (tL W H (E ++ l.reverse)))) ∧ Tor w' p W H n (E ++ l.reverse) ∧ Fr p.bl w w' := by
  obtain ⟨hn, nb, nW, nH, nW2, nH2, n1⟩ := h.nn
  have HT := hide h
  have HR := hide hr
  have HL := hide hl
  have HE := hide hE
  have HN := hide hn
  have HAA := hide hA
  have hs0 : sets n (tL W H E) ≤ 4096 := Nat.le_trans (cnt_le _ _) nb
  generalize hs : sets n (tL W H E) = s0 at *
  have HS := hide hs
  clear h hr hl hE hn hA hs
  go_enter Try.func21, Try.ntmps21
  go_wp2_with fail
  go_loopg [9, 10] m (fun q V v wr => ∃ (k s : Nat), k + q = m ∧ s ≤ s0 ∧ v = .int .i64 (k : Int) ∧ V = .int .i64 ((s0 : Int) - (s : Int)) ∧ sets n (tL W H (E ++ l.reverse.take k)) = s ∧ Tor wr p W H n (E ++ l.reverse.take k) ∧ Fr p.bl w wr)
  case atStart => exact ⟨0, s0, by omega, by omega, rfl, by simp, by simpa using HS.out, by simpa using HT.out, Fr.refl _ _⟩
  case round =>
    obtain ⟨k, s, hk, hss, rfl, rfl, hsk, hT, hF⟩ := hrel
    have HK := hide hk
    have HSK := hide hsk
    have HT2 := hide hT
    have HF := hide hF
    have hkm : k ≤ m := by omega
    clear hk hsk hT hF
    by_cases hlt : k < m
    · have hkl : k < l.length := by rw [HL.out]; exact hlt
      obtain ⟨q, hq⟩ : ∃ q, q = m - 1 - k := ⟨_, rfl⟩
      have hqi : (m : Int) - 1 - (k : Int) = (q : Int) := by omega
      have hqm : q < m := by omega
      have hql : q < l.length := by rw [HL.out]; exact hqm
      obtain ⟨b, o, rfl, hblt, cl⟩ := HR.out.nat q hql HL.out
      have cl' : wr.cell? ⟨b, o + q, none⟩ = some (.int .i64 (l[q] : Int)) := (World.cell?_of_block (HF.out.block b hblt (HAA.out _ rfl))).trans cl
      obtain ⟨u0, clk⟩ : ∃ u0 : Int, wr.cell? ⟨b, o + k, none⟩ = some (.int .i64 u0) := by
        obtain ⟨b2, o2, e2, _, cl2⟩ := HR.out.nat k hkl HL.out
        injection e2 with e2
        injection e2 with e3 e4
        subst e3; subst e4
        exact ⟨_, (World.cell?_of_block (HF.out.block b hblt (HAA.out _ rfl))).trans cl2⟩
      have hx := HE.out l[q] (List.getElem_mem hql)
      have htk : l.reverse.take (k + 1) = l.reverse.take k ++ [l[q]] := by
        rw [List.take_succ_eq_append_getElem (by simpa using hkl), List.getElem_reverse]
        congr 3
        rw [HL.out]; omega
      generalize l[q] = e at *
      have HTK := hide htk
      clear htk cl hq
      have hn2 : e < 2 * (W * H) := by rw [← HN.out]; exact hx
      have hb := tE_in hn2
      have hr := row_lt hb.1
      have hstep := sets_step (E := E ++ l.reverse.take k) hn2
      rw [← HN.out] at hstep
      have hadd := torAdd_ok (wr.drewN 1) (tS e % W) (tS e / W) (e % 2) p W H n _ (HT2.out.drewN 1) (Nat.mod_lt _ nW) hr (by omega)
      have he : 2 * (tS e / W * W + tS e % W) + e % 2 = e := by
        have := Nat.div_add_mod (tS e) W
        rw [Nat.mul_comm] at this
        rw [this]; unfold tS; omega
      rw [he] at hadd
      obtain ⟨x, hxe⟩ : ∃ x, x = tS e % W := ⟨_, rfl⟩
      obtain ⟨y, hye⟩ : ∃ y, y = tS e / W := ⟨_, rfl⟩
      obtain ⟨d, hde⟩ : ∃ d, d = e % 2 := ⟨_, rfl⟩
      obtain ⟨v, hve⟩ : ∃ v, v = tS e := ⟨_, rfl⟩
      rw [← hxe, ← hye, ← hde] at hadd
      have q1 : (e : Int) / 2 = (v : Int) := by rw [hve]; unfold tS; push_cast; rfl
      have q2 : (v : Int) % (W : Int) = (x : Int) := by rw [hxe, hve]; push_cast; rfl
      have q3 : (v : Int) / (W : Int) = (y : Int) := by rw [hye, hve]; push_cast; rfl
      have q4 : (e : Int) % 2 = (d : Int) := by rw [hde]; push_cast; rfl
      have t1 : (e : Int).tdiv 2 = (v : Int) := by rw [Int.tdiv_eq_ediv_of_nonneg (by omega)]; exact q1
      have t2 : (v : Int).tmod (W : Int) = (x : Int) := by rw [Int.tmod_eq_emod_of_nonneg (by omega)]; exact q2
      have t3 : (v : Int).tdiv (W : Int) = (y : Int) := by rw [Int.tdiv_eq_ediv_of_nonneg (by omega)]; exact q3
      have t4 : (e : Int).tmod 2 = (d : Int) := by rw [Int.tmod_eq_emod_of_nonneg (by omega)]; exact q4
      have bv : v < n := by rw [hve, HN.out]; exact hb.1
      have bx : x < W := by rw [hxe]; exact Nat.mod_lt _ nW
      have by_ : y < H := by rw [hye]; exact hr
      have bd : d < 2 := by omega
      have i1 : IntKind.i64.wrap (v : Int) = v := IntWalk.i64_in _ (by omega)
      have i2 : IntKind.i64.wrap (x : Int) = x := IntWalk.i64_in _ (by omega)
      have i3 : IntKind.i64.wrap (y : Int) = y := IntWalk.i64_in _ (by omega)
      have i4 : IntKind.i64.wrap (d : Int) = d := IntWalk.i64_in _ (by omega)
      have hWi : (0 : Int) < (W : Int) := by omega
      have hWne : ((W : Int) == 0) = false := by simp; omega
      have hWne2 : ¬ W = 0 := by omega
      clear hxe hye hde hve he hr hb hn2
      rcases hstep with ⟨h1, h2⟩ | ⟨h1, h2⟩
      · have hbq : (!(tL W H (E ++ l.reverse.take k) (tS e) == tL W H (E ++ l.reverse.take k) (tT W H e))) = false := by simp [h1]
        rw [hbq] at hadd
        have HADD := hide hadd
        have HS2 := hide h2
        clear hadd h1 h2 hbq
        go_wp2_with fail
        go_region_held3 (fun w' => True) (first | trivial) (first | (go_at_call 27; (refine HADD.out.mono ?_); rintro r w3 ⟨rfl, hT3, hF3⟩))
        rw [List.append_assoc, ← HTK.out] at hT3
        have HT3 := hide hT3
        have HF3 := hide (((Fr.refl p.bl wr).drewN 1).trans hF3)
        clear hT3 hF3
        go_wp2_with fail
        go_roundg (m - (k + 1))
        case measure => have := HK.out; omega
        case rel =>
          have h4 := HS2.out
          rw [List.append_assoc, ← HTK.out] at h4
          have h5 := HSK.out
          exact ⟨k + 1, s, by omega, by omega, by go_num, by go_num, by omega, HT3.out, HF.out.trans HF3.out⟩
      · have hbq : (!(tL W H (E ++ l.reverse.take k) (tS e) == tL W H (E ++ l.reverse.take k) (tT W H e))) = true := by simp [h1]
        rw [hbq] at hadd
        have HADD := hide hadd
        have HS2 := hide h2
        clear hadd h1 h2 hbq
        go_wp2_with fail
        go_region_held3 (fun w' => True) (first | trivial) (first | (go_at_call 27; (refine HADD.out.mono ?_); rintro r w3 ⟨rfl, hT3, hF3⟩))
        rw [List.append_assoc, ← HTK.out] at hT3
        have HT3 := hide hT3
        have HF3 := hide (((Fr.refl p.bl wr).drewN 1).trans hF3)
        clear hT3 hF3
        go_wp2_with fail
        go_roundg (m - (k + 1))
        case measure => have := HK.out; omega
        case rel =>
          have h4 := HS2.out
          rw [List.append_assoc, ← HTK.out] at h4
          have h5 := HSK.out
          exact ⟨k + 1, s - 1, by omega, by omega, by go_num, by go_num, by omega, HT3.out, HF.out.trans HF3.out⟩
    · have hkk : k = m := by omega
      subst hkk
      have htk : l.reverse.take k = l.reverse := by rw [← HL.out, ← List.length_reverse]; exact List.take_length
      have h2 := HT2.out
      have h3 := HSK.out
      rw [htk] at h2 h3
      have H2 := hide h2
      have H3 := hide h3
      clear h2 h3 htk
      go_wp2_with fail
      go_ret
      rw [H3.out]
      exact ⟨rfl, H2.out, HF.out⟩

set_option maxRecDepth 100000 in
set_option maxHeartbeats 8000000 in
theorem works30 (w : World) : Calls Try.prog 15 #[] w fun e w' => e = .returned (.bool true) ∧ Below w.heap.size w w' := by
  obtain ⟨l1, l2, l3, l4, l5⟩ := ex30_L
  obtain ⟨o1, o2, o3⟩ := ex30_off
  obtain ⟨y1, y2⟩ := ex30_any
  obtain ⟨f1, f2⟩ := ex30_first
  have hb1 : (!(tL 3 2 [] 0 == tL 3 2 [] 1)) = true := by simpa using l1
  have hb2 : (!(tL 3 2 [0] 1 == tL 3 2 [0] 2)) = true := by simpa using l2
  have hb3 : (!(tL 3 2 [0, 2] 2 == tL 3 2 [0, 2] 0)) = false := by simpa using l3
  have A1 := fun w p h => torAdd_ok w 0 0 0 p 3 2 6 [] h (by decide) (by decide) (by decide)
  have A2 := fun w p h => torAdd_ok w 1 0 0 p 3 2 6 [0] h (by decide) (by decide) (by decide)
  have A3 := fun w p h => torAdd_ok w 2 0 0 p 3 2 6 [0, 2] h (by decide) (by decide) (by decide)
  have O := fun w p h => torOffset w 0 2 p 3 2 6 [0, 2] h
  have WR := fun w p h => torWraps w p 3 2 6 [0, 2, 4] h
  have CT := fun w p h => torCount w p 3 2 6 [0, 2, 4] h
  have N := torNew_ok w 3 2 (by decide)
  have FI := fun w A m c hl hr => torFirst_ok w 3 2 A m c [0, 2, 1, 4] (by decide) hl hr (by decide)
  have e1 : ordE [0, 2, 1, 4] = [0, 2, 1, 4] := rfl
  rw [e1, f1, f2] at FI
  rw [o1, o2, o3] at O
  rw [y1, y2] at WR
  rw [l4] at CT
  have A1' : ∀ w p, Tor w p 3 2 6 [] → Calls Try.prog 27 #[.pointer (some ⟨p.g, 0, none⟩), .int .i64 0, .int .i64 0, .int .i64 0] w fun r w' => r = .returned (.tuple #[.bool true, .int .i64 0]) ∧ Tor w' p 3 2 6 [0] ∧ Fr p.bl w w' := fun w p h => by
    have := A1 w p h
    rw [show tS (2 * (0 * 3 + 0) + 0) = 0 by decide, show tT 3 2 (2 * (0 * 3 + 0) + 0) = 1 by decide, hb1] at this
    exact this
  have A2' : ∀ w p, Tor w p 3 2 6 [0] → Calls Try.prog 27 #[.pointer (some ⟨p.g, 0, none⟩), .int .i64 1, .int .i64 0, .int .i64 0] w fun r w' => r = .returned (.tuple #[.bool true, .int .i64 0]) ∧ Tor w' p 3 2 6 [0, 2] ∧ Fr p.bl w w' := fun w p h => by
    have := A2 w p h
    rw [show tS (2 * (0 * 3 + 1) + 0) = 1 by decide, show tT 3 2 (2 * (0 * 3 + 1) + 0) = 2 by decide, hb2] at this
    exact this
  have A3' : ∀ w p, Tor w p 3 2 6 [0, 2] → Calls Try.prog 27 #[.pointer (some ⟨p.g, 0, none⟩), .int .i64 2, .int .i64 0, .int .i64 0] w fun r w' => r = .returned (.tuple #[.bool false, .int .i64 0]) ∧ Tor w' p 3 2 6 [0, 2, 4] ∧ Fr p.bl w w' := fun w p h => by
    have := A3 w p h
    rw [show tS (2 * (0 * 3 + 2) + 0) = 2 by decide, show tT 3 2 (2 * (0 * 3 + 2) + 0) = 0 by decide, hb3] at this
    exact this
  have HA1 := hide A1'
  have HA2 := hide A2'
  have HA3 := hide A3'
  have HO := hide O
  have HW := hide WR
  have HC := hide CT
  have HN := hide N
  have HF := hide FI
  clear l1 l2 l3 l4 l5 o1 o2 o3 y1 y2 f1 f2 hb1 hb2 hb3 A1 A2 A3 A1' A2' A3' O WR CT N FI e1
  go_enter Try.func15, Try.ntmps15
  go_wp2_with fail
  refine HN.out.mono ?_
  rintro e w1 ⟨p, rfl, hT1, hB1, hp⟩
  have HB1 := hide hB1
  have HP := hide hp
  clear hB1 hp
  go_wp2_with fail
  refine (HA1.out _ p hT1).mono ?_
  rintro e w2 ⟨rfl, hT2, hf2⟩
  have HB2 := hide (HB1.out.trans (hf2.below HP.out HB1.out.size))
  clear hf2 hT1
  go_wp2_with fail
  refine (HA2.out _ p hT2).mono ?_
  rintro e w3 ⟨rfl, hT3, hf3⟩
  have HB3 := hide (HB2.out.trans (hf3.below HP.out HB2.out.size))
  clear hf3 hT2
  go_wp2_with fail
  refine (HO.out _ p hT3).mono ?_
  rintro e w4 ⟨rfl, hT4, hf4⟩
  have HB4 := hide (HB3.out.trans (hf4.below HP.out HB3.out.size))
  clear hf4 hT3
  go_wp2_with fail
  refine (HA3.out _ p hT4).mono ?_
  rintro e w5 ⟨rfl, hT5, hf5⟩
  have HB5 := hide (HB4.out.trans (hf5.below HP.out HB4.out.size))
  clear hf5 hT4
  go_wp2_with fail
  refine (HW.out _ p hT5).mono ?_
  rintro e w6 ⟨rfl, k6, rfl⟩
  have hT6 := hT5.drewN k6
  have HB6 := hide (HB5.out.drewN k6)
  clear hT5
  go_wp2_with fail
  have hrd := Rd.lit (w5.drewN k6) #[.int .i64 0, .int .i64 2, .int .i64 1, .int .i64 4] 3 4 1 rfl
  have hT7 := hT6.fresh ((Below.refl _ _).alloc (Nat.le_refl _) (.cells #[.int .i64 0, .int .i64 2, .int .i64 1, .int .i64 4] 3))
  have HB7 := hide (HB6.out.alloc HB6.out.size (.cells #[.int .i64 0, .int .i64 2, .int .i64 1, .int .i64 4] 3))
  have HT7 := hide hT7
  refine (HF.out _ _ 4 4 rfl hrd).mono ?_
  clear hT6 hT7 hrd
  rintro e w8 ⟨rfl, hb8⟩
  have hT8 := HT7.out.fresh hb8
  have HB8 := hide (HB7.out.trans (hb8.mono HB7.out.size))
  clear hb8 HT7
  go_wp2_with fail
  refine (HC.out _ p hT8).mono ?_
  rintro e w9 ⟨rfl, rfl⟩
  go_wp2_with fail
  go_ret
  exact ⟨rfl, HB8.out⟩
end Go.Proofs.Ytnkkdoookhhhaaa
