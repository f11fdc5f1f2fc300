/- wrapping: Offset, New. -/
import Derived.Test.YtnkkdoookhhhaaaWrapE
namespace Go.Proofs.Ytnkkdoookhhhaaa
open Go.RowKit
set_option linter.unusedVariables false

theorem run_neq_bools (x y : Bool) (W : World) : (binOp .neq 72 (.agg #[.bool x, .bool y]) (.agg #[.bool false, .bool false])).run Try.prog W = .ok (.bool (x || y)) W := by
  cases x <;> cases y <;> kernel_rfl
theorem offOk_false {W H : Nat} {E : List Nat} {a b : Int} (h : offOk W H E a b = false) : offX W H E a b = 0 ∧ offY W H E a b = 0 := by unfold offX offY; rw [h]; exact ⟨rfl, rfl⟩
set_option maxRecDepth 100000 in
set_option maxHeartbeats 4000000 in
theorem torOffset (w : World) (a b : Int) (p : TLoc) (W H n : Nat) (E : List Nat) (h : Tor w p W H n E) :
    Calls Try.prog 23 #[.pointer (some ⟨p.g, 0, none⟩), .int .i64 a, .int .i64 b] w
      fun e w' => e = .returned (.tuple #[.int .i64 (offX W H E a b), .int .i64 (offY W H E a b), .bool (offOk W H E a b)]) ∧ Tor w' p W H n E ∧ Fr p.bl w w' := by
  have HA := torHas w a p W H n E h
  have HB := torHas w b p W H n E h
  have HT := hide h
  have hn := h.nn.1
  cases ha : inB n a
  · have hs : offOk W H E a b = false := by unfold offOk sameB; rw [← hn, ha]; rfl
    rw [ha] at HA
    rw [hs, (offOk_false hs).1, (offOk_false hs).2]
    have HHA := hide HA
    clear HA HB h ha hs hn
    go_enter Try.func23, Try.ntmps23
    go_wp2_with fail
    refine HHA.out.mono ?_
    rintro e w' ⟨rfl, rfl⟩
    go_wp2_with fail
    go_ret3
    exact ⟨rfl, HT.out, Fr.refl _ _⟩
  · cases hb : inB n b
    · have hs : offOk W H E a b = false := by unfold offOk sameB; rw [← hn, ha, hb]; rfl
      rw [ha] at HA
      rw [hb] at HB
      rw [hs, (offOk_false hs).1, (offOk_false hs).2]
      have HHA := hide HA
      have HHB := hide HB
      clear HA HB h ha hb hs hn
      go_enter Try.func23, Try.ntmps23
      go_wp2_with fail
      refine HHA.out.mono ?_
      rintro e w' ⟨rfl, rfl⟩
      go_wp2_with fail
      refine HHB.out.mono ?_
      rintro e w' ⟨rfl, rfl⟩
      go_wp2_with fail
      go_ret3
      exact ⟨rfl, HT.out, Fr.refl _ _⟩
    · rw [ha] at HA
      rw [hb] at HB
      obtain ⟨a, rfl⟩ := Int.eq_ofNat_of_zero_le (show 0 ≤ a by simp [inB] at ha; omega)
      obtain ⟨b, rfl⟩ := Int.eq_ofNat_of_zero_le (show 0 ≤ b by simp [inB] at hb; omega)
      have la : a < n := inB_lt ha
      have lb : b < n := inB_lt hb
      have hok := offOk_iff (E := E) (show a < W * H by rw [← hn]; exact la) (show b < W * H by rw [← hn]; exact lb)
      have HHA := hide HA
      have HHB := hide HB
      obtain ⟨up, size, rep, ρ, least, M, F, V, ax, dn, pX, pY, h1, h2⟩ := h
      have nb := h2.nb
      have ra := h2.st.fo.rep_lt a la
      have hwd := h2.wd_eq la
      have hoff := h2.off_eq la lb
      have hbd := h2.bnd a b la lb
      have hbd2 := h2.bnd b a lb la
      have hsame := h2.st.same a b la lb
      have H1 := hide h1
      have H2 := hide h2
      have HW := hide hwd
      have HO := hide hoff
      have HOK := hide hok
      clear HA HB ha hb h1 h2 hwd hoff hn hok
      have hne := fun W => run_neq_bools (V (rep a * 2)) (V (rep a * 2 + 1)) W
      by_cases hre : rep a = rep b
      · have hb1 := hbd hre
        have hb2 := hbd2 hre.symm
        have hbe : ((rep a : Int) != (rep b : Int)) = false := by simp [hre]
        have HRE := hide hre
        have HS := hide (hsame.1 hre)
        clear hre hbd hbd2 hsame
        obtain ⟨x1, x2⟩ := hb1
        obtain ⟨x3, x4⟩ := hb2
        cases hv : (V (rep a * 2) || V (rep a * 2 + 1))
        · have hs : offOk W H E (a : Int) (b : Int) = true := HOK.out.2 ⟨HS.out, by rw [← HW.out.1]; simp at hv; exact hv.1, by rw [← HW.out.2]; simp at hv; exact hv.2⟩
          have ex : offX W H E (a : Int) (b : Int) = pX b - pX a := by
            unfold offX; rw [if_pos hs]
            exact (HO.out HS.out).1 (by rw [← HW.out.1]; simp at hv; exact hv.1)
          have ey : offY W H E (a : Int) (b : Int) = pY b - pY a := by
            unfold offY; rw [if_pos hs]
            exact (HO.out HS.out).2 (by rw [← HW.out.2]; simp at hv; exact hv.2)
          rw [hs, ex, ey]
          rw [hv] at hne
          clear hs ex ey hv
          go_enter Try.func23, Try.ntmps23
          go_wp2_with fail
          refine HHA.out.mono ?_
          rintro e w' ⟨rfl, rfl⟩
          go_wp2_with fail
          refine HHB.out.mono ?_
          rintro e w' ⟨rfl, rfl⟩
          go_wp2_with fail
          refine (torFind _ a p W H n M E _ _ _ _ _ _ _ _ _ _ _ H1.out H2.out la).mono ?_
          rintro e w1 ⟨rfl, up1, F1, hT1, hP1, hF1⟩
          have hT2 := hT1.fr ((Fr.refl [] w1).alloc (.cells #[.int .i64 (pX a), .int .i64 (pY a)] 69)) (by simp)
          have hF2 := hF1.alloc (.cells #[.int .i64 (pX a), .int .i64 (pY a)] 69)
          have hA2 := Blk.new w1 69 (two (pX a) (pY a))
          have hlt : ∀ k ∈ p.bl, k < w1.heap.size := hT1.lt
          have HP1 := hide hP1
          have HF2 := hide hF2
          have HT2 := hide hT2
          have HA2 := hide hA2
          have HLT := hide hlt
          clear hT1 hF1 hP1 hT2 hF2 hA2 hlt
          go_wp2_with fail
          refine (torFind _ b p W H n M E _ _ _ _ _ _ _ _ _ _ _ HT2.out HP1.out lb).mono ?_
          rintro e w3 ⟨rfl, up3, F3, hT3, hP3, hF3⟩
          have hA3 := HA2.out.fr hF3 (fun hm => by have := HLT.out _ hm; omega)
          have hA4 := hA3.alloc (.cells #[.int .i64 (pX b), .int .i64 (pY b)] 69)
          have hB4 := Blk.new w3 69 (two (pX b) (pY b))
          have hT4 := hT3.fr ((Fr.refl [] w3).alloc (.cells #[.int .i64 (pX b), .int .i64 (pY b)] 69)) (by simp)
          have hF4 := (HF2.out.trans hF3).alloc (.cells #[.int .i64 (pX b), .int .i64 (pY b)] 69)
          obtain ⟨_, _, _, _, _, c5, _⟩ := hT4.cells
          have v0 := hT4.hw.bool (i := rep a * 2) (by omega)
          have v1 := hT4.hw.bool (i := rep a * 2 + 1) (by omega)
          have a0 : (w3.alloc (.cells #[.int .i64 (pX b), .int .i64 (pY b)] 69)).cell? ⟨w1.heap.size, 0, none⟩ = some (.int .i64 (pX a)) := (hA4.cell 0).trans rfl
          have a1 : (w3.alloc (.cells #[.int .i64 (pX b), .int .i64 (pY b)] 69)).cell? ⟨w1.heap.size, 1, none⟩ = some (.int .i64 (pY a)) := (hA4.cell 1).trans rfl
          have hl3 : w1.heap.size < w3.heap.size := hA3.lt
          have HP3 := hide hP3
          have HF4 := hide hF4
          have HT4 := hide hT4
          clear hT3 hF3 hP3 hT4 hF4 HT2 HF2 hA3 hA4 hB4 HA2
          go_wp2_with fail
          go_quiet (fail)
          go_wp2_with fail
          go_ret3
          exact ⟨rfl, Tor.drewN ⟨_, _, _, _, _, _, _, _, _, _, _, _, HT4.out, HP3.out⟩ _, HF4.out.drewN _⟩
        · have hs : offOk W H E (a : Int) (b : Int) = false := by
            rw [← Bool.not_eq_true]
            intro h2
            obtain ⟨_, h3, h4⟩ := HOK.out.1 h2
            rw [HW.out.1, HW.out.2, h3, h4] at hv
            cases hv
          rw [hs, (offOk_false hs).1, (offOk_false hs).2]
          rw [hv] at hne
          clear hs hv
          go_enter Try.func23, Try.ntmps23
          go_wp2_with fail
          refine HHA.out.mono ?_
          rintro e w' ⟨rfl, rfl⟩
          go_wp2_with fail
          refine HHB.out.mono ?_
          rintro e w' ⟨rfl, rfl⟩
          go_wp2_with fail
          refine (torFind _ a p W H n M E _ _ _ _ _ _ _ _ _ _ _ H1.out H2.out la).mono ?_
          rintro e w1 ⟨rfl, up1, F1, hT1, hP1, hF1⟩
          have hT2 := hT1.fr ((Fr.refl [] w1).alloc (.cells #[.int .i64 (pX a), .int .i64 (pY a)] 69)) (by simp)
          have hF2 := hF1.alloc (.cells #[.int .i64 (pX a), .int .i64 (pY a)] 69)
          have HP1 := hide hP1
          have HF2 := hide hF2
          have HT2 := hide hT2
          clear hT1 hF1 hP1 hT2 hF2
          go_wp2_with fail
          refine (torFind _ b p W H n M E _ _ _ _ _ _ _ _ _ _ _ HT2.out HP1.out lb).mono ?_
          rintro e w3 ⟨rfl, up3, F3, hT3, hP3, hF3⟩
          have hT4 := hT3.fr ((Fr.refl [] w3).alloc (.cells #[.int .i64 (pX b), .int .i64 (pY b)] 69)) (by simp)
          have hF4 := (HF2.out.trans hF3).alloc (.cells #[.int .i64 (pX b), .int .i64 (pY b)] 69)
          obtain ⟨_, _, _, _, _, c5, _⟩ := hT4.cells
          have v0 := hT4.hw.bool (i := rep a * 2) (by omega)
          have v1 := hT4.hw.bool (i := rep a * 2 + 1) (by omega)
          have HP3 := hide hP3
          have HF4 := hide hF4
          have HT4 := hide hT4
          clear hT3 hF3 hP3 hT4 hF4 HT2 HF2
          go_wp2_with fail
          go_ret3
          exact ⟨rfl, ⟨_, _, _, _, _, _, _, _, _, _, _, _, HT4.out, HP3.out⟩, HF4.out⟩
      · have hbe : ((rep a : Int) != (rep b : Int)) = true := by simpa using fun e : (rep a : Int) = (rep b : Int) => hre (by omega)
        have hs : offOk W H E (a : Int) (b : Int) = false := by
          rw [← Bool.not_eq_true]
          intro h2
          exact hre (hsame.2 (HOK.out.1 h2).1)
        rw [hs, (offOk_false hs).1, (offOk_false hs).2]
        clear hre hbd hbd2 hsame hs hne
        go_enter Try.func23, Try.ntmps23
        go_wp2_with fail
        refine HHA.out.mono ?_
        rintro e w' ⟨rfl, rfl⟩
        go_wp2_with fail
        refine HHB.out.mono ?_
        rintro e w' ⟨rfl, rfl⟩
        go_wp2_with fail
        refine (torFind _ a p W H n M E _ _ _ _ _ _ _ _ _ _ _ H1.out H2.out la).mono ?_
        rintro e w1 ⟨rfl, up1, F1, hT1, hP1, hF1⟩
        have hT2 := hT1.fr ((Fr.refl [] w1).alloc (.cells #[.int .i64 (pX a), .int .i64 (pY a)] 69)) (by simp)
        have hF2 := hF1.alloc (.cells #[.int .i64 (pX a), .int .i64 (pY a)] 69)
        have HP1 := hide hP1
        have HF2 := hide hF2
        have HT2 := hide hT2
        clear hT1 hF1 hP1 hT2 hF2
        go_wp2_with fail
        refine (torFind _ b p W H n M E _ _ _ _ _ _ _ _ _ _ _ HT2.out HP1.out lb).mono ?_
        rintro e w3 ⟨rfl, up3, F3, hT3, hP3, hF3⟩
        have hT4 := hT3.fr ((Fr.refl [] w3).alloc (.cells #[.int .i64 (pX b), .int .i64 (pY b)] 69)) (by simp)
        have hF4 := (HF2.out.trans hF3).alloc (.cells #[.int .i64 (pX b), .int .i64 (pY b)] 69)
        have HP3 := hide hP3
        have HF4 := hide hF4
        have HT4 := hide hT4
        clear hT3 hF3 hP3 hT4 hF4 HT2 HF2
        go_wp2_with fail
        go_ret3
        exact ⟨rfl, ⟨_, _, _, _, _, _, _, _, _, _, _, _, HT4.out, HP3.out⟩, HF4.out⟩

/-- Whether there is a torus with w columns and h rows. -/
def torB (w h : Int) : Bool := decide (1 ≤ w ∧ 1 ≤ h ∧ w ≤ 4096 ∧ h ≤ 4096 ∧ w * h ≤ 4096)
theorem torB_nat {w h : Int} (ht : torB w h = true) : ∃ W H : Nat, w = W ∧ h = H ∧ 1 ≤ W ∧ 1 ≤ H ∧ W ≤ 4096 ∧ H ≤ 4096 ∧ W * H ≤ 4096 := by
  obtain ⟨h1, h2, h3, h4, h5⟩ : 1 ≤ w ∧ 1 ≤ h ∧ w ≤ 4096 ∧ h ≤ 4096 ∧ w * h ≤ 4096 := by unfold torB at ht; exact of_decide_eq_true ht
  obtain ⟨W, rfl⟩ := Int.eq_ofNat_of_zero_le (show 0 ≤ w by omega)
  obtain ⟨H, rfl⟩ := Int.eq_ofNat_of_zero_le (show 0 ≤ h by omega)
  exact ⟨W, H, rfl, rfl, by omega, by omega, by omega, by omega, by have : ((W * H : Nat) : Int) ≤ 4096 := (by rw [Int.natCast_mul]; exact h5); omega⟩
set_option maxRecDepth 100000 in
theorem wrIs (w h : Int) (W : World) :
    Calls Try.prog 32 #[.int .i64 w, .int .i64 h] W fun e W' => e = .returned (.bool (torB w h)) ∧ W = W' := by
  by_cases hc : (1 ≤ w ∧ 1 ≤ h) ∧ w ≤ 4096 ∧ h ≤ 4096
  · obtain ⟨⟨h1, h2⟩, h3, h4⟩ := hc
    have b1 : 0 ≤ w * h := Int.mul_nonneg (by omega) (by omega)
    have b2 : w * h ≤ 4096 * 4096 := Int.mul_le_mul h3 h4 (by omega) (by omega)
    go_enter Try.func32, Try.ntmps32
    go_wp2
    go_ret
    exact ⟨ret_bool (by unfold torB; exact decide_eq_decide.2 ⟨fun h => ⟨h1, h2, h3, h4, h⟩, fun h => h.2.2.2.2⟩), rfl⟩
  · have hf : torB w h = false := by simp only [torB, decide_eq_false_iff_not]; omega
    have hF : Hid (torB w h = false) := hf
    clear hf
    by_cases h1 : 1 ≤ w
    · by_cases h2 : 1 ≤ h
      · by_cases h3 : w ≤ 4096
        · have h4 : ¬ h ≤ 4096 := by omega
          clear hc
          go_enter Try.func32, Try.ntmps32
          go_wp2
          go_ret
          exact ⟨ret_bool (by rw [hF.out]), rfl⟩
        · clear hc
          go_enter Try.func32, Try.ntmps32
          go_wp2
          go_ret
          exact ⟨ret_bool (by rw [hF.out]), rfl⟩
      · clear hc
        go_enter Try.func32, Try.ntmps32
        go_wp2
        go_ret
        exact ⟨ret_bool (by rw [hF.out]), rfl⟩
    · clear hc
      go_enter Try.func32, Try.ntmps32
      go_wp2
      go_ret
      exact ⟨ret_bool (by rw [hF.out]), rfl⟩
theorem torNew_no (w : World) (a b : Int) (h : torB a b = false) :
    Calls Try.prog 19 #[.int .i64 a, .int .i64 b] w fun e w' => e = .returned (.tuple #[.pointer none, .int .i64 2]) ∧ w = w' := by
  have HI := wrIs a b w
  rw [h] at HI
  have HI2 := hide HI
  clear HI h
  go_enter Try.func19, Try.ntmps19
  go_wp2_with fail
  refine HI2.out.mono ?_
  rintro e w' ⟨rfl, rfl⟩
  go_wp2_with fail
  go_ret2
  exact ⟨rfl, rfl⟩

theorem pairb_info : (Try.prog.info? 72).map (fun i => (i.zero, i.size, i.bytes)) = some (some (.agg #[.bool false, .bool false]), 2, 2) := by kernel_rfl
theorem made_pair (a : Value) (n : Nat) (c : Nat → Value) (hc : ∀ i, i < n * 2 → c i = a) : madeCells #[a, a] (n * 2) = ((List.range (n * 2)).map c).toArray := by
  apply Array.ext
  · simp [size_madeCells]
  · intro i h1 h2
    have hi : i < n * 2 := by simpa [size_madeCells] using h1
    simp only [madeCells, Array.getElem_map, Array.getElem_range, List.getElem_toArray, List.getElem_map, List.getElem_range]
    rw [hc i hi]
    have : i % 2 = 0 ∨ i % 2 = 1 := by omega
    rcases this with e | e
    · show #[a, a][i % 2]! = a
      rw [e]; rfl
    · show #[a, a][i % 2]! = a
      rw [e]; rfl
theorem run_make_pairs (n : Nat) (hn : n ≤ 4096) (w : World) :
    (Instr.makeSlice 56 (.int .i64 (n : Int)) (.int .i64 (n : Int))).run Try.prog w = .ok (.slice (some ⟨w.heap.size, 0, none⟩) n n) (w.alloc (.cells (arz (n * 2) fun _ => 0) 69)) := by
  obtain ⟨i0, hi, hz, h1, h8⟩ := info_parts pair_info
  have hr := run_make (P := Try.prog) w 56 69 i0 (.agg #[.int .i64 0, .int .i64 0]) Try.underlying56 hi hz .i64 .i64 n n (by omega) (by omega) (by rw [h8]; omega) (by omega)
  simp only [Int.toNat_natCast] at hr
  rw [hr, h1]
  have e : madeCells (Value.agg #[Value.int IntKind.i64 0, Value.int IntKind.i64 0]).cells (n * 2) = arz (n * 2) fun _ => 0 := made_pair (.int .i64 0) n _ fun i _ => rfl
  rw [e]
theorem run_make_bpairs (n : Nat) (hn : n ≤ 4096) (w : World) :
    (Instr.makeSlice 57 (.int .i64 (n : Int)) (.int .i64 (n : Int))).run Try.prog w = .ok (.slice (some ⟨w.heap.size, 0, none⟩) n n) (w.alloc (.cells (arb (n * 2) fun _ => false) 72)) := by
  obtain ⟨i0, hi, hz, h1, h8⟩ := info_parts pairb_info
  have hr := run_make (P := Try.prog) w 57 72 i0 (.agg #[.bool false, .bool false]) Try.underlying57 hi hz .i64 .i64 n n (by omega) (by omega) (by rw [h8]; omega) (by omega)
  simp only [Int.toNat_natCast] at hr
  rw [hr, h1]
  have e : madeCells (Value.agg #[Value.bool false, Value.bool false]).cells (n * 2) = arb (n * 2) fun _ => false := made_pair (.bool false) n _ fun i _ => rfl
  rw [e]

end Go.Proofs.Ytnkkdoookhhhaaa
