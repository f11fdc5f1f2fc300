/- seepageref30: closed. -/
import Derived.Test.YtnkkdoookhhhaaaWrapS
namespace Go.Proofs.Ytnkkdoookhhhaaa
open Go.RowKit
set_option linter.unusedVariables false

/-- What closed finds among the first j edges. -/
def cloK (W H : Nat) (E : List Nat) (fi d f : Nat → Int) (v : Int) (j : Nat) : Bool :=
  (List.range j).any fun e => E.contains e && (decide (v < 0) || (fi (tS e) == v)) && (d (tS e) + f e != d (tT W H e))
theorem cloK_succ {W H : Nat} {E : List Nat} {fi d f : Nat → Int} {v : Int} {j : Nat} :
    cloK W H E fi d f v (j + 1) = (cloK W H E fi d f v j || (E.contains j && (decide (v < 0) || (fi (tS j) == v)) && (d (tS j) + f j != d (tT W H j)))) := by
  unfold cloK
  rw [List.range_succ, List.any_append]
  simp
theorem cloK_any {W H n : Nat} {E : List Nat} {fi d f : Nat → Int} (hn : n = W * H) (ie : ∀ e ∈ E, e < 2 * n) (hp : ∀ i, i < W * H → Pt tS (tT W H) f E (tL W H E) (tL W H E i) i (d i)) :
    cloK W H E fi d f (-1) (2 * n) = anyB W H f E := by
  have hin : InE (W * H) tS (tT W H) E := fun e he => tE_in (by rw [← hn]; exact ie e he)
  rw [Bool.eq_iff_iff, any_def hin hp]
  unfold cloK
  rw [List.any_eq_true]
  constructor
  · rintro ⟨e, he, h⟩
    simp at h
    exact ⟨e, h.1, h.2⟩
  · rintro ⟨e, he, h⟩
    exact ⟨e, by simpa using ie e he, by simp [he, h]⟩
theorem cloK_wnd {W H n : Nat} {E : List Nat} {fi d f : Nat → Int} {a : Nat} (hn : n = W * H) (ie : ∀ e ∈ E, e < 2 * n) (hp : ∀ i, i < W * H → Pt tS (tT W H) f E (tL W H E) (tL W H E i) i (d i)) (hf : ∀ i, i < n → fi i = (tL W H E i : Int)) (ha : a < n) :
    cloK W H E fi d f (tL W H E a : Int) (2 * n) = wndB W H f E a := by
  have hin : InE (W * H) tS (tT W H) E := fun e he => tE_in (by rw [← hn]; exact ie e he)
  rw [Bool.eq_iff_iff, wnd_def hin hp (by rw [← hn]; exact ha)]
  unfold cloK
  rw [List.any_eq_true]
  constructor
  · rintro ⟨e, he, h⟩
    simp only [Bool.and_eq_true, Bool.or_eq_true, decide_eq_true_eq, beq_iff_eq, bne_iff_ne, List.contains_iff_mem] at h
    obtain ⟨⟨h1, h2⟩, h3⟩ := h
    have hs := (hin e h1).1
    rw [← hn] at hs
    rcases h2 with h2 | h2
    · omega
    · rw [hf _ hs] at h2
      exact ⟨e, h1, by omega, h3⟩
  · rintro ⟨e, he, h1, h2⟩
    have hs := (hin e he).1
    rw [← hn] at hs
    refine ⟨e, by simpa using ie e he, ?_⟩
    simp only [Bool.and_eq_true, Bool.or_eq_true, decide_eq_true_eq, beq_iff_eq, bne_iff_ne, List.contains_iff_mem]
    exact ⟨⟨he, .inr (by rw [hf _ hs, h1])⟩, h2⟩
theorem ret_bb {a b c d : Bool} (h : a = c) (k : b = d) : Ending.returned (.tuple #[.bool a, .bool b]) = .returned (.tuple #[.bool c, .bool d]) := by rw [h, k]

set_option maxRecDepth 100000 in
set_option maxHeartbeats 16000000 in
theorem r30Closed (w : World) (B : Nat) (p : RLoc) (W H n : Nat) (E : List Nat) (bi bx bz : Nat) (fi dx dy : Nat → Int) (v : Int) (h : RT w p W H n E) (hw : Wk B w W H n E bi bx bz fi dx dy) (hv : -1 ≤ v ∧ v < 4096) :
    Calls Try.prog 43 #[.pointer (some ⟨p.g, 0, none⟩), .agg #[.slice (some ⟨bi, 0, none⟩) n n, .slice (some ⟨bx, 0, none⟩) n n, .slice (some ⟨bz, 0, none⟩) n n], .int .i64 v] w
      fun e w' => e = .returned (.tuple #[.bool (cloK W H E fi dx tX v (2 * n)), .bool (cloK W H E fi dy tY v (2 * n))]) ∧ Below w.heap.size w w' := by
  have nb := h.nb
  have hA : Below w.heap.size w (w.alloc (.cells #[.slice (some ⟨bi, 0, none⟩) n n, .slice (some ⟨bx, 0, none⟩) n n, .slice (some ⟨bz, 0, none⟩) n n] 75)) := (Below.refl _ _).alloc (Nat.le_refl _) _
  have hK := Blk.new w 75 #[.slice (some ⟨bi, 0, none⟩) n n, .slice (some ⟨bx, 0, none⟩) n n, .slice (some ⟨bz, 0, none⟩) n n]
  have HRT := hide (h.fresh hA)
  have HI := hide (hw.hi.below hA hw.hi.lt)
  have HX := hide (hw.hx.below hA hw.hx.lt)
  have HY := hide (hw.hy.below hA hw.hy.lt)
  have HW := hide hw.wlk
  have HNN := hide h.nn
  have HA := hide hA
  have HK := hide hK
  obtain ⟨hv1, hv2⟩ := hv
  clear h hw hA hK
  go_enter Try.func43, Try.ntmps43
  go_wp2_with fail
  generalize w.alloc (.cells #[.slice (some ⟨bi, 0, none⟩) n n, .slice (some ⟨bx, 0, none⟩) n n, .slice (some ⟨bz, 0, none⟩) n n] 75) = w1 at *
  generalize hKK : w.heap.size = K at *
  have HKK := hide hKK
  clear hKK
  have HB0 := hide HA.out
  go_loopg [8, 9, 10] (2 * n) (fun q s8 s9 s10 wr => ∃ j : Nat, j + q = 2 * n ∧ s8 = .bool (cloK W H E fi dx tX v j) ∧ s9 = .bool (cloK W H E fi dy tY v j) ∧ s10 = .int .i64 (j : Int) ∧ RT wr p W H n E ∧
    Blk wr K 75 #[.slice (some ⟨bi, 0, none⟩) n n, .slice (some ⟨bx, 0, none⟩) n n, .slice (some ⟨bz, 0, none⟩) n n] ∧ Blk wr bi 3 (arz n fi) ∧ Blk wr bx 3 (arz n dx) ∧ Blk wr bz 3 (arz n dy) ∧ Below K w wr)
  case atStart => exact ⟨0, by omega, rfl, rfl, rfl, HRT.out, HK.out, HI.out, HX.out, HY.out, HB0.out⟩
  case round =>
    obtain ⟨j, hj, rfl, rfl, rfl, hrt, hk, hi, hx, hy, hb⟩ := hrel
    have HJ := hide hj
    have hjn : j ≤ 2 * n := by omega
    obtain ⟨_, _, _, c3⟩ := hrt.cells
    have HRT2 := hide hrt
    have HK2 := hide hk
    have HI2 := hide hi
    have HX2 := hide hx
    have HY2 := hide hy
    have HB2 := hide hb
    clear hj hrt hk hi hx hy hb HRT HK HI HX HY HB0 HA
    by_cases hlt : j < 2 * n
    · have HSX := hide (cloK_succ (W := W) (H := H) (E := E) (fi := fi) (d := dx) (f := tX) (v := v) (j := j))
      have HSY := hide (cloK_succ (W := W) (H := H) (E := E) (fi := fi) (d := dy) (f := tY) (v := v) (j := j))
      have hen := tE_in (W := W) (H := H) (e := j) (by rw [← HNN.out]; exact hlt)
      rw [← HNN.out] at hen
      obtain ⟨ha, hb⟩ := hen
      have hba := HW.out.bd (tS j) (by rw [← HNN.out]; exact ha)
      have hbb := HW.out.bd (tT W H j) (by rw [← HNN.out]; exact hb)
      rw [← HNN.out] at hba hbb
      rw [tX_nat] at HSX
      rw [tY_nat] at HSY
      go_wp2_with fail
      refine (r30Ends _ j p W H n E HRT2.out hlt).mono ?_
      rintro r w3 ⟨rfl, kq, rfl⟩
      have hrt := HRT2.out.drewN kq
      have hk := HK2.out.drewN kq
      have hi := HI2.out.drewN kq
      have hx := HX2.out.drewN kq
      have hy := HY2.out.drewN kq
      have hb3 := HB2.out.drewN kq
      clear c3
      generalize wr.drewN kq = w2 at *
      obtain ⟨_, _, _, c3⟩ := hrt.cells
      have cE := hrt.hh.bool hlt
      have k0 : w2.cell? ⟨K, 0, none⟩ = some (.slice (some ⟨bi, 0, none⟩) n n) := (hk.cell 0).trans rfl
      have k1 : w2.cell? ⟨K, 1, none⟩ = some (.slice (some ⟨bx, 0, none⟩) n n) := (hk.cell 1).trans rfl
      have k2 : w2.cell? ⟨K, 2, none⟩ = some (.slice (some ⟨bz, 0, none⟩) n n) := (hk.cell 2).trans rfl
      have fa := hi.intz ha
      have xa := hx.intz ha
      have xb := hx.intz hb
      have ya := hy.intz ha
      have yb := hy.intz hb
      generalize hae : tS j = a at *
      generalize hbe : tT W H j = b at *
      generalize hde : j % 2 = d at *
      have hd2 : d < 2 := by rw [← hde]; exact Nat.mod_lt _ (by decide)
      have td : (j : Int).tmod 2 = (d : Int) := by rw [Int.tmod_eq_emod_of_nonneg (by omega), ← hde]; push_cast; rfl
      have td2 : (j : Int) % 2 = (d : Int) := by rw [← hde]; push_cast; rfl
      have wd : IntKind.i64.wrap (d : Int) = d := IntWalk.i64_in _ (by omega)
      have HRT2 := hide hrt
      have HK2 := hide hk
      have HI2 := hide hi
      have HX2 := hide hx
      have HY2 := hide hy
      have HB2 := hide hb3
      clear hrt hk hi hx hy hb3 hae hbe hde
      obtain ⟨X, hX⟩ : ∃ X, X = (dx a + (1 - (d : Int)) != dx b) := ⟨_, rfl⟩
      obtain ⟨Y, hY⟩ : ∃ Y, Y = (dy a + (d : Int) != dy b) := ⟨_, rfl⟩
      have hX2 : (dx a + 1 - (d : Int) != dx b) = X := by rw [hX, show dx a + 1 - (d : Int) = dx a + (1 - (d : Int)) by omega]
      have hY2 : (dy a + (d : Int) != dy b) = Y := hY.symm
      rw [← hX] at HSX
      rw [← hY] at HSY
      obtain ⟨a1, a2, a3, a4⟩ := hba
      obtain ⟨b1, b2, b3, b4⟩ := hbb
      clear hX hY
      generalize hcx : cloK W H E fi dx tX v j = cx at *
      generalize hcy : cloK W H E fi dy tY v j = cy at *
      clear hcx hcy
      cases hE : E.contains j
      · rw [hE] at cE HSX HSY
        have HE := hide hE
        clear hE
        go_wp2_with fail
        clear hX2 hY2 td td2 wd hd2 a1 a2 a3 a4 b1 b2 b3 b4
        go_roundg (2 * n - (j + 1))
        case measure => have := HJ.out; omega
        case rel => exact ⟨j + 1, by omega, by rw [HSX.out]; simp, by rw [HSY.out]; simp, by go_num, HRT2.out, HK2.out, HI2.out, HX2.out, HY2.out, HB2.out⟩
      · rw [hE] at cE HSX HSY
        have HE := hide hE
        clear hE
        have hsel : (v < 0) ∨ (0 ≤ v ∧ fi a = v) ∨ (0 ≤ v ∧ fi a ≠ v) := by omega
        rcases hsel with hv0 | ⟨hv0, hfa⟩ | ⟨hv0, hfa⟩
        · have HSEL : Hid ((decide (v < 0) || (fi a == v)) = true) := by show _ = _; simp [hv0]
          cases cx <;> cases cy
          all_goals
            go_wp2_with fail
            go_quiet (fail)
            go_wp2_with fail
            go_quiet (fail)
            go_wp2_with fail
            clear hX2 hY2 td td2 wd hd2 a1 a2 a3 a4 b1 b2 b3 b4
            go_roundg (2 * n - (j + 1))
            case measure => have := HJ.out; omega
            case rel => exact ⟨j + 1, by omega, by rw [HSX.out, HSEL.out]; simp, by rw [HSY.out, HSEL.out]; simp, by go_num, HRT2.out.drewN _, HK2.out, HI2.out, HX2.out, HY2.out, HB2.out.drewN _⟩
        · have HSEL : Hid ((decide (v < 0) || (fi a == v)) = true) := by show _ = _; simp [hfa]
          rw [hfa] at fa
          have HFA := hide hfa
          clear hfa
          cases cx <;> cases cy
          all_goals
            go_wp2_with fail
            go_quiet (fail)
            go_wp2_with fail
            go_quiet (fail)
            go_wp2_with fail
            clear hX2 hY2 td td2 wd hd2 a1 a2 a3 a4 b1 b2 b3 b4
            go_roundg (2 * n - (j + 1))
            case measure => have := HJ.out; omega
            case rel => exact ⟨j + 1, by omega, by rw [HSX.out, HSEL.out]; simp, by rw [HSY.out, HSEL.out]; simp, by go_num, HRT2.out.drewN _, HK2.out, HI2.out, HX2.out, HY2.out, HB2.out.drewN _⟩
        · have HSEL : Hid ((decide (v < 0) || (fi a == v)) = false) := by
            show _ = _
            have h1 : decide (v < 0) = false := by simp; omega
            have h2 : (fi a == v) = false := by simpa using hfa
            rw [h1, h2]; rfl
          have hne : (fi a != v) = true := by simpa using hfa
          clear hfa
          go_wp2_with fail
          clear hX2 hY2 td td2 wd hd2 a1 a2 a3 a4 b1 b2 b3 b4
          go_roundg (2 * n - (j + 1))
          case measure => have := HJ.out; omega
          case rel => exact ⟨j + 1, by omega, by rw [HSX.out, HSEL.out]; simp, by rw [HSY.out, HSEL.out]; simp, by go_num, HRT2.out, HK2.out, HI2.out, HX2.out, HY2.out, HB2.out⟩
    · obtain rfl : j = 2 * n := by omega
      go_wp2_with fail
      go_ret2
      exact ⟨rfl, by rw [HKK.out]; exact HB2.out⟩
end Go.Proofs.Ytnkkdoookhhhaaa
