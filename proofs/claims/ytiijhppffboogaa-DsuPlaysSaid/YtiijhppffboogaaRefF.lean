/- seepageref08: Union, New. -/
import Derived.Test.YtiijhppffboogaaRefE
namespace Go.Proofs.Ytiijhppffboogaa
open Go.RowKit
set_option linter.unusedVariables false

/-- Labels after the loop of Union has looked at k elements. -/
def mrg (L : Nat → Nat) (x y k : Nat) : Nat → Nat := fun i => if i < k then merge L x y i else L i
theorem mrg_zero (L : Nat → Nat) (x y : Nat) : mrg L x y 0 = L := by funext i; simp [mrg]
theorem mrg_at (L : Nat → Nat) (x y k : Nat) : mrg L x y k k = L k := by simp [mrg]
theorem mrg_in {L : Nat → Nat} {x y k : Nat} (h : L k = max x y) : upd (mrg L x y k) k (min x y) = mrg L x y (k + 1) := by
  funext i
  unfold upd mrg merge
  by_cases e : i = k
  · subst e; simp [h]
  · by_cases h2 : i < k
    · have h3 : i < k + 1 := by omega
      simp only [e, h2, h3, if_true, if_false]
    · have h3 : ¬ i < k + 1 := by omega
      simp only [e, h2, h3, if_false]
theorem mrg_out {L : Nat → Nat} {x y k : Nat} (h : L k ≠ max x y) : mrg L x y k = mrg L x y (k + 1) := by
  funext i
  unfold mrg merge
  by_cases e : i = k
  · subst e; simp [h]
  · by_cases h2 : i < k
    · have h3 : i < k + 1 := by omega
      simp only [h2, h3, if_true]
    · have h3 : ¬ i < k + 1 := by omega
      simp only [h2, h3, if_false]

theorem refUnion_no (w : World) (a b : Int) (g n B : Nat) (L : Nat → Nat) (h : Ref w g n L B) (hn : (inB n a && inB n b) = false) :
    Calls Try.prog 29 #[.pointer (some ⟨g, 0, none⟩), .int .i64 a, .int .i64 b] w fun e w' => e = .returned (.tuple #[.bool false, .int .i64 3]) ∧ w = w' := by
  have C := fun (x : Int) => refHas w x g n B L h
  have V := refValid w g n B L h
  have CA := C a
  have CB := C b
  have HV := hide V
  clear h C V
  cases ha : inB n a
  · rw [ha] at CA
    have HA := hide CA
    clear CA CB hn ha
    go_enter Try.func29, Try.ntmps29
    go_wp2_with (first | (go_at_call 40; refine HV.out.mono ?_; rintro e w' ⟨rfl, rfl⟩) | (go_at_call_of 41 (Value.int .i64 a); refine HA.out.mono ?_; rintro e w' ⟨rfl, rfl⟩))
    go_ret2
    exact ⟨rfl, rfl⟩
  · have hb : inB n b = false := by simpa [ha] using hn
    rw [ha] at CA
    rw [hb] at CB
    have HA := hide CA
    have HB := hide CB
    clear CA CB hn ha hb
    go_enter Try.func29, Try.ntmps29
    go_wp2_with (first | (go_at_call 40; refine HV.out.mono ?_; rintro e w' ⟨rfl, rfl⟩) | (go_at_call_of 41 (Value.int .i64 a); refine HA.out.mono ?_; rintro e w' ⟨rfl, rfl⟩) | (go_at_call_of 41 (Value.int .i64 b); refine HB.out.mono ?_; rintro e w' ⟨rfl, rfl⟩))
    go_ret2
    exact ⟨rfl, rfl⟩

set_option maxHeartbeats 4000000 in
theorem refUnion_in (w : World) (a b : Nat) (g n B : Nat) (L : Nat → Nat) (h : Ref w g n L B) (ha : a < n) (hb : b < n) (hl : Lab n L) :
    Calls Try.prog 29 #[.pointer (some ⟨g, 0, none⟩), .int .i64 (a : Int), .int .i64 (b : Int)] w
      fun e w' => e = .returned (.tuple #[.bool (!(L a == L b)), .int .i64 0]) ∧ Ref w' g n (merge L (L a) (L b)) B ∧ Below B w w' := by
  have CA := refHas w a g n B L h
  have CB := refHas w b g n B L h
  rw [inB_nat ha] at CA
  rw [inB_nat hb] at CB
  have V := refValid w g n B L h
  have HV := hide V
  have HA := hide CA
  have HB := hide CB
  clear CA CB V
  have H := hide h
  obtain ⟨hB, nb, A, c, hk, h3⟩ := h
  rcases h3 with ⟨e, _⟩ | ⟨g2, r, rfl, hB2, hL⟩
  · omega
  have c1 : w.cell? ⟨g, 1, none⟩ = some (.slice (some ⟨g2, 0, none⟩) n c) := by rw [hk.cell]; rfl
  have ca := hL.intx ha
  have cb := hL.intx hb
  have hgg : g ≠ g2 := hk.ne_ hL (by decide)
  have hgg' := hgg.symm
  have la := hl.lt ha
  have lb := hl.lt hb
  have HK := hide hk
  have HL := hide hL
  have hsz := hk.lt
  have hsz2 := hL.lt
  clear hk hL hsz hsz2
  by_cases he : L a = L b
  · have hE := beq_nat_true he
    have HE := hide he
    clear he
    go_enter Try.func29, Try.ntmps29
    go_wp2_with (first | (go_at_call 40; refine HV.out.mono ?_; rintro e w' ⟨rfl, rfl⟩) | (go_at_call_of 41 (Value.int .i64 (a : Int)); refine HA.out.mono ?_; rintro e w' ⟨rfl, rfl⟩) | (go_at_call_of 41 (Value.int .i64 (b : Int)); refine HB.out.mono ?_; rintro e w' ⟨rfl, rfl⟩))
    go_ret2
    have e := HE.out
    exact ⟨by simp [e], by rw [e, merge_self]; exact H.out, Below.refl _ _⟩
  · have hE := beq_nat_false he
    have HE := hide he
    clear he
    go_enter Try.func29, Try.ntmps29
    go_wp2_with (first | (go_at_call 40; refine HV.out.mono ?_; rintro e w' ⟨rfl, rfl⟩) | (go_at_call_of 41 (Value.int .i64 (a : Int)); refine HA.out.mono ?_; rintro e w' ⟨rfl, rfl⟩) | (go_at_call_of 41 (Value.int .i64 (b : Int)); refine HB.out.mono ?_; rintro e w' ⟨rfl, rfl⟩))
    clear c1 ca cb
    have S0 : Hid (L a = L a) := rfl
    generalize hx : L a = x at *
    generalize hy : L b = y at *
    have HX := hide hx
    have HY := hide hy
    clear hx hy S0
    go_loopg [10] n (fun q v wr => ∃ k : Nat, k + q = n ∧ v = .int .i64 (k : Int) ∧ Blk wr g 60 #[.bool true, .slice (some ⟨g2, 0, none⟩) n c] ∧ Blk wr g2 3 (arx n (mrg L x y k) r) ∧ Below B w wr)
    case atStart => exact ⟨0, by omega, rfl, HK.out, by rw [mrg_zero]; exact HL.out, Below.refl _ _⟩
    case round =>
      obtain ⟨k, hk, rfl, hkb, hLb, hbel⟩ := hrel
      have HK2 := hide hk
      have hkn : k ≤ n := by omega
      clear hk
      have c1 : wr.cell? ⟨g, 1, none⟩ = some (.slice (some ⟨g2, 0, none⟩) n c) := by rw [hkb.cell]; rfl
      by_cases hlt : k < n
      · have ck := hLb.intx hlt
        rw [mrg_at] at ck
        have fk := hLb.frozen k
        have HKB := hide hkb
        have HLB := hide hLb
        have HBEL := hide hbel
        clear hkb hLb hbel
        have hlk := hl.lt hlt
        by_cases hxy : x < y
        · by_cases hm : L k = y
          · have hb' := beq_nat_true hm
            have HM := hide (mrg_in (L := L) (x := x) (y := y) (k := k) (by omega))
            have HMIN : Hid (min x y = x) := by show _ = _; omega
            clear hm
            go_wp2_with fail
            go_roundg (n - (k + 1))
            case measure => have := HK2.out; omega
            case rel =>
              refine ⟨k + 1, by omega, by go_num, HKB.out.far (p := ⟨g2, k, none⟩) hgg _, ?_, HBEL.out.setCell (p := ⟨g2, k, none⟩) hB2 _⟩
              have := HLB.out.setIntx x hlt
              rw [← HM.out, HMIN.out]; exact this
          · have hb' := beq_nat_false hm
            have HM := hide (mrg_out (L := L) (x := x) (y := y) (k := k) (by omega))
            clear hm
            go_wp2_with fail
            go_roundg (n - (k + 1))
            case measure => have := HK2.out; omega
            case rel =>
              exact ⟨k + 1, by omega, by go_num, HKB.out, by rw [← HM.out]; exact HLB.out, HBEL.out⟩
        · have hyx : y < x := by have := HE.out; have := HX.out; have := HY.out; omega
          by_cases hm : L k = x
          · have hb' := beq_nat_true hm
            have HM := hide (mrg_in (L := L) (x := x) (y := y) (k := k) (by omega))
            have HMIN : Hid (min x y = y) := by show _ = _; omega
            clear hm
            go_wp2_with fail
            go_roundg (n - (k + 1))
            case measure => have := HK2.out; omega
            case rel =>
              refine ⟨k + 1, by omega, by go_num, HKB.out.far (p := ⟨g2, k, none⟩) hgg _, ?_, HBEL.out.setCell (p := ⟨g2, k, none⟩) hB2 _⟩
              have := HLB.out.setIntx y hlt
              rw [← HM.out, HMIN.out]; exact this
          · have hb' := beq_nat_false hm
            have HM := hide (mrg_out (L := L) (x := x) (y := y) (k := k) (by omega))
            clear hm
            go_wp2_with fail
            go_roundg (n - (k + 1))
            case measure => have := HK2.out; omega
            case rel =>
              exact ⟨k + 1, by omega, by go_num, HKB.out, by rw [← HM.out]; exact HLB.out, HBEL.out⟩
      · have hkk : k = n := by omega
        subst hkk
        go_wp2_with fail
        go_ret2
        have e1 : arx k (mrg L x y k) r = arx k (merge L x y) r := arx_congr _ fun i hi => by simp [mrg, hi]
        rw [e1] at hLb
        have hne := HE.out
        rw [← HX.out, ← HY.out] at hLb
        exact ⟨by simp [HX.out, HY.out, hne], ⟨hB, nb, _, c, hkb, .inr ⟨g2, r, rfl, hB2, hLb⟩⟩, hbel⟩
end Go.Proofs.Ytiijhppffboogaa
