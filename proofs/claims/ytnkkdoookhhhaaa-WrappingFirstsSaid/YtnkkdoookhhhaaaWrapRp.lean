/- seepageref30: Count. -/
import Derived.Test.YtnkkdoookhhhaaaWrapRo
namespace Go.Proofs.Ytnkkdoookhhhaaa
open Go.RowKit
set_option linter.unusedVariables false

set_option maxHeartbeats 4000000 in
theorem r30Count (w : World) (p : RLoc) (W H n : Nat) (E : List Nat) (h : RT w p W H n E) :
    Calls Try.prog 38 #[.pointer (some ⟨p.g, 0, none⟩)] w
      fun e w' => e = .returned (.int .i64 (sets n (tL W H E) : Int)) ∧ Below w.heap.size w w' := by
  have V := hide (r30Valid w p W H n E h)
  have HWk := hide (r30Walked w p W H n E h)
  have HR := hide h
  have hWH : (W : Int) * (H : Int) = (n : Int) := by rw [h.nn]; push_cast; rfl
  have hnb := h.nb
  clear h
  go_enter Try.func38, Try.ntmps38
  go_wp2_with (go_at_call 39; refine V.out.mono ?_; rintro e w' ⟨rfl, rfl⟩)
  refine HWk.out.mono ?_
  rintro e w1 ⟨bi, bx, bz, fi, dx, dy, rfl, hw, hb⟩
  have HB1 := hide hb
  have HRT1 := hide (HR.out.fresh hb)
  have HW := hide hw
  clear hw hb
  go_wp2_with fail
  have hA := (Below.refl w1.heap.size w1).alloc (Nat.le_refl _) (.cells #[.slice (some ⟨bi, 0, none⟩) n n, .slice (some ⟨bx, 0, none⟩) n n, .slice (some ⟨bz, 0, none⟩) n n] 75)
  have hK := hide (Blk.new w1 75 #[.slice (some ⟨bi, 0, none⟩) n n, .slice (some ⟨bx, 0, none⟩) n n, .slice (some ⟨bz, 0, none⟩) n n])
  have HW2 := hide (HW.out.below hA)
  have HRT2 := hide (HRT1.out.fresh hA)
  have HB2 := hide (HB1.out.trans (hA.mono HB1.out.size))
  clear hA
  generalize w1.alloc (.cells #[.slice (some ⟨bi, 0, none⟩) n n, .slice (some ⟨bx, 0, none⟩) n n, .slice (some ⟨bz, 0, none⟩) n n] 75) = w2 at *
  generalize w1.heap.size = K at *
  have HL : Hid (∀ i, i < n → fi i = (tL W H E i : Int)) := HW2.out.lab
  generalize hLL : tL W H E = L at *
  have HLL := hide hLL
  clear hLL
  go_loopg [3, 5] n (fun q c v wr => ∃ k d : Nat, k + q = n ∧ v = .int .i64 (k : Int) ∧ c = .int .i64 (cnt (fun i => L i == i) k : Int) ∧ wr = w2.drewN d)
  case atStart => exact ⟨0, 0, by omega, rfl, rfl, rfl⟩
  case round =>
    obtain ⟨k, d, hk, rfl, rfl, rfl⟩ := hrel
    have HK := hide hk
    have hkn : k ≤ n := by omega
    clear hk
    have hcn := cnt_le (fun i => L i == i) k
    obtain ⟨_, c1, c2, _⟩ := (HRT2.out.drewN d).cells
    have k0 : (w2.drewN d).cell? ⟨K, 0, none⟩ = some (.slice (some ⟨bi, 0, none⟩) n n) := (hK.out.cell 0).trans rfl
    have hcell : ∀ i, i < n → (w2.drewN d).cell? ⟨bi, i, none⟩ = some (.int .i64 (fi i)) := fun i hi => HW2.out.hi.intz hi
    have HCELL := hide hcell
    have HWX : Hid (∀ k, (w2.drewN d).drewN k = w2.drewN (d + k)) := fun k => World.drewN_drewN _ _ _
    have HBX := hide (HB2.out.drewN d)
    have wn : IntKind.i64.wrap (n : Int) = n := IntWalk.i64_in _ (by omega)
    clear hcell
    generalize hwx : w2.drewN d = wx at *
    clear hwx
    by_cases hlt : k < n
    · have hC := HCELL.out k hlt
      have hLk := HL.out k hlt
      rw [hLk] at hC
      clear hLk
      by_cases hq : L k = k
      · have hb : ((L k : Int) == (k : Int)) = true := beq_nat_true hq
        have HS : Hid (cnt (fun i => L i == i) (k + 1) = cnt (fun i => L i == i) k + 1) := cnt_succ_true (by simpa using hq)
        generalize L k = lk at *
        generalize cnt (fun i => L i == i) k = ck at *
        clear hq
        go_wp2_with fail
        go_quiet (fail)
        go_wp2_with fail
        go_roundg (n - (k + 1))
        case measure => have := HK.out; omega
        case rel => exact ⟨k + 1, _, by omega, by go_num, by rw [HS.out]; go_num, HWX.out _⟩
      · have hb : ((L k : Int) == (k : Int)) = false := beq_nat_false hq
        have HS : Hid (cnt (fun i => L i == i) (k + 1) = cnt (fun i => L i == i) k) := cnt_succ_false (by simpa using hq)
        generalize L k = lk at *
        generalize cnt (fun i => L i == i) k = ck at *
        clear hq
        go_wp2_with fail
        go_quiet (fail)
        go_wp2_with fail
        go_roundg (n - (k + 1))
        case measure => have := HK.out; omega
        case rel => exact ⟨k + 1, _, by omega, by go_num, by rw [HS.out], HWX.out _⟩
    · obtain rfl : k = n := by omega
      go_wp2_with fail
      go_quiet (fail)
      go_wp2_with fail
      go_ret
      exact ⟨ret_int (by rw [HLL.out]; rfl), HBX.out.drewN _⟩
end Go.Proofs.Ytnkkdoookhhhaaa
