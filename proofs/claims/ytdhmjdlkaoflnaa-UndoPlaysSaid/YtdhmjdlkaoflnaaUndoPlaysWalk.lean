/- The walk of UndoPlays. -/
import Derived.Test.YtdhmjdlkaoflnaaRe9K
namespace Go.Proofs.Ytdhmjdlkaoflnaa
open Go.RowKit
set_option linter.unusedVariables false

set_option maxRecDepth 100000 in
set_option maxHeartbeats 8000000 in
theorem undoPlays_nil (a0 : Int) (A : Option Addr) (m c : Nat) (l : List Stp) (a2 a3 : Int) (W : World) (hm : m ≤ maxLen) (hlen : l.length = m) (hok : ∀ a ∈ l, StpOk W a) (hr : Rd W A m 4 (scs l)) (hs : newOk a0 = false) :
    Calls Try.prog 8 #[.int .i64 a0, .slice A m c, .int .i64 a2, .int .i64 a3] W fun e W' => e = .returned (.bool true) ∧ Below W.heap.size W W' := by
  have h' : a0 < 0 ∨ 65536 < a0 := by simp [newOk] at hs; omega
  have hm' : m ≤ 9223372036854775807 := by unfold maxLen at hm; omega
  have HS := hide hs
  have HR := hide hr
  have HLn := hide hlen
  have HOK := hide hok
  clear hr hs hlen hok hm
  by_cases hbig : a0 < 0 ∧ m ≤ 120
  · obtain ⟨h0, h120⟩ := hbig
    clear h'
    go_enter Try.func8, Try.ntmps8
    go_wp2_with fail
    refine (undoNew_no _ _ HS.out).mono ?_
    rintro e w1 ⟨rfl, rfl⟩
    go_wp2_with fail
    refine (r9New_no _ _ HS.out).mono ?_
    rintro e w1 ⟨rfl, rfl⟩
    go_wp2_with fail
    go_loopg [9, 11, 13] m (fun q s r i wr => ∃ k : Nat, k + q = m ∧ i = .int .i64 (k : Int) ∧ s = .pointer none ∧ r = .pointer none ∧ Below W.heap.size W wr)
    case atStart => exact ⟨0, by omega, rfl, rfl, rfl, Below.refl _ _⟩
    case round =>
      obtain ⟨k, hk, rfl, rfl, rfl, hb⟩ := hrel
      have HK := hide hk
      have HB := hide hb
      have hkm : k ≤ m := by omega
      clear hk hb
      by_cases hlt : k < m
      · have hkl : k < l.length := by have := HLn.out; omega
        obtain ⟨b, o, rfl, hblt, c0, c1, c2, c3⟩ := HR.out.step k hkl HLn.out
        have hst := HOK.out _ (List.getElem_mem hkl)
        generalize l[k] = e at *
        obtain ⟨d, x, y, V, t⟩ := e
        obtain ⟨o1, o2, o3, hip⟩ := hst
        simp only at c0 c1 c2 c3 hip
        have d0 : wr.cell? ⟨b, o + k * 4, none⟩ = some (.int .i64 d) := (HB.out.cell (p := ⟨b, o + k * 4, none⟩) hblt).trans c0
        have d1 : wr.cell? ⟨b, o + k * 4 + 1, none⟩ = some (.int .i64 x) := (HB.out.cell (p := ⟨b, o + k * 4 + 1, none⟩) hblt).trans c1
        have d2 : wr.cell? ⟨b, o + k * 4 + 2, none⟩ = some (.int .i64 y) := (HB.out.cell (p := ⟨b, o + k * 4 + 2, none⟩) hblt).trans c2
        have d3 : wr.cell? ⟨b, o + k * 4 + 3, none⟩ = some V := (HB.out.cell (p := ⟨b, o + k * 4 + 3, none⟩) hblt).trans c3
        obtain ⟨At, mt, ct, rfl, hmt, hlt', hokt, hrt⟩ := hip
        clear c0 c1 c2 c3
        have hbA : Below W.heap.size W (wr.alloc (.cells #[.int .i64 d, .int .i64 x, .int .i64 y, .slice At mt ct] 53)) := HB.out.alloc HB.out.size _
        have HBA := hide hbA
        clear hbA o1 o2 o3 hrt hokt hlt' hmt
        by_cases e0 : d = 0
        · subst e0
          go_wp2_with (first | (go_at_call 25; refine (undoBad_Union _ _ _ _ (.inl rfl)).mono ?_; rintro e w' ⟨rfl, rfl⟩) | (go_at_call 26; refine (r9Nil_Union _ _ _).mono ?_; rintro e w' ⟨rfl, rfl⟩) | (go_at_call 17; refine (undoBad_Undo _ _ _ (.inl rfl)).mono ?_; rintro e w' ⟨rfl, rfl⟩) | (go_at_call 30; refine (r9Nil_Copy _).mono ?_; rintro e w' ⟨rfl, rfl⟩) | (go_at_call 29; refine (undoBad_Copy _ _ (.inl rfl)).mono ?_; rintro e w' ⟨rfl, rfl⟩))
          refine (agree9_nil _ _ _).mono ?_
          rintro e w1 ⟨rfl, k1, rfl⟩
          go_wp2_with fail
          refine (agree9_nil _ _ _).mono ?_
          rintro e w2 ⟨rfl, k2, rfl⟩
          go_wp2_with fail
          go_roundg (m - (k + 1))
          case measure => have := HK.out; omega
          case rel => exact ⟨k + 1, by omega, by go_num, rfl, rfl, ⟨HBA.out.os, HBA.out.tape, HBA.out.output, HBA.out.size, HBA.out.block⟩⟩
        · by_cases e1 : d = 1
          · subst e1
            go_wp2_with (first | (go_at_call 25; refine (undoBad_Union _ _ _ _ (.inl rfl)).mono ?_; rintro e w' ⟨rfl, rfl⟩) | (go_at_call 26; refine (r9Nil_Union _ _ _).mono ?_; rintro e w' ⟨rfl, rfl⟩) | (go_at_call 17; refine (undoBad_Undo _ _ _ (.inl rfl)).mono ?_; rintro e w' ⟨rfl, rfl⟩) | (go_at_call 30; refine (r9Nil_Copy _).mono ?_; rintro e w' ⟨rfl, rfl⟩) | (go_at_call 29; refine (undoBad_Copy _ _ (.inl rfl)).mono ?_; rintro e w' ⟨rfl, rfl⟩))
            go_quiet (first | (go_at_call 17; exact quiet_any1 (quiet_eq (undoBad_Undo _ _ _ (.inl rfl)))) | (go_at_call 27; exact quiet_any1 (quiet_eq (r9Nil_Undo _ _))))
            go_wp2_with fail
            refine (agree9_nil _ _ _).mono ?_
            rintro e w1 ⟨rfl, k1, rfl⟩
            go_wp2_with fail
            refine (agree9_nil _ _ _).mono ?_
            rintro e w2 ⟨rfl, k2, rfl⟩
            go_wp2_with fail
            go_roundg (m - (k + 1))
            case measure => have := HK.out; omega
            case rel => exact ⟨k + 1, by omega, by go_num, rfl, rfl, ⟨HBA.out.os, HBA.out.tape, HBA.out.output, HBA.out.size, HBA.out.block⟩⟩
          · by_cases e2 : d = 2
            · subst e2
              by_cases h60 : 60 < mt
              · go_wp2_with fail
                refine (works9 _).mono ?_
                rintro e w7 ⟨rfl, hb7⟩
                go_wp2_with fail
                go_ret
                exact ⟨rfl, HBA.out.trans (hb7.mono HBA.out.size)⟩
              · have hkA := Blk.new wr 53 #[.int .i64 2, .int .i64 x, .int .i64 y, .slice At mt ct]
                have HKA := hide hkA
                have hne := row_neq 0 0 0
                clear hkA
                go_wp2_with fail
                refine (undoBad_Trial _ _ _ (.inl rfl)).mono ?_
                rintro e w1 ⟨rfl, hb1⟩
                have hk1 := HKA.out.below hb1 HKA.out.lt
                have hk1a := hk1.alloc (.cells #[.int .i64 0, .int .i64 0, .int .i64 0] 48)
                have f3 : (w1.alloc (.cells #[.int .i64 0, .int .i64 0, .int .i64 0] 48)).cell? ⟨wr.heap.size, 3, none⟩ = some (.slice At mt ct) := (hk1a.cell 3).trans rfl
                have HB1 := hide ((HBA.out.trans (hb1.mono HBA.out.size)).alloc (Nat.le_trans HBA.out.size hb1.size) (.cells #[.int .i64 0, .int .i64 0, .int .i64 0] 48))
                have HK1 := hide hk1a
                have HQ1 := hide (Blk.new w1 48 #[.int .i64 0, .int .i64 0, .int .i64 0])
                clear hb1 hk1 hk1a
                go_wp2_with fail
                refine (r9Nil_Trial _ _).mono ?_
                rintro e w2 ⟨rfl, hb2⟩
                have hk2 := (HK1.out.below hb2 HK1.out.lt).alloc (.cells #[.int .i64 0, .int .i64 0, .int .i64 0] 48)
                have hq2 := (HQ1.out.below hb2 HQ1.out.lt).alloc (.cells #[.int .i64 0, .int .i64 0, .int .i64 0] 48)
                have x1 : (w2.alloc (.cells #[.int .i64 0, .int .i64 0, .int .i64 0] 48)).cell? ⟨wr.heap.size, 1, none⟩ = some (.int .i64 x) := (hk2.cell 1).trans rfl
                have x2 : (w2.alloc (.cells #[.int .i64 0, .int .i64 0, .int .i64 0] 48)).cell? ⟨wr.heap.size, 2, none⟩ = some (.int .i64 y) := (hk2.cell 2).trans rfl
                have y0 : (w2.alloc (.cells #[.int .i64 0, .int .i64 0, .int .i64 0] 48)).cell? ⟨w1.heap.size, 0, none⟩ = some (.int .i64 0) := (hq2.cell 0).trans rfl
                have y1 : (w2.alloc (.cells #[.int .i64 0, .int .i64 0, .int .i64 0] 48)).cell? ⟨w1.heap.size, 1, none⟩ = some (.int .i64 0) := (hq2.cell 1).trans rfl
                have y2 : (w2.alloc (.cells #[.int .i64 0, .int .i64 0, .int .i64 0] 48)).cell? ⟨w1.heap.size, 2, none⟩ = some (.int .i64 0) := (hq2.cell 2).trans rfl
                have HB2 := hide ((HB1.out.trans (hb2.mono HB1.out.size)).alloc (Nat.le_trans HB1.out.size hb2.size) (.cells #[.int .i64 0, .int .i64 0, .int .i64 0] 48))
                clear hb2 hk2 hq2 f3
                go_wp2_with fail
                refine (agree9_nil _ _ _).mono ?_
                rintro e w3 ⟨rfl, k3, rfl⟩
                go_wp2_with fail
                refine (agree9_nil _ _ _).mono ?_
                rintro e w4 ⟨rfl, k4, rfl⟩
                go_wp2_with fail
                go_roundg (m - (k + 1))
                case measure => have := HK.out; omega
                case rel => exact ⟨k + 1, by omega, by go_num, rfl, rfl, ⟨HB2.out.os, HB2.out.tape, HB2.out.output, HB2.out.size, HB2.out.block⟩⟩
            · by_cases e3 : d = 3
              · subst e3
                go_wp2_with (first | (go_at_call 25; refine (undoBad_Union _ _ _ _ (.inl rfl)).mono ?_; rintro e w' ⟨rfl, rfl⟩) | (go_at_call 26; refine (r9Nil_Union _ _ _).mono ?_; rintro e w' ⟨rfl, rfl⟩) | (go_at_call 17; refine (undoBad_Undo _ _ _ (.inl rfl)).mono ?_; rintro e w' ⟨rfl, rfl⟩) | (go_at_call 30; refine (r9Nil_Copy _).mono ?_; rintro e w' ⟨rfl, rfl⟩) | (go_at_call 29; refine (undoBad_Copy _ _ (.inl rfl)).mono ?_; rintro e w' ⟨rfl, rfl⟩))
                refine (agree9_nil _ _ _).mono ?_
                rintro e w1 ⟨rfl, k1, rfl⟩
                go_wp2_with fail
                refine (agree9_nil _ _ _).mono ?_
                rintro e w2 ⟨rfl, k2, rfl⟩
                go_wp2_with fail
                go_roundg (m - (k + 1))
                case measure => have := HK.out; omega
                case rel => exact ⟨k + 1, by omega, by go_num, rfl, rfl, ⟨HBA.out.os, HBA.out.tape, HBA.out.output, HBA.out.size, HBA.out.block⟩⟩
              · go_wp2_with fail
                refine (agree9_nil _ _ _).mono ?_
                rintro e w1 ⟨rfl, k1, rfl⟩
                go_wp2_with fail
                refine (agree9_nil _ _ _).mono ?_
                rintro e w2 ⟨rfl, k2, rfl⟩
                go_wp2_with fail
                go_roundg (m - (k + 1))
                case measure => have := HK.out; omega
                case rel => exact ⟨k + 1, by omega, by go_num, rfl, rfl, ⟨HBA.out.os, HBA.out.tape, HBA.out.output, HBA.out.size, HBA.out.block⟩⟩
      · have hkk : k = m := by omega
        subst hkk
        go_wp2_with fail
        refine (works9 _).mono ?_
        rintro e w7 ⟨rfl, hb7⟩
        go_wp2_with fail
        go_ret
        exact ⟨rfl, HB.out.trans (hb7.mono HB.out.size)⟩
  · by_cases hb60 : 65536 < a0
    · clear h' hbig
      go_enter Try.func8, Try.ntmps8
      go_wp2_with fail
      refine (undoNew_no _ _ HS.out).mono ?_
      rintro e w1 ⟨rfl, rfl⟩
      go_wp2_with fail
      refine (works9 _).mono ?_
      rintro e w7 ⟨rfl, hb7⟩
      go_wp2_with fail
      go_ret
      exact ⟨rfl, hb7⟩
    · have h0 : a0 < 0 := by omega
      have h120 : 120 < m := by omega
      clear h' hbig hb60
      go_enter Try.func8, Try.ntmps8
      go_wp2_with fail
      refine (undoNew_no _ _ HS.out).mono ?_
      rintro e w1 ⟨rfl, rfl⟩
      go_wp2_with fail
      refine (works9 _).mono ?_
      rintro e w7 ⟨rfl, hb7⟩
      go_wp2_with fail
      go_ret
      exact ⟨rfl, hb7⟩
end Go.Proofs.Ytdhmjdlkaoflnaa
