/- The walk of UndoPlays, of sets that New made. -/
import Derived.Test.YtdhmjdlkaoflnaaUndoPlaysWalk
namespace Go.Proofs.Ytdhmjdlkaoflnaa
open Go.RowKit
set_option linter.unusedVariables false

theorem ptr_eq {a b : Nat} (h : a = b) : Value.pointer (some ⟨b, 0, none⟩) = .pointer (some ⟨a, 0, none⟩) := by rw [h]
theorem IsPairs.below {W w : World} {V : Value} {t : List (Int × Int)} (h : IsPairs W V t) (hb : Below W.heap.size W w) : IsPairs w V t := by
  obtain ⟨A, n, c, h1, h2, h3, h4, h5⟩ := h
  exact ⟨A, n, c, h1, h2, h3, h4, h5.below hb⟩
set_option maxRecDepth 100000 in
set_option maxHeartbeats 16000000 in
theorem undoPlays_made (n : Nat) (hn : n ≤ 60) (A : Option Addr) (m c : Nat) (l : List Stp) (a2 a3 : Int) (W : World) (h120 : m ≤ 120) (hlen : l.length = m) (hok : ∀ a ∈ l, StpOk W a) (hr : Rd W A m 4 (scs l)) :
    Calls Try.prog 8 #[.int .i64 (n : Int), .slice A m c, .int .i64 a2, .int .i64 a3] W fun e W' => e = .returned (.bool true) ∧ Below W.heap.size W W' := by
  have HR := hide hr
  have HLn := hide hlen
  have HOK := hide hok
  clear hr hlen hok
  go_enter Try.func8, Try.ntmps8
  go_wp2_with fail
  refine (undoNew_ok W n (by omega)).mono ?_
  rintro e w1 ⟨p, rfl, hd1, hb1, hp1⟩
  go_wp2_with fail
  refine (r9New_ok _ n (by omega)).mono ?_
  rintro e w2 ⟨g, rfl, hr2, hb2⟩
  have hPl : Pl W w2 p g n [] (fun i => i) [] (fun i => i) := by
    refine ⟨hd1.fresh hb2, hr2.toQ.mono fun b _ hb => ⟨fun hm => ?_, Nat.le_trans hb1.size hb⟩, hp1, hb1.trans (hb2.mono hb1.size)⟩
    have := hd1.lt b hm; omega
  have HPl := hide hPl
  clear hd1 hb1 hp1 hr2 hb2 hPl
  go_wp2_with fail
  go_loopg [9, 11, 13] m (fun q s r i wr => ∃ (k : Nat) (p : ULoc) (g : Nat) (past : List (Nat → Nat)) (L : Nat → Nat), k + q = m ∧ i = .int .i64 (k : Int) ∧ s = .pointer (some ⟨p.g, 0, none⟩) ∧ r = .pointer (some ⟨g, 0, none⟩) ∧ Pl W wr p g n past L past L)
  case atStart => exact ⟨0, p, g, [], _, by omega, rfl, rfl, rfl, HPl.out⟩
  case round =>
    clear HPl
    obtain ⟨k, p, g, past, L, hk, rfl, rfl, rfl, hPl⟩ := hrel
    have HK := hide hk
    have HPl := hide hPl
    have hkm : k ≤ m := by omega
    have hpl : past.length ≤ 60 := by have := hPl.1.cnt; omega
    have hlab := hPl.1.lab
    have HLAB := hide hlab
    clear hk hPl hlab
    by_cases hlt : k < m
    · have hkl : k < l.length := by have := HLn.out; omega
      obtain ⟨b, o, rfl, hblt, c0, c1, c2, c3⟩ := HR.out.step k hkl HLn.out
      have hst := HOK.out _ (List.getElem_mem hkl)
      generalize l[k] = e at *
      obtain ⟨d, x, y, V, t⟩ := e
      obtain ⟨o1, o2, o3, hip⟩ := hst
      simp only at c0 c1 c2 c3 hip
      have d0 : wr.cell? ⟨b, o + k * 4, none⟩ = some (.int .i64 d) := (HPl.out.2.2.2.cell (p := ⟨b, o + k * 4, none⟩) hblt).trans c0
      have d1 : wr.cell? ⟨b, o + k * 4 + 1, none⟩ = some (.int .i64 x) := (HPl.out.2.2.2.cell (p := ⟨b, o + k * 4 + 1, none⟩) hblt).trans c1
      have d2 : wr.cell? ⟨b, o + k * 4 + 2, none⟩ = some (.int .i64 y) := (HPl.out.2.2.2.cell (p := ⟨b, o + k * 4 + 2, none⟩) hblt).trans c2
      have d3 : wr.cell? ⟨b, o + k * 4 + 3, none⟩ = some V := (HPl.out.2.2.2.cell (p := ⟨b, o + k * 4 + 3, none⟩) hblt).trans c3
      have HIP := hide hip
      have D1 := hide (HPl.out.open_ #[.int .i64 d, .int .i64 x, .int .i64 y, V])
      obtain ⟨At, mt, ct, hV, hmt, -, -, -⟩ := hip
      have hmt' : mt ≤ 9223372036854775807 := by unfold maxLen at hmt; omega
      subst hV
      obtain ⟨V, hV⟩ : ∃ V, V = Value.slice At mt ct := ⟨_, rfl⟩
      clear c0 c1 c2 c3 o1 o2 o3 hmt
      obtain ⟨X, hX⟩ : ∃ X, X = wr.heap.size := ⟨_, rfl⟩
      rw [← hX] at D1
      have HX := hide hX
      have HV := hide hV
      clear hX hV
      by_cases e0 : d = 0
      · subst e0
        go_wp2_with fail
        rw [← HX.out]
        generalize wr.alloc (.cells #[.int .i64 0, .int .i64 x, .int .i64 y, .slice At mt ct] 53) = w1 at *
        refine (undoUnion _ x y p n past L D1.out.u).mono ?_
        rintro e w2 ⟨rfl, hu⟩
        obtain ⟨p2, hg2, D2⟩ := D1.out.undo1 hu
        have x1 : w2.cell? ⟨X, 1, none⟩ = some (.int .i64 x) := (D2.x.cell 1).trans rfl
        have x2 : w2.cell? ⟨X, 2, none⟩ = some (.int .i64 y) := (D2.x.cell 2).trans rfl
        have HG2 := hide hg2
        have D2 := hide D2
        clear hu hg2
        go_wp2_with fail
        refine (r9Union _ x y _ n past L _ D2.out.r (by omega)).mono ?_
        rintro e w3 ⟨rfl, hs⟩
        have D3 := hide (D2.out.refs hs)
        clear hs x1 x2
        go_wp2_with fail
        rw [← HG2.out]
        refine (agree9_true _ a2 a3 p2 n _ _ (pastV n past L x y) (unionL n L x y) D3.out.u D3.out.r.ref).mono ?_
        rintro e w8 ⟨rfl, hb8⟩
        have D8 := hide (D3.out.fresh hb8)
        have z1 : w8.cell? ⟨X, 1, none⟩ = some (.int .i64 x) := (D8.out.x.cell 1).trans rfl
        have z2 : w8.cell? ⟨X, 2, none⟩ = some (.int .i64 y) := (D8.out.x.cell 2).trans rfl
        clear hb8
        go_wp2_with fail
        refine (agree9_true _ x y p2 n _ _ (pastV n past L x y) (unionL n L x y) D8.out.u D8.out.r.ref).mono ?_
        rintro e w9 ⟨rfl, hb9⟩
        have D9 := hide (D8.out.fresh hb9)
        clear hb9 z1 z2
        go_wp2_with fail
        go_roundg (m - (k + 1))
        case measure => have := HK.out; omega
        case rel => exact ⟨k + 1, p2, _, (pastV n past L x y), (unionL n L x y), by omega, by go_num, rfl, rfl, D9.out.close⟩
      · by_cases e1 : d = 1
        · subst e1
          by_cases hx : 0 ≤ x ∧ x ≤ past.length
          · obtain ⟨hx0, hx1⟩ := hx
            obtain ⟨x, rfl⟩ := Int.eq_ofNat_of_zero_le hx0
            have hxp : x ≤ past.length := by omega
            go_wp2_with fail
            rw [← HX.out]
            generalize wr.alloc (.cells #[.int .i64 1, .int .i64 (x : Int), .int .i64 y, .slice At mt ct] 53) = w1 at *
            have x1 : w1.cell? ⟨X, 1, none⟩ = some (.int .i64 (x : Int)) := (D1.out.x.cell 1).trans rfl
            clear hx0 hx1
            go_region_held3 (fun w' => w'.cell? ⟨X, 1, none⟩ = some (.int .i64 (x : Int)))
              (first | exact x1 | exact x2 | exact x3)
              (first
                | (go_at_call 17; (refine (undoUndo_ok _ x p n past L (D1.out.drewN 1).u hxp).mono ?_); rintro e w2 ⟨rfl, hu⟩; have D2 := hide ((D1.out.drewN 1).undoB hu); have x2 : w2.cell? ⟨X, 1, none⟩ = some (.int .i64 (x : Int)) := (D2.out.x.cell 1).trans rfl)
                | (go_at_call 27; (refine (r9Undo_ok _ x _ n past L _ D2.out.r hxp (by omega)).mono ?_); rintro e w3 ⟨rfl, hs⟩; have D3 := hide (D2.out.refs hs); have x3 : w3.cell? ⟨X, 1, none⟩ = some (.int .i64 (x : Int)) := (D3.out.x.cell 1).trans rfl))
            clear x1 x2 x3 hs hu D2
            go_wp2_with fail
            refine (agree9_true _ a2 a3 p n _ _ (past.take x) (atL past L x) D3.out.u D3.out.r.ref).mono ?_
            rintro e w8 ⟨rfl, hb8⟩
            have D8 := hide (D3.out.fresh hb8)
            have z1 : w8.cell? ⟨X, 1, none⟩ = some (.int .i64 (x : Int)) := (D8.out.x.cell 1).trans rfl
            have z2 : w8.cell? ⟨X, 2, none⟩ = some (.int .i64 y) := (D8.out.x.cell 2).trans rfl
            clear hb8
            go_wp2_with fail
            refine (agree9_true _ (x : Int) y p n _ _ (past.take x) (atL past L x) D8.out.u D8.out.r.ref).mono ?_
            rintro e w9 ⟨rfl, hb9⟩
            have D9 := hide (D8.out.fresh hb9)
            clear hb9 z1 z2
            go_wp2_with fail
            go_roundg (m - (k + 1))
            case measure => have := HK.out; omega
            case rel => exact ⟨k + 1, p, _, (past.take x), (atL past L x), by omega, by go_num, rfl, rfl, D9.out.close⟩
          · have hx' : x < 0 ∨ (past.length : Int) < x := by omega
            clear hx
            go_wp2_with fail
            rw [← HX.out]
            generalize wr.alloc (.cells #[.int .i64 1, .int .i64 x, .int .i64 y, .slice At mt ct] 53) = w1 at *
            have x1 : w1.cell? ⟨X, 1, none⟩ = some (.int .i64 x) := (D1.out.x.cell 1).trans rfl
            have HXX := hide hx'
            clear hx'
            go_quiet (first | (go_at_call 17; exact quiet_any1 (quiet_eq (undoUndo_no _ x p n past L (D1.out.drewN _).u HXX.out))) | (go_at_call 27; exact quiet_any1 (quiet_eq (r9Undo_no _ x _ n past L _ (D1.out.drewN _).r HXX.out))))
            have D3 := hide (D1.out.drewN nq)
            clear x1
            generalize w1.drewN nq = w3 at *
            go_wp2_with fail
            refine (agree9_true _ a2 a3 p n _ _ past L D3.out.u D3.out.r.ref).mono ?_
            rintro e w8 ⟨rfl, hb8⟩
            have D8 := hide (D3.out.fresh hb8)
            have z1 : w8.cell? ⟨X, 1, none⟩ = some (.int .i64 x) := (D8.out.x.cell 1).trans rfl
            have z2 : w8.cell? ⟨X, 2, none⟩ = some (.int .i64 y) := (D8.out.x.cell 2).trans rfl
            clear hb8
            go_wp2_with fail
            refine (agree9_true _ x y p n _ _ past L D8.out.u D8.out.r.ref).mono ?_
            rintro e w9 ⟨rfl, hb9⟩
            have D9 := hide (D8.out.fresh hb9)
            clear hb9 z1 z2
            go_wp2_with fail
            go_roundg (m - (k + 1))
            case measure => have := HK.out; omega
            case rel => exact ⟨k + 1, p, _, past, L, by omega, by go_num, rfl, rfl, D9.out.close⟩
        · by_cases e2 : d = 2
          · subst e2
            by_cases h60 : 60 < mt
            · go_wp2_with fail
              refine (works9 _).mono ?_
              rintro e w7 ⟨rfl, hb7⟩
              go_wp2_with fail
              go_ret
              exact ⟨rfl, D1.out.b.trans (hb7.mono D1.out.b.size)⟩
            · by_cases hall : allIn n t
              · have hab : ∀ A m c, Value.slice At mt ct = .slice A m c → 0 < m → ∀ ad, A = some ad → ad.block ∉ p.bl := fun A m c e hm ad hA hmem => by
                  obtain ⟨A2, m2, c2, e2, _, _, _, hr2⟩ := HIP.out
                  rw [e] at e2
                  injection e2 with e3 e4 e5
                  subst e3; subst e4
                  obtain ⟨b2, o2, e6, hlt2, _⟩ := hr2.2 hm
                  rw [hA] at e6
                  injection e6 with e6
                  rw [e6] at hmem
                  have := D1.out.f _ hmem
                  simp only at this
                  omega
                have hip1 := HIP.out.below D1.out.b
                have hT := undoTrial_ok _ p n ⟨past, L⟩ _ t D1.out.u hip1 hab hall
                have hrow : rowV n (foldH n t ⟨past, L⟩).L = rowV n (foldU n t L) := by rw [foldH_L]
                rw [hrow] at hT
                obtain ⟨r1, r2, r3, hrv⟩ : ∃ r1 r2 r3 : Int, rowV n (foldU n t L) = .agg #[.int .i64 r1, .int .i64 r2, .int .i64 r3] := ⟨_, _, _, rfl⟩
                have HRV := hide hrv
                rw [hrv] at hT
                have HT := hide hT
                have HALL := hide hall
                have hne := row_neq r1 r2 r3
                clear hab hip1 hT hrow hrv hall
                go_wp2_with fail
                refine HT.out.mono ?_
                rintro e w2 ⟨rfl, hu⟩
                obtain ⟨p2, hg2, D2⟩ := D1.out.undo1 hu
                have HG2 := hide hg2
                have D3 := hide (D2.fresh ((Below.refl _ _).alloc (Nat.le_refl _) (.cells #[.int .i64 r1, .int .i64 r2, .int .i64 r3] 48)))
                have hq := hide (Blk.new w2 48 #[.int .i64 r1, .int .i64 r2, .int .i64 r3])
                have x3 : (w2.alloc (.cells #[.int .i64 r1, .int .i64 r2, .int .i64 r3] 48)).cell? ⟨X, 3, none⟩ = some (.slice At mt ct) := (D3.out.x.cell 3).trans rfl
                rw [HX.out] at x3
                clear hu hg2 D2
                go_wp2_with fail
                refine (r9Trial_ok _ _ n past L _ _ t D3.out.r (HIP.out.below D3.out.b) HLAB.out HALL.out).mono ?_
                rintro e w4 ⟨he4, hb4⟩
                rw [HRV.out] at he4
                subst he4
                have D4 := hide ((D3.out.fresh hb4).fresh ((Below.refl _ _).alloc (Nat.le_refl _) (.cells #[.int .i64 r1, .int .i64 r2, .int .i64 r3] 48)))
                have hq4 := (hq.out.below hb4 hq.out.lt).alloc (.cells #[.int .i64 r1, .int .i64 r2, .int .i64 r3] 48)
                have y0 : (w4.alloc (.cells #[.int .i64 r1, .int .i64 r2, .int .i64 r3] 48)).cell? ⟨w2.heap.size, 0, none⟩ = some (.int .i64 r1) := (hq4.cell 0).trans rfl
                have y1 : (w4.alloc (.cells #[.int .i64 r1, .int .i64 r2, .int .i64 r3] 48)).cell? ⟨w2.heap.size, 1, none⟩ = some (.int .i64 r2) := (hq4.cell 1).trans rfl
                have y2 : (w4.alloc (.cells #[.int .i64 r1, .int .i64 r2, .int .i64 r3] 48)).cell? ⟨w2.heap.size, 2, none⟩ = some (.int .i64 r3) := (hq4.cell 2).trans rfl
                clear hb4 hq4 x3
                go_wp2_with fail
                rw [← HG2.out]
                refine (agree9_true _ a2 a3 p2 n _ _ past L D4.out.u D4.out.r.ref).mono ?_
                rintro e w8 ⟨rfl, hb8⟩
                have D8 := hide (D4.out.fresh hb8)
                have z1 : w8.cell? ⟨wr.heap.size, 1, none⟩ = some (.int .i64 x) := by rw [← HX.out]; exact (D8.out.x.cell 1).trans rfl
                have z2 : w8.cell? ⟨wr.heap.size, 2, none⟩ = some (.int .i64 y) := by rw [← HX.out]; exact (D8.out.x.cell 2).trans rfl
                clear hb8
                go_wp2_with fail
                refine (agree9_true _ x y p2 n _ _ past L D8.out.u D8.out.r.ref).mono ?_
                rintro e w9 ⟨rfl, hb9⟩
                have D9 := hide (D8.out.fresh hb9)
                clear hb9 z1 z2
                go_wp2_with fail
                go_roundg (m - (k + 1))
                case measure => have := HK.out; omega
                case rel => exact ⟨k + 1, p2, _, past, L, by omega, by go_num, rfl, rfl, D9.out.close⟩
              · have hip1 := HIP.out.below D1.out.b
                have HT := hide (undoTrial_no _ p n past L _ t D1.out.u hip1 hall)
                have HALL := hide hall
                have hne := row_neq 0 0 0
                clear hip1 hall
                go_wp2_with fail
                refine HT.out.mono ?_
                rintro e w2 ⟨rfl, hb2⟩
                have D3 := hide ((D1.out.fresh hb2).fresh ((Below.refl _ _).alloc (Nat.le_refl _) (.cells #[.int .i64 0, .int .i64 0, .int .i64 0] 48)))
                have hq := hide (Blk.new w2 48 #[.int .i64 0, .int .i64 0, .int .i64 0])
                have x3 : (w2.alloc (.cells #[.int .i64 0, .int .i64 0, .int .i64 0] 48)).cell? ⟨X, 3, none⟩ = some (.slice At mt ct) := (D3.out.x.cell 3).trans rfl
                rw [HX.out] at x3
                clear hb2
                go_wp2_with fail
                refine (r9Trial_no _ _ n past L _ _ t D3.out.r (HIP.out.below D3.out.b) HALL.out).mono ?_
                rintro e w4 ⟨rfl, hb4⟩
                have D4 := hide ((D3.out.fresh hb4).fresh ((Below.refl _ _).alloc (Nat.le_refl _) (.cells #[.int .i64 0, .int .i64 0, .int .i64 0] 48)))
                have hq4 := (hq.out.below hb4 hq.out.lt).alloc (.cells #[.int .i64 0, .int .i64 0, .int .i64 0] 48)
                have y0 : (w4.alloc (.cells #[.int .i64 0, .int .i64 0, .int .i64 0] 48)).cell? ⟨w2.heap.size, 0, none⟩ = some (.int .i64 0) := (hq4.cell 0).trans rfl
                have y1 : (w4.alloc (.cells #[.int .i64 0, .int .i64 0, .int .i64 0] 48)).cell? ⟨w2.heap.size, 1, none⟩ = some (.int .i64 0) := (hq4.cell 1).trans rfl
                have y2 : (w4.alloc (.cells #[.int .i64 0, .int .i64 0, .int .i64 0] 48)).cell? ⟨w2.heap.size, 2, none⟩ = some (.int .i64 0) := (hq4.cell 2).trans rfl
                clear hb4 hq4 x3
                go_wp2_with fail
                refine (agree9_true _ a2 a3 p n _ _ past L D4.out.u D4.out.r.ref).mono ?_
                rintro e w8 ⟨rfl, hb8⟩
                have D8 := hide (D4.out.fresh hb8)
                have z1 : w8.cell? ⟨wr.heap.size, 1, none⟩ = some (.int .i64 x) := by rw [← HX.out]; exact (D8.out.x.cell 1).trans rfl
                have z2 : w8.cell? ⟨wr.heap.size, 2, none⟩ = some (.int .i64 y) := by rw [← HX.out]; exact (D8.out.x.cell 2).trans rfl
                clear hb8
                go_wp2_with fail
                refine (agree9_true _ x y p n _ _ past L D8.out.u D8.out.r.ref).mono ?_
                rintro e w9 ⟨rfl, hb9⟩
                have D9 := hide (D8.out.fresh hb9)
                clear hb9 z1 z2
                go_wp2_with fail
                go_roundg (m - (k + 1))
                case measure => have := HK.out; omega
                case rel => exact ⟨k + 1, p, _, past, L, by omega, by go_num, rfl, rfl, D9.out.close⟩
          · by_cases e3 : d = 3
            · subst e3
              go_wp2_with fail
              rw [← HX.out]
              generalize wr.alloc (.cells #[.int .i64 3, .int .i64 x, .int .i64 y, .slice At mt ct] 53) = w1 at *
              refine (undoCopy _ p n past L D1.out.u).mono ?_
              rintro e w2 ⟨q, rfl, hu2, hb2, hf2⟩
              go_wp2_with fail
              refine (r9Copy _ _ n past L _ (D1.out.refW hb2) (by omega)).mono ?_
              rintro e w3 ⟨g3, rfl, hr3, hb3⟩
              obtain ⟨D3, hU3⟩ := D1.out.copy hu2 hb2 hf2 hr3 hb3
              have x1 : w3.cell? ⟨X, 1, none⟩ = some (.int .i64 x) := (D3.x.cell 1).trans rfl
              have D3 := hide D3
              have HU3 := hide hU3
              have HF := hide D1.out.f
              have hXp : X ∉ p.bl := (D1.out.d X D1.out.xd).1
              have HXp := hide hXp
              have hWs : W.heap.size ≤ w1.heap.size := D1.out.b.size
              clear hu2 hb2 hf2 hr3 hb3 hU3 D1 hXp
              go_wp2_with fail
              refine (undoUnion _ 0 x p n past L HU3.out).mono ?_
              rintro e w4 ⟨rfl, hu4⟩
              obtain ⟨p4, hU4, hm4, hfr4⟩ := hu4
              have D4 := hide (D3.out.other (D' := [X] ++ p.bl ++ p4.bl) hfr4 (fun b hb => ⟨List.mem_append_right _ hb, HF.out b hb⟩) HXp.out (fun b hb => by
                rcases List.mem_append.1 hb with hb | hb
                · exact .inl hb
                · rcases hm4.bl b hb with h1 | h1
                  · exact .inl (List.mem_append_right _ h1)
                  · exact .inr ⟨h1, hU4.lt b hb⟩) (by simp))
              have x2 : w4.cell? ⟨X, 2, none⟩ = some (.int .i64 y) := (D4.out.x.cell 2).trans rfl
              have HG4 := hide hm4.g
              have HU4 := hide hU4
              have hXp4 : X ∉ p4.bl := fun hm => by
                rcases hm4.bl X hm with h1 | h1
                · exact HXp.out h1
                · have := D3.out.lt; omega
              have HF4 := hide (hm4.from_ HF.out D3.out.b.size)
              have HXp4 := hide hXp4
              clear hfr4 hm4 hU4 x1 hXp4
              go_wp2_with fail
              rw [← HG4.out]
              by_cases hy : 0 ≤ y ∧ y ≤ (pastV n past L 0 x).length
              · obtain ⟨hy0, hy1⟩ := hy
                obtain ⟨y, rfl⟩ := Int.eq_ofNat_of_zero_le hy0
                have hyp : y ≤ (pastV n past L 0 x).length := by omega
                refine (undoUndo_ok _ y p4 n _ _ HU4.out hyp).mono ?_
                rintro e w5 ⟨rfl, hu5⟩
                have D5 := hide (D4.out.other (D' := [X]) hu5.2 (fun b hb => ⟨List.mem_append_right _ hb, HF4.out b hb⟩) HXp4.out (fun b hb => .inl (by rw [List.mem_singleton.1 hb]; simp)) (by simp))
                clear hu5 x2 hy0 hy1
                go_wp2_with fail
                refine (agree9_true _ a2 a3 q n _ _ past L D5.out.u D5.out.r.ref).mono ?_
                rintro e w8 ⟨rfl, hb8⟩
                have D8 := hide (D5.out.fresh hb8)
                have z1 : w8.cell? ⟨X, 1, none⟩ = some (.int .i64 x) := (D8.out.x.cell 1).trans rfl
                have z2 : w8.cell? ⟨X, 2, none⟩ = some (.int .i64 (y : Int)) := (D8.out.x.cell 2).trans rfl
                clear hb8
                go_wp2_with fail
                refine (agree9_true _ x (y : Int) q n _ _ past L D8.out.u D8.out.r.ref).mono ?_
                rintro e w9 ⟨rfl, hb9⟩
                have D9 := hide (D8.out.fresh hb9)
                clear hb9 z1 z2
                go_wp2_with fail
                go_roundg (m - (k + 1))
                case measure => have := HK.out; omega
                case rel => exact ⟨k + 1, q, _, past, L, by omega, by go_num, rfl, rfl, D9.out.close⟩
              · have hy' : y < 0 ∨ ((pastV n past L 0 x).length : Int) < y := by omega
                have HY := hide hy'
                clear hy hy'
                refine (undoUndo_no _ y p4 n _ _ HU4.out HY.out).mono ?_
                rintro e w5 ⟨rfl, rfl⟩
                have D5 := D4
                clear x2
                go_wp2_with fail
                refine (agree9_true _ a2 a3 q n _ _ past L D5.out.u D5.out.r.ref).mono ?_
                rintro e w8 ⟨rfl, hb8⟩
                have D8 := hide (D5.out.fresh hb8)
                have z1 : w8.cell? ⟨X, 1, none⟩ = some (.int .i64 x) := (D8.out.x.cell 1).trans rfl
                have z2 : w8.cell? ⟨X, 2, none⟩ = some (.int .i64 y) := (D8.out.x.cell 2).trans rfl
                clear hb8
                go_wp2_with fail
                refine (agree9_true _ x y q n _ _ past L D8.out.u D8.out.r.ref).mono ?_
                rintro e w9 ⟨rfl, hb9⟩
                have D9 := hide (D8.out.fresh hb9)
                clear hb9 z1 z2
                go_wp2_with fail
                go_roundg (m - (k + 1))
                case measure => have := HK.out; omega
                case rel => exact ⟨k + 1, q, _, past, L, by omega, by go_num, rfl, rfl, D9.out.close⟩
            · go_wp2_with fail
              rw [← HX.out]
              generalize wr.alloc (.cells #[.int .i64 d, .int .i64 x, .int .i64 y, .slice At mt ct] 53) = w1 at *
              refine (agree9_true _ a2 a3 p n _ _ past L D1.out.u D1.out.r.ref).mono ?_
              rintro e w8 ⟨rfl, hb8⟩
              have D8 := hide (D1.out.fresh hb8)
              have z1 : w8.cell? ⟨X, 1, none⟩ = some (.int .i64 x) := (D8.out.x.cell 1).trans rfl
              have z2 : w8.cell? ⟨X, 2, none⟩ = some (.int .i64 y) := (D8.out.x.cell 2).trans rfl
              clear hb8
              go_wp2_with fail
              refine (agree9_true _ x y p n _ _ past L D8.out.u D8.out.r.ref).mono ?_
              rintro e w9 ⟨rfl, hb9⟩
              have D9 := hide (D8.out.fresh hb9)
              clear hb9 z1 z2
              go_wp2_with fail
              go_roundg (m - (k + 1))
              case measure => have := HK.out; omega
              case rel => exact ⟨k + 1, p, _, past, L, by omega, by go_num, rfl, rfl, D9.out.close⟩
    · have hkk : k = m := by omega
      subst hkk
      go_wp2_with fail
      refine (works9 _).mono ?_
      rintro e w7 ⟨rfl, hb7⟩
      go_wp2_with fail
      go_ret
      exact ⟨rfl, HPl.out.2.2.2.trans (hb7.mono HPl.out.2.2.2.size)⟩
end Go.Proofs.Ytdhmjdlkaoflnaa
