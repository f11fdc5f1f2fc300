/- The walk of LatticeDegrees. -/
import Derived.Test.YtbkgnachgpbcpaaLatDei
import Derived.Test.YtbkgnachgpbcpaaLatOW
namespace Go.Proofs.Ytbkgnachgpbcpaa
open Go.RowKit
set_option linter.unusedVariables false

theorem bool_infoL : (Try.prog.info? 4).map (fun i => (i.zero, i.size, i.bytes)) = some (some (.bool false), 1, 1) := by kernel_rfl
theorem int_infoL : (Try.prog.info? 3).map (fun i => (i.zero, i.size, i.bytes)) = some (some (.int .i64 0), 1, 8) := by kernel_rfl

set_option maxRecDepth 100000 in
set_option maxHeartbeats 4000000 in
theorem latticeDegrees_walk (a0 a1 : Int) (a2 a3 a4 : Bool) (W : World) (w0 : (Lit.int .u8 a0).wf = true) (w1 : (Lit.int .u8 a1).wf = true) :
    Calls Try.prog 6 #[.int .u8 a0, .int .u8 a1, .bool a2, .bool a3, .bool a4] W fun e W' => e = .returned (.bool true) ∧ Below W.heap.size W W' := by
  have S := fun W => sides_any a0 a1 W (bounds_u8 w0) (bounds_u8 w1)
  have hw : 1 ≤ a0 % 24 + 1 ∧ a0 % 24 + 1 ≤ 24 := by omega
  have hh : 1 ≤ a1 % 24 + 1 ∧ a1 % 24 + 1 ≤ 24 := by omega
  clear w0 w1
  generalize a0 % 24 + 1 = w at *
  generalize a1 % 24 + 1 = h at *
  have m1 : 1 * 1 ≤ w * h := Int.mul_le_mul hw.1 hh.1 (by omega) (by omega)
  have m2 : w * h ≤ 24 * 24 := Int.mul_le_mul hw.2 hh.2 (by omega) (by omega)
  have hg : gridB w h = true := by simp [gridB]; omega
  have eN : gN w h = w * h := by simp [gN, hg]
  have eE : gE w h = 0 := by simp [gE, hg]
  obtain ⟨n, hn⟩ := Int.eq_ofNat_of_zero_le (show 0 ≤ w * h by omega)
  have hnb : 1 ≤ n ∧ n ≤ 576 := by omega
  have E1 := fun W => either_any w h a2 a3 a4 W
  have LEN := gL_len w h a2 a3 a4
  rw [eN, eE, hn] at E1
  have OPN : a2 = false → a3 = false → ((gL w h a2 a3 (dirsOf a4)).length : Int) = w * (h - 1) + h * (w - 1) + (if a4 then (w - 1) * (h - 1) else 0) := by
    rintro rfl rfl
    obtain ⟨a, rfl⟩ := Int.eq_ofNat_of_zero_le (show 0 ≤ w by omega)
    obtain ⟨b, rfl⟩ := Int.eq_ofNat_of_zero_le (show 0 ≤ h by omega)
    exact gL_open_len a b a4 hg (by omega) (by omega)
  have CLO : a2 = true → a3 = true → 3 ≤ w → 3 ≤ h → ∀ t : Nat, t < n → dn (gL w h a2 a3 (dirsOf a4)) t = if a4 then 6 else 4 := by
    rintro rfl rfl h3 k3 t ht
    exact gL_deg hg h3 k3 (by omega) (by omega)
  generalize hGL : gL w h a2 a3 (dirsOf a4) = L at *
  have STP : ∀ k, k < L.length → ∃ a b : Nat, L[k]? = some ((a : Int), (b : Int), 0) ∧ a < n ∧ b < n ∧ a ≠ b ∧ sn n (L.take k) (a * n + b) = false ∧ sn n (L.take (k + 1)) = updb (updb (sn n (L.take k)) (a * n + b) true) (b * n + a) true ∧
      dn (L.take (k + 1)) = upd (upd (dn (L.take k)) a (dn (L.take k) a + 1)) b (dn (L.take k) b + 1) ∧ dn (L.take k) a < 100000 ∧ dn (L.take k) b < 100000 := fun k hk => by
    obtain ⟨a, b, he, r⟩ := edge_step (n := n) hg hn a2 a3 a4 hGL (k := k) hk
    exact ⟨a, b, by rw [List.getElem?_eq_getElem hk, he], r⟩
  have p1 : 0 ≤ w * (h - 1) := Int.mul_nonneg (by omega) (by omega)
  have p2 : w * (h - 1) ≤ 24 * 24 := Int.mul_le_mul (by omega) (by omega) (by omega) (by omega)
  have p3 : 0 ≤ h * (w - 1) := Int.mul_nonneg (by omega) (by omega)
  have p4 : h * (w - 1) ≤ 24 * 24 := Int.mul_le_mul (by omega) (by omega) (by omega) (by omega)
  have p5 : 0 ≤ (w - 1) * (h - 1) := Int.mul_nonneg (by omega) (by omega)
  have p6 : (w - 1) * (h - 1) ≤ 24 * 24 := Int.mul_le_mul (by omega) (by omega) (by omega) (by omega)
  have enn : ((n : Int)) * (n : Int) = ((n * n : Nat) : Int) := by push_cast; rfl
  have bnn : n * n ≤ 576 * 576 := Nat.mul_le_mul hnb.2 hnb.2
  obtain ⟨i0, hi, hz0, hz1, hz2⟩ := info_parts bool_infoL
  have hmk := fun W => run_make_bools 34 4 i0 Try.underlying34 hi hz0 hz1 hz2 (n * n) (by omega) W
  clear hi hz0 hz1 hz2
  obtain ⟨i1, hi, hz0, hz1, hz2⟩ := info_parts int_infoL
  have hmi := fun W => run_make_ints 35 3 i1 Try.underlying35 hi hz0 hz1 hz2 n (by omega) W
  clear hi hz0 hz1 hz2
  generalize hq : n * n = nn at *
  have HQ := hide hq
  have HS := hide S
  have HE1 := hide E1
  have HST := hide STP
  have HL := hide LEN
  have HO := hide OPN
  have HC := hide CLO
  clear S E1 STP LEN OPN CLO hg eN eE hGL hq m1 m2
  go_enter Try.func6, Try.ntmps6
  go_wp2_with fail
  refine (HS.out _).mono ?_
  rintro e w1 ⟨rfl, rfl⟩
  go_wp2_with fail
  refine (HE1.out _).mono ?_
  rintro e w1 ⟨V, rfl, ho1, hb1⟩
  obtain ⟨A1, c1, rfl, hr1⟩ := ho1.form
  have HR1 := hide hr1
  have HB1 := hide hb1
  have hsz := hb1.size
  clear hr1 ho1 hb1
  generalize hN : L.length = N at *
  have hNb : N ≤ 12288 := by have := HL.out; omega
  have HN := hide hN
  clear hN
  go_wp2_with fail
  have hk0 : Blk ((w1.alloc (.cells (arb nn fun _ => false) 4)).alloc (.cells (arr n fun _ => 0) 3)) w1.heap.size 4 (arb nn fun _ => false) := (Blk.new _ _ _).alloc _
  have hd0 : Blk ((w1.alloc (.cells (arb nn fun _ => false) 4)).alloc (.cells (arr n fun _ => 0) 3)) (w1.heap.size + 1) 3 (arr n fun _ => 0) := by
    have := Blk.new (w1.alloc (.cells (arb nn fun _ => false) 4)) 3 (arr n fun _ => 0)
    rwa [show (w1.alloc (.cells (arb nn fun _ => false) 4)).heap.size = w1.heap.size + 1 from Array.size_push _] at this
  have hb0 : Below w1.heap.size w1 ((w1.alloc (.cells (arb nn fun _ => false) 4)).alloc (.cells (arr n fun _ => 0) 3)) := ((Below.refl _ _).alloc (Nat.le_refl _) _).alloc (by show _ ≤ (w1.heap.push _).size; rw [Array.size_push]; omega) _
  have HK0 := hide hk0
  have HD0 := hide hd0
  have HB0 := hide hb0
  clear hk0 hd0 hb0 hmk hmi
  generalize (w1.alloc (.cells (arb nn fun _ => false) 4)).alloc (.cells (arr n fun _ => 0) 3) = w2 at *
  generalize hgs : w1.heap.size = g at *
  have HGS := hide hgs
  clear hgs
  go_loopg [18] N (fun q i wr => ∃ k : Nat, k + q = N ∧ i = .int .i64 (k : Int) ∧ Blk wr g 4 (arb nn (sn n (L.take k))) ∧ Blk wr (g + 1) 3 (arr n (dn (L.take k))) ∧ Below g w1 wr)
  case atStart => exact ⟨0, by omega, rfl, HK0.out, HD0.out, HB0.out⟩
  case round =>
    obtain ⟨k, hk, rfl, hkb, hdb, hb⟩ := hrel
    have HK := hide hk
    have hkn : k ≤ N := by omega
    have HKB := hide hkb
    have HDB := hide hdb
    have HB := hide hb
    clear hk hkb hdb hb
    by_cases hlt : k < N
    · obtain ⟨b', o, rfl, hblt, c0, c1, c2⟩ := HR1.out.edge k (by have := HN.out; omega) HN.out
      obtain ⟨a, b, hLk, han, hbn, hab, hfr, hsn, hdn, hda, hdb⟩ := HST.out k hlt
      have hLk' : L[k]'(by have := HN.out; omega) = ((a : Int), (b : Int), 0) := by
        have := List.getElem?_eq_getElem (l := L) (i := k) (by have := HN.out; omega)
        rw [this] at hLk
        exact Option.some.inj hLk
      rw [hLk'] at c0 c1 c2
      have d0 : wr.cell? ⟨b', o + k * 3, none⟩ = some (.int .i64 (a : Int)) := (HB.out.cell (p := ⟨b', o + k * 3, none⟩) (by have := HGS.out; show b' < g; omega)).trans c0
      have d1 : wr.cell? ⟨b', o + k * 3 + 1, none⟩ = some (.int .i64 (b : Int)) := (HB.out.cell (p := ⟨b', o + k * 3 + 1, none⟩) (by have := HGS.out; show b' < g; omega)).trans c1
      have d2 : wr.cell? ⟨b', o + k * 3 + 2, none⟩ = some (.int .i64 0) := (HB.out.cell (p := ⟨b', o + k * 3 + 2, none⟩) (by have := HGS.out; show b' < g; omega)).trans c2
      clear c0 c1 c2 hLk hLk' hblt
      have hx : a * n + b < nn := by
        have := Nat.mul_le_mul_right n (show a + 1 ≤ n by omega)
        rw [Nat.succ_mul] at this
        have := HQ.out; omega
      have hy : b * n + a < nn := by
        have := Nat.mul_le_mul_right n (show b + 1 ≤ n by omega)
        rw [Nat.succ_mul] at this
        have := HQ.out; omega
      have ea : (a : Int) * (n : Int) = ((a * n : Nat) : Int) := by push_cast; rfl
      have eb : (b : Int) * (n : Int) = ((b * n : Nat) : Int) := by push_cast; rfl
      have eab : ((a * n : Nat) : Int) + (b : Int) = ((a * n + b : Nat) : Int) := by push_cast; rfl
      have eba : ((b * n : Nat) : Int) + (a : Int) = ((b * n + a : Nat) : Int) := by push_cast; rfl
      have hA : a * n ≤ 400000 := by omega
      have hB' : b * n ≤ 400000 := by omega
      have hne : ((a : Int) == (b : Int)) = false := beq_nat_false hab
      generalize sn n (L.take k) = F at *
      generalize dn (L.take k) = D at *
      generalize a * n + b = x at *
      generalize b * n + a = y at *
      generalize a * n = p at *
      generalize b * n = p' at *
      have hd2 : ∀ q, (wr.drewN q).cell? ⟨b', o + k * 3 + 2, none⟩ = some (.int .i64 0) := fun q => d2
      have HX2 := hide hd2
      have HFR := hide hfr
      have HSN := hide hsn
      have HDN := hide hdn
      clear hd2 hfr hsn hdn d2
      go_wp2_with fail
      go_quiet (fail)
      have HKB := hide (HKB.out.drewN nq)
      have HDB := hide (HDB.out.drewN nq)
      have HB := hide (HB.out.drewN nq)
      have d2 := HX2.out nq
      have hfr := HFR.out
      have hsn := HSN.out
      have hdn := HDN.out
      clear HX2 HFR HSN HDN d0 d1
      generalize wr.drewN nq = wq at *
      have cx := HKB.out.bool hx
      rw [hfr] at cx
      have fx := HKB.out.frozen x
      have k1 := HKB.out.setBool x true
      have fy := k1.frozen y
      have cy := k1.bool hy
      have k2 := k1.setBool y true
      have e1 := HDB.out.far (p := ⟨g, x, none⟩) (by show g + 1 ≠ g; omega) (.bool true)
      have e2 := e1.far (p := ⟨g, y, none⟩) (by show g + 1 ≠ g; omega) (.bool true)
      have ca := e2.int han
      have fa := e2.frozen a
      have e3 := e2.setInt a (D a + 1)
      have cb := e3.int hbn
      rw [upd_other D (D a + 1) (Ne.symm hab)] at cb
      have fb := e3.frozen b
      have e4 := e3.setInt b (D b + 1)
      have k3 := k2.far (p := ⟨g + 1, a, none⟩) (by show g ≠ g + 1; omega) (.int .i64 ((D a + 1 : Nat) : Int))
      have k4 := k3.far (p := ⟨g + 1, b, none⟩) (by show g ≠ g + 1; omega) (.int .i64 ((D b + 1 : Nat) : Int))
      rw [← hsn] at k4
      rw [← hdn] at e4
      have hb4 := (((HB.out.setCell (p := ⟨g, x, none⟩) (Nat.le_refl _) (.bool true)).setCell (p := ⟨g, y, none⟩) (Nat.le_refl _) (.bool true)).setCell (p := ⟨g + 1, a, none⟩) (Nat.le_succ _) (.int .i64 ((D a + 1 : Nat) : Int))).setCell (p := ⟨g + 1, b, none⟩) (Nat.le_succ _) (.int .i64 ((D b + 1 : Nat) : Int))
      generalize D a = da at *
      generalize D b = db at *
      have HX := hide (And.intro k4 (And.intro e4 hb4))
      clear k1 k2 k3 k4 e1 e2 e3 e4 hb4 hsn hdn hfr hab
      simp only [Int.natCast_add, Int.natCast_one] at cb fb
      go_wp2_with fail
      go_roundg (N - (k + 1))
      case measure => have := HK.out; omega
      case rel => exact ⟨k + 1, by omega, by go_num, HX.out.1, HX.out.2.1, HX.out.2.2⟩
    · have hkk : k = N := by omega
      subst hkk
      have hfin : L.take k = L := List.take_of_length_le (by have := HN.out; omega)
      rw [hfin] at HDB
      have hbW : Below W.heap.size W wr := HB1.out.trans (HB.out.mono (by have := HGS.out; omega))
      have HBW := hide hbW
      have hgr := hbW.size
      clear hbW HK HKB hfin HK0 HD0 HB0 HR1 HST HB HB1
      clear HQ HS HGS
      cases a2
      · cases a3
        · have hO := HO.out rfl rfl
          cases a4
          · simp only [Bool.false_eq_true, if_false, Int.add_zero] at hO
            obtain ⟨q1, e1⟩ : ∃ q, w * (h - 1) = q := ⟨_, rfl⟩
            obtain ⟨q2, e2⟩ : ∃ q, h * (w - 1) = q := ⟨_, rfl⟩
            obtain ⟨q3, e3⟩ : ∃ q, (w - 1) * (h - 1) = q := ⟨_, rfl⟩
            rw [e1] at p1 p2
            rw [e2] at p3 p4
            rw [e3] at p5 p6
            rw [e1, e2] at hO
            have hO' : ((k : Int) == q1 + q2) = true := by rw [beq_iff_eq]; have := HN.out; omega
            clear hO
            go_wp2_with fail
            refine (works_any _).mono ?_
            rintro e w6 ⟨rfl, hb6⟩
            go_wp2_with fail
            go_ret
            exact ⟨rfl, HBW.out.trans (hb6.mono hgr)⟩
          · simp only [if_true] at hO
            obtain ⟨q1, e1⟩ : ∃ q, w * (h - 1) = q := ⟨_, rfl⟩
            obtain ⟨q2, e2⟩ : ∃ q, h * (w - 1) = q := ⟨_, rfl⟩
            obtain ⟨q3, e3⟩ : ∃ q, (w - 1) * (h - 1) = q := ⟨_, rfl⟩
            rw [e1] at p1 p2
            rw [e2] at p3 p4
            rw [e3] at p5 p6
            rw [e1, e2, e3] at hO
            have hO' : ((k : Int) == q1 + q2 + q3) = true := by rw [beq_iff_eq]; have := HN.out; omega
            clear hO
            go_wp2_with fail
            refine (works_any _).mono ?_
            rintro e w6 ⟨rfl, hb6⟩
            go_wp2_with fail
            go_ret
            exact ⟨rfl, HBW.out.trans (hb6.mono hgr)⟩
        · go_wp2_with fail
          refine (works_any _).mono ?_
          rintro e w6 ⟨rfl, hb6⟩
          go_wp2_with fail
          go_ret
          exact ⟨rfl, HBW.out.trans (hb6.mono hgr)⟩
      · cases a3
        · go_wp2_with fail
          refine (works_any _).mono ?_
          rintro e w6 ⟨rfl, hb6⟩
          go_wp2_with fail
          go_ret
          exact ⟨rfl, HBW.out.trans (hb6.mono hgr)⟩
        · by_cases h3 : 3 ≤ w
          · by_cases k3 : 3 ≤ h
            · cases a4
              · have CL : ∀ t : Nat, t < n → wr.cell? ⟨g + 1, t, none⟩ = some (.int .i64 4) := fun t ht => by
                  have c := HC.out rfl rfl h3 k3 t ht
                  have := HDB.out.int ht
                  rw [c] at this
                  exact this
                have HCL := hide CL
                clear CL
                go_wp2_with fail
                go_loopg [23] n (fun q v wt => ∃ t : Nat, t + q = n ∧ v = .int .i64 (t : Int) ∧ wt = wr)
                case atStart => exact ⟨0, by omega, rfl, rfl⟩
                case round =>
                  obtain ⟨t, ht, rfl, rfl⟩ := hrel
                  have HT := hide ht
                  have htn : t ≤ n := by omega
                  clear ht
                  by_cases hlt2 : t < n
                  · have ct := HCL.out t hlt2
                    go_wp2_with fail
                    go_roundg (n - (t + 1))
                    case measure => have := HT.out; omega
                    case rel => exact ⟨t + 1, by omega, by go_num, rfl⟩
                  · have htt : t = n := by omega
                    subst htt
                    go_wp2_with fail
                    refine (works_any _).mono ?_
                    rintro e w6 ⟨rfl, hb6⟩
                    go_wp2_with fail
                    go_ret
                    exact ⟨rfl, HBW.out.trans (hb6.mono hgr)⟩
              · have CL : ∀ t : Nat, t < n → wr.cell? ⟨g + 1, t, none⟩ = some (.int .i64 6) := fun t ht => by
                  have c := HC.out rfl rfl h3 k3 t ht
                  have := HDB.out.int ht
                  rw [c] at this
                  exact this
                have HCL := hide CL
                clear CL
                go_wp2_with fail
                go_loopg [23] n (fun q v wt => ∃ t : Nat, t + q = n ∧ v = .int .i64 (t : Int) ∧ wt = wr)
                case atStart => exact ⟨0, by omega, rfl, rfl⟩
                case round =>
                  obtain ⟨t, ht, rfl, rfl⟩ := hrel
                  have HT := hide ht
                  have htn : t ≤ n := by omega
                  clear ht
                  by_cases hlt2 : t < n
                  · have ct := HCL.out t hlt2
                    go_wp2_with fail
                    go_roundg (n - (t + 1))
                    case measure => have := HT.out; omega
                    case rel => exact ⟨t + 1, by omega, by go_num, rfl⟩
                  · have htt : t = n := by omega
                    subst htt
                    go_wp2_with fail
                    refine (works_any _).mono ?_
                    rintro e w6 ⟨rfl, hb6⟩
                    go_wp2_with fail
                    go_ret
                    exact ⟨rfl, HBW.out.trans (hb6.mono hgr)⟩
            · go_wp2_with fail
              refine (works_any _).mono ?_
              rintro e w6 ⟨rfl, hb6⟩
              go_wp2_with fail
              go_ret
              exact ⟨rfl, HBW.out.trans (hb6.mono hgr)⟩
          · go_wp2_with fail
            refine (works_any _).mono ?_
            rintro e w6 ⟨rfl, hb6⟩
            go_wp2_with fail
            go_ret
            exact ⟨rfl, HBW.out.trans (hb6.mono hgr)⟩
end Go.Proofs.Ytbkgnachgpbcpaa
