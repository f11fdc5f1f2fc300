/- The walk of WrappingSpan. -/
import Derived.Test.YtohhbepfpmbnkaaWrapSp
namespace Go.Proofs.Ytohhbepfpmbnkaa
open Go.RowKit
set_option linter.unusedVariables false

/-- append of two edges that have just been laid into a block of their own. -/
theorem app_edge2 {ops : Array Oper} {rest : List Oper} {o : Oper} {a : Act} {Q : Exit → Act → World → Prop} (w : World) (u1 v1 t1 u2 v2 t2 : Int) (hgd : o.guard = none) (s x : Operand)
    (ho : o.op = .call { callee := .builtin .append, args := #[s, x], argTypes := #[22, 22] })
    (B : Nat) (V : Value) (l : List (Int × Int × Int)) (hs : a.eval s = V) (hown : OwnE w B V l) (hx : a.eval x = .slice (some ⟨w.heap.size, 0, none⟩) 2 2)
    (hb : l.length ≤ 1000000) (hB : B ≤ w.heap.size)
    (h : ∀ v' w', OwnE w' B v' (l ++ [(u1, v1, t1), (u2, v2, t2)]) → Below B w w' → wpList Try.prog ops Q rest (a.put o.dst v') w') :
    wpList Try.prog ops Q (o :: rest) a (w.alloc (.cells #[.int .i64 u1, .int .i64 v1, .int .i64 t1, .int .i64 u2, .int .i64 v2, .int .i64 t2] 52)) := by
  obtain ⟨i0, hi, hz0, hz1, hz2⟩ := info_parts edge_info
  refine app_any2 22 52 Try.underlying22 hi hz0 hz1 hz2 rfl (by decide) _ (some ⟨w.heap.size, 0, none⟩) 2 2 (ecs [(u1, v1, t1), (u2, v2, t2)]) (Rd.lit w #[.int .i64 u1, .int .i64 v1, .int .i64 t1, .int .i64 u2, .int .i64 v2, .int .i64 t2] 52 2 3 rfl)
    (ecs_oneCell _) hgd s x ho B V l.length (ecs l) hs (World.ownsRow.alloc hown _) hx (by unfold maxLen; omega) (by omega) (by simp; omega) ?_
  intro v' w' h2 h3 h4 h5 h6
  refine h v' w' ?_ (((Below.refl B w).alloc hB _).trans h6)
  show w'.ownsRow B 52 3 v' (l ++ [(u1, v1, t1), (u2, v2, t2)]).length _
  rw [List.length_append, ecs_append]; exact h2

set_option maxRecDepth 100000 in
set_option maxHeartbeats 8000000 in
theorem wrappingSpan_walk (a0 a1 : Int) (v2 : Value) (l2 : List Int) (W : World) (w0 : (Lit.int .u8 a0).wf = true) (w1 : (Lit.int .u8 a1).wf = true) (w2 : IsInts .u16 W v2 l2) :
    Calls Try.prog 16 #[.int .u8 a0, .int .u8 a1, v2] W fun e W' => e = .returned (.bool true) ∧ Below W.heap.size W W' := by
  obtain ⟨X, Y, n, hX1, hX2, hY1, hY2, hn, -, hn1, hn2, hXY, -, htor, -, SZ⟩ := start30 a0 a1 w0 w1
  obtain ⟨l, hl⟩ := ints_u16 w2
  have hEl := edg_in (N := 2 * n) (by omega) true l
  have E1 := fun w h => edges_any w n v2 l true h hn1 (by omega)
  generalize edg (2 * n) true l = F at *
  have hF := hEl.1
  have hlen : F.length ≤ 300 := hEl.2.1
  have OK1 := opL_ok hX1 hn hF
  have hOl := opL_len X Y F
  have OK2 := cap_ok (Y := Y) hX1 hn OK1
  have N1 := newE_ok (n := n) (by omega) (by omega) OK1
  have N2 := newE_ok (n := n + 2) (by omega) (by rw [List.length_append, capL_len]; omega) OK2
  have LAW := span_law hX1 hY1 hn OK1
  have S1 := fun w m c A hr ll => wrSpans_ok w X Y n m c A (opL X Y F) htor hn hr ll N1
  have G1 := fun w m c A hr ll => graNew_ok w (n + 2) m c A (opL X Y F ++ capL X n Y) hr ll N2
  have hFI := fun y (hy : y < Y) => first_in hX1 hy
  rw [← hn] at hFI
  have HSZ := hide SZ
  have HE1 := hide E1
  have HS1 := hide S1
  have HG1 := hide G1
  have HLAW := hide LAW
  have HLU := hide hl
  have HF := hide hF
  have HFI := hide hFI
  have HNE := hide hn
  have HOL := hide hOl
  clear SZ E1 S1 G1 LAW hl hF hFI N1 N2 OK1 OK2 hEl htor w0 w1 w2 hn hOl
  go_enter Try.func16, Try.ntmps16
  go_wp2_with fail
  refine (HSZ.out _).mono ?_
  rintro e w1 ⟨rfl, rfl⟩
  go_wp2_with fail
  refine (HE1.out _ HLU.out).mono ?_
  rintro e w1 ⟨A1, c1, rfl, ho1, hb1⟩
  have HR1 := hide (own_rd ho1)
  have HB1 := hide hb1
  clear ho1 hb1 HE1
  generalize hB0 : w1.heap.size = B0 at *
  have hWB : W.heap.size ≤ B0 := by rw [← hB0]; exact HB1.out.size
  have HB0 := hide hB0
  clear hB0
  generalize hm : F.length = m at *
  have HM := hide hm
  clear hm
  go_wp2_with fail
  go_loopg [11, 12] m (fun q V v wr => ∃ k : Nat, k + q = m ∧ v = .int .i64 (k : Int) ∧ OwnE wr B0 V (opL X Y (F.take k)) ∧ Below B0 w1 wr)
  case atStart => exact ⟨0, by omega, rfl, by simpa [opL] using OwnE.nil _ _, by rw [← HB0.out]; exact Below.refl _ _⟩
  case round =>
    obtain ⟨k, hk, rfl, ho, hb⟩ := hrel
    have HK := hide hk
    have hkm : k ≤ m := by omega
    have HO := hide ho
    have HB := hide hb
    clear hk ho hb
    by_cases hlt : k < m
    · have hkl : k < F.length := by rw [HM.out]; exact hlt
      obtain ⟨b, o, rfl, hblt0, cl0⟩ := HR1.out.nat k hkl HM.out
      have hblt : b < B0 := by rw [← HB0.out]; exact hblt0
      have cl : wr.cell? ⟨b, o + k, none⟩ = some (.int .i64 (F[k] : Int)) := (HB.out.cell (p := ⟨b, o + k, none⟩) hblt).trans cl0
      clear cl0 hblt0
      have hx := HF.out F[k] (List.getElem_mem hkl)
      have hol := opL_len X Y (F.take k)
      have hol2 : (opL X Y (F.take k)).length ≤ 1000000 := by rw [List.length_take] at hol; omega
      have HST : Hid (opL X Y (F.take (k + 1)) = opL X Y (F.take k) ++ opE X Y F[k]) := by
        show _ = _
        rw [List.take_succ_eq_append_getElem hkl, opL_snoc]
      generalize F[k] = e at *
      generalize opL X Y (F.take k) = O at *
      have hsz : B0 ≤ wr.heap.size := by have := HB.out.size; rw [HB0.out] at this; exact this
      obtain ⟨v, hve⟩ : ∃ v, v = e / 2 := ⟨_, rfl⟩
      obtain ⟨d, hde⟩ : ∃ d, d = e % 2 := ⟨_, rfl⟩
      obtain ⟨x, hxe⟩ : ∃ x, x = v % X := ⟨_, rfl⟩
      obtain ⟨y, hye⟩ : ∃ y, y = v / X := ⟨_, rfl⟩
      have hvn : v < n := by omega
      have hd2 : d < 2 := by omega
      have hxX : x < X := by rw [hxe]; exact Nat.mod_lt _ hX1
      have hyv : y ≤ v := by rw [hye]; exact Nat.div_le_self _ _
      have q1 : (e : Int) / 2 = (v : Int) := by rw [hve]; push_cast; rfl
      have q2 : (v : Int) % (X : Int) = (x : Int) := by rw [hxe]; push_cast; rfl
      have q3 : (v : Int) / (X : Int) = (y : Int) := by rw [hye]; push_cast; rfl
      have q4 : (e : Int) % 2 = (d : Int) := by rw [hde]; push_cast; rfl
      have t1 : (e : Int).tdiv 2 = (v : Int) := by rw [Int.tdiv_eq_ediv_of_nonneg (by omega)]; exact q1
      have t2 : (v : Int).tmod (X : Int) = (x : Int) := by rw [Int.tmod_eq_emod_of_nonneg (by omega)]; exact q2
      have t3 : (v : Int).tdiv (X : Int) = (y : Int) := by rw [Int.tdiv_eq_ediv_of_nonneg (by omega)]; exact q3
      have t4 : (e : Int).tmod 2 = (d : Int) := by rw [Int.tmod_eq_emod_of_nonneg (by omega)]; exact q4
      have i1 : IntKind.i64.wrap (v : Int) = v := IntWalk.i64_in _ (by omega)
      have i2 : IntKind.i64.wrap (x : Int) = x := IntWalk.i64_in _ (by omega)
      have i3 : IntKind.i64.wrap (y : Int) = y := IntWalk.i64_in _ (by omega)
      have i4 : IntKind.i64.wrap (d : Int) = d := IntWalk.i64_in _ (by omega)
      have hWne2 : ¬ X = 0 := by omega
      have HOP : Hid (opE X Y e = if d = 0 then if x + 1 < X then [((v : Int), ((v + 1 : Nat) : Int), 0)] else [] else if y + 1 < Y then [(((v + X : Nat) : Int), (v : Int), 0)] else []) := by
        show _ = _
        unfold opE
        rw [hxe, hye, hde, hve]
      clear hve hde hxe hye
      have hd3 : d = 0 ∨ d = 1 := by omega
      rcases hd3 with rfl | rfl
      · by_cases hc : x + 1 < X
        · have HST2 : Hid (opL X Y (F.take (k + 1)) = O ++ [((v : Int), (v : Int) + 1, 0)]) := by
            show _ = _
            rw [HST.out, HOP.out, if_pos rfl, if_pos hc]; push_cast; rfl
          go_wp2_with (first | (at_builtin; go_loud (refine app_edge' wr (v : Int) ((v : Int) + 1) 0 rfl (.tmp 57) (.tmp 62) rfl B0 _ O rfl HO.out rfl hol2 hsz ?_; intro V' w5 ho5 hg5 hat5 hb5; have HO5 := hide ho5; have HB5 := hide (HB.out.trans hb5); have cl5 := (hb5.cell (p := ⟨b, o + k, none⟩) hblt).trans cl; clear ho5 hg5 hat5 hb5)))
          go_roundg (m - (k + 1))
          case measure => have := HK.out; omega
          case rel => exact ⟨k + 1, by omega, by go_num, by rw [HST2.out]; exact HO5.out, HB5.out⟩
        · have HST2 : Hid (opL X Y (F.take (k + 1)) = O) := by
            show _ = _
            rw [HST.out, HOP.out, if_pos rfl, if_neg hc]; simp
          go_wp2_with fail
          go_roundg (m - (k + 1))
          case measure => have := HK.out; omega
          case rel => exact ⟨k + 1, by omega, by go_num, by rw [HST2.out]; exact HO.out, HB.out⟩
      · by_cases hc : y + 1 < Y
        · have HST2 : Hid (opL X Y (F.take (k + 1)) = O ++ [((v : Int) + (X : Int), (v : Int), 0)]) := by
            show _ = _
            rw [HST.out, HOP.out, if_neg (by decide), if_pos hc]; push_cast; rfl
          go_wp2_with (first | (at_builtin; go_loud (refine app_edge' wr ((v : Int) + (X : Int)) (v : Int) 0 rfl (.tmp 78) (.tmp 84) rfl B0 _ O rfl HO.out rfl hol2 hsz ?_; intro V' w5 ho5 hg5 hat5 hb5; have HO5 := hide ho5; have HB5 := hide (HB.out.trans hb5); have cl5 := (hb5.cell (p := ⟨b, o + k, none⟩) hblt).trans cl; clear ho5 hg5 hat5 hb5)))
          go_roundg (m - (k + 1))
          case measure => have := HK.out; omega
          case rel => exact ⟨k + 1, by omega, by go_num, by rw [HST2.out]; exact HO5.out, HB5.out⟩
        · have HST2 : Hid (opL X Y (F.take (k + 1)) = O) := by
            show _ = _
            rw [HST.out, HOP.out, if_neg (by decide), if_neg hc]; simp
          go_wp2_with fail
          go_roundg (m - (k + 1))
          case measure => have := HK.out; omega
          case rel => exact ⟨k + 1, by omega, by go_num, by rw [HST2.out]; exact HO.out, HB.out⟩
    · obtain rfl : k = m := by omega
      have htk : F.take k = F := List.take_of_length_le (by rw [HM.out]; exact Nat.le_refl _)
      have hO := HO.out
      rw [htk] at hO
      obtain ⟨A2, c2, rfl, hr2⟩ := hO.form
      have HO2 := hide hO
      have HR2 := hide hr2
      have hOL := HOL.out
      have HWB := hide (HB1.out.trans (HB.out.mono hWB))
      have hsz : B0 ≤ wr.heap.size := by have := HB.out.size; rw [HB0.out] at this; exact this
      generalize hOO : opL X Y F = O at *
      clear hOO
      generalize hq : O.length = q at *
      have HQ := hide hq
      clear hO hr2 htk hq HO HB hkm hlt HK hXY
      have hXY2 : (X : Int) * (Y : Int) = (n : Int) := by rw [HNE.out]; push_cast; rfl
      go_wp2_with fail
      refine (HS1.out _ q c2 A2 HR2.out rfl).mono ?_
      rintro e w3 ⟨rfl, hb3⟩
      have HO3 := hide (HO2.out.kept hb3)
      have HWB3 := hide (HWB.out.trans (hb3.mono HWB.out.size))
      have hsz3 := Nat.le_trans hsz hb3.size
      clear hb3 HR2 HO2 HWB
      go_wp2_with fail
      go_loopg [11, 16] Y (fun g V v wr => ∃ r : Nat, r + g = Y ∧ v = .int .i64 (r : Int) ∧ OwnE wr B0 V (O ++ capL X n r) ∧ Below W.heap.size W wr ∧ B0 ≤ wr.heap.size)
      case atStart => exact ⟨0, by omega, rfl, by unfold OwnE; rw [show (O ++ capL X n 0) = O by simp [capL]]; have h := HO3.out; unfold OwnE at h; rw [HQ.out] at h ⊢; exact h, HWB3.out, hsz3⟩
      case round =>
        obtain ⟨r, hr, rfl, ho, hb, hsz4⟩ := hrel
        have HR := hide hr
        have hrY : r ≤ Y := by omega
        have HO := hide ho
        have HB := hide hb
        clear hr ho hb HO3 HWB3
        by_cases hlt : r < Y
        · have hf := HFI.out r hlt
          obtain ⟨hf1, hf2⟩ := hf
          have hCS : Hid (O ++ capL X n (r + 1) = (O ++ capL X n r) ++ [((n : Int), ((r * X : Nat) : Int), 0), ((n : Int) + 1, ((r * X : Nat) : Int) + (X : Int) - 1, 0)]) := by
            show _ = _
            rw [capL_succ, List.append_assoc]
            have e1 : ((n + 1 : Nat) : Int) = (n : Int) + 1 := by push_cast; rfl
            have e2 : ((r * X + (X - 1) : Nat) : Int) = ((r * X : Nat) : Int) + (X : Int) - 1 := by omega
            rw [e1, e2]
          have hlb : (O ++ capL X n r).length ≤ 1000000 := by rw [List.length_append, capL_len, HQ.out]; omega
          have hrX : (r : Int) * (X : Int) = ((r * X : Nat) : Int) := by push_cast; rfl
          generalize O ++ capL X n r = C at *
          generalize r * X = a at *
          go_wp2_with (first | (at_builtin; go_loud (refine app_edge2 wr (n : Int) (a : Int) 0 ((n : Int) + 1) ((a : Int) + (X : Int) - 1) 0 rfl (.tmp 98) (.tmp 113) rfl B0 _ C rfl HO.out rfl hlb hsz4 ?_; intro V' w5 ho5 hb5; have HO5 := hide ho5; have HB5 := hide hb5; clear ho5 hb5)))
          clear hrX
          go_roundg (Y - (r + 1))
          case measure => have := HR.out; omega
          case rel => exact ⟨r + 1, by omega, by go_num, by rw [hCS.out]; exact HO5.out, HB.out.trans (HB5.out.mono hWB), Nat.le_trans hsz4 HB5.out.size⟩
        · obtain rfl : r = Y := by omega
          obtain ⟨A5, c5, rfl, hr5⟩ := HO.out.form
          have HR5 := hide hr5
          clear hr5
          generalize hq5 : (O ++ capL X n r).length = q5 at *
          have HQ5 := hide hq5
          clear hq5
          go_wp2_with fail
          have G2 := HG1.out wr q5 c5 A5 HR5.out rfl
          rw [show ((n + 2 : Nat) : Int) = (n : Int) + 2 by push_cast; rfl] at G2
          refine G2.mono ?_
          clear G2
          rintro e w6 ⟨p, rfl, hG, hb6⟩
          have HL6 := hide (graLabels w6 p (n + 2) _ _ hG)
          have HB6 := hide (HB.out.trans (hb6.mono HB.out.size))
          clear hG hb6
          go_wp2_with fail
          refine HL6.out.mono ?_
          rintro e w7 ⟨b7, rfl, hb7, hge7, hB7⟩
          have x1 := hb7.int (i := n) (by omega)
          have x2 := hb7.int (i := n + 1) (by omega)
          have hlt7 := hb7.lt
          have HB7 := hide (HB6.out.trans (hB7.mono HB6.out.size))
          clear hb7 hge7 hB7 HL6
          have hlaw : (spanB X r (gLb n O) == (gLb (n + 2) (O ++ capL X n r) n == gLb (n + 2) (O ++ capL X n r) (n + 1))) = true := by
            rw [beq_iff_eq, Bool.eq_iff_iff, beq_iff_eq]; exact HLAW.out
          generalize spanB X r (gLb n O) = sb at *
          generalize gLb (n + 2) (O ++ capL X n r) n = la at *
          generalize gLb (n + 2) (O ++ capL X n r) (n + 1) = lb at *
          have hlw := beq_iff_eq.1 hlaw
          clear hlaw
          generalize hNN : n + 2 = N2 at *
          have hl1 : ((N2 : Int) == (n : Int) + 2) = true := by simp; omega
          have hl3 : n < N2 := by omega
          have hl4 : n + 1 < N2 := by omega
          have hl5 : N2 ≤ 200 := by omega
          have hq1 : (0 : Int) ≤ (n : Int) + 1 := by omega
          have hq2 : ((n : Int) + 1).toNat = n + 1 := by omega
          have hq3 : (n : Int) + 1 < (N2 : Int) := by omega
          have hq4 : IntKind.i64.wrap ((n : Int) + 1) = (n : Int) + 1 := IntWalk.i64_in _ (by omega)
          have hq5 : IntKind.i64.wrap ((n : Int) + 2) = (n : Int) + 2 := IntWalk.i64_in _ (by omega)
          have HNN := hide hNN
          clear hNN
          by_cases hll : la = lb
          · subst hll
            obtain rfl : sb = true := by rw [hlw]; simp
            clear hlw
            obtain ⟨lb, hlb⟩ : ∃ lb, lb = la := ⟨_, rfl⟩
            rw [← hlb] at x2
            have hb2 : ((la : Int) == (lb : Int)) = true := beq_nat_true hlb.symm
            clear hlb
            go_wp2_with fail
            go_region_held3 (fun w' => w'.cell? ⟨b7, n, none⟩ = some (.int .i64 (la : Int)) ∧ w'.cell? ⟨b7, n + 1, none⟩ = some (.int .i64 (lb : Int)))
              (first | exact ⟨x1, x2⟩ | exact ⟨(hb8.cell (p := ⟨b7, n, none⟩) hlt7).trans x1, (hb8.cell (p := ⟨b7, n + 1, none⟩) hlt7).trans x2⟩)
              (first | (go_at_call 55; refine (works30 _).mono ?_; rintro e w8 ⟨rfl, hb8⟩))
            go_wp2_with fail
            go_ret
            exact ⟨rfl, HB7.out.trans ((((Below.refl _ w7).drewN 1).trans hb8).mono HB7.out.size)⟩
          · have hb1 : (la == lb) = false := by simpa using hll
            rw [hb1] at hlw
            subst hlw
            have hb2 : ((la : Int) == (lb : Int)) = false := beq_nat_false hll
            go_wp2_with fail
            go_region_held3 (fun w' => w'.cell? ⟨b7, n, none⟩ = some (.int .i64 (la : Int)) ∧ w'.cell? ⟨b7, n + 1, none⟩ = some (.int .i64 (lb : Int)))
              (first | exact ⟨x1, x2⟩ | exact ⟨(hb8.cell (p := ⟨b7, n, none⟩) hlt7).trans x1, (hb8.cell (p := ⟨b7, n + 1, none⟩) hlt7).trans x2⟩)
              (first | (go_at_call 55; refine (works30 _).mono ?_; rintro e w8 ⟨rfl, hb8⟩))
            go_wp2_with fail
            go_ret
            exact ⟨rfl, HB7.out.trans ((((Below.refl _ w7).drewN 1).trans hb8).mono HB7.out.size)⟩
end Go.Proofs.Ytohhbepfpmbnkaa
