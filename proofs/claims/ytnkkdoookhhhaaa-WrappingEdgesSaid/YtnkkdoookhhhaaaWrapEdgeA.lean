/- The walk of WrappingEdges. -/
import Derived.Test.YtnkkdoookhhhaaaWrapK
import Derived.Test.YtnkkdoookhhhaaaWrapZ
namespace Go.Proofs.Ytnkkdoookhhhaaa
open Go.RowKit
set_option linter.unusedVariables false


set_option maxRecDepth 200000 in
set_option maxHeartbeats 16000000 in
theorem edges_join0 (a0 a1 a3 : Int) (v2 : Value) (l : List Nat) (W : World) (X Y n e v cv dv cw dw t0 t1 : Nat) (E : List Nat) (dx dy c : Int) (ok x1 x2 y1 y2 : Bool)
    (hX1 : 1 ≤ X) (hX2 : X ≤ 12) (hY1 : 1 ≤ Y) (hY2 : Y ≤ 12) (hp0 : 1 ≤ (X : Int) * (Y : Int)) (hp1 : (X : Int) * (Y : Int) ≤ 144) (hq0 : 1 ≤ 2 * (X : Int) * (Y : Int)) (hq1 : 2 * (X : Int) * (Y : Int) ≤ 288) (he : e < 2 * n) (hn2 : n ≤ 144)
    (b3 : 0 ≤ a3 ∧ a3 < 65536) (re : a3 % (2 * (X : Int) * (Y : Int)) = (e : Int)) (rv : (e : Int) / 2 = (v : Int)) (rd : (e : Int) % 2 = 0) (hv : v < n) (hcv : cv < X) (hdv : dv < Y) (hcw : cw < X) (hdw : dw < Y)
    (rc : (v : Int) % (X : Int) = (cv : Int)) (rr : (v : Int) / (X : Int) = (dv : Int)) (rc' : ((cv : Int) + 1) % (X : Int) = (cw : Int)) (rr' : ((dv : Int) + 1) % (Y : Int) = (dw : Int)) (ht0 : (dv : Int) * (X : Int) + (cw : Int) = (t0 : Int)) (ht1 : (dw : Int) * (X : Int) + (cv : Int) = (t1 : Int)) (lt0 : t0 < n) (lt1 : t1 < n)
    (HSZ : Hid (∀ W, Calls Try.prog 18 #[.int .u8 a0, .int .u8 a1] W fun e W' => e = .returned (.tuple #[.int .i64 (X : Int), .int .i64 (Y : Int)]) ∧ W = W'))
    (HN : Hid (∀ w, Calls Try.prog 19 #[.int .i64 (X : Int), .int .i64 (Y : Int)] w
      fun e w' => ∃ p : TLoc, e = .returned (.tuple #[.pointer (some ⟨p.g, 0, none⟩), .int .i64 0]) ∧ Tor w' p X Y n [] ∧ Below w.heap.size w w' ∧ p.from_ w.heap.size))
    (HE : Hid (∀ w, IsU16 w v2 l → Calls Try.prog 20 #[.int .i64 ((X : Int) * (Y : Int)), v2, .bool false] w
      fun e w' => ∃ A c, e = .returned (.slice A E.length c) ∧ w'.ownsRow w.heap.size 3 1 (.slice A E.length c) E.length (natv E) ∧ Below w.heap.size w w'))
    (HLU : Hid (IsU16 W v2 l)) (HEL : Hid ((∀ e ∈ E, e < 2 * n) ∧ E.length ≤ 300))
    (HO : Hid (∀ w p, Tor w p X Y n E → Calls Try.prog 23 #[.pointer (some ⟨p.g, 0, none⟩), .int .i64 (v : Int), .int .i64 (t0 : Int)] w fun e w' => e = .returned (.tuple #[.int .i64 dx, .int .i64 dy, .bool ok]) ∧ Tor w' p X Y n E ∧ Fr p.bl w w'))
    (HS : Hid (∀ w p, Tor w p X Y n E → Calls Try.prog 29 #[.pointer (some ⟨p.g, 0, none⟩), .int .i64 (v : Int), .int .i64 (t0 : Int)] w fun e w' => e = .returned (.bool false) ∧ Tor w' p X Y n E ∧ Fr p.bl w w'))
    (HC : Hid (∀ w p, Tor w p X Y n E → Calls Try.prog 24 #[.pointer (some ⟨p.g, 0, none⟩)] w fun e w' => e = .returned (.int .i64 c) ∧ w = w'))
    (HW : Hid (∀ w p, Tor w p X Y n E → Calls Try.prog 22 #[.pointer (some ⟨p.g, 0, none⟩)] w fun e w' => e = .returned (.tuple #[.bool x1, .bool x2]) ∧ ∃ k, w' = w.drewN k))
    (HA : Hid (∀ w p, Tor w p X Y n E → Calls Try.prog 27 #[.pointer (some ⟨p.g, 0, none⟩), .int .i64 (cv : Int), .int .i64 (dv : Int), .int .i64 0] w fun r w' => r = .returned (.tuple #[.bool true, .int .i64 0]) ∧ Tor w' p X Y n (E ++ [e]) ∧ Fr p.bl w w'))
    (HW2 : Hid (∀ w p, Tor w p X Y n (E ++ [e]) → Calls Try.prog 22 #[.pointer (some ⟨p.g, 0, none⟩)] w fun r w' => r = .returned (.tuple #[.bool x1, .bool x2]) ∧ ∃ k, w' = w.drewN k))
    (HS2 : Hid (∀ w p, Tor w p X Y n (E ++ [e]) → Calls Try.prog 29 #[.pointer (some ⟨p.g, 0, none⟩), .int .i64 (v : Int), .int .i64 (t0 : Int)] w fun r w' => r = .returned (.bool true) ∧ Tor w' p X Y n (E ++ [e]) ∧ Fr p.bl w w'))
    (HC2 : Hid (∀ w p, Tor w p X Y n (E ++ [e]) → Calls Try.prog 24 #[.pointer (some ⟨p.g, 0, none⟩)] w fun r w' => r = .returned (.int .i64 (c - 1)) ∧ w = w'))
    (hc1 : 1 ≤ c) (hc2 : c ≤ 144) :
    Calls Try.prog 12 #[.int .u8 a0, .int .u8 a1, v2, .int .u16 a3] W fun e W' => e = .returned (.bool true) ∧ Below W.heap.size W W' := by
  obtain ⟨b3, b3'⟩ := b3
  have te : a3.tmod (2 * (X : Int) * (Y : Int)) = (e : Int) := by rw [Int.tmod_eq_emod_of_nonneg b3]; exact re
  have tv : (e : Int).tdiv 2 = (v : Int) := by rw [Int.tdiv_eq_ediv_of_nonneg (by omega)]; exact rv
  have td : (e : Int).tmod 2 = 0 := by rw [Int.tmod_eq_emod_of_nonneg (by omega)]; exact rd
  have tc : (v : Int).tmod (X : Int) = (cv : Int) := by rw [Int.tmod_eq_emod_of_nonneg (by omega)]; exact rc
  have tr : (v : Int).tdiv (X : Int) = (dv : Int) := by rw [Int.tdiv_eq_ediv_of_nonneg (by omega)]; exact rr
  have tc' : ((cv : Int) + 1).tmod (X : Int) = (cw : Int) := by rw [Int.tmod_eq_emod_of_nonneg (by omega)]; exact rc'
  have tr' : ((dv : Int) + 1).tmod (Y : Int) = (dw : Int) := by rw [Int.tmod_eq_emod_of_nonneg (by omega)]; exact rr'
  have m1 : 0 ≤ (dv : Int) * (X : Int) := Int.mul_nonneg (by omega) (by omega)
  have m2 : 0 ≤ (dw : Int) * (X : Int) := Int.mul_nonneg (by omega) (by omega)
  have i1 : IntKind.i64.wrap ((dv : Int) * (X : Int)) = dv * X := IntWalk.i64_in _ (by omega)
  have i2 : IntKind.i64.wrap ((dw : Int) * (X : Int)) = dw * X := IntWalk.i64_in _ (by omega)
  have i3 : IntKind.i64.wrap ((cv : Int) + 1) = cv + 1 := IntWalk.i64_in _ (by omega)
  have i4 : IntKind.i64.wrap ((dv : Int) + 1) = dv + 1 := IntWalk.i64_in _ (by omega)
  have i5 : IntKind.i64.wrap (t0 : Int) = t0 := IntWalk.i64_in _ (by omega)
  have i6 : IntKind.i64.wrap (t1 : Int) = t1 := IntWalk.i64_in _ (by omega)
  have i7 : IntKind.i64.wrap (cv : Int) = cv := IntWalk.i64_in _ (by omega)
  have i8 : IntKind.i64.wrap (dv : Int) = dv := IntWalk.i64_in _ (by omega)
  have i9 : IntKind.i64.wrap (cw : Int) = cw := IntWalk.i64_in _ (by omega)
  have i0 : IntKind.i64.wrap (dw : Int) = dw := IntWalk.i64_in _ (by omega)
  have HRE := hide (And.intro re te)
  have HRV := hide (And.intro rv (And.intro tv (And.intro rd td)))
  have HR := hide (And.intro tc (And.intro tr (And.intro tc' (And.intro tr' (And.intro ht0 (And.intro ht1 (And.intro i1 (And.intro i2 (And.intro i3 (And.intro i4 (And.intro i5 (And.intro i6 (And.intro i7 (And.intro i8 (And.intro i9 i0)))))))))))))))
  have HR2 := hide (And.intro rc rr)
  clear re te rv tv rd td rc tc rr tr rc' tc' rr' tr' ht0 ht1 i1 i2 i3 i4 i5 i6 i7 i8 i9 i0
  have z1 : ¬ X = 0 := by omega
  have z2 : ¬ Y = 0 := by omega
  have HPUT : Hid (∀ w p A m c, Tor w p X Y n [] → Rd w A m 1 (natv E) → E.length = m → (∀ ad, A = some ad → ad.block ∉ p.bl) → Calls Try.prog 21 #[.pointer (some ⟨p.g, 0, none⟩), .int .i64 (X : Int), .slice A m c, .bool false] w
      fun e w' => ∃ r : Int, 0 ≤ r ∧ e = .returned (.int .i64 r) ∧ Tor w' p X Y n E ∧ Fr p.bl w w') := fun w p A m c h hr hl hA => by
    have h1 := put_fwd w p X Y n A m c E [] h hr hl (by have := HEL.out.2; omega) HEL.out.1 hA
    refine h1.mono fun e w' ⟨he, hT, hF⟩ => ⟨_, ?_, he, by simpa using hT, hF⟩
    rw [List.nil_append, tL_nil_sets]
    have := sets_le n (tL X Y E)
    omega
  go_enter Try.func12, Try.ntmps12
  go_wp2_with fail
  refine (HSZ.out _).mono ?_
  rintro e w' ⟨rfl, rfl⟩
  go_wp2_with fail
  refine (HN.out _).mono ?_
  rintro e w1 ⟨p, rfl, hT1, hB1, hp1⟩
  have HT1 := hide hT1
  have HB1 := hide hB1
  have HP := hide hp1
  clear hT1 hB1 hp1
  go_wp2_with fail
  refine (HE.out _ (HLU.out.fresh HB1.out)).mono ?_
  rintro e w3 ⟨A3, c3, rfl, ho3, hb3⟩
  have HT3 := hide (HT1.out.fresh hb3)
  have HB3 := hide (HB1.out.trans (hb3.mono HB1.out.size))
  have HR3 := hide (own_rd ho3)
  have hA3 : ∀ ad, A3 = some ad → ad.block ∉ p.bl := fun ad h hm => by have := own_block_ge ho3 ad h; have := HT1.out.lt _ hm; omega
  have HA3 := hide hA3
  clear ho3 hb3 hA3
  go_wp2_with fail
  refine (HPUT.out _ p _ _ _ HT3.out HR3.out rfl HA3.out).mono ?_
  rintro e w4 ⟨r, hr0, rfl, hT4, hf4⟩
  have HT4 := hide hT4
  have HB4 := hide (HB3.out.trans (hf4.below HP.out HB3.out.size))
  clear hT4 hf4 HT3 HB3 HR3 HA3 HT1
  obtain ⟨re, te⟩ := HRE.out
  obtain ⟨rv, tv, rd, td⟩ := HRV.out
  go_wp2_with fail
  obtain ⟨tc, tr, tc', tr', ht0, ht1, i1, i2, i3, i4, i5, i6, i7, i8, i9, i0⟩ := HR.out
  go_quiet (fail)
  have HT5 := hide (HT4.out.drewN nq)
  have HB5 := hide (HB4.out.drewN nq)
  clear HT4 HB4
  generalize w4.drewN nq = w5 at *
  clear tc tr tc' tr' ht0 ht1 i1 i2 i3 i4 i5 i6 i7 i8 i9 i0
  go_wp2_with fail
  refine (HO.out _ p HT5.out).mono ?_
  rintro r w6 ⟨rfl, hT6, hf6⟩
  have HT6 := hide hT6
  have HB6 := hide (HB5.out.trans (hf6.below HP.out HB5.out.size))
  clear HT5 HB5 hT6 hf6
  go_wp2_with fail
  refine (HS.out _ p HT6.out).mono ?_
  rintro r w7 ⟨rfl, hT7, hf7⟩
  have HT7 := hide hT7
  have HB7 := hide (HB6.out.trans (hf7.below HP.out HB6.out.size))
  clear HT6 HB6 hT7 hf7
  go_wp2_with fail
  refine (HC.out _ p HT7.out).mono ?_
  rintro r w' ⟨rfl, rfl⟩
  go_wp2_with fail
  refine (HW.out _ p HT7.out).mono ?_
  rintro r w8 ⟨rfl, k8, rfl⟩
  have HT8 := hide (HT7.out.drewN k8)
  have HB8 := hide (HB7.out.drewN k8)
  clear HT7 HB7
  generalize w7.drewN k8 = w8 at *
  go_wp2_with fail
  obtain ⟨tc, tr, -, -, -, -, -, -, -, -, -, -, i7, i8, -, -⟩ := HR.out
  obtain ⟨rc, rr⟩ := HR2.out
  have HA8 := hide (HA.out _ p (HT8.out.drewN 1))
  go_region_held3 (fun w' => True) (first | trivial) (first | (go_at_call 27; (refine HA8.out.mono ?_); rintro r w9 ⟨rfl, hT9, hf9⟩))
  have HT9 := hide hT9
  have HB9 := hide (HB8.out.trans ((((Fr.refl p.bl w8).drewN 1).trans hf9).below HP.out HB8.out.size))
  clear HT8 HB8 hT9 hf9 tc tr i7 i8 rc rr
  go_wp2_with fail
  refine (HW2.out _ p HT9.out).mono ?_
  rintro r w10 ⟨rfl, k10, rfl⟩
  have HT10 := hide (HT9.out.drewN k10)
  have HB10 := hide (HB9.out.drewN k10)
  clear HT9 HB9
  generalize w9.drewN k10 = w10 at *
  go_wp2_with fail
  refine (HS2.out _ p HT10.out).mono ?_
  rintro r w11 ⟨rfl, hT11, hf11⟩
  have HT11 := hide hT11
  have HB11 := hide (HB10.out.trans (hf11.below HP.out HB10.out.size))
  clear HT10 HB10 hT11 hf11
  all_goals
    go_wp2_with fail
    refine (HC2.out _ p HT11.out).mono ?_
    rintro r w' ⟨rfl, rfl⟩
    go_wp2_with fail
    all_goals
      refine (works30 _).mono ?_
      rintro r w14 ⟨rfl, hb14⟩
      go_wp2_with fail
      go_ret
      exact ⟨rfl, HB11.out.trans (hb14.mono HB11.out.size)⟩

set_option maxRecDepth 200000 in
set_option maxHeartbeats 16000000 in
theorem edges_no0 (a0 a1 a3 : Int) (v2 : Value) (l : List Nat) (W : World) (X Y n e v cv dv cw dw t0 t1 : Nat) (E : List Nat) (dx dy c : Int) (ok x1 x2 y1 y2 : Bool)
    (hX1 : 1 ≤ X) (hX2 : X ≤ 12) (hY1 : 1 ≤ Y) (hY2 : Y ≤ 12) (hp0 : 1 ≤ (X : Int) * (Y : Int)) (hp1 : (X : Int) * (Y : Int) ≤ 144) (hq0 : 1 ≤ 2 * (X : Int) * (Y : Int)) (hq1 : 2 * (X : Int) * (Y : Int) ≤ 288) (he : e < 2 * n) (hn2 : n ≤ 144)
    (b3 : 0 ≤ a3 ∧ a3 < 65536) (re : a3 % (2 * (X : Int) * (Y : Int)) = (e : Int)) (rv : (e : Int) / 2 = (v : Int)) (rd : (e : Int) % 2 = 0) (hv : v < n) (hcv : cv < X) (hdv : dv < Y) (hcw : cw < X) (hdw : dw < Y)
    (rc : (v : Int) % (X : Int) = (cv : Int)) (rr : (v : Int) / (X : Int) = (dv : Int)) (rc' : ((cv : Int) + 1) % (X : Int) = (cw : Int)) (rr' : ((dv : Int) + 1) % (Y : Int) = (dw : Int)) (ht0 : (dv : Int) * (X : Int) + (cw : Int) = (t0 : Int)) (ht1 : (dw : Int) * (X : Int) + (cv : Int) = (t1 : Int)) (lt0 : t0 < n) (lt1 : t1 < n)
    (HSZ : Hid (∀ W, Calls Try.prog 18 #[.int .u8 a0, .int .u8 a1] W fun e W' => e = .returned (.tuple #[.int .i64 (X : Int), .int .i64 (Y : Int)]) ∧ W = W'))
    (HN : Hid (∀ w, Calls Try.prog 19 #[.int .i64 (X : Int), .int .i64 (Y : Int)] w
      fun e w' => ∃ p : TLoc, e = .returned (.tuple #[.pointer (some ⟨p.g, 0, none⟩), .int .i64 0]) ∧ Tor w' p X Y n [] ∧ Below w.heap.size w w' ∧ p.from_ w.heap.size))
    (HE : Hid (∀ w, IsU16 w v2 l → Calls Try.prog 20 #[.int .i64 ((X : Int) * (Y : Int)), v2, .bool false] w
      fun e w' => ∃ A c, e = .returned (.slice A E.length c) ∧ w'.ownsRow w.heap.size 3 1 (.slice A E.length c) E.length (natv E) ∧ Below w.heap.size w w'))
    (HLU : Hid (IsU16 W v2 l)) (HEL : Hid ((∀ e ∈ E, e < 2 * n) ∧ E.length ≤ 300))
    (HO : Hid (∀ w p, Tor w p X Y n E → Calls Try.prog 23 #[.pointer (some ⟨p.g, 0, none⟩), .int .i64 (v : Int), .int .i64 (t0 : Int)] w fun e w' => e = .returned (.tuple #[.int .i64 dx, .int .i64 dy, .bool false]) ∧ Tor w' p X Y n E ∧ Fr p.bl w w'))
    (HS : Hid (∀ w p, Tor w p X Y n E → Calls Try.prog 29 #[.pointer (some ⟨p.g, 0, none⟩), .int .i64 (v : Int), .int .i64 (t0 : Int)] w fun e w' => e = .returned (.bool true) ∧ Tor w' p X Y n E ∧ Fr p.bl w w'))
    (HC : Hid (∀ w p, Tor w p X Y n E → Calls Try.prog 24 #[.pointer (some ⟨p.g, 0, none⟩)] w fun e w' => e = .returned (.int .i64 c) ∧ w = w'))
    (HW : Hid (∀ w p, Tor w p X Y n E → Calls Try.prog 22 #[.pointer (some ⟨p.g, 0, none⟩)] w fun e w' => e = .returned (.tuple #[.bool x1, .bool x2]) ∧ ∃ k, w' = w.drewN k))
    (HA : Hid (∀ w p, Tor w p X Y n E → Calls Try.prog 27 #[.pointer (some ⟨p.g, 0, none⟩), .int .i64 (cv : Int), .int .i64 (dv : Int), .int .i64 0] w fun r w' => r = .returned (.tuple #[.bool false, .int .i64 0]) ∧ Tor w' p X Y n (E ++ [e]) ∧ Fr p.bl w w'))
    (HW2 : Hid (∀ w p, Tor w p X Y n (E ++ [e]) → Calls Try.prog 22 #[.pointer (some ⟨p.g, 0, none⟩)] w fun r w' => r = .returned (.tuple #[.bool y1, .bool y2]) ∧ ∃ k, w' = w.drewN k))
    (HS2 : Hid (∀ w p, Tor w p X Y n (E ++ [e]) → Calls Try.prog 29 #[.pointer (some ⟨p.g, 0, none⟩), .int .i64 (v : Int), .int .i64 (t0 : Int)] w fun r w' => r = .returned (.bool true) ∧ Tor w' p X Y n (E ++ [e]) ∧ Fr p.bl w w'))
    (HC2 : Hid (∀ w p, Tor w p X Y n (E ++ [e]) → Calls Try.prog 24 #[.pointer (some ⟨p.g, 0, none⟩)] w fun r w' => r = .returned (.int .i64 c) ∧ w = w'))
    (hc1 : 1 ≤ c) (hc2 : c ≤ 144) (hy1 : (x1 && !y1) = false) (hy2 : (x2 && !y2) = false) :
    Calls Try.prog 12 #[.int .u8 a0, .int .u8 a1, v2, .int .u16 a3] W fun e W' => e = .returned (.bool true) ∧ Below W.heap.size W W' := by
  obtain ⟨b3, b3'⟩ := b3
  have te : a3.tmod (2 * (X : Int) * (Y : Int)) = (e : Int) := by rw [Int.tmod_eq_emod_of_nonneg b3]; exact re
  have tv : (e : Int).tdiv 2 = (v : Int) := by rw [Int.tdiv_eq_ediv_of_nonneg (by omega)]; exact rv
  have td : (e : Int).tmod 2 = 0 := by rw [Int.tmod_eq_emod_of_nonneg (by omega)]; exact rd
  have tc : (v : Int).tmod (X : Int) = (cv : Int) := by rw [Int.tmod_eq_emod_of_nonneg (by omega)]; exact rc
  have tr : (v : Int).tdiv (X : Int) = (dv : Int) := by rw [Int.tdiv_eq_ediv_of_nonneg (by omega)]; exact rr
  have tc' : ((cv : Int) + 1).tmod (X : Int) = (cw : Int) := by rw [Int.tmod_eq_emod_of_nonneg (by omega)]; exact rc'
  have tr' : ((dv : Int) + 1).tmod (Y : Int) = (dw : Int) := by rw [Int.tmod_eq_emod_of_nonneg (by omega)]; exact rr'
  have m1 : 0 ≤ (dv : Int) * (X : Int) := Int.mul_nonneg (by omega) (by omega)
  have m2 : 0 ≤ (dw : Int) * (X : Int) := Int.mul_nonneg (by omega) (by omega)
  have i1 : IntKind.i64.wrap ((dv : Int) * (X : Int)) = dv * X := IntWalk.i64_in _ (by omega)
  have i2 : IntKind.i64.wrap ((dw : Int) * (X : Int)) = dw * X := IntWalk.i64_in _ (by omega)
  have i3 : IntKind.i64.wrap ((cv : Int) + 1) = cv + 1 := IntWalk.i64_in _ (by omega)
  have i4 : IntKind.i64.wrap ((dv : Int) + 1) = dv + 1 := IntWalk.i64_in _ (by omega)
  have i5 : IntKind.i64.wrap (t0 : Int) = t0 := IntWalk.i64_in _ (by omega)
  have i6 : IntKind.i64.wrap (t1 : Int) = t1 := IntWalk.i64_in _ (by omega)
  have i7 : IntKind.i64.wrap (cv : Int) = cv := IntWalk.i64_in _ (by omega)
  have i8 : IntKind.i64.wrap (dv : Int) = dv := IntWalk.i64_in _ (by omega)
  have i9 : IntKind.i64.wrap (cw : Int) = cw := IntWalk.i64_in _ (by omega)
  have i0 : IntKind.i64.wrap (dw : Int) = dw := IntWalk.i64_in _ (by omega)
  have HRE := hide (And.intro re te)
  have HRV := hide (And.intro rv (And.intro tv (And.intro rd td)))
  have HR := hide (And.intro tc (And.intro tr (And.intro tc' (And.intro tr' (And.intro ht0 (And.intro ht1 (And.intro i1 (And.intro i2 (And.intro i3 (And.intro i4 (And.intro i5 (And.intro i6 (And.intro i7 (And.intro i8 (And.intro i9 i0)))))))))))))))
  have HR2 := hide (And.intro rc rr)
  clear re te rv tv rd td rc tc rr tr rc' tc' rr' tr' ht0 ht1 i1 i2 i3 i4 i5 i6 i7 i8 i9 i0
  have z1 : ¬ X = 0 := by omega
  have z2 : ¬ Y = 0 := by omega
  have HPUT : Hid (∀ w p A m c, Tor w p X Y n [] → Rd w A m 1 (natv E) → E.length = m → (∀ ad, A = some ad → ad.block ∉ p.bl) → Calls Try.prog 21 #[.pointer (some ⟨p.g, 0, none⟩), .int .i64 (X : Int), .slice A m c, .bool false] w
      fun e w' => ∃ r : Int, 0 ≤ r ∧ e = .returned (.int .i64 r) ∧ Tor w' p X Y n E ∧ Fr p.bl w w') := fun w p A m c h hr hl hA => by
    have h1 := put_fwd w p X Y n A m c E [] h hr hl (by have := HEL.out.2; omega) HEL.out.1 hA
    refine h1.mono fun e w' ⟨he, hT, hF⟩ => ⟨_, ?_, he, by simpa using hT, hF⟩
    rw [List.nil_append, tL_nil_sets]
    have := sets_le n (tL X Y E)
    omega
  go_enter Try.func12, Try.ntmps12
  go_wp2_with fail
  refine (HSZ.out _).mono ?_
  rintro e w' ⟨rfl, rfl⟩
  go_wp2_with fail
  refine (HN.out _).mono ?_
  rintro e w1 ⟨p, rfl, hT1, hB1, hp1⟩
  have HT1 := hide hT1
  have HB1 := hide hB1
  have HP := hide hp1
  clear hT1 hB1 hp1
  go_wp2_with fail
  refine (HE.out _ (HLU.out.fresh HB1.out)).mono ?_
  rintro e w3 ⟨A3, c3, rfl, ho3, hb3⟩
  have HT3 := hide (HT1.out.fresh hb3)
  have HB3 := hide (HB1.out.trans (hb3.mono HB1.out.size))
  have HR3 := hide (own_rd ho3)
  have hA3 : ∀ ad, A3 = some ad → ad.block ∉ p.bl := fun ad h hm => by have := own_block_ge ho3 ad h; have := HT1.out.lt _ hm; omega
  have HA3 := hide hA3
  clear ho3 hb3 hA3
  go_wp2_with fail
  refine (HPUT.out _ p _ _ _ HT3.out HR3.out rfl HA3.out).mono ?_
  rintro e w4 ⟨r, hr0, rfl, hT4, hf4⟩
  have HT4 := hide hT4
  have HB4 := hide (HB3.out.trans (hf4.below HP.out HB3.out.size))
  clear hT4 hf4 HT3 HB3 HR3 HA3 HT1
  obtain ⟨re, te⟩ := HRE.out
  obtain ⟨rv, tv, rd, td⟩ := HRV.out
  go_wp2_with fail
  obtain ⟨tc, tr, tc', tr', ht0, ht1, i1, i2, i3, i4, i5, i6, i7, i8, i9, i0⟩ := HR.out
  go_quiet (fail)
  have HT5 := hide (HT4.out.drewN nq)
  have HB5 := hide (HB4.out.drewN nq)
  clear HT4 HB4
  generalize w4.drewN nq = w5 at *
  clear tc tr tc' tr' ht0 ht1 i1 i2 i3 i4 i5 i6 i7 i8 i9 i0
  go_wp2_with fail
  refine (HO.out _ p HT5.out).mono ?_
  rintro r w6 ⟨rfl, hT6, hf6⟩
  have HT6 := hide hT6
  have HB6 := hide (HB5.out.trans (hf6.below HP.out HB5.out.size))
  clear HT5 HB5 hT6 hf6
  go_wp2_with fail
  refine (HS.out _ p HT6.out).mono ?_
  rintro r w7 ⟨rfl, hT7, hf7⟩
  have HT7 := hide hT7
  have HB7 := hide (HB6.out.trans (hf7.below HP.out HB6.out.size))
  clear HT6 HB6 hT7 hf7
  go_wp2_with fail
  refine (HC.out _ p HT7.out).mono ?_
  rintro r w' ⟨rfl, rfl⟩
  go_wp2_with fail
  refine (HW.out _ p HT7.out).mono ?_
  rintro r w8 ⟨rfl, k8, rfl⟩
  have HT8 := hide (HT7.out.drewN k8)
  have HB8 := hide (HB7.out.drewN k8)
  clear HT7 HB7
  generalize w7.drewN k8 = w8 at *
  go_wp2_with fail
  obtain ⟨tc, tr, -, -, -, -, -, -, -, -, -, -, i7, i8, -, -⟩ := HR.out
  obtain ⟨rc, rr⟩ := HR2.out
  have HA8 := hide (HA.out _ p (HT8.out.drewN 1))
  go_region_held3 (fun w' => True) (first | trivial) (first | (go_at_call 27; (refine HA8.out.mono ?_); rintro r w9 ⟨rfl, hT9, hf9⟩))
  have HT9 := hide hT9
  have HB9 := hide (HB8.out.trans ((((Fr.refl p.bl w8).drewN 1).trans hf9).below HP.out HB8.out.size))
  clear HT8 HB8 hT9 hf9 tc tr i7 i8 rc rr
  go_wp2_with fail
  refine (HW2.out _ p HT9.out).mono ?_
  rintro r w10 ⟨rfl, k10, rfl⟩
  have HT10 := hide (HT9.out.drewN k10)
  have HB10 := hide (HB9.out.drewN k10)
  clear HT9 HB9
  generalize w9.drewN k10 = w10 at *
  go_wp2_with fail
  refine (HS2.out _ p HT10.out).mono ?_
  rintro r w11 ⟨rfl, hT11, hf11⟩
  have HT11 := hide hT11
  have HB11 := hide (HB10.out.trans (hf11.below HP.out HB10.out.size))
  clear HT10 HB10 hT11 hf11
  have hc : (x1 = false ∨ y1 = true) ∧ (x2 = false ∨ y2 = true) := by
    revert hy1 hy2
    cases x1 <;> cases y1 <;> cases x2 <;> cases y2 <;> simp
  clear hy1 hy2
  obtain ⟨rfl | rfl, rfl | rfl⟩ := hc
  all_goals
    go_wp2_with fail
    refine (HC2.out _ p HT11.out).mono ?_
    rintro r w' ⟨rfl, rfl⟩
    go_wp2_with fail
    all_goals
      refine (works30 _).mono ?_
      rintro r w14 ⟨rfl, hb14⟩
      go_wp2_with fail
      go_ret
      exact ⟨rfl, HB11.out.trans (hb14.mono HB11.out.size)⟩

set_option maxRecDepth 200000 in
set_option maxHeartbeats 16000000 in
theorem edges_ok0 (a0 a1 a3 : Int) (v2 : Value) (l : List Nat) (W : World) (X Y n e v cv dv cw dw t0 t1 : Nat) (E : List Nat) (dx dy c : Int) (ok x1 x2 y1 y2 : Bool)
    (hX1 : 1 ≤ X) (hX2 : X ≤ 12) (hY1 : 1 ≤ Y) (hY2 : Y ≤ 12) (hp0 : 1 ≤ (X : Int) * (Y : Int)) (hp1 : (X : Int) * (Y : Int) ≤ 144) (hq0 : 1 ≤ 2 * (X : Int) * (Y : Int)) (hq1 : 2 * (X : Int) * (Y : Int) ≤ 288) (he : e < 2 * n) (hn2 : n ≤ 144)
    (b3 : 0 ≤ a3 ∧ a3 < 65536) (re : a3 % (2 * (X : Int) * (Y : Int)) = (e : Int)) (rv : (e : Int) / 2 = (v : Int)) (rd : (e : Int) % 2 = 0) (hv : v < n) (hcv : cv < X) (hdv : dv < Y) (hcw : cw < X) (hdw : dw < Y)
    (rc : (v : Int) % (X : Int) = (cv : Int)) (rr : (v : Int) / (X : Int) = (dv : Int)) (rc' : ((cv : Int) + 1) % (X : Int) = (cw : Int)) (rr' : ((dv : Int) + 1) % (Y : Int) = (dw : Int)) (ht0 : (dv : Int) * (X : Int) + (cw : Int) = (t0 : Int)) (ht1 : (dw : Int) * (X : Int) + (cv : Int) = (t1 : Int)) (lt0 : t0 < n) (lt1 : t1 < n)
    (HSZ : Hid (∀ W, Calls Try.prog 18 #[.int .u8 a0, .int .u8 a1] W fun e W' => e = .returned (.tuple #[.int .i64 (X : Int), .int .i64 (Y : Int)]) ∧ W = W'))
    (HN : Hid (∀ w, Calls Try.prog 19 #[.int .i64 (X : Int), .int .i64 (Y : Int)] w
      fun e w' => ∃ p : TLoc, e = .returned (.tuple #[.pointer (some ⟨p.g, 0, none⟩), .int .i64 0]) ∧ Tor w' p X Y n [] ∧ Below w.heap.size w w' ∧ p.from_ w.heap.size))
    (HE : Hid (∀ w, IsU16 w v2 l → Calls Try.prog 20 #[.int .i64 ((X : Int) * (Y : Int)), v2, .bool false] w
      fun e w' => ∃ A c, e = .returned (.slice A E.length c) ∧ w'.ownsRow w.heap.size 3 1 (.slice A E.length c) E.length (natv E) ∧ Below w.heap.size w w'))
    (HLU : Hid (IsU16 W v2 l)) (HEL : Hid ((∀ e ∈ E, e < 2 * n) ∧ E.length ≤ 300))
    (HO : Hid (∀ w p, Tor w p X Y n E → Calls Try.prog 23 #[.pointer (some ⟨p.g, 0, none⟩), .int .i64 (v : Int), .int .i64 (t0 : Int)] w fun e w' => e = .returned (.tuple #[.int .i64 dx, .int .i64 dy, .bool true]) ∧ Tor w' p X Y n E ∧ Fr p.bl w w'))
    (HS : Hid (∀ w p, Tor w p X Y n E → Calls Try.prog 29 #[.pointer (some ⟨p.g, 0, none⟩), .int .i64 (v : Int), .int .i64 (t0 : Int)] w fun e w' => e = .returned (.bool true) ∧ Tor w' p X Y n E ∧ Fr p.bl w w'))
    (HC : Hid (∀ w p, Tor w p X Y n E → Calls Try.prog 24 #[.pointer (some ⟨p.g, 0, none⟩)] w fun e w' => e = .returned (.int .i64 c) ∧ w = w'))
    (HW : Hid (∀ w p, Tor w p X Y n E → Calls Try.prog 22 #[.pointer (some ⟨p.g, 0, none⟩)] w fun e w' => e = .returned (.tuple #[.bool x1, .bool x2]) ∧ ∃ k, w' = w.drewN k))
    (HA : Hid (∀ w p, Tor w p X Y n E → Calls Try.prog 27 #[.pointer (some ⟨p.g, 0, none⟩), .int .i64 (cv : Int), .int .i64 (dv : Int), .int .i64 0] w fun r w' => r = .returned (.tuple #[.bool false, .int .i64 0]) ∧ Tor w' p X Y n (E ++ [e]) ∧ Fr p.bl w w'))
    (HW2 : Hid (∀ w p, Tor w p X Y n (E ++ [e]) → Calls Try.prog 22 #[.pointer (some ⟨p.g, 0, none⟩)] w fun r w' => r = .returned (.tuple #[.bool (x1 || (dx != 1)), .bool (x2 || (dy != 0))]) ∧ ∃ k, w' = w.drewN k))
    (HS2 : Hid (∀ w p, Tor w p X Y n (E ++ [e]) → Calls Try.prog 29 #[.pointer (some ⟨p.g, 0, none⟩), .int .i64 (v : Int), .int .i64 (t0 : Int)] w fun r w' => r = .returned (.bool true) ∧ Tor w' p X Y n (E ++ [e]) ∧ Fr p.bl w w'))
    (HC2 : Hid (∀ w p, Tor w p X Y n (E ++ [e]) → Calls Try.prog 24 #[.pointer (some ⟨p.g, 0, none⟩)] w fun r w' => r = .returned (.int .i64 c) ∧ w = w'))
    (hc1 : 1 ≤ c) (hc2 : c ≤ 144) :
    Calls Try.prog 12 #[.int .u8 a0, .int .u8 a1, v2, .int .u16 a3] W fun e W' => e = .returned (.bool true) ∧ Below W.heap.size W W' := by
  obtain ⟨b3, b3'⟩ := b3
  have te : a3.tmod (2 * (X : Int) * (Y : Int)) = (e : Int) := by rw [Int.tmod_eq_emod_of_nonneg b3]; exact re
  have tv : (e : Int).tdiv 2 = (v : Int) := by rw [Int.tdiv_eq_ediv_of_nonneg (by omega)]; exact rv
  have td : (e : Int).tmod 2 = 0 := by rw [Int.tmod_eq_emod_of_nonneg (by omega)]; exact rd
  have tc : (v : Int).tmod (X : Int) = (cv : Int) := by rw [Int.tmod_eq_emod_of_nonneg (by omega)]; exact rc
  have tr : (v : Int).tdiv (X : Int) = (dv : Int) := by rw [Int.tdiv_eq_ediv_of_nonneg (by omega)]; exact rr
  have tc' : ((cv : Int) + 1).tmod (X : Int) = (cw : Int) := by rw [Int.tmod_eq_emod_of_nonneg (by omega)]; exact rc'
  have tr' : ((dv : Int) + 1).tmod (Y : Int) = (dw : Int) := by rw [Int.tmod_eq_emod_of_nonneg (by omega)]; exact rr'
  have m1 : 0 ≤ (dv : Int) * (X : Int) := Int.mul_nonneg (by omega) (by omega)
  have m2 : 0 ≤ (dw : Int) * (X : Int) := Int.mul_nonneg (by omega) (by omega)
  have i1 : IntKind.i64.wrap ((dv : Int) * (X : Int)) = dv * X := IntWalk.i64_in _ (by omega)
  have i2 : IntKind.i64.wrap ((dw : Int) * (X : Int)) = dw * X := IntWalk.i64_in _ (by omega)
  have i3 : IntKind.i64.wrap ((cv : Int) + 1) = cv + 1 := IntWalk.i64_in _ (by omega)
  have i4 : IntKind.i64.wrap ((dv : Int) + 1) = dv + 1 := IntWalk.i64_in _ (by omega)
  have i5 : IntKind.i64.wrap (t0 : Int) = t0 := IntWalk.i64_in _ (by omega)
  have i6 : IntKind.i64.wrap (t1 : Int) = t1 := IntWalk.i64_in _ (by omega)
  have i7 : IntKind.i64.wrap (cv : Int) = cv := IntWalk.i64_in _ (by omega)
  have i8 : IntKind.i64.wrap (dv : Int) = dv := IntWalk.i64_in _ (by omega)
  have i9 : IntKind.i64.wrap (cw : Int) = cw := IntWalk.i64_in _ (by omega)
  have i0 : IntKind.i64.wrap (dw : Int) = dw := IntWalk.i64_in _ (by omega)
  have HRE := hide (And.intro re te)
  have HRV := hide (And.intro rv (And.intro tv (And.intro rd td)))
  have HR := hide (And.intro tc (And.intro tr (And.intro tc' (And.intro tr' (And.intro ht0 (And.intro ht1 (And.intro i1 (And.intro i2 (And.intro i3 (And.intro i4 (And.intro i5 (And.intro i6 (And.intro i7 (And.intro i8 (And.intro i9 i0)))))))))))))))
  have HR2 := hide (And.intro rc rr)
  clear re te rv tv rd td rc tc rr tr rc' tc' rr' tr' ht0 ht1 i1 i2 i3 i4 i5 i6 i7 i8 i9 i0
  have z1 : ¬ X = 0 := by omega
  have z2 : ¬ Y = 0 := by omega
  have HPUT : Hid (∀ w p A m c, Tor w p X Y n [] → Rd w A m 1 (natv E) → E.length = m → (∀ ad, A = some ad → ad.block ∉ p.bl) → Calls Try.prog 21 #[.pointer (some ⟨p.g, 0, none⟩), .int .i64 (X : Int), .slice A m c, .bool false] w
      fun e w' => ∃ r : Int, 0 ≤ r ∧ e = .returned (.int .i64 r) ∧ Tor w' p X Y n E ∧ Fr p.bl w w') := fun w p A m c h hr hl hA => by
    have h1 := put_fwd w p X Y n A m c E [] h hr hl (by have := HEL.out.2; omega) HEL.out.1 hA
    refine h1.mono fun e w' ⟨he, hT, hF⟩ => ⟨_, ?_, he, by simpa using hT, hF⟩
    rw [List.nil_append, tL_nil_sets]
    have := sets_le n (tL X Y E)
    omega
  go_enter Try.func12, Try.ntmps12
  go_wp2_with fail
  refine (HSZ.out _).mono ?_
  rintro e w' ⟨rfl, rfl⟩
  go_wp2_with fail
  refine (HN.out _).mono ?_
  rintro e w1 ⟨p, rfl, hT1, hB1, hp1⟩
  have HT1 := hide hT1
  have HB1 := hide hB1
  have HP := hide hp1
  clear hT1 hB1 hp1
  go_wp2_with fail
  refine (HE.out _ (HLU.out.fresh HB1.out)).mono ?_
  rintro e w3 ⟨A3, c3, rfl, ho3, hb3⟩
  have HT3 := hide (HT1.out.fresh hb3)
  have HB3 := hide (HB1.out.trans (hb3.mono HB1.out.size))
  have HR3 := hide (own_rd ho3)
  have hA3 : ∀ ad, A3 = some ad → ad.block ∉ p.bl := fun ad h hm => by have := own_block_ge ho3 ad h; have := HT1.out.lt _ hm; omega
  have HA3 := hide hA3
  clear ho3 hb3 hA3
  go_wp2_with fail
  refine (HPUT.out _ p _ _ _ HT3.out HR3.out rfl HA3.out).mono ?_
  rintro e w4 ⟨r, hr0, rfl, hT4, hf4⟩
  have HT4 := hide hT4
  have HB4 := hide (HB3.out.trans (hf4.below HP.out HB3.out.size))
  clear hT4 hf4 HT3 HB3 HR3 HA3 HT1
  obtain ⟨re, te⟩ := HRE.out
  obtain ⟨rv, tv, rd, td⟩ := HRV.out
  go_wp2_with fail
  obtain ⟨tc, tr, tc', tr', ht0, ht1, i1, i2, i3, i4, i5, i6, i7, i8, i9, i0⟩ := HR.out
  go_quiet (fail)
  have HT5 := hide (HT4.out.drewN nq)
  have HB5 := hide (HB4.out.drewN nq)
  clear HT4 HB4
  generalize w4.drewN nq = w5 at *
  clear tc tr tc' tr' ht0 ht1 i1 i2 i3 i4 i5 i6 i7 i8 i9 i0
  go_wp2_with fail
  refine (HO.out _ p HT5.out).mono ?_
  rintro r w6 ⟨rfl, hT6, hf6⟩
  have HT6 := hide hT6
  have HB6 := hide (HB5.out.trans (hf6.below HP.out HB5.out.size))
  clear HT5 HB5 hT6 hf6
  go_wp2_with fail
  refine (HS.out _ p HT6.out).mono ?_
  rintro r w7 ⟨rfl, hT7, hf7⟩
  have HT7 := hide hT7
  have HB7 := hide (HB6.out.trans (hf7.below HP.out HB6.out.size))
  clear HT6 HB6 hT7 hf7
  go_wp2_with fail
  refine (HC.out _ p HT7.out).mono ?_
  rintro r w' ⟨rfl, rfl⟩
  go_wp2_with fail
  refine (HW.out _ p HT7.out).mono ?_
  rintro r w8 ⟨rfl, k8, rfl⟩
  have HT8 := hide (HT7.out.drewN k8)
  have HB8 := hide (HB7.out.drewN k8)
  clear HT7 HB7
  generalize w7.drewN k8 = w8 at *
  go_wp2_with fail
  obtain ⟨tc, tr, -, -, -, -, -, -, -, -, -, -, i7, i8, -, -⟩ := HR.out
  obtain ⟨rc, rr⟩ := HR2.out
  have HA8 := hide (HA.out _ p (HT8.out.drewN 1))
  go_region_held3 (fun w' => True) (first | trivial) (first | (go_at_call 27; (refine HA8.out.mono ?_); rintro r w9 ⟨rfl, hT9, hf9⟩))
  have HT9 := hide hT9
  have HB9 := hide (HB8.out.trans ((((Fr.refl p.bl w8).drewN 1).trans hf9).below HP.out HB8.out.size))
  clear HT8 HB8 hT9 hf9 tc tr i7 i8 rc rr
  go_wp2_with fail
  refine (HW2.out _ p HT9.out).mono ?_
  rintro r w10 ⟨rfl, k10, rfl⟩
  have HT10 := hide (HT9.out.drewN k10)
  have HB10 := hide (HB9.out.drewN k10)
  clear HT9 HB9
  generalize w9.drewN k10 = w10 at *
  go_wp2_with fail
  refine (HS2.out _ p HT10.out).mono ?_
  rintro r w11 ⟨rfl, hT11, hf11⟩
  have HT11 := hide hT11
  have HB11 := hide (HB10.out.trans (hf11.below HP.out HB10.out.size))
  clear HT10 HB10 hT11 hf11
  all_goals
    go_wp2_with fail
    refine (HC2.out _ p HT11.out).mono ?_
    rintro r w' ⟨rfl, rfl⟩
    go_wp2_with fail
    all_goals
      refine (works30 _).mono ?_
      rintro r w14 ⟨rfl, hb14⟩
      go_wp2_with fail
      go_ret
      exact ⟨rfl, HB11.out.trans (hb14.mono HB11.out.size)⟩
end Go.Proofs.Ytnkkdoookhhhaaa
