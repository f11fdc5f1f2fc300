/- The walk of WrappingOffsets. -/
import Derived.Test.YtnkkdoookhhhaaaWrapK
import Derived.Test.YtnkkdoookhhhaaaWrapY
namespace Go.Proofs.Ytnkkdoookhhhaaa
open Go.RowKit
set_option linter.unusedVariables false

/-- What a torus's Offset says of two vertices. -/
def OffSays (p : TLoc) (X Y n : Nat) (E : List Nat) (i j : Nat) (x y : Int) (b : Bool) : Prop :=
  ∀ w, Tor w p X Y n E → Calls Try.prog 23 #[.pointer (some ⟨p.g, 0, none⟩), .int .i64 (i : Int), .int .i64 (j : Int)] w
    fun e w' => e = .returned (.tuple #[.int .i64 x, .int .i64 y, .bool b]) ∧ Tor w' p X Y n E ∧ Fr p.bl w w'
theorem offSays {X Y n : Nat} {E : List Nat} {i j : Nat} {x y : Int} {b : Bool} (p : TLoc) (hx : offX X Y E (i : Int) (j : Int) = x) (hy : offY X Y E (i : Int) (j : Int) = y) (hb : offOk X Y E (i : Int) (j : Int) = b) : OffSays p X Y n E i j x y b := fun w h => by
  have := torOffset w (i : Int) (j : Int) p X Y n E h
  rwa [hx, hy, hb] at this


set_option maxRecDepth 200000 in
set_option maxHeartbeats 16000000 in
theorem offsets_A1 (a0 a1 a3 a4 a5 : Int) (v2 : Value) (l : List Nat) (W : World) (X Y n i j k : Nat) (E : List Nat) (ax ay bx by_ cx cy : Int) (bc ac x1 x2 : Bool)
    (hX1 : 1 ≤ X) (hX2 : X ≤ 12) (hY1 : 1 ≤ Y) (hY2 : Y ≤ 12) (hp0 : 1 ≤ (X : Int) * (Y : Int)) (hp1 : (X : Int) * (Y : Int) ≤ 144) (hi : i < n) (hj : j < n) (hk : k < n) (hn2 : n ≤ 144)
    (b3 : 0 ≤ a3 ∧ a3 < 256) (b4 : 0 ≤ a4 ∧ a4 < 256) (b5 : 0 ≤ a5 ∧ a5 < 256)
    (ri : a3 % ((X : Int) * (Y : Int)) = (i : Int)) (rj : a4 % ((X : Int) * (Y : Int)) = (j : Int)) (rk : a5 % ((X : Int) * (Y : Int)) = (k : Int))
    (HSZ : Hid (∀ W, Calls Try.prog 18 #[.int .u8 a0, .int .u8 a1] W fun e W' => e = .returned (.tuple #[.int .i64 (X : Int), .int .i64 (Y : Int)]) ∧ W = W'))
    (HN : Hid (∀ w, Calls Try.prog 19 #[.int .i64 (X : Int), .int .i64 (Y : Int)] w
      fun e w' => ∃ p : TLoc, e = .returned (.tuple #[.pointer (some ⟨p.g, 0, none⟩), .int .i64 0]) ∧ Tor w' p X Y n [] ∧ Below w.heap.size w w' ∧ p.from_ w.heap.size))
    (HE : Hid (∀ w, IsU16 w v2 l → Calls Try.prog 20 #[.int .i64 ((X : Int) * (Y : Int)), v2, .bool false] w
      fun e w' => ∃ A c, e = .returned (.slice A E.length c) ∧ w'.ownsRow w.heap.size 3 1 (.slice A E.length c) E.length (natv E) ∧ Below w.heap.size w w'))
    (HLU : Hid (IsU16 W v2 l)) (HEL : Hid ((∀ e ∈ E, e < 2 * n) ∧ E.length ≤ 300)) (HSN : Hid ((sets n (tL X Y E)) ≤ n))
    (HOij : Hid (∀ p, OffSays p X Y n E i j 0 0 false)) (HOjk : Hid (∀ p, OffSays p X Y n E j k bx by_ bc)) (HOik : Hid (∀ p, OffSays p X Y n E i k 0 0 false)) (HOji : Hid (∀ p, OffSays p X Y n E j i 0 0 false)) (HOii : Hid (∀ p, OffSays p X Y n E i i 0 0 false))
    (HWR : Hid (∀ w p, Tor w p X Y n E → Calls Try.prog 22 #[.pointer (some ⟨p.g, 0, none⟩)] w fun e w' => e = .returned (.tuple #[.bool true, .bool x2]) ∧ ∃ k, w' = w.drewN k))
    (HSM : Hid (∀ w p, Tor w p X Y n E → Calls Try.prog 29 #[.pointer (some ⟨p.g, 0, none⟩), .int .i64 (i : Int), .int .i64 (j : Int)] w fun e w' => e = .returned (.bool ac) ∧ Tor w' p X Y n E ∧ Fr p.bl w w'))
    (hbax : -144 ≤ ax ∧ ax ≤ 144 ∧ -144 ≤ ay ∧ ay ≤ 144) (hbbx : -144 ≤ bx ∧ bx ≤ 144 ∧ -144 ≤ by_ ∧ by_ ≤ 144) :
    Calls Try.prog 11 #[.int .u8 a0, .int .u8 a1, v2, .int .u8 a3, .int .u8 a4, .int .u8 a5] W fun e W' => e = .returned (.bool true) ∧ Below W.heap.size W W' := by
  obtain ⟨b3, b3'⟩ := b3
  obtain ⟨b4, b4'⟩ := b4
  obtain ⟨b5, b5'⟩ := b5
  obtain ⟨bx1, bx2, bx3, bx4⟩ := hbax
  obtain ⟨bb1, bb2, bb3, bb4⟩ := hbbx
  have ti : a3.tmod ((X : Int) * (Y : Int)) = (i : Int) := by rw [Int.tmod_eq_emod_of_nonneg b3]; exact ri
  have tj : a4.tmod ((X : Int) * (Y : Int)) = (j : Int) := by rw [Int.tmod_eq_emod_of_nonneg b4]; exact rj
  have tk : a5.tmod ((X : Int) * (Y : Int)) = (k : Int) := by rw [Int.tmod_eq_emod_of_nonneg b5]; exact rk
  have HRI := hide (And.intro ri (And.intro ti (And.intro rj (And.intro tj (And.intro rk tk)))))
  have hsn := HSN.out
  clear ri ti rj tj rk tk
  have hgs : ¬ ((n : Int) - (sets n (tL X Y E) : Int) < 0) := by omega
  generalize sets n (tL X Y E) = s at *
  have HPUT : Hid (∀ w p A m c, Tor w p X Y n [] → Rd w A m 1 (natv E) → E.length = m → (∀ ad, A = some ad → ad.block ∉ p.bl) → Calls Try.prog 21 #[.pointer (some ⟨p.g, 0, none⟩), .int .i64 (X : Int), .slice A m c, .bool false] w
      fun e w' => ∃ r : Int, 0 ≤ r ∧ e = .returned (.int .i64 r) ∧ Tor w' p X Y n E ∧ Fr p.bl w w') := fun w p A m c h hr hl hA => by
    have h1 := put_fwd w p X Y n A m c E [] h hr hl (by have := HEL.out.2; omega) HEL.out.1 hA
    refine h1.mono fun e w' ⟨he, hT, hF⟩ => ⟨_, ?_, he, by simpa using hT, hF⟩
    rw [List.nil_append, tL_nil_sets]
    have := sets_le n (tL X Y E)
    omega
  clear hgs hsn HSN
  go_enter Try.func11, Try.ntmps11
  go_wp2_with fail
  refine (HSZ.out _).mono ?_
  rintro e w' ⟨rfl, rfl⟩
  go_wp2_with fail
  refine (HN.out _).mono ?_
  rintro e w1 ⟨p, rfl, hT1, hB1, hp1⟩
  have HT1 := hide hT1
  have HB1 := hide hB1
  have HP := hide hp1
  clear hT1 hB1 hp1
  go_wp2_with fail
  refine (HE.out _ (HLU.out.fresh HB1.out)).mono ?_
  rintro e w3 ⟨A3, c3, rfl, ho3, hb3⟩
  have HT3 := hide (HT1.out.fresh hb3)
  have HB3 := hide (HB1.out.trans (hb3.mono HB1.out.size))
  have HR3 := hide (own_rd ho3)
  have hA3 : ∀ ad, A3 = some ad → ad.block ∉ p.bl := fun ad h hm => by have := own_block_ge ho3 ad h; have := HT1.out.lt _ hm; omega
  have HA3 := hide hA3
  clear ho3 hb3 hA3
  go_wp2_with fail
  refine (HPUT.out _ p _ _ _ HT3.out HR3.out rfl HA3.out).mono ?_
  rintro e w4 ⟨r, hr0, rfl, hT4, hf4⟩
  have HT4 := hide hT4
  have HB4 := hide (HB3.out.trans (hf4.below HP.out HB3.out.size))
  clear hT4 hf4 HT3 HB3 HR3 HA3 HT1
  go_wp2_with fail
  obtain ⟨ri, ti, rj, tj, rk, tk⟩ := HRI.out
  go_quiet (fail)
  have HT5 := hide (HT4.out.drewN nq)
  have HB5 := hide (HB4.out.drewN nq)
  clear HT4 HB4
  generalize w4.drewN nq = w5 at *
  clear ri ti rj tj rk tk
  go_wp2_with fail
  refine (HOij.out p _ HT5.out).mono ?_
  rintro e w6 ⟨rfl, hT6, hf6⟩
  have HT6 := hide hT6
  have HB6 := hide (HB5.out.trans (hf6.below HP.out HB5.out.size))
  clear HT5 HB5 hT6 hf6
  go_wp2_with fail
  refine (HOjk.out p _ HT6.out).mono ?_
  rintro e w7 ⟨rfl, hT7, hf7⟩
  have HT7 := hide hT7
  have HB7 := hide (HB6.out.trans (hf7.below HP.out HB6.out.size))
  clear HT6 HB6 hT7 hf7
  go_wp2_with fail
  refine (HOik.out p _ HT7.out).mono ?_
  rintro e w8 ⟨rfl, hT8, hf8⟩
  have HT8 := hide hT8
  have HB8 := hide (HB7.out.trans (hf8.below HP.out HB7.out.size))
  clear HT7 HB7 hT8 hf8
  go_wp2_with fail
  refine (HOji.out p _ HT8.out).mono ?_
  rintro e w9 ⟨rfl, hT9, hf9⟩
  have HT9 := hide hT9
  have HB9 := hide (HB8.out.trans (hf9.below HP.out HB8.out.size))
  clear HT8 HB8 hT9 hf9
  go_wp2_with fail
  refine (HOii.out p _ HT9.out).mono ?_
  rintro e w10 ⟨rfl, hT10, hf10⟩
  have HT10 := hide hT10
  have HB10 := hide (HB9.out.trans (hf10.below HP.out HB9.out.size))
  clear HT9 HB9 hT10 hf10
  go_wp2_with fail
  refine (HWR.out _ p HT10.out).mono ?_
  rintro e w11 ⟨rfl, k11, rfl⟩
  have HT11 := hide (HT10.out.drewN k11)
  have HB11 := hide (HB10.out.drewN k11)
  clear HT10 HB10
  generalize w10.drewN k11 = w11 at *
  go_wp2_with fail
  go_quiet (fail)
  have HT12 := hide (HT11.out.drewN nq)
  have HB12 := hide (HB11.out.drewN nq)
  clear HT11 HB11
  generalize w11.drewN nq = w12 at *
  go_wp2_with fail
  cases ac
  all_goals
    refine (HSM.out _ p HT12.out).mono ?_
    rintro e w13 ⟨rfl, hT13, hf13⟩
    have HB13 := hide (HB12.out.trans (hf13.below HP.out HB12.out.size))
    clear hT13 hf13 HT12
    go_wp2_with fail
    refine (works30 _).mono ?_
    rintro e w14 ⟨rfl, hb14⟩
    go_wp2_with fail
    go_ret
    exact ⟨rfl, HB13.out.trans (hb14.mono HB13.out.size)⟩

set_option maxRecDepth 200000 in
set_option maxHeartbeats 16000000 in
theorem offsets_A2 (a0 a1 a3 a4 a5 : Int) (v2 : Value) (l : List Nat) (W : World) (X Y n i j k : Nat) (E : List Nat) (ax ay bx by_ cx cy : Int) (bc ac x1 x2 : Bool)
    (hX1 : 1 ≤ X) (hX2 : X ≤ 12) (hY1 : 1 ≤ Y) (hY2 : Y ≤ 12) (hp0 : 1 ≤ (X : Int) * (Y : Int)) (hp1 : (X : Int) * (Y : Int) ≤ 144) (hi : i < n) (hj : j < n) (hk : k < n) (hn2 : n ≤ 144)
    (b3 : 0 ≤ a3 ∧ a3 < 256) (b4 : 0 ≤ a4 ∧ a4 < 256) (b5 : 0 ≤ a5 ∧ a5 < 256)
    (ri : a3 % ((X : Int) * (Y : Int)) = (i : Int)) (rj : a4 % ((X : Int) * (Y : Int)) = (j : Int)) (rk : a5 % ((X : Int) * (Y : Int)) = (k : Int))
    (HSZ : Hid (∀ W, Calls Try.prog 18 #[.int .u8 a0, .int .u8 a1] W fun e W' => e = .returned (.tuple #[.int .i64 (X : Int), .int .i64 (Y : Int)]) ∧ W = W'))
    (HN : Hid (∀ w, Calls Try.prog 19 #[.int .i64 (X : Int), .int .i64 (Y : Int)] w
      fun e w' => ∃ p : TLoc, e = .returned (.tuple #[.pointer (some ⟨p.g, 0, none⟩), .int .i64 0]) ∧ Tor w' p X Y n [] ∧ Below w.heap.size w w' ∧ p.from_ w.heap.size))
    (HE : Hid (∀ w, IsU16 w v2 l → Calls Try.prog 20 #[.int .i64 ((X : Int) * (Y : Int)), v2, .bool false] w
      fun e w' => ∃ A c, e = .returned (.slice A E.length c) ∧ w'.ownsRow w.heap.size 3 1 (.slice A E.length c) E.length (natv E) ∧ Below w.heap.size w w'))
    (HLU : Hid (IsU16 W v2 l)) (HEL : Hid ((∀ e ∈ E, e < 2 * n) ∧ E.length ≤ 300)) (HSN : Hid ((sets n (tL X Y E)) ≤ n))
    (HOij : Hid (∀ p, OffSays p X Y n E i j 0 0 false)) (HOjk : Hid (∀ p, OffSays p X Y n E j k bx by_ bc)) (HOik : Hid (∀ p, OffSays p X Y n E i k 0 0 false)) (HOji : Hid (∀ p, OffSays p X Y n E j i 0 0 false)) (HOii : Hid (∀ p, OffSays p X Y n E i i 0 0 false))
    (HWR : Hid (∀ w p, Tor w p X Y n E → Calls Try.prog 22 #[.pointer (some ⟨p.g, 0, none⟩)] w fun e w' => e = .returned (.tuple #[.bool false, .bool true]) ∧ ∃ k, w' = w.drewN k))
    (HSM : Hid (∀ w p, Tor w p X Y n E → Calls Try.prog 29 #[.pointer (some ⟨p.g, 0, none⟩), .int .i64 (i : Int), .int .i64 (j : Int)] w fun e w' => e = .returned (.bool ac) ∧ Tor w' p X Y n E ∧ Fr p.bl w w'))
    (hbax : -144 ≤ ax ∧ ax ≤ 144 ∧ -144 ≤ ay ∧ ay ≤ 144) (hbbx : -144 ≤ bx ∧ bx ≤ 144 ∧ -144 ≤ by_ ∧ by_ ≤ 144) :
    Calls Try.prog 11 #[.int .u8 a0, .int .u8 a1, v2, .int .u8 a3, .int .u8 a4, .int .u8 a5] W fun e W' => e = .returned (.bool true) ∧ Below W.heap.size W W' := by
  obtain ⟨b3, b3'⟩ := b3
  obtain ⟨b4, b4'⟩ := b4
  obtain ⟨b5, b5'⟩ := b5
  obtain ⟨bx1, bx2, bx3, bx4⟩ := hbax
  obtain ⟨bb1, bb2, bb3, bb4⟩ := hbbx
  have ti : a3.tmod ((X : Int) * (Y : Int)) = (i : Int) := by rw [Int.tmod_eq_emod_of_nonneg b3]; exact ri
  have tj : a4.tmod ((X : Int) * (Y : Int)) = (j : Int) := by rw [Int.tmod_eq_emod_of_nonneg b4]; exact rj
  have tk : a5.tmod ((X : Int) * (Y : Int)) = (k : Int) := by rw [Int.tmod_eq_emod_of_nonneg b5]; exact rk
  have HRI := hide (And.intro ri (And.intro ti (And.intro rj (And.intro tj (And.intro rk tk)))))
  have hsn := HSN.out
  clear ri ti rj tj rk tk
  have hgs : ¬ ((n : Int) - (sets n (tL X Y E) : Int) < 0) := by omega
  generalize sets n (tL X Y E) = s at *
  have HPUT : Hid (∀ w p A m c, Tor w p X Y n [] → Rd w A m 1 (natv E) → E.length = m → (∀ ad, A = some ad → ad.block ∉ p.bl) → Calls Try.prog 21 #[.pointer (some ⟨p.g, 0, none⟩), .int .i64 (X : Int), .slice A m c, .bool false] w
      fun e w' => ∃ r : Int, 0 ≤ r ∧ e = .returned (.int .i64 r) ∧ Tor w' p X Y n E ∧ Fr p.bl w w') := fun w p A m c h hr hl hA => by
    have h1 := put_fwd w p X Y n A m c E [] h hr hl (by have := HEL.out.2; omega) HEL.out.1 hA
    refine h1.mono fun e w' ⟨he, hT, hF⟩ => ⟨_, ?_, he, by simpa using hT, hF⟩
    rw [List.nil_append, tL_nil_sets]
    have := sets_le n (tL X Y E)
    omega
  clear hgs hsn HSN
  go_enter Try.func11, Try.ntmps11
  go_wp2_with fail
  refine (HSZ.out _).mono ?_
  rintro e w' ⟨rfl, rfl⟩
  go_wp2_with fail
  refine (HN.out _).mono ?_
  rintro e w1 ⟨p, rfl, hT1, hB1, hp1⟩
  have HT1 := hide hT1
  have HB1 := hide hB1
  have HP := hide hp1
  clear hT1 hB1 hp1
  go_wp2_with fail
  refine (HE.out _ (HLU.out.fresh HB1.out)).mono ?_
  rintro e w3 ⟨A3, c3, rfl, ho3, hb3⟩
  have HT3 := hide (HT1.out.fresh hb3)
  have HB3 := hide (HB1.out.trans (hb3.mono HB1.out.size))
  have HR3 := hide (own_rd ho3)
  have hA3 : ∀ ad, A3 = some ad → ad.block ∉ p.bl := fun ad h hm => by have := own_block_ge ho3 ad h; have := HT1.out.lt _ hm; omega
  have HA3 := hide hA3
  clear ho3 hb3 hA3
  go_wp2_with fail
  refine (HPUT.out _ p _ _ _ HT3.out HR3.out rfl HA3.out).mono ?_
  rintro e w4 ⟨r, hr0, rfl, hT4, hf4⟩
  have HT4 := hide hT4
  have HB4 := hide (HB3.out.trans (hf4.below HP.out HB3.out.size))
  clear hT4 hf4 HT3 HB3 HR3 HA3 HT1
  go_wp2_with fail
  obtain ⟨ri, ti, rj, tj, rk, tk⟩ := HRI.out
  go_quiet (fail)
  have HT5 := hide (HT4.out.drewN nq)
  have HB5 := hide (HB4.out.drewN nq)
  clear HT4 HB4
  generalize w4.drewN nq = w5 at *
  clear ri ti rj tj rk tk
  go_wp2_with fail
  refine (HOij.out p _ HT5.out).mono ?_
  rintro e w6 ⟨rfl, hT6, hf6⟩
  have HT6 := hide hT6
  have HB6 := hide (HB5.out.trans (hf6.below HP.out HB5.out.size))
  clear HT5 HB5 hT6 hf6
  go_wp2_with fail
  refine (HOjk.out p _ HT6.out).mono ?_
  rintro e w7 ⟨rfl, hT7, hf7⟩
  have HT7 := hide hT7
  have HB7 := hide (HB6.out.trans (hf7.below HP.out HB6.out.size))
  clear HT6 HB6 hT7 hf7
  go_wp2_with fail
  refine (HOik.out p _ HT7.out).mono ?_
  rintro e w8 ⟨rfl, hT8, hf8⟩
  have HT8 := hide hT8
  have HB8 := hide (HB7.out.trans (hf8.below HP.out HB7.out.size))
  clear HT7 HB7 hT8 hf8
  go_wp2_with fail
  refine (HOji.out p _ HT8.out).mono ?_
  rintro e w9 ⟨rfl, hT9, hf9⟩
  have HT9 := hide hT9
  have HB9 := hide (HB8.out.trans (hf9.below HP.out HB8.out.size))
  clear HT8 HB8 hT9 hf9
  go_wp2_with fail
  refine (HOii.out p _ HT9.out).mono ?_
  rintro e w10 ⟨rfl, hT10, hf10⟩
  have HT10 := hide hT10
  have HB10 := hide (HB9.out.trans (hf10.below HP.out HB9.out.size))
  clear HT9 HB9 hT10 hf10
  go_wp2_with fail
  refine (HWR.out _ p HT10.out).mono ?_
  rintro e w11 ⟨rfl, k11, rfl⟩
  have HT11 := hide (HT10.out.drewN k11)
  have HB11 := hide (HB10.out.drewN k11)
  clear HT10 HB10
  generalize w10.drewN k11 = w11 at *
  go_wp2_with fail
  go_quiet (fail)
  have HT12 := hide (HT11.out.drewN nq)
  have HB12 := hide (HB11.out.drewN nq)
  clear HT11 HB11
  generalize w11.drewN nq = w12 at *
  go_wp2_with fail
  cases ac
  all_goals
    refine (HSM.out _ p HT12.out).mono ?_
    rintro e w13 ⟨rfl, hT13, hf13⟩
    have HB13 := hide (HB12.out.trans (hf13.below HP.out HB12.out.size))
    clear hT13 hf13 HT12
    go_wp2_with fail
    refine (works30 _).mono ?_
    rintro e w14 ⟨rfl, hb14⟩
    go_wp2_with fail
    go_ret
    exact ⟨rfl, HB13.out.trans (hb14.mono HB13.out.size)⟩

set_option maxRecDepth 200000 in
set_option maxHeartbeats 16000000 in
theorem offsets_B1 (a0 a1 a3 a4 a5 : Int) (v2 : Value) (l : List Nat) (W : World) (X Y n i j k : Nat) (E : List Nat) (ax ay bx by_ cx cy : Int) (bc ac x1 x2 : Bool)
    (hX1 : 1 ≤ X) (hX2 : X ≤ 12) (hY1 : 1 ≤ Y) (hY2 : Y ≤ 12) (hp0 : 1 ≤ (X : Int) * (Y : Int)) (hp1 : (X : Int) * (Y : Int) ≤ 144) (hi : i < n) (hj : j < n) (hk : k < n) (hn2 : n ≤ 144)
    (b3 : 0 ≤ a3 ∧ a3 < 256) (b4 : 0 ≤ a4 ∧ a4 < 256) (b5 : 0 ≤ a5 ∧ a5 < 256)
    (ri : a3 % ((X : Int) * (Y : Int)) = (i : Int)) (rj : a4 % ((X : Int) * (Y : Int)) = (j : Int)) (rk : a5 % ((X : Int) * (Y : Int)) = (k : Int))
    (HSZ : Hid (∀ W, Calls Try.prog 18 #[.int .u8 a0, .int .u8 a1] W fun e W' => e = .returned (.tuple #[.int .i64 (X : Int), .int .i64 (Y : Int)]) ∧ W = W'))
    (HN : Hid (∀ w, Calls Try.prog 19 #[.int .i64 (X : Int), .int .i64 (Y : Int)] w
      fun e w' => ∃ p : TLoc, e = .returned (.tuple #[.pointer (some ⟨p.g, 0, none⟩), .int .i64 0]) ∧ Tor w' p X Y n [] ∧ Below w.heap.size w w' ∧ p.from_ w.heap.size))
    (HE : Hid (∀ w, IsU16 w v2 l → Calls Try.prog 20 #[.int .i64 ((X : Int) * (Y : Int)), v2, .bool false] w
      fun e w' => ∃ A c, e = .returned (.slice A E.length c) ∧ w'.ownsRow w.heap.size 3 1 (.slice A E.length c) E.length (natv E) ∧ Below w.heap.size w w'))
    (HLU : Hid (IsU16 W v2 l)) (HEL : Hid ((∀ e ∈ E, e < 2 * n) ∧ E.length ≤ 300)) (HSN : Hid ((sets n (tL X Y E)) ≤ n))
    (HOij : Hid (∀ p, OffSays p X Y n E i j 0 0 false)) (HOjk : Hid (∀ p, OffSays p X Y n E j k bx by_ bc)) (HOik : Hid (∀ p, OffSays p X Y n E i k cx cy ac)) (HOji : Hid (∀ p, OffSays p X Y n E j i 0 0 false)) (HOii : Hid (∀ p, OffSays p X Y n E i i 0 0 true))
    (HWR : Hid (∀ w p, Tor w p X Y n E → Calls Try.prog 22 #[.pointer (some ⟨p.g, 0, none⟩)] w fun e w' => e = .returned (.tuple #[.bool x1, .bool x2]) ∧ ∃ k, w' = w.drewN k))
    (HSM : Hid (∀ w p, Tor w p X Y n E → Calls Try.prog 29 #[.pointer (some ⟨p.g, 0, none⟩), .int .i64 (i : Int), .int .i64 (j : Int)] w fun e w' => e = .returned (.bool false) ∧ Tor w' p X Y n E ∧ Fr p.bl w w'))
    (hbax : -144 ≤ ax ∧ ax ≤ 144 ∧ -144 ≤ ay ∧ ay ≤ 144) (hbbx : -144 ≤ bx ∧ bx ≤ 144 ∧ -144 ≤ by_ ∧ by_ ≤ 144) :
    Calls Try.prog 11 #[.int .u8 a0, .int .u8 a1, v2, .int .u8 a3, .int .u8 a4, .int .u8 a5] W fun e W' => e = .returned (.bool true) ∧ Below W.heap.size W W' := by
  obtain ⟨b3, b3'⟩ := b3
  obtain ⟨b4, b4'⟩ := b4
  obtain ⟨b5, b5'⟩ := b5
  obtain ⟨bx1, bx2, bx3, bx4⟩ := hbax
  obtain ⟨bb1, bb2, bb3, bb4⟩ := hbbx
  have ti : a3.tmod ((X : Int) * (Y : Int)) = (i : Int) := by rw [Int.tmod_eq_emod_of_nonneg b3]; exact ri
  have tj : a4.tmod ((X : Int) * (Y : Int)) = (j : Int) := by rw [Int.tmod_eq_emod_of_nonneg b4]; exact rj
  have tk : a5.tmod ((X : Int) * (Y : Int)) = (k : Int) := by rw [Int.tmod_eq_emod_of_nonneg b5]; exact rk
  have HRI := hide (And.intro ri (And.intro ti (And.intro rj (And.intro tj (And.intro rk tk)))))
  have hsn := HSN.out
  clear ri ti rj tj rk tk
  have hgs : ¬ ((n : Int) - (sets n (tL X Y E) : Int) < 0) := by omega
  generalize sets n (tL X Y E) = s at *
  have HPUT : Hid (∀ w p A m c, Tor w p X Y n [] → Rd w A m 1 (natv E) → E.length = m → (∀ ad, A = some ad → ad.block ∉ p.bl) → Calls Try.prog 21 #[.pointer (some ⟨p.g, 0, none⟩), .int .i64 (X : Int), .slice A m c, .bool false] w
      fun e w' => ∃ r : Int, 0 ≤ r ∧ e = .returned (.int .i64 r) ∧ Tor w' p X Y n E ∧ Fr p.bl w w') := fun w p A m c h hr hl hA => by
    have h1 := put_fwd w p X Y n A m c E [] h hr hl (by have := HEL.out.2; omega) HEL.out.1 hA
    refine h1.mono fun e w' ⟨he, hT, hF⟩ => ⟨_, ?_, he, by simpa using hT, hF⟩
    rw [List.nil_append, tL_nil_sets]
    have := sets_le n (tL X Y E)
    omega
  clear hgs hsn HSN
  go_enter Try.func11, Try.ntmps11
  go_wp2_with fail
  refine (HSZ.out _).mono ?_
  rintro e w' ⟨rfl, rfl⟩
  go_wp2_with fail
  refine (HN.out _).mono ?_
  rintro e w1 ⟨p, rfl, hT1, hB1, hp1⟩
  have HT1 := hide hT1
  have HB1 := hide hB1
  have HP := hide hp1
  clear hT1 hB1 hp1
  go_wp2_with fail
  refine (HE.out _ (HLU.out.fresh HB1.out)).mono ?_
  rintro e w3 ⟨A3, c3, rfl, ho3, hb3⟩
  have HT3 := hide (HT1.out.fresh hb3)
  have HB3 := hide (HB1.out.trans (hb3.mono HB1.out.size))
  have HR3 := hide (own_rd ho3)
  have hA3 : ∀ ad, A3 = some ad → ad.block ∉ p.bl := fun ad h hm => by have := own_block_ge ho3 ad h; have := HT1.out.lt _ hm; omega
  have HA3 := hide hA3
  clear ho3 hb3 hA3
  go_wp2_with fail
  refine (HPUT.out _ p _ _ _ HT3.out HR3.out rfl HA3.out).mono ?_
  rintro e w4 ⟨r, hr0, rfl, hT4, hf4⟩
  have HT4 := hide hT4
  have HB4 := hide (HB3.out.trans (hf4.below HP.out HB3.out.size))
  clear hT4 hf4 HT3 HB3 HR3 HA3 HT1
  go_wp2_with fail
  obtain ⟨ri, ti, rj, tj, rk, tk⟩ := HRI.out
  go_quiet (fail)
  have HT5 := hide (HT4.out.drewN nq)
  have HB5 := hide (HB4.out.drewN nq)
  clear HT4 HB4
  generalize w4.drewN nq = w5 at *
  clear ri ti rj tj rk tk
  go_wp2_with fail
  refine (HOij.out p _ HT5.out).mono ?_
  rintro e w6 ⟨rfl, hT6, hf6⟩
  have HT6 := hide hT6
  have HB6 := hide (HB5.out.trans (hf6.below HP.out HB5.out.size))
  clear HT5 HB5 hT6 hf6
  go_wp2_with fail
  refine (HOjk.out p _ HT6.out).mono ?_
  rintro e w7 ⟨rfl, hT7, hf7⟩
  have HT7 := hide hT7
  have HB7 := hide (HB6.out.trans (hf7.below HP.out HB6.out.size))
  clear HT6 HB6 hT7 hf7
  go_wp2_with fail
  refine (HOik.out p _ HT7.out).mono ?_
  rintro e w8 ⟨rfl, hT8, hf8⟩
  have HT8 := hide hT8
  have HB8 := hide (HB7.out.trans (hf8.below HP.out HB7.out.size))
  clear HT7 HB7 hT8 hf8
  go_wp2_with fail
  refine (HOji.out p _ HT8.out).mono ?_
  rintro e w9 ⟨rfl, hT9, hf9⟩
  have HT9 := hide hT9
  have HB9 := hide (HB8.out.trans (hf9.below HP.out HB8.out.size))
  clear HT8 HB8 hT9 hf9
  go_wp2_with fail
  refine (HOii.out p _ HT9.out).mono ?_
  rintro e w10 ⟨rfl, hT10, hf10⟩
  have HT10 := hide hT10
  have HB10 := hide (HB9.out.trans (hf10.below HP.out HB9.out.size))
  clear HT9 HB9 hT10 hf10
  go_wp2_with fail
  refine (HWR.out _ p HT10.out).mono ?_
  rintro e w11 ⟨rfl, k11, rfl⟩
  have HT11 := hide (HT10.out.drewN k11)
  have HB11 := hide (HB10.out.drewN k11)
  clear HT10 HB10
  generalize w10.drewN k11 = w11 at *
  go_wp2_with fail
  go_quiet (fail)
  have HT12 := hide (HT11.out.drewN nq)
  have HB12 := hide (HB11.out.drewN nq)
  clear HT11 HB11
  generalize w11.drewN nq = w12 at *
  go_wp2_with fail
  refine (HSM.out _ p HT12.out).mono ?_
  rintro e w13 ⟨rfl, hT13, hf13⟩
  have HB13 := hide (HB12.out.trans (hf13.below HP.out HB12.out.size))
  clear hT13 hf13 HT12
  go_wp2_with fail
  refine (works30 _).mono ?_
  rintro e w14 ⟨rfl, hb14⟩
  go_wp2_with fail
  go_ret
  exact ⟨rfl, HB13.out.trans (hb14.mono HB13.out.size)⟩
end Go.Proofs.Ytnkkdoookhhhaaa
