/- The walk of WrappingOffsets. -/
import Derived.Test.YtnkkdoookhhhaaaWrapOffB
namespace Go.Proofs.Ytnkkdoookhhhaaa
open Go.RowKit
set_option linter.unusedVariables false

theorem wrappingOffsets_walk (a0 a1 : Int) (v2 : Value) (l2 : List Int) (a3 a4 a5 : Int) (W : World) (w0 : (Lit.int .u8 a0).wf = true) (w1 : (Lit.int .u8 a1).wf = true) (w2 : IsInts .u16 W v2 l2) (w3 : (Lit.int .u8 a3).wf = true) (w4 : (Lit.int .u8 a4).wf = true) (w5 : (Lit.int .u8 a5).wf = true) :
    Calls Try.prog 11 #[.int .u8 a0, .int .u8 a1, v2, .int .u8 a3, .int .u8 a4, .int .u8 a5] W fun e W' => e = .returned (.bool true) ∧ Below W.heap.size W W' := by
  obtain ⟨X, Y, n, hX1, hX2, hY1, hY2, hn, -, hn1, hn2, hXY, -, htor, -, SZ⟩ := start30 a0 a1 w0 w1
  obtain ⟨l, hl⟩ := ints_u16 w2
  have b3 := u8_bd w3
  have b4 := u8_bd w4
  have b5 := u8_bd w5
  obtain ⟨i, hi, ri, _⟩ := rem_nat b3.1 hn1
  obtain ⟨j, hj, rj, _⟩ := rem_nat b4.1 hn1
  obtain ⟨k, hk, rk, _⟩ := rem_nat b5.1 hn1
  have hE := edg_inE (X := X) (Y := Y) (by omega) false l
  rw [← hn] at hE
  have hEl := edg_in (N := 2 * n) (by omega) false l
  have E1 := fun w h => edges_any w n v2 l false h hn1 (by omega)
  generalize edg (2 * n) false l = E at *
  have N1 := fun w => torNew_ok w X Y htor
  subst hn
  have HEL : Hid ((∀ e ∈ E, e < 2 * (X * Y)) ∧ E.length ≤ 300) := ⟨hEl.1, hEl.2.1⟩
  have HSN : Hid (sets (X * Y) (tL X Y E) ≤ X * Y) := sets_le _ _
  have HWR : Hid (∀ w p, Tor w p X Y (X * Y) E → Calls Try.prog 22 #[.pointer (some ⟨p.g, 0, none⟩)] w fun e w' => e = .returned (.tuple #[.bool (anyB X Y tX E), .bool (anyB X Y tY E)]) ∧ ∃ k, w' = w.drewN k) := fun w p h => torWraps w p X Y (X * Y) E h
  have HSM : Hid (∀ w p, Tor w p X Y (X * Y) E → Calls Try.prog 29 #[.pointer (some ⟨p.g, 0, none⟩), .int .i64 (i : Int), .int .i64 (j : Int)] w fun e w' => e = .returned (.bool (sameB (X * Y) (tL X Y E) (i : Int) (j : Int))) ∧ Tor w' p X Y (X * Y) E ∧ Fr p.bl w w') := fun w p h => torSame w (i : Int) (j : Int) p X Y (X * Y) E h
  rw [← hXY] at E1 ri rj rk
  have hp0 : 1 ≤ (X : Int) * (Y : Int) := by omega
  have hp1 : (X : Int) * (Y : Int) ≤ 144 := by omega
  have hbx := off_bd hE hi hj
  have hby := off_bd hE hj hk
  have hsf := off_self hE hi
  have hsy := off_symm hE hi hj
  cases hown : offOk X Y E (i : Int) (i : Int)
  · obtain ⟨hno, hany⟩ := off_none hi hown
    have hij := hno j hj
    have hik := hno k hk
    have hji : offOk X Y E (j : Int) (i : Int) = false := by rw [hsy.1]; exact hij
    have o1 := offOk_false hij
    have o2 := offOk_false hik
    have o3 := offOk_false hji
    cases hx : anyB X Y tX E
    · have hy : anyB X Y tY E = true := by (rcases hany with h | h; · rw [hx] at h; cases h
                                            · exact h)
      rw [hx, hy] at HWR
      exact offsets_A2 a0 a1 a3 a4 a5 v2 l W X Y (X * Y) i j k E 0 0 (offX X Y E (j : Int) (k : Int)) (offY X Y E (j : Int) (k : Int)) 0 0 (offOk X Y E (j : Int) (k : Int)) (sameB (X * Y) (tL X Y E) (i : Int) (j : Int)) true true
        hX1 hX2 hY1 hY2 hp0 hp1 hi hj hk hn2 b3 b4 b5 ri rj rk SZ N1 E1 hl HEL HSN (fun p => offSays p o1.1 o1.2 hij) (fun p => offSays p rfl rfl rfl) (fun p => offSays p o2.1 o2.2 hik) (fun p => offSays p o3.1 o3.2 hji) (fun p => offSays p hsf.1 hsf.2 hown) HWR HSM (by omega) (by omega)
    · rw [hx] at HWR
      exact offsets_A1 a0 a1 a3 a4 a5 v2 l W X Y (X * Y) i j k E 0 0 (offX X Y E (j : Int) (k : Int)) (offY X Y E (j : Int) (k : Int)) 0 0 (offOk X Y E (j : Int) (k : Int)) (sameB (X * Y) (tL X Y E) (i : Int) (j : Int)) true (anyB X Y tY E)
        hX1 hX2 hY1 hY2 hp0 hp1 hi hj hk hn2 b3 b4 b5 ri rj rk SZ N1 E1 hl HEL HSN (fun p => offSays p o1.1 o1.2 hij) (fun p => offSays p rfl rfl rfl) (fun p => offSays p o2.1 o2.2 hik) (fun p => offSays p o3.1 o3.2 hji) (fun p => offSays p hsf.1 hsf.2 hown) HWR HSM (by omega) (by omega)
  · cases hij : offOk X Y E (i : Int) (j : Int)
    · have hji : offOk X Y E (j : Int) (i : Int) = false := by rw [hsy.1]; exact hij
      have o1 := offOk_false hij
      have o3 := offOk_false hji
      rw [off_other hi hj hown hij] at HSM
      exact offsets_B1 a0 a1 a3 a4 a5 v2 l W X Y (X * Y) i j k E 0 0 (offX X Y E (j : Int) (k : Int)) (offY X Y E (j : Int) (k : Int)) (offX X Y E (i : Int) (k : Int)) (offY X Y E (i : Int) (k : Int)) (offOk X Y E (j : Int) (k : Int)) (offOk X Y E (i : Int) (k : Int)) (anyB X Y tX E) (anyB X Y tY E)
        hX1 hX2 hY1 hY2 hp0 hp1 hi hj hk hn2 b3 b4 b5 ri rj rk SZ N1 E1 hl HEL HSN (fun p => offSays p o1.1 o1.2 hij) (fun p => offSays p rfl rfl rfl) (fun p => offSays p rfl rfl rfl) (fun p => offSays p o3.1 o3.2 hji) (fun p => offSays p hsf.1 hsf.2 hown) HWR HSM (by omega) (by omega)
    · have hji : offOk X Y E (j : Int) (i : Int) = true := by rw [hsy.1]; exact hij
      obtain ⟨hpx, hpy⟩ := off_place hE hi hj hij
      rw [(off_own hi hj hij).2] at HSM
      have m1 : (i : Int).tmod (X : Int) = ((i % X : Nat) : Int) := by rw [Int.tmod_eq_emod_of_nonneg (by omega)]; push_cast; rfl
      have m2 : (j : Int).tmod (X : Int) = ((j % X : Nat) : Int) := by rw [Int.tmod_eq_emod_of_nonneg (by omega)]; push_cast; rfl
      have m3 : (i : Int).tdiv (X : Int) = ((i / X : Nat) : Int) := by rw [Int.tdiv_eq_ediv_of_nonneg (by omega)]; push_cast; rfl
      have m4 : (j : Int).tdiv (X : Int) = ((j / X : Nat) : Int) := by rw [Int.tdiv_eq_ediv_of_nonneg (by omega)]; push_cast; rfl
      cases hjk : offOk X Y E (j : Int) (k : Int)
      · exact offsets_B2b a0 a1 a3 a4 a5 v2 l W X Y (X * Y) i j k E (offX X Y E (i : Int) (j : Int)) (offY X Y E (i : Int) (j : Int)) (offX X Y E (j : Int) (k : Int)) (offY X Y E (j : Int) (k : Int)) (offX X Y E (i : Int) (k : Int)) (offY X Y E (i : Int) (k : Int)) false (offOk X Y E (i : Int) (k : Int)) (anyB X Y tX E) (anyB X Y tY E)
          hX1 hX2 hY1 hY2 hp0 hp1 hi hj hk hn2 b3 b4 b5 ri rj rk SZ N1 E1 hl HEL HSN (fun p => offSays p rfl rfl hij) (fun p => offSays p rfl rfl hjk) (fun p => offSays p rfl rfl rfl) (fun p => offSays p hsy.2.1 hsy.2.2 hji) (fun p => offSays p hsf.1 hsf.2 hown) HWR HSM (by omega) (by omega)
          (i % X) (j % X) (i / X) (j / X) m1 m2 m3 m4 (Nat.mod_lt _ hX1) (Nat.mod_lt _ hX1) (row_lt hi) (row_lt hj) hpx hpy
      · obtain ⟨hik, ax, ay⟩ := off_add hE hi hj hk hij hjk
        exact offsets_B2a a0 a1 a3 a4 a5 v2 l W X Y (X * Y) i j k E (offX X Y E (i : Int) (j : Int)) (offY X Y E (i : Int) (j : Int)) (offX X Y E (j : Int) (k : Int)) (offY X Y E (j : Int) (k : Int)) 0 0 true true (anyB X Y tX E) (anyB X Y tY E)
          hX1 hX2 hY1 hY2 hp0 hp1 hi hj hk hn2 b3 b4 b5 ri rj rk SZ N1 E1 hl HEL HSN (fun p => offSays p rfl rfl hij) (fun p => offSays p rfl rfl hjk) (fun p => offSays p ax ay hik) (fun p => offSays p hsy.2.1 hsy.2.2 hji) (fun p => offSays p hsf.1 hsf.2 hown) HWR HSM (by omega) (by omega)
          (i % X) (j % X) (i / X) (j / X) m1 m2 m3 m4 (Nat.mod_lt _ hX1) (Nat.mod_lt _ hX1) (row_lt hi) (row_lt hj) hpx hpy
end Go.Proofs.Ytnkkdoookhhhaaa
