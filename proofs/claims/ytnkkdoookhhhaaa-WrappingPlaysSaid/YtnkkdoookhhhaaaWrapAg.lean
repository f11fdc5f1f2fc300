/- seepagelaw30.agree: two tori that show the same. -/
import Derived.Test.YtnkkdoookhhhaaaWrapRv
import Derived.Test.YtnkkdoookhhhaaaWrapSm
import Derived.Test.YtnkkdoookhhhaaaWrapEs
import Derived.Test.YtnkkdoookhhhaaaWrapRs
import Derived.Test.YtnkkdoookhhhaaaWrappingNilWalk
namespace Go.Proofs.Ytnkkdoookhhhaaa
open Go.RowKit
set_option linter.unusedVariables false

set_option maxHeartbeats 4000000 in
theorem agree30_run (w : World) (t r : Value) (a b : Int) (ax dn ok s : Bool) (dx dy c : Int) (I : World → Prop) (h0 : I w)
    (h1 : ∀ w, I w → Calls Try.prog 22 #[t] w fun e w' => e = .returned (.tuple #[.bool ax, .bool dn]) ∧ I w')
    (h2 : ∀ w, I w → Calls Try.prog 31 #[r] w fun e w' => e = .returned (.tuple #[.bool ax, .bool dn]) ∧ I w')
    (h3 : ∀ w, I w → Calls Try.prog 23 #[t, .int .i64 a, .int .i64 b] w fun e w' => e = .returned (.tuple #[.int .i64 dx, .int .i64 dy, .bool ok]) ∧ I w')
    (h4 : ∀ w, I w → Calls Try.prog 36 #[r, .int .i64 a, .int .i64 b] w fun e w' => e = .returned (.tuple #[.int .i64 dx, .int .i64 dy, .bool ok]) ∧ I w')
    (h5 : ∀ w, I w → Calls Try.prog 29 #[t, .int .i64 a, .int .i64 b] w fun e w' => e = .returned (.bool s) ∧ I w')
    (h6 : ∀ w, I w → Calls Try.prog 37 #[r, .int .i64 a, .int .i64 b] w fun e w' => e = .returned (.bool s) ∧ I w')
    (h7 : ∀ w, I w → Calls Try.prog 24 #[t] w fun e w' => e = .returned (.int .i64 c) ∧ I w')
    (h8 : ∀ w, I w → Calls Try.prog 38 #[r] w fun e w' => e = .returned (.int .i64 c) ∧ I w') :
    Calls Try.prog 26 #[t, r, .int .i64 a, .int .i64 b] w fun e w' => e = .returned (.bool true) ∧ I w' := by
  have H1 := hide (h1 w h0)
  have H2 := hide h2
  have H3 := hide h3
  have H4 := hide h4
  have H5 := hide h5
  have H6 := hide h6
  have H7 := hide h7
  have H8 := hide h8
  clear h0 h1 h2 h3 h4 h5 h6 h7 h8
  go_enter Try.func26, Try.ntmps26
  go_wp2_with fail
  refine H1.out.mono ?_
  rintro e w1 ⟨rfl, i1⟩
  have I1 := hide (H2.out _ i1)
  clear i1
  go_wp2_with fail
  refine I1.out.mono ?_
  rintro e w2 ⟨rfl, i2⟩
  have I2 := hide (H3.out _ i2)
  clear i2
  go_wp2_with fail
  refine I2.out.mono ?_
  rintro e w3 ⟨rfl, i3⟩
  have I3 := hide (H4.out _ i3)
  clear i3
  go_wp2_with fail
  refine I3.out.mono ?_
  rintro e w4 ⟨rfl, i4⟩
  have I4 := hide (H5.out _ i4)
  clear i4
  go_wp2_with fail
  refine I4.out.mono ?_
  rintro e w5 ⟨rfl, i5⟩
  have I5 := hide (H6.out _ i5)
  clear i5
  go_wp2_with fail
  refine I5.out.mono ?_
  rintro e w6 ⟨rfl, i6⟩
  have I6 := hide (H7.out _ i6)
  clear i6
  go_wp2_with fail
  refine I6.out.mono ?_
  rintro e w7 ⟨rfl, i7⟩
  have I7 := hide (H8.out _ i7)
  clear i7
  go_wp2_with fail
  refine I7.out.mono ?_
  rintro e w8 ⟨rfl, i8⟩
  have I8 := hide i8
  clear i8
  go_wp2_with fail
  go_ret
  exact ⟨rfl, I8.out⟩

/-- A torus and one of the document with the same edges, in blocks of their own. -/
structure Two30 (B : Nat) (w0 w : World) (p : TLoc) (q : RLoc) (W H n : Nat) (E : List Nat) : Prop where
  t : Tor w p W H n E
  r : RT w q W H n E
  pB : ∀ b ∈ p.bl, B ≤ b
  qB : ∀ b ∈ q.bl, B ≤ b
  ne : ∀ b ∈ p.bl, b ∉ q.bl
  bel : Below B w0 w
  le : B ≤ w0.heap.size
section
variable {B : Nat} {w0 w w' : World} {p : TLoc} {q : RLoc} {W H n : Nat} {E E' : List Nat}
theorem Two30.new (h : Two30 B w0 w p q W H n E) (k : Below w.heap.size w w') : Two30 B w0 w' p q W H n E :=
  ⟨h.t.fresh k, h.r.fresh k, h.pB, h.qB, h.ne, h.bel.trans (k.mono (Nat.le_trans h.le h.bel.size)), h.le⟩
theorem Two30.drewN (h : Two30 B w0 w p q W H n E) (k : Nat) : Two30 B w0 (w.drewN k) p q W H n E := h.new ((Below.refl _ _).drewN k)
theorem Two30.prog (h : Two30 B w0 w p q W H n E) (ht : Tor w' p W H n E') (k : Fr p.bl w w') : Tor w' p W H n E' ∧ RT w' q W H n E ∧ Below B w0 w' :=
  ⟨ht, h.r.fr k (fun b hb hm => h.ne b hm hb), h.bel.trans (k.below h.pB (Nat.le_trans h.le h.bel.size))⟩
theorem Two30.same (h : Two30 B w0 w p q W H n E) (ht : Tor w' p W H n E) (k : Fr p.bl w w') : Two30 B w0 w' p q W H n E := by
  obtain ⟨a, b, c⟩ := h.prog ht k
  exact ⟨a, b, h.pB, h.qB, h.ne, c, h.le⟩
end
theorem agree30_ok (w0 w : World) (B : Nat) (a b : Int) (p : TLoc) (q : RLoc) (W H n : Nat) (E : List Nat) (h : Two30 B w0 w p q W H n E) :
    Calls Try.prog 26 #[.pointer (some ⟨p.g, 0, none⟩), .pointer (some ⟨q.g, 0, none⟩), .int .i64 a, .int .i64 b] w fun e w' => e = .returned (.bool true) ∧ Two30 B w0 w' p q W H n E := by
  refine agree30_run w _ _ a b (anyB W H tX E) (anyB W H tY E) (offOk W H E a b) (sameB n (tL W H E) a b) (offX W H E a b) (offY W H E a b) (sets n (tL W H E) : Int) (fun w => Two30 B w0 w p q W H n E) h ?_ ?_ ?_ ?_ ?_ ?_ ?_ ?_
  · intro w h; exact (torWraps w p W H n E h.t).mono fun e w' ⟨he, k, hk⟩ => ⟨he, hk ▸ h.drewN k⟩
  · intro w h; exact (r30Wraps w q W H n E h.r).mono fun e w' ⟨he, hb⟩ => ⟨he, h.new hb⟩
  · intro w h; exact (torOffset w a b p W H n E h.t).mono fun e w' ⟨he, ht, hf⟩ => ⟨he, h.same ht hf⟩
  · intro w h; exact (r30Offset w a b q W H n E h.r).mono fun e w' ⟨he, hb⟩ => ⟨he, h.new hb⟩
  · intro w h; exact (torSame w a b p W H n E h.t).mono fun e w' ⟨he, ht, hf⟩ => ⟨he, h.same ht hf⟩
  · intro w h; exact (r30Same w a b q W H n E h.r).mono fun e w' ⟨he, hb⟩ => ⟨he, h.new hb⟩
  · intro w h; exact (torCount w p W H n E h.t).mono fun e w' ⟨he, hb⟩ => ⟨he, hb ▸ h⟩
  · intro w h; exact (r30Count w q W H n E h.r).mono fun e w' ⟨he, hb⟩ => ⟨he, h.new hb⟩
theorem agree30_nil (w0 w : World) (B : Nat) (a b : Int) (h : Below B w0 w) :
    Calls Try.prog 26 #[.pointer none, .pointer none, .int .i64 a, .int .i64 b] w fun e w' => e = .returned (.bool true) ∧ Below B w0 w' := by
  refine agree30_run w _ _ a b false false false false 0 0 0 (fun w => Below B w0 w) h ?_ ?_ ?_ ?_ ?_ ?_ ?_ ?_
  · intro w h; exact (torBad_Wraps w _ (.inl rfl)).mono fun e w' ⟨he, hk⟩ => ⟨he, hk ▸ h⟩
  · intro w h; exact (r30N_Wraps w).mono fun e w' ⟨he, hk⟩ => ⟨he, hk ▸ h⟩
  · intro w h; exact (torBad_Offset w _ a b (.inl rfl)).mono fun e w' ⟨he, hk⟩ => ⟨he, hk ▸ h⟩
  · intro w h; exact (r30N_Offset w a b).mono fun e w' ⟨he, k, hk⟩ => ⟨he, hk ▸ h.drewN k⟩
  · intro w h; exact (torBad_Same w _ a b (.inl rfl)).mono fun e w' ⟨he, hk⟩ => ⟨he, hk ▸ h⟩
  · intro w h; exact (r30N_Same w a b).mono fun e w' ⟨he, k, hk⟩ => ⟨he, hk ▸ h.drewN k⟩
  · intro w h; exact (torBad_Count w _ (.inl rfl)).mono fun e w' ⟨he, hk⟩ => ⟨he, hk ▸ h⟩
  · intro w h; exact (r30N_Count w).mono fun e w' ⟨he, hk⟩ => ⟨he, hk ▸ h⟩
/-- Both New, of sizes that there are. -/
theorem both30 (w : World) (W H : Nat) (ht : torB (W : Int) (H : Int) = true) :
    Calls Try.prog 19 #[.int .i64 (W : Int), .int .i64 (H : Int)] w fun e w1 => ∃ p : TLoc, e = .returned (.tuple #[.pointer (some ⟨p.g, 0, none⟩), .int .i64 0]) ∧
      Calls Try.prog 25 #[.int .i64 (W : Int), .int .i64 (H : Int)] w1 fun e w2 => ∃ q : RLoc, e = .returned (.tuple #[.pointer (some ⟨q.g, 0, none⟩), .int .i64 0]) ∧ Two30 w.heap.size w w2 p q W H (W * H) [] := by
  refine (torNew_ok w W H ht).mono fun e w1 ⟨p, he, hT, hB, hp⟩ => ⟨p, he, ?_⟩
  refine (r30New_ok w1 W H (W * H) ht rfl).mono fun e w2 ⟨q, he, hR, hq, hB2⟩ => ⟨q, he, hT.fresh hB2, hR, hp, fun b hb => Nat.le_trans hB.size (hq b hb), fun b hb hm => ?_, hB.trans (hB2.mono hB.size), Nat.le_refl _⟩
  have h1 := hT.lt b hb
  have h2 := hq b hm
  omega
/-- One edge, in both. -/
theorem step30 (w0 w : World) (B : Nat) (x y d : Int) (p : TLoc) (q : RLoc) (W H n : Nat) (E : List Nat) (h : Two30 B w0 w p q W H n E) :
    ∃ (b : Bool) (c : Int) (E' : List Nat), Calls Try.prog 27 #[.pointer (some ⟨p.g, 0, none⟩), .int .i64 x, .int .i64 y, .int .i64 d] w fun e w1 => e = .returned (.tuple #[.bool b, .int .i64 c]) ∧ Below B w0 w1 ∧
      ∀ k, Calls Try.prog 28 #[.pointer (some ⟨q.g, 0, none⟩), .int .i64 x, .int .i64 y, .int .i64 d] (w1.drewN k) fun e w2 => e = .returned (.tuple #[.bool b, .int .i64 c]) ∧ Two30 B w0 w2 p q W H n E' := by
  by_cases hp : placeB W H x y = true
  · by_cases hd : d = 0 ∨ d = 1
    · obtain ⟨x, rfl⟩ := Int.eq_ofNat_of_zero_le (show 0 ≤ x by simp [placeB] at hp; omega)
      obtain ⟨y, rfl⟩ := Int.eq_ofNat_of_zero_le (show 0 ≤ y by simp [placeB] at hp; omega)
      obtain ⟨d, rfl⟩ := Int.eq_ofNat_of_zero_le (show 0 ≤ d by omega)
      have hx : x < W := by simp [placeB] at hp; omega
      have hy : y < H := by simp [placeB] at hp; omega
      refine ⟨!(tL W H E (tS (2 * (y * W + x) + d)) == tL W H E (tT W H (2 * (y * W + x) + d))), 0, E ++ [2 * (y * W + x) + d], (torAdd_ok w x y d p W H n E h.t hx hy (by omega)).mono fun e w1 ⟨he, hT, hF⟩ => ?_⟩
      obtain ⟨a, b, c⟩ := h.prog hT hF
      refine ⟨he, c, fun k => (r30Add_ok _ x y d q W H n E (b.drewN k) hx hy (by omega)).mono fun e w2 ⟨he, hR, hF2⟩ => ⟨he, (a.drewN k).fr hF2 h.ne, hR, h.pB, h.qB, h.ne, (c.drewN k).trans (hF2.below h.qB (Nat.le_trans h.le c.size)), h.le⟩⟩
    · have hd' : d ≠ 0 ∧ d ≠ 1 := by omega
      refine ⟨false, 2, E, (torAdd_arg w x y d p W H n E h.t hp hd').mono fun e w1 ⟨he, hk⟩ => ⟨he, hk ▸ h.bel, fun k => ?_⟩⟩
      subst hk
      exact (r30Add_arg _ x y d q W H n E (h.r.drewN k) hp hd').mono fun e w2 ⟨he, hk⟩ => ⟨he, hk ▸ h.drewN k⟩
  · have hp : placeB W H x y = false := by simpa using hp
    refine ⟨false, 3, E, (torAdd_range w x y d p W H n E h.t hp).mono fun e w1 ⟨he, hk⟩ => ⟨he, hk ▸ h.bel, fun k => ?_⟩⟩
    subst hk
    exact (r30Add_range _ x y d q W H n E (h.r.drewN k) hp).mono fun e w2 ⟨he, hk⟩ => ⟨he, hk ▸ h.drewN k⟩
end Go.Proofs.Ytnkkdoookhhhaaa
