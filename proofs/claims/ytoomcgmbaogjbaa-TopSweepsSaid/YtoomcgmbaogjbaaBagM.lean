/- bits.Mul64 of small numbers, bits.Add64. -/
import Derived.Laws.Externs
import Derived.Laws.Bits64b
import Derived.Test.YtoomcgmbaogjbaaBagH
namespace Go.Proofs.Ytoomcgmbaogjbaa
open Go.RowKit
set_option linter.unusedVariables false

theorem add64_run (x y c : Nat) (hc : c ≤ 1) (w : World) : (callFunc 56 #[.int .u64 (x : Int), .int .u64 (y : Int), .int .u64 (c : Int)]).run Try.prog w =
    .ok (.value (.tuple #[.int .u64 (((x + y + c) % 18446744073709551616 : Nat) : Int), .int .u64 (((x + y + c) / 18446744073709551616 : Nat) : Int)])) w := by
  rw [run_callFunc_extern Try.func56 (by kernel_rfl) (by kernel_rfl) (by kernel_rfl) (e := add64Entry) (by kernel_rfl), run_add64 x y c (by omega) (by omega) (by omega) (by omega)]
  simp only [Result.andThen]
  congr 5 <;> omega

theorem mask32 (a : Nat) (ha : a < 4294967296) : bits .and .u64 (a : Int) 4294967295 = (a : Int) := by
  have h := bits_and_u64_nat a 4294967295 (by omega) (by omega)
  have e : a &&& 4294967295 = a % 4294967296 := Nat.and_two_pow_sub_one_eq_mod a 32
  rw [e, Nat.mod_eq_of_lt ha] at h
  exact h

set_option maxRecDepth 100000 in
set_option maxHeartbeats 4000000 in
theorem mul64_small (x y : Nat) (hx : x ≤ 60000) (hy : y ≤ 60000) (w : World) :
    Calls Try.prog 55 #[.int .u64 (x : Int), .int .u64 (y : Int)] w fun e w' => e = .returned (.tuple #[.int .u64 0, .int .u64 ((x * y : Nat) : Int)]) ∧ w = w' := by
  have h1 := mask32 x (by omega)
  have h2 := mask32 y (by omega)
  have hxy : x * y ≤ 60000 * 60000 := Nat.mul_le_mul hx hy
  have hx1 : 0 ≤ (x : Int) * (y : Int) := Int.mul_nonneg (by omega) (by omega)
  have hx2 : (x : Int) * (y : Int) ≤ 3600000000 := by
    have : ((x * y : Nat) : Int) ≤ 3600000000 := by omega
    rwa [Int.natCast_mul] at this
  have hx3 : (x : Int) * (y : Int) / 4294967296 = 0 := by omega
  have hx0 : (x : Int) / 4294967296 = 0 := by omega
  have hy0 : (y : Int) / 4294967296 = 0 := by omega
  have h3 : bits .and .u64 0 4294967295 = 0 := mask32 0 (by omega)
  have hp : ((x * y : Nat) : Int) = (x : Int) * (y : Int) := Int.natCast_mul x y
  rw [hp]
  clear hp hxy
  go_enter Try.func55, Try.ntmps55
  go_wp2_with fail
  go_ret2
  exact ⟨rfl, rfl⟩

set_option maxRecDepth 100000 in
set_option maxHeartbeats 8000000 in
theorem bagSqF (w : World) (b sp X n S : Nat) (hX : X ≤ 200) (hn : n ≤ 200) (hS : S ≤ 100000000) (h2 : w.cell? ⟨b, 2, none⟩ = some (.int .i64 (X : Int))) (h3 : w.cell? ⟨b, 3, none⟩ = some (.int .i64 (n : Int)))
    (hs : Blk w sp 97 #[.int .u64 0, .int .u64 (S : Int)]) :
    Calls Try.prog 54 #[.pointer (some ⟨b, 0, none⟩), .pointer (some ⟨sp, 0, none⟩)] w fun e w' => e = .returned (.bool true) ∧
      Blk w' sp 97 #[.int .u64 0, .int .u64 ((S + X * X * n : Nat) : Int)] ∧ Fr [sp] w w' := by
  have hq : X * X ≤ 200 * 200 := Nat.mul_le_mul hX hX
  have hm1 := mul64_small X X (by omega) (by omega)
  obtain ⟨Q, hQ⟩ : ∃ Q, Q = X * X := ⟨_, rfl⟩
  rw [← hQ] at hq hm1 ⊢
  have hqn : Q * n ≤ 40000 * 200 := Nat.mul_le_mul hq hn
  have hm2 := mul64_small Q n (by omega) (by omega)
  obtain ⟨P, hP⟩ : ∃ P, P = Q * n := ⟨_, rfl⟩
  rw [← hP] at hqn hm2 ⊢
  have ha1 : ∀ W : World, (callFunc 56 #[.int .u64 (S : Int), .int .u64 (P : Int), .int .u64 0]).run Try.prog W = .ok (.value (.tuple #[.int .u64 ((S + P : Nat) : Int), .int .u64 0])) W := fun W => by
    have := add64_run S P 0 (by omega) W
    rw [show (S + P + 0) % 18446744073709551616 = S + P from by omega, show (S + P + 0) / 18446744073709551616 = 0 from by omega] at this
    exact this
  have ha2 : ∀ W : World, (callFunc 56 #[.int .u64 0, .int .u64 0, .int .u64 0]).run Try.prog W = .ok (.value (.tuple #[.int .u64 0, .int .u64 0])) W := fun W => add64_run 0 0 0 (by omega) W
  have s0 := (hs.cell 0).trans rfl
  have s1 := (hs.cell 1).trans rfl
  have g0 := hs.frozen 0
  have g1 := hs.frozen 1
  have HS := hide hs
  have HM1 := hide hm1
  have HM2 := hide hm2
  have HP : Hid (S + P ≤ 200000000) := hide (by omega)
  clear hs hQ hP hq hm1 hm2
  obtain ⟨R, hR⟩ : ∃ R, R = S + P := ⟨_, rfl⟩
  rw [← hR] at ha1 HP ⊢
  have hr := HP.out
  clear hR
  go_enter Try.func54, Try.ntmps54
  go_wp2_with fail
  refine (HM1.out _).mono ?_
  rintro e w1 ⟨rfl, rfl⟩
  go_wp2_with fail
  refine (HM2.out _).mono ?_
  rintro e w1 ⟨rfl, rfl⟩
  go_wp2_with fail
  go_ret
  have hd : decide ((R : Int) ≤ 9223372036854775807) = true := decide_eq_true (by have := HP.out; omega)
  refine ⟨by show Ending.returned (.bool (decide ((R : Int) ≤ 9223372036854775807))) = _; rw [hd], (HS.out.set_ 1 (.int .u64 (R : Int))).set_ 0 (.int .u64 0), ?_⟩
  exact ((Fr.refl [sp] w).setCell (p := ⟨sp, 1, none⟩) (.inl (by simp)) _).setCell (p := ⟨sp, 0, none⟩) (.inl (by simp)) _

/-- The sum of the squares. -/
def sqL (L : List (Int × Nat)) : Nat := (L.map fun p => p.1.toNat * p.1.toNat * p.2).sum
def Sml (L : List (Int × Nat)) : Prop := ∀ p ∈ L, 0 ≤ p.1 ∧ p.1 ≤ 200 ∧ p.2 ≤ 200
theorem sqL_node (b : Nat) (l r : BT) (x : Int) (n : Nat) : sqL (BT.node b l r x n).ls = sqL l.ls + x.toNat * x.toNat * n + sqL r.ls := by
  simp only [sqL, BT.ls, List.map_append, List.map_cons, List.sum_append, List.sum_cons]; omega

set_option maxRecDepth 100000 in
set_option maxHeartbeats 8000000 in
theorem bagWalk (sp : Nat) : ∀ (t : BT) (w : World) (S : Nat), Tr w t → sp ∉ t.bl → Sml t.ls → S + sqL t.ls ≤ 100000000 → Blk w sp 97 #[.int .u64 0, .int .u64 (S : Int)] →
    Calls Try.prog 53 #[.pointer t.pt, .func (.func 54) #[] #[.pointer (some ⟨sp, 0, none⟩)]] w fun e w' => e = .returned (.bool true) ∧
      Blk w' sp 97 #[.int .u64 0, .int .u64 ((S + sqL t.ls : Nat) : Int)] ∧ Fr [sp] w w'
  | .nil, w, S, ht, hn, hm, hb, hs => by
    show Calls _ _ #[.pointer none, .func (.func 54) #[] #[.pointer (some ⟨sp, 0, none⟩)]] _ _
    have HS := hide hs
    clear ht hn hm hb hs
    go_enter Try.func53, Try.ntmps53
    go_wp2_with fail
    go_ret
    exact ⟨rfl, HS.out, Fr.refl _ _⟩
  | .node b l r x n, w, S, ht, hn, hm, hb, hs => by
    rw [sqL_node] at hb ⊢
    have hx := hm (x, n) (by simp [BT.ls])
    obtain ⟨X, rfl⟩ : ∃ X : Nat, x = (X : Int) := ⟨x.toNat, by have := hx.1; simp at this; omega⟩
    simp only [Int.toNat_natCast] at hb hx ⊢
    rw [show S + (sqL l.ls + X * X * n + sqL r.ls) = S + sqL l.ls + X * X * n + sqL r.ls from by omega]
    have hbn : sp ≠ b := fun e => hn (by rw [e]; exact List.mem_cons_self ..)
    have hbl : sp ∉ l.bl := fun h => hn (List.mem_cons_of_mem _ (List.mem_append.2 (.inl h)))
    have hbr : sp ∉ r.bl := fun h => hn (List.mem_cons_of_mem _ (List.mem_append.2 (.inr h)))
    have hq : ∀ T : BT, sp ∉ T.bl → ∀ k ∈ T.bl, k ∉ [sp] := fun T h k hk hmm => by
      simp only [List.mem_cons, List.not_mem_nil, or_false] at hmm
      subst hmm
      exact h hk
    have IL := hide (bagWalk sp l w S ht.2.1 hbl (fun p hp => hm p (by simp [BT.ls, hp])) (by omega) hs)
    have IR := hide fun (W : World) (hF : Fr [sp] w W) (hS : Blk W sp 97 #[.int .u64 0, .int .u64 ((S + sqL l.ls + X * X * n : Nat) : Int)]) => bagWalk sp r W (S + sqL l.ls + X * X * n) (ht.2.2.fr hF (hq r hbr)) hbr (fun p hp => hm p (by simp [BT.ls, hp])) (by omega) hS
    have hbb : b ∉ [sp] := by simpa using fun e => hbn e.symm
    have HN := hide fun (W : World) (hF : Fr [sp] w W) => (ht.1.fr hF hbb).cells
    have IV := hide fun (W : World) (hF : Fr [sp] w W) (hS : Blk W sp 97 #[.int .u64 0, .int .u64 ((S + sqL l.ls : Nat) : Int)]) => bagSqF W b sp X n (S + sqL l.ls) (by omega) (by omega) (by omega) ((ht.1.fr hF hbb).cells.2.2.1) ((ht.1.fr hF hbb).cells.2.2.2.1) hS
    obtain ⟨c0, c1, c2, c3, -⟩ := ht.1.cells
    show Calls _ _ #[.pointer (some ⟨b, 0, none⟩), .func (.func 54) #[] #[.pointer (some ⟨sp, 0, none⟩)]] _ _
    clear ht hn hm hb hs hx hbn hbl hbr hq hbb
    generalize S + sqL l.ls + X * X * n = S2 at *
    generalize S + sqL l.ls = S1 at *
    generalize S2 + sqL r.ls = S3 at *
    go_enter Try.func53, Try.ntmps53
    go_wp2_with fail
    refine IL.out.mono ?_
    rintro e w1 ⟨rfl, hs1, hf1⟩
    have HS1 := hide hs1
    have HF1 := hide hf1
    obtain ⟨d0, d1, d2, d3, -⟩ := HN.out _ hf1
    clear hs1 hf1 c0 c1 c2 c3
    go_wp2_with fail
    refine (IV.out _ HF1.out HS1.out).mono ?_
    rintro e w2 ⟨rfl, hs2, hf2⟩
    have HS2 := hide hs2
    have HF2 := hide (HF1.out.trans hf2)
    obtain ⟨e0, e1, e2, e3, -⟩ := HN.out _ HF2.out
    clear hs2 hf2 d0 d1 d2 d3
    go_wp2_with fail
    refine (IR.out _ HF2.out HS2.out).mono ?_
    rintro e w3 ⟨rfl, hs3, hf3⟩
    have HS3 := hide hs3
    have HF3 := hide (HF2.out.trans hf3)
    clear hs3 hf3 e0 e1 e2 e3
    go_wp2_with fail
    go_ret
    exact ⟨rfl, HS3.out, HF3.out⟩

set_option maxRecDepth 100000 in
set_option maxHeartbeats 8000000 in
theorem bagSquares (w : World) (g : Nat) (t : BT) (h : Bg w g t) (hm : Sml t.ls) (hb : sqL t.ls ≤ 100000000) :
    Calls Try.prog 44 #[.pointer (some ⟨g, 0, none⟩)] w fun e w' => e = .returned (.tuple #[.int .i64 (sqL t.ls : Int), .int .i64 0]) ∧ Fr [] w w' := by
  have HV := hide (bagValid w g t h)
  have hf1 : Fr [] w (w.alloc (.cells #[.int .u64 0, .int .u64 0] 97)) := (Fr.refl [] w).alloc _
  have hx1 : Blk (w.alloc (.cells #[.int .u64 0, .int .u64 0] 97)) w.heap.size 97 #[.int .u64 0, .int .u64 ((0 : Nat) : Int)] := Blk.new _ _ _
  have h1 := h.fr hf1 (by simp) (by simp)
  have hnt : w.heap.size ∉ t.bl := fun hh => by have := h.tr.lt _ hh; omega
  have HW := hide (bagWalk w.heap.size t _ 0 h1.tr hnt hm (by omega) hx1)
  have c1 := h1.c1
  have HF1 := hide hf1
  have HB := hide hb
  clear h hf1 hx1 h1 hnt hm hb
  rw [Nat.zero_add] at HW
  generalize sqL t.ls = Q at *
  go_enter Try.func44, Try.ntmps44
  go_wp2_with fail
  refine HV.out.mono ?_
  rintro e w1 ⟨rfl, rfl⟩
  go_wp2_with fail
  refine HW.out.mono ?_
  rintro e w2 ⟨rfl, hs, hf⟩
  have s0 := (hs.cell 0).trans rfl
  have s1 := (hs.cell 1).trans rfl
  have HF2 := hide (HF1.out.trans_new hf (by simp))
  have hQ := HB.out
  clear hs hf c1
  generalize w.heap.size = sp at *
  go_wp2_with fail
  go_ret2
  exact ⟨rfl, HF2.out⟩
end Go.Proofs.Ytoomcgmbaogjbaa
