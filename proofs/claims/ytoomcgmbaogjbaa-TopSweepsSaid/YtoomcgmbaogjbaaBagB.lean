/- bag: trees, plain and in memory; sizes. bag: refresh. -/
import Derived.Test.YtoomcgmbaogjbaaMem
import Derived.Test.YtoomcgmbaogjbaaInfo
import Derived.LoopN
namespace Go.Proofs.Ytoomcgmbaogjbaa
open Go.RowKit
set_option linter.unusedVariables false

/-- A tree, whose nodes know the block in which they lie. -/
inductive BT where
  | nil
  | node (b : Nat) (l r : BT) (x : Int) (t : Nat)
namespace BT
def sz : BT → Nat
  | nil => 0
  | node _ l r _ t => t + l.sz + r.sz
def ct : BT → Nat
  | nil => 0
  | node _ l r _ _ => 1 + l.ct + r.ct
def ht : BT → Nat
  | nil => 0
  | node _ l r _ _ => max l.ht r.ht + 1
/-- The blocks. -/
def bl : BT → List Nat
  | nil => []
  | node b l r _ _ => b :: (l.bl ++ r.bl)
/-- The numbers, with how often each is there. -/
def ls : BT → List (Int × Nat)
  | nil => []
  | node _ l r x t => l.ls ++ (x, t) :: r.ls
def pt : BT → Option Addr
  | nil => none
  | node b _ _ _ _ => some ⟨b, 0, none⟩
theorem ht_ct : ∀ t : BT, t.ht ≤ t.ct
  | nil => Nat.le_refl _
  | node _ l r _ _ => by have := ht_ct l; have := ht_ct r; simp only [ht, ct]; omega
end BT
/-- A node as it lies, whatever is kept of its subtree. -/
def NodeAt (w : World) (b : Nat) (l r : Option Addr) (x : Int) (t : Nat) (s d h : Int) : Prop :=
  Blk w b 101 #[.pointer l, .pointer r, .int .i64 x, .int .i64 (t : Int), .int .i64 s, .int .i64 d, .int .i64 h]
def Tr (w : World) : BT → Prop
  | .nil => True
  | .node b l r x t => NodeAt w b l.pt r.pt x t ((BT.node b l r x t).sz : Int) ((BT.node b l r x t).ct : Int) ((BT.node b l r x t).ht : Int) ∧ Tr w l ∧ Tr w r
section
variable {w w' : World} {b : Nat} {l r : Option Addr} {x : Int} {t : Nat} {s d h : Int}
theorem NodeAt.cells (k : NodeAt w b l r x t s d h) : w.cell? ⟨b, 0, none⟩ = some (.pointer l) ∧ w.cell? ⟨b, 1, none⟩ = some (.pointer r) ∧ w.cell? ⟨b, 2, none⟩ = some (.int .i64 x) ∧ w.cell? ⟨b, 3, none⟩ = some (.int .i64 (t : Int)) ∧
    w.cell? ⟨b, 4, none⟩ = some (.int .i64 s) ∧ w.cell? ⟨b, 5, none⟩ = some (.int .i64 d) ∧ w.cell? ⟨b, 6, none⟩ = some (.int .i64 h) :=
  ⟨(Blk.cell k 0).trans rfl, (Blk.cell k 1).trans rfl, (Blk.cell k 2).trans rfl, (Blk.cell k 3).trans rfl, (Blk.cell k 4).trans rfl, (Blk.cell k 5).trans rfl, (Blk.cell k 6).trans rfl⟩
theorem NodeAt.fz (k : NodeAt w b l r x t s d h) : w.frozen? ⟨b, 0, none⟩ = false ∧ w.frozen? ⟨b, 1, none⟩ = false ∧ w.frozen? ⟨b, 2, none⟩ = false ∧ w.frozen? ⟨b, 3, none⟩ = false ∧ w.frozen? ⟨b, 4, none⟩ = false ∧ w.frozen? ⟨b, 5, none⟩ = false ∧ w.frozen? ⟨b, 6, none⟩ = false :=
  ⟨Blk.frozen k 0, Blk.frozen k 1, Blk.frozen k 2, Blk.frozen k 3, Blk.frozen k 4, Blk.frozen k 5, Blk.frozen k 6⟩
theorem NodeAt.fr {S : List Nat} (k : NodeAt w b l r x t s d h) (f : Fr S w w') (hb : b ∉ S) : NodeAt w' b l r x t s d h := Blk.fr k f hb
theorem NodeAt.set0 (k : NodeAt w b l r x t s d h) (l' : Option Addr) : NodeAt (w.setCell ⟨b, 0, none⟩ (.pointer l')) b l' r x t s d h := Blk.set_ k 0 (.pointer l')
theorem NodeAt.set1 (k : NodeAt w b l r x t s d h) (r' : Option Addr) : NodeAt (w.setCell ⟨b, 1, none⟩ (.pointer r')) b l r' x t s d h := Blk.set_ k 1 (.pointer r')
theorem NodeAt.set3 (k : NodeAt w b l r x t s d h) (t' : Nat) : NodeAt (w.setCell ⟨b, 3, none⟩ (.int .i64 (t' : Int))) b l r x t' s d h := Blk.set_ k 3 (.int .i64 (t' : Int))
theorem NodeAt.set4 (k : NodeAt w b l r x t s d h) (s' : Int) : NodeAt (w.setCell ⟨b, 4, none⟩ (.int .i64 s')) b l r x t s' d h := Blk.set_ k 4 (.int .i64 s')
theorem NodeAt.set5 (k : NodeAt w b l r x t s d h) (d' : Int) : NodeAt (w.setCell ⟨b, 5, none⟩ (.int .i64 d')) b l r x t s d' h := Blk.set_ k 5 (.int .i64 d')
theorem NodeAt.set6 (k : NodeAt w b l r x t s d h) (h' : Int) : NodeAt (w.setCell ⟨b, 6, none⟩ (.int .i64 h')) b l r x t s d h' := Blk.set_ k 6 (.int .i64 h')
theorem NodeAt.drewN (k : NodeAt w b l r x t s d h) (n : Nat) : NodeAt (w.drewN n) b l r x t s d h := k
theorem NodeAt.lt (k : NodeAt w b l r x t s d h) : b < w.heap.size := Blk.lt k
end
theorem Tr.fr {w w' : World} {S : List Nat} : ∀ {t : BT}, Tr w t → Fr S w w' → (∀ b ∈ t.bl, b ∉ S) → Tr w' t
  | .nil, _, _, _ => trivial
  | .node b l r x t, h, f, hd => ⟨h.1.fr f (hd b (by simp [BT.bl])), h.2.1.fr f fun c hc => hd c (by simp [BT.bl, hc]), h.2.2.fr f fun c hc => hd c (by simp [BT.bl, hc])⟩
theorem Tr.lt {w : World} : ∀ {t : BT}, Tr w t → ∀ b ∈ t.bl, b < w.heap.size
  | .nil, _, _, hb => by cases hb
  | .node b l r x t, h, c, hc => by
    rcases List.mem_cons.1 hc with rfl | hc
    · exact h.1.lt
    · rcases List.mem_append.1 hc with hc | hc
      · exact h.2.1.lt c hc
      · exact h.2.2.lt c hc

set_option maxRecDepth 100000 in
theorem bagSizes (w : World) (t : BT) (h : Tr w t) :
    Calls Try.prog 58 #[.pointer t.pt] w fun e w' => e = .returned (.tuple #[.int .i64 (t.sz : Int), .int .i64 (t.ct : Int), .int .i64 (t.ht : Int)]) ∧ ∃ k, w' = w.drewN k := by
  cases t with
  | nil =>
    show Calls _ _ #[.pointer none] _ _
    go_enter Try.func58, Try.ntmps58
    go_wp2_with fail
    refine bodyPost_ret (results_tmp3 rfl _ _ _) rfl ?_
    exact ⟨rfl, 0, rfl⟩
  | node b l r x t =>
    obtain ⟨c0, c1, c2, c3, c4, c5, c6⟩ := h.1.cells
    clear h
    show Calls _ _ #[.pointer (some ⟨b, 0, none⟩)] _ _
    generalize (BT.node b l r x t).sz = s at *
    generalize (BT.node b l r x t).ct = d at *
    generalize (BT.node b l r x t).ht = g at *
    go_enter Try.func58, Try.ntmps58
    go_wp2_with fail
    go_quiet (fail)
    go_wp2_with fail
    refine bodyPost_ret (results_tmp3 rfl _ _ _) rfl ?_
    exact ⟨rfl, _, rfl⟩
end Go.Proofs.Ytoomcgmbaogjbaa
namespace Go.Proofs.Ytoomcgmbaogjbaa
open Go.RowKit
set_option linter.unusedVariables false

set_option maxRecDepth 100000 in
set_option maxHeartbeats 8000000 in
theorem bagRefresh (w : World) (b : Nat) (l r : BT) (x : Int) (t : Nat) (s0 d0 h0 : Int) (hn : NodeAt w b l.pt r.pt x t s0 d0 h0) (hl : Tr w l) (hr : Tr w r) (bl : b ∉ l.bl) (br : b ∉ r.bl)
    (hs : (BT.node b l r x t).sz ≤ 1000000) (hc : (BT.node b l r x t).ct ≤ 1000000) :
    Calls Try.prog 59 #[.pointer (some ⟨b, 0, none⟩)] w fun e w' => (∃ v, e = .returned v) ∧ Tr w' (.node b l r x t) ∧ Fr [b] w w' := by
  have HL := hide hl
  have HR := hide hr
  have HBL := hide bl
  have HBR := hide br
  have HN := hide hn
  obtain ⟨c0, c1, c2, c3, c4, c5, c6⟩ := hn.cells
  obtain ⟨f0, f1, f2, f3, f4, f5, f6⟩ := hn.fz
  simp only [BT.sz] at hs
  simp only [BT.ct] at hc
  clear hl hr bl br hn
  go_enter Try.func59, Try.ntmps59
  have hix0 : ∀ (p q : Option Addr) (W : World), (Instr.index 99 (.agg #[.pointer p, .pointer q]) (.int .i64 0)).run Try.prog W = .ok (.pointer p) W := fun p q W => by kernel_rfl
  have hix1 : ∀ (p q : Option Addr) (W : World), (Instr.index 99 (.agg #[.pointer p, .pointer q]) (.int .i64 1)).run Try.prog W = .ok (.pointer q) W := fun p q W => by kernel_rfl
  go_wp2_with fail
  have hn1 := ((HN.out.set4 (t : Int)).set5 1).set6 0
  have hf1 : Fr [b] w (((w.setCell ⟨b, 4, none⟩ (.int .i64 (t : Int))).setCell ⟨b, 5, none⟩ (.int .i64 1)).setCell ⟨b, 6, none⟩ (.int .i64 0)) :=
    (((Fr.refl [b] w).setCell (p := ⟨b, 4, none⟩) (.inl (by simp)) _).setCell (p := ⟨b, 5, none⟩) (.inl (by simp)) _).setCell (p := ⟨b, 6, none⟩) (.inl (by simp)) _
  have HN1 := hide hn1
  have HF1 := hide hf1
  clear c0 c1 c2 c3 c4 c5 c6 f0 f1 f2 f3 f4 f5 f6 hn1 hf1 HN
  generalize ((w.setCell ⟨b, 4, none⟩ (.int .i64 (t : Int))).setCell ⟨b, 5, none⟩ (.int .i64 1)).setCell ⟨b, 6, none⟩ (.int .i64 0) = w1 at *
  have HS1 := hide (bagSizes w1 l (HL.out.fr HF1.out (by intro c hc hm; simp at hm; subst hm; exact HBL.out hc)))
  refine wp_loop_rounds 3 ?_
  rw [rounds_succ]
  go_wp2_with fail
  refine HS1.out.mono ?_
  rintro e w2 ⟨rfl, k2, hw2⟩
  have hn2 : NodeAt w2 b l.pt r.pt x t t 1 0 := by rw [hw2]; exact HN1.out.drewN k2
  have hf2 : Fr [b] w w2 := by rw [hw2]; exact HF1.out.drewN k2
  have hlh := l.ht_ct
  have hrh := r.ht_ct
  obtain ⟨c0, c1, c2, c3, c4, c5, c6⟩ := hn2.cells
  obtain ⟨f0, f1, f2, f3, f4, f5, f6⟩ := hn2.fz
  have HN2 := hide hn2
  have HF2 := hide hf2
  clear hw2 hn2 hf2 HS1 HN1 HF1
  have hmx1 : (if 0 < l.ht then (l.ht : Int) else 0) = (l.ht : Int) := by split <;> omega
  have hmx2 : (if l.ht < r.ht then (r.ht : Int) else (l.ht : Int)) = ((max l.ht r.ht : Nat) : Int) := by split <;> omega
  go_wp2_with fail
  have hn3 := ((HN2.out.set4 ((t : Int) + (l.sz : Int))).set5 (1 + (l.ct : Int))).set6 (l.ht : Int)
  have hf3 := ((HF2.out.setCell (p := ⟨b, 4, none⟩) (.inl (by simp)) (.int .i64 ((t : Int) + (l.sz : Int)))).setCell (p := ⟨b, 5, none⟩) (.inl (by simp)) (.int .i64 (1 + (l.ct : Int)))).setCell (p := ⟨b, 6, none⟩) (.inl (by simp)) (.int .i64 (l.ht : Int))
  have HN3 := hide hn3
  have HF3 := hide hf3
  clear c0 c1 c2 c3 c4 c5 c6 f0 f1 f2 f3 f4 f5 f6 hn3 hf3 HN2 HF2
  generalize ((w2.setCell ⟨b, 4, none⟩ (.int .i64 ((t : Int) + (l.sz : Int)))).setCell ⟨b, 5, none⟩ (.int .i64 (1 + (l.ct : Int)))).setCell ⟨b, 6, none⟩ (.int .i64 (l.ht : Int)) = w3 at *
  have HS3 := hide (bagSizes w3 r (HR.out.fr HF3.out (by intro c hc hm; simp at hm; subst hm; exact HBR.out hc)))
  rw [rounds_succ]
  go_wp2_with fail
  refine HS3.out.mono ?_
  rintro e w4 ⟨rfl, k4, hw4⟩
  have hn4 : NodeAt w4 b l.pt r.pt x t ((t : Int) + (l.sz : Int)) (1 + (l.ct : Int)) (l.ht : Int) := by rw [hw4]; exact HN3.out.drewN k4
  have hf4 : Fr [b] w w4 := by rw [hw4]; exact HF3.out.drewN k4
  obtain ⟨c0, c1, c2, c3, c4, c5, c6⟩ := hn4.cells
  obtain ⟨f0, f1, f2, f3, f4, f5, f6⟩ := hn4.fz
  have HN4 := hide hn4
  have HF4 := hide hf4
  clear hw4 hn4 hf4 HS3 HN3 HF3
  go_wp2_with fail
  rw [rounds_succ]
  go_wp2_with fail
  have hn5 := (((HN4.out.set4 ((t : Int) + (l.sz : Int) + (r.sz : Int))).set5 (1 + (l.ct : Int) + (r.ct : Int))).set6 ((max l.ht r.ht : Nat) : Int)).set6 (((max l.ht r.ht : Nat) : Int) + 1)
  have hf5 := (((HF4.out.setCell (p := ⟨b, 4, none⟩) (.inl (by simp)) (.int .i64 ((t : Int) + (l.sz : Int) + (r.sz : Int)))).setCell (p := ⟨b, 5, none⟩) (.inl (by simp)) (.int .i64 (1 + (l.ct : Int) + (r.ct : Int)))).setCell (p := ⟨b, 6, none⟩) (.inl (by simp)) (.int .i64 ((max l.ht r.ht : Nat) : Int))).setCell (p := ⟨b, 6, none⟩) (.inl (by simp)) (.int .i64 (((max l.ht r.ht : Nat) : Int) + 1))
  generalize ((((w4.setCell ⟨b, 4, none⟩ (.int .i64 ((t : Int) + (l.sz : Int) + (r.sz : Int)))).setCell ⟨b, 5, none⟩ (.int .i64 (1 + (l.ct : Int) + (r.ct : Int)))).setCell ⟨b, 6, none⟩ (.int .i64 ((max l.ht r.ht : Nat) : Int))).setCell ⟨b, 6, none⟩ (.int .i64 (((max l.ht r.ht : Nat) : Int) + 1))) = w5 at *
  go_end0
  refine ⟨⟨_, rfl⟩, ⟨?_, HL.out.fr hf5 (by intro c hc hm; simp at hm; subst hm; exact HBL.out hc), HR.out.fr hf5 (by intro c hc hm; simp at hm; subst hm; exact HBR.out hc)⟩, hf5⟩
  simp only [BT.sz, BT.ct, BT.ht, Int.natCast_add, Int.natCast_one]
  exact hn5
end Go.Proofs.Ytoomcgmbaogjbaa
