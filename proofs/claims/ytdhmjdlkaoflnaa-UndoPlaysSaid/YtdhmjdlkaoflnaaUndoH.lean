/- undo: the contracts on sets that lie from a block on. -/
import Derived.Test.YtdhmjdlkaoflnaaUndoG
namespace Go.Proofs.Ytdhmjdlkaoflnaa
open Go.RowKit
set_option linter.unusedVariables false

/-- Sets behind the pointer to block g, all in blocks from B on. -/
def UndAt (w : World) (g B n : Nat) (past : List (Nat → Nat)) (L : Nat → Nat) : Prop := ∃ p : ULoc, p.g = g ∧ p.from_ B ∧ Und w p n past L
section
variable {w w' : World} {g B n : Nat} {past : List (Nat → Nat)} {L : Nat → Nat}
theorem UndAt.fresh (h : UndAt w g B n past L) (k : Below w.heap.size w w') : UndAt w' g B n past L := by
  obtain ⟨p, hg, hp, hu⟩ := h
  exact ⟨p, hg, hp, hu.fresh k⟩
theorem UndAt.drewN (h : UndAt w g B n past L) (k : Nat) : UndAt (w.drewN k) g B n past L := by
  obtain ⟨p, hg, hp, hu⟩ := h
  exact ⟨p, hg, hp, hu.drewN k⟩
theorem UndAt.size (h : UndAt w g B n past L) : B ≤ w.heap.size := by
  obtain ⟨p, hg, hp, hu⟩ := h
  have h1 := hp p.g (ULoc.mem_bl.2 (.inl rfl))
  have h2 := hu.lt p.g (ULoc.mem_bl.2 (.inl rfl))
  omega
theorem UndAt.lab (h : UndAt w g B n past L) : Lab n L := by
  obtain ⟨p, hg, hp, hu⟩ := h
  exact hu.lab
theorem UndAt.cnt (h : UndAt w g B n past L) : sets n L + past.length = n := by
  obtain ⟨p, hg, hp, hu⟩ := h
  exact hu.cnt
theorem UndAt.nb (h : UndAt w g B n past L) : n ≤ 65536 := by
  obtain ⟨p, hg, hp, hu⟩ := h
  exact hu.nb
theorem Und1.at {p : ULoc} (h : Und1 w w' p n past L) (hp : p.from_ B) (hB : B ≤ w.heap.size) : UndAt w' p.g B n past L ∧ Below B w w' := by
  obtain ⟨p', h1, h2, h3⟩ := h
  exact ⟨⟨p', h2.g, h2.from_ hp hB, h1⟩, h3.below hp hB⟩
end

theorem atNew (w : World) (n : Nat) (hn : n ≤ 65536) :
    Calls Try.prog 19 #[.int .i64 (n : Int)] w fun e w' => ∃ g : Nat, e = .returned (.tuple #[.pointer (some ⟨g, 0, none⟩), .int .i64 0]) ∧ UndAt w' g w.heap.size n [] (fun i => i) ∧ Below w.heap.size w w' :=
  (undoNew_ok w n hn).mono fun e w' ⟨p, he, hu, hb, hp⟩ => ⟨p.g, he, ⟨p, rfl, hp, hu⟩, hb⟩
theorem atUnion (w : World) (x y : Int) (g B n : Nat) (s : HS) (h : UndAt w g B n s.past s.L) :
    Calls Try.prog 25 #[.pointer (some ⟨g, 0, none⟩), .int .i64 x, .int .i64 y] w
      fun e w' => e = .returned (.tuple #[.bool (unionB n s.L x y), .int .i64 (unionE n x y)]) ∧ UndAt w' g B n (stepH n s (x, y)).past (stepH n s (x, y)).L ∧ Below B w w' := by
  have hB := h.size
  obtain ⟨p, rfl, hp, hu⟩ := h
  exact (undoUnion w x y p n s.past s.L hu).mono fun e w' ⟨he, h1⟩ => ⟨he, h1.at hp hB⟩
theorem atMark (w : World) (g B n : Nat) (past : List (Nat → Nat)) (L : Nat → Nat) (h : UndAt w g B n past L) :
    Calls Try.prog 13 #[.pointer (some ⟨g, 0, none⟩)] w fun e w' => e = .returned (.int .i64 (past.length : Int)) ∧ w = w' := by
  obtain ⟨p, rfl, hp, hu⟩ := h
  exact undoMark w p n past L hu
theorem atCount (w : World) (g B n : Nat) (past : List (Nat → Nat)) (L : Nat → Nat) (h : UndAt w g B n past L) :
    Calls Try.prog 15 #[.pointer (some ⟨g, 0, none⟩)] w fun e w' => e = .returned (.int .i64 (sets n L : Int)) ∧ ∃ k, w' = w.drewN k := by
  obtain ⟨p, rfl, hp, hu⟩ := h
  exact undoCount w p n past L hu
theorem atSame (w : World) (x y : Int) (g B n : Nat) (past : List (Nat → Nat)) (L : Nat → Nat) (h : UndAt w g B n past L) :
    Calls Try.prog 22 #[.pointer (some ⟨g, 0, none⟩), .int .i64 x, .int .i64 y] w fun e w' => e = .returned (.bool (sameB n L x y)) ∧ w = w' := by
  obtain ⟨p, rfl, hp, hu⟩ := h
  exact undoSame w x y p n past L hu
theorem atSize (w : World) (x : Int) (g B n : Nat) (past : List (Nat → Nat)) (L : Nat → Nat) (h : UndAt w g B n past L) :
    Calls Try.prog 23 #[.pointer (some ⟨g, 0, none⟩), .int .i64 x] w fun e w' => e = .returned (.int .i64 (sizeV n L x)) ∧ ∃ k, w' = w.drewN k := by
  obtain ⟨p, rfl, hp, hu⟩ := h
  exact undoSize w x p n past L hu
theorem atLabels (w : World) (g B n : Nat) (past : List (Nat → Nat)) (L : Nat → Nat) (h : UndAt w g B n past L) :
    Calls Try.prog 14 #[.pointer (some ⟨g, 0, none⟩)] w fun e w' => ∃ b, e = .returned (.slice (some ⟨b, 0, none⟩) n n) ∧ Blk w' b 3 (arr n L) ∧ w.heap.size ≤ b ∧ Below w.heap.size w w' := by
  obtain ⟨p, rfl, hp, hu⟩ := h
  exact undoLabels w p n past L hu
theorem atUndo_no (w : World) (m : Int) (g B n : Nat) (past : List (Nat → Nat)) (L : Nat → Nat) (h : UndAt w g B n past L) (hm : m < 0 ∨ (past.length : Int) < m) :
    Calls Try.prog 17 #[.pointer (some ⟨g, 0, none⟩), .int .i64 m] w fun e w' => e = .returned (.int .i64 3) ∧ w = w' := by
  obtain ⟨p, rfl, hp, hu⟩ := h
  exact undoUndo_no w m p n past L hu hm
theorem atUndo (w : World) (m : Nat) (g B n : Nat) (past : List (Nat → Nat)) (L : Nat → Nat) (h : UndAt w g B n past L) (hm : m ≤ past.length) :
    Calls Try.prog 17 #[.pointer (some ⟨g, 0, none⟩), .int .i64 (m : Int)] w fun e w' => e = .returned (.int .i64 0) ∧ UndAt w' g B n (past.take m) (atL past L m) ∧ Below B w w' := by
  have hB := h.size
  obtain ⟨p, rfl, hp, hu⟩ := h
  exact (undoUndo_ok w m p n past L hu hm).mono fun e w' ⟨he, h1, h2⟩ => ⟨he, ⟨p, rfl, hp, h1⟩, h2.below hp hB⟩
theorem atTrial (w : World) (g B n : Nat) (s : HS) (v : Value) (l : List (Int × Int)) (h : UndAt w g B n s.past s.L) (hl : IsPairs w v l) (hb : ∀ A m c, v = .slice A m c → 0 < m → ∀ ad, A = some ad → ∀ p : ULoc, p.g = g → Und w p n s.past s.L → ad.block ∉ p.bl) (ha : allIn n l) :
    Calls Try.prog 24 #[.pointer (some ⟨g, 0, none⟩), v] w
      fun e w' => e = .returned (.tuple #[rowV n (foldH n l s).L, .int .i64 0]) ∧ UndAt w' g B n s.past s.L ∧ Below B w w' := by
  have hB := h.size
  obtain ⟨p, rfl, hp, hu⟩ := h
  exact (undoTrial_ok w p n s v l hu hl (fun A m c hv h0 ad hA => hb A m c hv h0 ad hA p rfl hu) ha).mono fun e w' ⟨he, h1⟩ => ⟨he, h1.at hp hB⟩
theorem atAdd (w : World) (g B : Nat) (s : HS) (v : Value) (l : List (Nat × Nat)) (h : UndAt w g B 50 s.past s.L) (hl : IsPairs8 w v l) (hv : ∀ A n c, v = .slice A n c → 0 < n → ∀ ad, A = some ad → ad.block < B) :
    Calls Try.prog 16 #[.pointer (some ⟨g, 0, none⟩), v] w
      fun e w' => e = .returned (.bool true) ∧ UndAt w' g B 50 (foldH 50 (prs l) s).past (foldH 50 (prs l) s).L ∧ Below B w w' := by
  have hB := h.size
  obtain ⟨p, rfl, hp, hu⟩ := h
  exact (add_true w p s v l B hu hl hp hv).mono fun e w' ⟨he, h1⟩ => ⟨he, h1.at hp hB⟩
end Go.Proofs.Ytdhmjdlkaoflnaa
