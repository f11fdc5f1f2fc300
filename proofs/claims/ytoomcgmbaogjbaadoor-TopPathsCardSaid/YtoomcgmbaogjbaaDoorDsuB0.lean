/- dsu: has, valid on sets that New made. -/
import Derived.Test.YtoomcgmbaogjbaaDoorDsuA
import Derived.Test.YtoomcgmbaogjbaaDoorDsuP
namespace Go.Proofs.YtoomcgmbaogjbaaDoor
open Go.RowKit
set_option linter.unusedVariables false

/-- Sets that New made, in memory, with the labels L. -/
def Dsu (w : World) (p : Loc) (n : Nat) (L : Nat → Nat) : Prop :=
  ∃ (up least size rep ρ : Nat → Nat) (M c : Nat), DS w p n up least size c ∧ Sts n L up least size rep ρ M c ∧ Lab n L

section
variable {w w' : World} {p : Loc} {n : Nat} {L : Nat → Nat}
theorem Dsu.fr {S : List Nat} (h : Dsu w p n L) (k : Fr S w w') (hS : p.g ∉ S ∧ p.bu ∉ S ∧ p.bl ∉ S ∧ p.bz ∉ S) : Dsu w' p n L := by
  obtain ⟨up, least, size, rep, ρ, M, c, hd, hs, hl⟩ := h
  exact ⟨up, least, size, rep, ρ, M, c, hd.fr k hS, hs, hl⟩
theorem Dsu.drewN (h : Dsu w p n L) (k : Nat) : Dsu (w.drewN k) p n L := by
  obtain ⟨up, least, size, rep, ρ, M, c, hd, hs, hl⟩ := h
  exact ⟨up, least, size, rep, ρ, M, c, hd.drewN k, hs, hl⟩
theorem Dsu.below {B : Nat} (h : Dsu w p n L) (k : Below B w w') (hB : p.g < B ∧ p.bu < B ∧ p.bl < B ∧ p.bz < B) : Dsu w' p n L := by
  obtain ⟨up, least, size, rep, ρ, M, c, hd, hs, hl⟩ := h
  exact ⟨up, least, size, rep, ρ, M, c, ⟨hd.hg.below k hB.1, hd.hu.below k hB.2.1, hd.hl.below k hB.2.2.1, hd.hz.below k hB.2.2.2, hd.ul, hd.uz, hd.lz, hd.nb⟩, hs, hl⟩
theorem Dsu.lt (h : Dsu w p n L) : p.g < w.heap.size ∧ p.bu < w.heap.size ∧ p.bl < w.heap.size ∧ p.bz < w.heap.size := by
  obtain ⟨up, least, size, rep, ρ, M, c, hd, hs, hl⟩ := h
  exact ⟨hd.hg.lt, hd.hu.lt, hd.hl.lt, hd.hz.lt⟩
theorem Dsu.lab (h : Dsu w p n L) : Lab n L := by
  obtain ⟨up, least, size, rep, ρ, M, c, hd, hs, hl⟩ := h
  exact hl
theorem Dsu.nb (h : Dsu w p n L) : n ≤ 65536 := by
  obtain ⟨up, least, size, rep, ρ, M, c, hd, hs, hl⟩ := h
  exact hd.nb
theorem Dsu.fresh (h : Dsu w p n L) (k : Below w.heap.size w w') : Dsu w' p n L := h.below k h.lt
end


theorem dsuHas (w : World) (a : Int) (p : Loc) (n : Nat) (L : Nat → Nat) (h : Dsu w p n L) :
    Calls Tryd.prog 36 #[.pointer (some ⟨p.g, 0, none⟩), .int .i64 a] w fun e w' => e = .returned (.bool (inB n a)) ∧ w = w' := by
  obtain ⟨up, least, size, rep, ρ, M, c, hd, hs, hl⟩ := h
  exact dsuHas0 w a p n c up least size hd
theorem dsuValid (w : World) (p : Loc) (n : Nat) (L : Nat → Nat) (h : Dsu w p n L) :
    Calls Tryd.prog 35 #[.pointer (some ⟨p.g, 0, none⟩)] w fun e w' => e = .returned (.bool true) ∧ w = w' := by
  obtain ⟨up, least, size, rep, ρ, M, c, hd, hs, hl⟩ := h
  exact dsuValid0 w p n c up least size hd

end Go.Proofs.YtoomcgmbaogjbaaDoor
