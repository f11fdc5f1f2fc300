/- bag: New, valid, tree, Size, the closures. -/
import Derived.Test.YtoomcgmbaogjbaaBagG
import Derived.LaidEqlPtr
import Derived.Laws.Pointers
namespace Go.Proofs.Ytoomcgmbaogjbaa
open Go.RowKit
set_option linter.unusedVariables false

/-- A bag as it lies. -/
structure Bg (w : World) (g : Nat) (t : BT) : Prop where
  blk : Blk w g 92 #[.pointer (some ⟨g, 0, none⟩), .pointer t.pt]
  tr : Tr w t
  nd : t.bl.Nodup
  so : Sorted t.ls
theorem Tr.node {w : World} : ∀ {t : BT}, Tr w t → ∀ b ∈ t.bl, ∃ cs, Blk w b 101 cs
  | .nil, _, _, hb => by cases hb
  | .node b l r x t, h, c, hc => by
    rcases List.mem_cons.1 hc with rfl | hc
    · exact ⟨_, h.1⟩
    · rcases List.mem_append.1 hc with hc | hc
      · exact h.2.1.node c hc
      · exact h.2.2.node c hc
theorem Tr.far {w : World} {t : BT} (h : Tr w t) {g : Nat} {ty : TypeId} {cs : Array Value} (hg : Blk w g ty cs) (hne : ty ≠ 101) : g ∉ t.bl := fun hm => by
  obtain ⟨cs', h'⟩ := h.node g hm
  exact Blk.ne_ hg h' hne rfl
section
variable {w w' : World} {g : Nat} {t : BT}
theorem Bg.gt (h : Bg w g t) : g ∉ t.bl := h.tr.far h.blk (by decide)
theorem Bg.c0 (h : Bg w g t) : w.cell? ⟨g, 0, none⟩ = some (.pointer (some ⟨g, 0, none⟩)) := (h.blk.cell 0).trans rfl
theorem Bg.c1 (h : Bg w g t) : w.cell? ⟨g, 1, none⟩ = some (.pointer t.pt) := (h.blk.cell 1).trans rfl
theorem Bg.fr {S : List Nat} (h : Bg w g t) (k : Fr S w w') (hg : g ∉ S) (ht : ∀ b ∈ t.bl, b ∉ S) : Bg w' g t := ⟨h.blk.fr k hg, h.tr.fr k ht, h.nd, h.so⟩
theorem Bg.dr (h : Bg w g t) (k : Dr w w') : Bg w' g t := h.fr (k.fr []) (by simp) (by simp)
end

theorem bag_info : ∃ i, Try.prog.info? 92 = some i ∧ i.size = 2 := by
  have h : (Try.prog.info? 92).map (·.size) = some 2 := by kernel_rfl
  obtain ⟨i, hi, hz⟩ := Option.map_eq_some_iff.1 h
  exact ⟨i, hi, hz⟩

set_option maxRecDepth 100000 in
theorem bagNew (w : World) : Calls Try.prog 37 #[] w fun e w' => e = .returned (.pointer (some ⟨w.heap.size, 0, none⟩)) ∧ Bg w' w.heap.size .nil ∧ Fr [] w w' := by
  go_enter Try.func37, Try.ntmps37
  go_wp2_with fail
  go_ret
  exact ⟨rfl, ⟨Blk.new _ _ _, trivial, by simp [BT.bl], by simp [BT.ls, Sorted]⟩, (Fr.refl [] w).alloc _⟩

set_option maxRecDepth 100000 in
theorem bagValid (w : World) (g : Nat) (t : BT) (h : Bg w g t) : Calls Try.prog 46 #[.pointer (some ⟨g, 0, none⟩)] w fun e w' => e = .returned (.bool true) ∧ w = w' := by
  have c0 := h.c0
  obtain ⟨i, hi, _⟩ := bag_info
  have he := fun W => run_eql_ptr_same (P := Try.prog) W ⟨g, 0, none⟩ Try.underlying80 hi
  clear h
  go_enter Try.func46, Try.ntmps46
  go_wp2_with fail
  go_ret
  exact ⟨rfl, rfl⟩

set_option maxRecDepth 100000 in
theorem bagTree (w : World) (g : Nat) (t : BT) (h : Bg w g t) : Calls Try.prog 57 #[.pointer (some ⟨g, 0, none⟩)] w fun e w' => e = .returned (.pointer t.pt) ∧ w = w' := by
  have HV := hide (bagValid w g t h)
  have c1 := h.c1
  clear h
  go_enter Try.func57, Try.ntmps57
  go_wp2_with fail
  refine HV.out.mono ?_
  rintro e w1 ⟨rfl, rfl⟩
  go_wp2_with fail
  go_ret
  exact ⟨rfl, rfl⟩

set_option maxRecDepth 100000 in
theorem bagSize (w : World) (g : Nat) (t : BT) (h : Bg w g t) : Calls Try.prog 47 #[.pointer (some ⟨g, 0, none⟩)] w fun e w' => e = .returned (.int .i64 (t.sz : Int)) ∧ Dr w w' := by
  have HV := hide (bagTree w g t h)
  have HS := hide (bagSizesD w w t h.tr ⟨0, rfl⟩)
  clear h
  go_enter Try.func47, Try.ntmps47
  go_wp2_with fail
  refine HV.out.mono ?_
  rintro e w1 ⟨rfl, rfl⟩
  go_wp2_with fail
  refine HS.out.mono ?_
  rintro e w2 ⟨rfl, hw⟩
  have HW := hide hw
  clear hw
  go_wp2_with fail
  go_ret
  exact ⟨rfl, HW.out⟩

set_option maxRecDepth 100000 in
theorem bagAddF (bx : Nat) (m : Nat) (hm : m ≤ 1000000) (W : World) (k : Nat) (hk : k ≤ 1000000) (h : W.cell? ⟨bx, 0, none⟩ = some (.int .i64 (m : Int))) :
    Calls Try.prog 49 #[.int .i64 (k : Int), .pointer (some ⟨bx, 0, none⟩)] W fun e w' => e = .returned (.int .i64 ((k + m : Nat) : Int)) ∧ Dr W w' := by
  go_enter Try.func49, Try.ntmps49
  go_wp2_with fail
  go_ret
  exact ⟨by push_cast; rfl, 0, rfl⟩
set_option maxRecDepth 100000 in
theorem bagRemF (bx : Nat) (m : Nat) (hm : m ≤ 1000000) (W : World) (k : Nat) (hk : k ≤ 1000000) (hkm : m ≤ k) (h : W.cell? ⟨bx, 0, none⟩ = some (.int .i64 (m : Int))) :
    Calls Try.prog 63 #[.int .i64 (k : Int), .pointer (some ⟨bx, 0, none⟩)] W fun e w' => e = .returned (.int .i64 ((k - m : Nat) : Int)) ∧ Dr W w' := by
  go_enter Try.func63, Try.ntmps63
  go_wp2_with fail
  go_ret
  exact ⟨by rw [Int.natCast_sub hkm]; rfl, 0, rfl⟩
end Go.Proofs.Ytoomcgmbaogjbaa
