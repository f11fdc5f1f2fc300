/- tally: as it lies; valid, Largest, Count, Squares. -/
import Derived.Test.YtoomcgmbaogjbaaTalQ
import Derived.Test.YtoomcgmbaogjbaaDsuBc
import Derived.Test.YtoomcgmbaogjbaaDsuC
import Derived.Test.YtoomcgmbaogjbaaDsuN
namespace Go.Proofs.Ytoomcgmbaogjbaa
open Go.RowKit
set_option linter.unusedVariables false

/-- Where a tally lies. -/
structure TL where
  g : Nat
  p : Loc
  b : Nat
  c : Nat
  r : Array Value
  a : Nat
/-- A tally of n elements of the weight 1, with the labels L. -/
structure Tly (w : World) (q : TL) (t : BT) (n : Nat) (L f : Nat → Nat) : Prop where
  blk : Blk w q.g 83 #[.pointer (some ⟨q.g, 0, none⟩), .pointer (some ⟨q.p.g, 0, none⟩), .slice (some ⟨q.b, 0, none⟩) n q.c, .pointer (some ⟨q.a, 0, none⟩)]
  row : Blk w q.b 2 (arx n f q.r)
  wt : ∀ i, i < n → L i = i → f i = cls n L i
  dsu : Dsu w q.p n L
  bag : Bg w q.a t
  rep : Rep t.ls (Zs n L)
  nb : n ≤ 100
def TL.S (q : TL) (t : BT) : List Nat := q.g :: q.p.g :: q.p.bu :: q.p.bl :: q.p.bz :: q.b :: q.a :: t.bl
section
variable {w w' : World} {q : TL} {t : BT} {n : Nat} {L f : Nat → Nat}
theorem Tly.c0 (h : Tly w q t n L f) : w.cell? ⟨q.g, 0, none⟩ = some (.pointer (some ⟨q.g, 0, none⟩)) := (h.blk.cell 0).trans rfl
theorem Tly.c1 (h : Tly w q t n L f) : w.cell? ⟨q.g, 1, none⟩ = some (.pointer (some ⟨q.p.g, 0, none⟩)) := (h.blk.cell 1).trans rfl
theorem Tly.c2 (h : Tly w q t n L f) : w.cell? ⟨q.g, 2, none⟩ = some (.slice (some ⟨q.b, 0, none⟩) n q.c) := (h.blk.cell 2).trans rfl
theorem Tly.c3 (h : Tly w q t n L f) : w.cell? ⟨q.g, 3, none⟩ = some (.pointer (some ⟨q.a, 0, none⟩)) := (h.blk.cell 3).trans rfl
theorem Tly.fr {S : List Nat} (h : Tly w q t n L f) (k : Fr S w w') (hS : ∀ b ∈ q.S t, b ∉ S) : Tly w' q t n L f :=
  ⟨h.blk.fr k (hS _ (by simp [TL.S])), h.row.fr k (hS _ (by simp [TL.S])), h.wt, h.dsu.fr k ⟨hS _ (by simp [TL.S]), hS _ (by simp [TL.S]), hS _ (by simp [TL.S]), hS _ (by simp [TL.S])⟩, h.bag.fr k (hS _ (by simp [TL.S])) (fun b hb => hS b (by simp [TL.S, hb])), h.rep, h.nb⟩
theorem Tly.dr (h : Tly w q t n L f) (k : Dr w w') : Tly w' q t n L f := h.fr (k.fr []) (by simp)
theorem Tly.sz (h : Tly w q t n L f) : t.sz = sets n L := by rw [h.rep.sz, Zs_len]
theorem Tly.sz_le (h : Tly w q t n L f) : t.sz ≤ 100 := by rw [h.sz]; exact Nat.le_trans (cnt_le _ _) h.nb
theorem Tly.ct_le (h : Tly w q t n L f) : t.ct ≤ 100 := by
  have := h.rep.ct
  rw [Zs_len] at this
  exact Nat.le_trans this (Nat.le_trans (cnt_le _ _) h.nb)
end

theorem tly_info : ∃ i, Try.prog.info? 83 = some i ∧ i.size = 4 := by
  have h : (Try.prog.info? 83).map (·.size) = some 4 := by kernel_rfl
  obtain ⟨i, hi, hz⟩ := Option.map_eq_some_iff.1 h
  exact ⟨i, hi, hz⟩

set_option maxRecDepth 100000 in
theorem tlyValid (w : World) (q : TL) (t : BT) (n : Nat) (L f : Nat → Nat) (h : Tly w q t n L f) : Calls Try.prog 41 #[.pointer (some ⟨q.g, 0, none⟩)] w fun e w' => e = .returned (.bool true) ∧ w = w' := by
  have c0 := h.c0
  obtain ⟨i, hi, _⟩ := tly_info
  have he := fun W => run_eql_ptr_same (P := Try.prog) W ⟨q.g, 0, none⟩ Try.underlying51 hi
  clear h
  go_enter Try.func41, Try.ntmps41
  go_wp2_with fail
  go_ret
  exact ⟨rfl, rfl⟩

set_option maxRecDepth 100000 in
theorem tlyLargest (w : World) (q : TL) (t : BT) (n : Nat) (L f : Nat → Nat) (h : Tly w q t n L f) : Calls Try.prog 28 #[.pointer (some ⟨q.g, 0, none⟩)] w fun e w' => e = .returned (.int .i64 (lrg n L : Int)) ∧ Fr [] w w' := by
  have HV := hide (tlyValid w q t n L f h)
  have hm := bagMax w q.a t h.bag h.rep.ps (Nat.le_trans h.sz_le (by omega))
  rw [Zs_last h.dsu.lab h.rep] at hm
  have HM := hide hm
  have c3 := h.c3
  clear h hm
  go_enter Try.func28, Try.ntmps28
  go_wp2_with fail
  refine HV.out.mono ?_
  rintro e w1 ⟨rfl, rfl⟩
  go_wp2_with fail
  refine HM.out.mono ?_
  rintro e w1 ⟨⟨b, rfl⟩, hw⟩
  have HW := hide hw
  clear hw
  go_wp2_with fail
  go_ret
  exact ⟨rfl, HW.out.fr _⟩

set_option maxRecDepth 100000 in
theorem tlyCount (w : World) (q : TL) (t : BT) (n : Nat) (L f : Nat → Nat) (h : Tly w q t n L f) : Calls Try.prog 29 #[.pointer (some ⟨q.g, 0, none⟩)] w fun e w' => e = .returned (.int .i64 (sets n L : Int)) ∧ Fr [] w w' := by
  have HV := hide (tlyValid w q t n L f h)
  have HM := hide (dsuCount w q.p n L h.dsu)
  have c1 := h.c1
  clear h
  go_enter Try.func29, Try.ntmps29
  go_wp2_with fail
  refine HV.out.mono ?_
  rintro e w1 ⟨rfl, rfl⟩
  go_wp2_with fail
  refine HM.out.mono ?_
  rintro e w1 ⟨rfl, rfl⟩
  go_wp2_with fail
  go_ret
  exact ⟨rfl, Fr.refl _ _⟩

set_option maxRecDepth 100000 in
theorem tlySquares (w : World) (q : TL) (t : BT) (n : Nat) (L f : Nat → Nat) (h : Tly w q t n L f) : Calls Try.prog 30 #[.pointer (some ⟨q.g, 0, none⟩)] w fun e w' => e = .returned (.int .i64 (sq n L : Int)) ∧ Fr [] w w' := by
  have HV := hide (tlyValid w q t n L f h)
  have hsq : sqL t.ls = sq n L := by rw [h.rep.sq, Zs_sq h.dsu.lab]
  have hb : sq n L ≤ 10000 := Nat.le_trans (sq_le n L) (Nat.mul_le_mul h.nb h.nb)
  have hsml : Sml t.ls := h.rep.sml (fun z hz => by have := Zs_bd z hz; have := h.nb; omega) (by rw [Zs_len]; have : sets n L ≤ n := cnt_le _ _; have := h.nb; omega)
  have hm := bagSquares w q.a t h.bag hsml (by omega)
  rw [hsq] at hm
  have HM := hide hm
  have c3 := h.c3
  clear h hm hsml hsq hb
  go_enter Try.func30, Try.ntmps30
  go_wp2_with fail
  refine HV.out.mono ?_
  rintro e w1 ⟨rfl, rfl⟩
  go_wp2_with fail
  refine HM.out.mono ?_
  rintro e w1 ⟨rfl, hw⟩
  have HW := hide hw
  clear hw
  go_wp2_with fail
  go_ret
  exact ⟨rfl, HW.out⟩
end Go.Proofs.Ytoomcgmbaogjbaa
