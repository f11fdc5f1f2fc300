/- Plain: graphs that are connected; their number of components. Nothing of the program. -/
import Derived.Test.YtoomcgmbaogjbaaGraP
namespace Go.Proofs.Ytoomcgmbaogjbaa
open Go.RowKit
set_option linter.unusedVariables false

theorem gLb_edge {n : Nat} {l : List (Int × Int × Int)} (hok : GOk n l) {e : Int × Int × Int} (he : e ∈ l) : gLb n l e.1.toNat = gLb n l e.2.1.toNat := by
  have h := hok e he
  exact foldU_joins (n := n) (l := l.map fun e => (e.1, e.2.1)) (fun i => i) (e := (e.1, e.2.1)) (List.mem_map.2 ⟨e, he, rfl⟩) (by unfold inB; exact decide_eq_true (by omega)) (by unfold inB; exact decide_eq_true (by omega))
/-- A graph in which every vertex but 0 has an edge to a lesser one has one component. -/
theorem conn_one {n : Nat} {l : List (Int × Int × Int)} (hn : 1 ≤ n) (hok : GOk n l) (h : ∀ v, 0 < v → v < n → ∃ u, u < v ∧ (∃ t, ((u : Int), (v : Int), t) ∈ l)) : sets n (gLb n l) = 1 := by
  have h0 : ∀ v, v < n → gLb n l v = gLb n l 0 := by
    intro v
    induction v using Nat.strongRecOn with
    | ind v ih =>
      intro hv
      by_cases e : v = 0
      · rw [e]
      · obtain ⟨u, hu, t, ht⟩ := h v (by omega) hv
        have h1 := gLb_edge hok ht
        simp only [Int.toNat_natCast] at h1
        rw [← h1]; exact ih u hu (by omega)
  have hl := gLb_lab n l
  have h00 : gLb n l 0 = 0 := by have := hl.le 0 (by omega); omega
  unfold sets
  have : cnt (fun i => gLb n l i == i) n = cnt (fun i => decide (i < 1)) n := cnt_congr fun i hi => by
    rw [h0 i hi, h00, Bool.eq_iff_iff]; simp; omega
  rw [this]
  clear this h0 hl h00 h hok
  induction n with
  | zero => omega
  | succ n ih =>
    by_cases e : n = 0
    · subst e; rfl
    · have := ih (by omega)
      simp only [cnt, this]
      simp; omega
theorem newE_ok {n : Nat} {l : List (Int × Int × Int)} (hn : n ≤ 4096) (hl : l.length ≤ 16384) (hok : GOk n l) : newE (n : Int) l = 0 := by
  unfold newE
  rw [if_neg (by omega)]
  exact gErr_ok.2 hok
end Go.Proofs.Ytoomcgmbaogjbaa
