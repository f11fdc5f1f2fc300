/- Memory: many edges, made and filled one after the other. -/
import Derived.Test.YtpgkhmjlbaoagaaGraKp
import Derived.Test.YtpgkhmjlbaoagaaGraQ
import Derived.Test.YtpgkhmjlbaoagaaEdge0
namespace Go.Proofs.Ytpgkhmjlbaoagaa
open Go.RowKit
set_option linter.unusedVariables false

theorem made_triple (a : Value) (n : Nat) (c : Nat → Value) (hc : ∀ i, i < n * 3 → c i = a) : madeCells #[a, a, a] (n * 3) = ((List.range (n * 3)).map c).toArray := by
  apply Array.ext
  · simp [size_madeCells]
  · intro i h1 h2
    have hi : i < n * 3 := by simpa [size_madeCells] using h1
    simp only [madeCells, Array.getElem_map, Array.getElem_range, List.getElem_toArray, List.getElem_map, List.getElem_range]
    rw [hc i hi]
    have : i % 3 = 0 ∨ i % 3 = 1 ∨ i % 3 = 2 := by omega
    rcases this with e | e | e
    · show #[a, a, a][i % 3]! = a
      rw [e]; rfl
    · show #[a, a, a][i % 3]! = a
      rw [e]; rfl
    · show #[a, a, a][i % 3]! = a
      rw [e]; rfl
theorem run_make_edges (n : Nat) (hn : n ≤ 1000000) (w : World) :
    (Instr.makeSlice 22 (.int .i64 (n : Int)) (.int .i64 (n : Int))).run Try.prog w = .ok (.slice (some ⟨w.heap.size, 0, none⟩) n n) (w.alloc (.cells (ari (n * 3) fun _ => 0) 48)) := by
  obtain ⟨i0, hi, hz, h1, h8⟩ := info_parts edge_info
  have hr := run_make (P := Try.prog) w 22 48 i0 (.agg #[.int .i64 0, .int .i64 0, .int .i64 0]) Try.underlying22 hi hz .i64 .i64 n n (by omega) (by omega) (by rw [h8]; omega) (by omega)
  simp only [Int.toNat_natCast] at hr
  rw [hr, h1]
  have e : madeCells (Value.agg #[Value.int IntKind.i64 0, Value.int IntKind.i64 0, Value.int IntKind.i64 0]).cells (n * 3) = ari (n * 3) fun _ => 0 := made_triple (.int .i64 0) n _ fun i _ => rfl
  rw [e]
/-- The cells of the great circle. -/
def bigF (i : Nat) : Int := if i % 3 = 0 then ((i / 3 % 4096 : Nat) : Int) else if i % 3 = 1 then (((i / 3 + 1) % 4096 : Nat) : Int) else 9223372036854775807
def fK (k : Nat) : Nat → Int := fun i => if i < k * 3 then bigF i else 0
theorem fK_zero : fK 0 = fun _ => 0 := by funext i; unfold fK; rw [if_neg (by omega)]
theorem fK_step (k : Nat) : updi (updi (updi (fK k) (k * 3) ((k % 4096 : Nat) : Int)) (k * 3 + 1) (((k + 1) % 4096 : Nat) : Int)) (k * 3 + 2) 9223372036854775807 = fK (k + 1) := by
  funext i
  by_cases h2 : i = k * 3 + 2
  · subst h2
    rw [updi_same]
    unfold fK bigF
    rw [if_pos (by omega), if_neg (by omega), if_neg (by omega)]
  · rw [updi_other _ _ h2]
    by_cases h1 : i = k * 3 + 1
    · subst h1
      rw [updi_same]
      unfold fK bigF
      rw [if_pos (by omega), if_neg (by omega), if_pos (by omega), show (k * 3 + 1) / 3 = k by omega]
    · rw [updi_other _ _ h1]
      by_cases h0 : i = k * 3
      · subst h0
        rw [updi_same]
        unfold fK bigF
        rw [if_pos (by omega), if_pos (by omega), show k * 3 / 3 = k by omega]
      · rw [updi_other _ _ h0]
        unfold fK
        by_cases h : i < k * 3
        · rw [if_pos h, if_pos (by omega)]
        · rw [if_neg h, if_neg (by omega)]
theorem fK_ecs : ∀ n, (ari (n * 3) bigF).toList = ecs (bigL n)
  | 0 => rfl
  | n + 1 => by
    have h := fK_ecs n
    have e1 : bigL (n + 1) = bigL n ++ [bigE n] := by unfold bigL; rw [List.range_succ, List.map_append]; rfl
    have e2 : (ari ((n + 1) * 3) bigF).toList = (ari (n * 3) bigF).toList ++ [.int .i64 (bigF (n * 3)), .int .i64 (bigF (n * 3 + 1)), .int .i64 (bigF (n * 3 + 2))] := by
      unfold ari
      rw [show (n + 1) * 3 = n * 3 + 1 + 1 + 1 by omega, List.range_succ, List.range_succ, List.range_succ]
      simp
    have b0 : bigF (n * 3) = ((n % 4096 : Nat) : Int) := by unfold bigF; rw [if_pos (by omega), show n * 3 / 3 = n by omega]
    have b1 : bigF (n * 3 + 1) = (((n + 1) % 4096 : Nat) : Int) := by unfold bigF; rw [if_neg (by omega), if_pos (by omega), show (n * 3 + 1) / 3 = n by omega]
    have b2 : bigF (n * 3 + 2) = 9223372036854775807 := by unfold bigF; rw [if_neg (by omega), if_neg (by omega)]
    rw [e1, e2, ecs_append, h, b0, b1, b2]
    rfl
theorem fK_full (n : Nat) : (ari (n * 3) (fK n)).toList = ecs (bigL n) := by
  rw [← fK_ecs, ari_congr (f := fK n) (h := bigF) fun i hi => by unfold fK; rw [if_pos hi]]
/-- The first k edges of a slice. -/
theorem rd_take3 {w : World} {A : Option Addr} {n k : Nat} {l : List (Int × Int × Int)} (h : Rd w A n 3 (ecs l)) (hn : l.length = n) (hk : k ≤ n) : Rd w A k 3 (ecs (l.take k)) := by
  have hl : (l.take k).length = k := by rw [List.length_take]; omega
  refine ⟨by rw [ecs_length, hl], fun hp => ?_⟩
  obtain ⟨b, o, e, hb, hc⟩ := h.2 (by omega)
  refine ⟨b, o, e, hb, fun j u hu => hc j u ?_⟩
  have e1 : ecs l = ecs (l.take k) ++ ecs (l.drop k) := by rw [← ecs_append, List.take_append_drop]
  have hj := (List.getElem?_eq_some_iff.1 hu).1
  rw [e1, List.getElem?_append_left hj]; exact hu
end Go.Proofs.Ytpgkhmjlbaoagaa
