/- plain: rows of permuted edges. seepagetop: works27. -/
import Derived.Test.YtoomcgmbaogjbaaSwpF
import Derived.Test.YtoomcgmbaogjbaaGraK
import Derived.Laws.StructEq
namespace Go.Proofs.Ytoomcgmbaogjbaa
open Go.RowKit
set_option linter.unusedVariables false

theorem mx_congr {f g : Nat → Nat} {n : Nat} (h : ∀ i, i < n → f i = g i) : mx f n = mx g n := by
  induction n with
  | zero => rfl
  | succ n ih =>
    show Nat.max (mx f n) (f n) = Nat.max (mx g n) (g n)
    rw [ih (fun i hi => h i (by omega)), h n (by omega)]
theorem gRow_congr {n : Nat} {L L' : Nat → Nat} (h : ∀ i, i < n → L i = L' i) : gRow n L = gRow n L' := by
  have hc : ∀ x, cls n L x = cls n L' x := fun x => cnt_congr fun i hi => by rw [h i hi]
  have h1 : lrg n L = lrg n L' := mx_congr fun i hi => by rw [hc, h i hi]
  have h2 : sq n L = sq n L' := sm_congr fun i hi => by rw [hc, h i hi]
  have h3 : sets n L = sets n L' := cnt_congr fun i hi => by rw [h i hi]
  unfold gRow
  rw [h1, h2, h3]
theorem esO_take (l : List (Int × Int × Int)) (od : List Nat) (k : Nat) : (esO l od).take k = esO l (od.take k) := by simp [esO, List.map_take]
theorem esO_mem {l : List (Int × Int × Int)} {od : List Nat} (h : ∀ i ∈ od, i < l.length) {e : Int × Int × Int} (he : e ∈ esO l od) : e ∈ l := by
  simp only [esO, List.mem_map] at he
  obtain ⟨i, hi, rfl⟩ := he
  have := h i hi
  rw [List.getElem?_eq_getElem this]
  exact List.getElem_mem this
theorem GOk.esO {n : Nat} {l : List (Int × Int × Int)} {od : List Nat} (hg : GOk n l) (h : ∀ i ∈ od, i < l.length) : GOk n (esO l od) := fun e he => hg e (esO_mem h he)
/-- A permutation of the edges has the row of them all. -/
theorem gRow_perm {n : Nat} {l : List (Int × Int × Int)} {f : Nat → Nat} (hp : Prm l.length f) (ho : Onto l.length f) : gRow n (gLb n (esO l (prmL l.length f))) = gRow n (gLb n l) := by
  refine gRow_congr (lab_unique (gLb_lab n _) (gLb_lab n l) fun i j hi hj => ⟨fun h => ?_, fun h => ?_⟩)
  · refine foldU_coarse (fun e he => ?_) i j hi hj h
    obtain ⟨x, hx, rfl⟩ := List.mem_map.1 he
    exact ⟨_, List.mem_map.2 ⟨x, esO_mem (prmL_lt hp) hx, rfl⟩, .inl rfl⟩
  · refine foldU_coarse (fun e he => ?_) i j hi hj h
    obtain ⟨x, hx, rfl⟩ := List.mem_map.1 he
    refine ⟨_, List.mem_map.2 ⟨x, ?_, rfl⟩, .inl rfl⟩
    obtain ⟨k, hk, rfl⟩ := List.getElem_of_mem hx
    obtain ⟨m, hm, e⟩ := ho k hk
    refine List.mem_map.2 ⟨k, ?_, by rw [List.getElem?_eq_getElem hk]; rfl⟩
    exact List.mem_map.2 ⟨m, List.mem_range.2 hm, e⟩
theorem rws_get (n : Nat) (es : List (Int × Int × Int)) (K : Nat) : ∀ k, k < K → ∀ (i : Nat) (v : Value), (rowC n (gLb n (es.take k)))[i]? = some v → (rws n es K)[k * 3 + i]? = some v := by
  induction K with
  | zero => intro k hk; omega
  | succ K ih =>
    intro k hk i v hv
    have hi : i < 3 := by
      have := (List.getElem?_eq_some_iff.1 hv).1
      simpa [rowC] using this
    rw [rws_succ]
    by_cases h : k = K
    · subst h
      rw [List.getElem?_append_right (by rw [rws_len]; omega), rws_len, show k * 3 + i - k * 3 = i by omega]
      exact hv
    · have hk2 : k < K := by omega
      rw [List.getElem?_append_left (by rw [rws_len]; omega)]
      exact ih k hk2 i v hv
/-- The row of the first k edges, as it lies. -/
theorem rws_cell {w : World} {B : Nat} {V : Value} {n K : Nat} {es : List (Int × Int × Int)} (h : w.ownsRow B 37 3 V K (rws n es K)) (hK : 0 < K) : ∃ b c, V = .slice (some ⟨b, 0, none⟩) K c ∧ b < w.heap.size ∧
    ∀ k, k < K → w.cell? ⟨b, k * 3, none⟩ = some (.int .i64 (lrg n (gLb n (es.take k)) : Int)) ∧ w.cell? ⟨b, k * 3 + 1, none⟩ = some (.int .i64 (sets n (gLb n (es.take k)) : Int)) ∧ w.cell? ⟨b, k * 3 + 2, none⟩ = some (.int .i64 (sq n (gLb n (es.take k)) : Int)) := by
  obtain ⟨A, c, rfl, hr, hA, -, -⟩ := own_form h
  obtain ⟨b, q, rfl, hb, hc⟩ := hr.2 hK
  obtain ⟨-, -, e⟩ := hA _ rfl
  simp at e
  subst e
  refine ⟨b, c, rfl, hb, fun k hk => ?_⟩
  have g := fun i v hv => hc (k * 3 + i) v (rws_get n es K k hk i v hv)
  simp only [Nat.zero_add] at g
  exact ⟨g 0 _ rfl, g 1 _ rfl, g 2 _ rfl⟩
end Go.Proofs.Ytoomcgmbaogjbaa
namespace Go.Proofs.Ytoomcgmbaogjbaa
open Go.RowKit
set_option linter.unusedVariables false

theorem row_neq (a b c : Int) (W : World) : (binOp .neq 37 (.agg #[.int .i64 a, .int .i64 b, .int .i64 c]) (.agg #[.int .i64 a, .int .i64 b, .int .i64 c])).run Try.prog W = .ok (.bool false) W := by
  rw [run_neq_struct, run_equalIn_agg W 9999 _ _ _ (by kernel_rfl) (by kernel_rfl)]
  simp [Op.eqFields, Program.fieldsOf, Try.underlying37, go_sem]
theorem row_eql (a b c : Int) (W : World) : (binOp .eql 37 (.agg #[.int .i64 a, .int .i64 b, .int .i64 c]) (.agg #[.int .i64 a, .int .i64 b, .int .i64 c])).run Try.prog W = .ok (.bool true) W := by
  rw [run_eql_struct, run_equalIn_agg W 9999 _ _ _ (by kernel_rfl) (by kernel_rfl)]
  simp [Op.eqFields, Program.fieldsOf, Try.underlying37, go_sem]

set_option maxRecDepth 100000 in
theorem works27_true (w : World) : Calls Try.prog 4 #[] w fun e w' => e = .returned (.bool true) ∧ Below w.heap.size w w' := by
  have heq := row_eql 2 1 4
  have hA : Rd ((w.alloc (.cells #[.int .i64 0, .int .i64 1, .int .i64 0] 40)).alloc (.cells #[.int .i64 0] 3)) (some ⟨w.heap.size, 0, none⟩) 1 3 (ecs [(0, 1, 0)]) :=
    (Blk.new w 40 #[.int .i64 0, .int .i64 1, .int .i64 0]).alloc _ |>.rd 1 3 rfl
  have hO : Rd ((w.alloc (.cells #[.int .i64 0, .int .i64 1, .int .i64 0] 40)).alloc (.cells #[.int .i64 0] 3)) (some ⟨w.heap.size + 1, 0, none⟩) 1 1 (nvs [0]) := by
    have := (Blk.new (w.alloc (.cells #[.int .i64 0, .int .i64 1, .int .i64 0] 40)) 3 #[.int .i64 0]).rd 1 1 rfl
    rw [World.size_alloc] at this
    exact this
  have HR := hide (rows_one _ _ _ hA hO)
  clear hA hO
  go_enter Try.func4, Try.ntmps4
  go_wp2_with fail
  refine HR.out.mono ?_
  rintro e w1 ⟨V, rfl, ho, hb⟩
  obtain ⟨b, c, rfl, hbl, hc⟩ := rws_cell ho (by omega)
  obtain ⟨c0, c1, c2⟩ := hc 1 (by omega)
  have e0 : (lrg 2 (gLb 2 ((esO [(0, 1, 0)] [0]).take 1)) : Int) = 2 := by rfl
  have e1 : (sets 2 (gLb 2 ((esO [(0, 1, 0)] [0]).take 1)) : Int) = 1 := by rfl
  have e2 : (sq 2 (gLb 2 ((esO [(0, 1, 0)] [0]).take 1)) : Int) = 4 := by rfl
  rw [e0] at c0
  rw [e1] at c1
  rw [e2] at c2
  have HB := hide hb
  clear ho hb hc e0 e1 e2
  go_wp2_with fail
  go_ret
  exact ⟨rfl, (((Below.refl _ _).alloc (Nat.le_refl _) _).alloc (by simp) _).trans (HB.out.mono (by simp; omega))⟩
end Go.Proofs.Ytoomcgmbaogjbaa
