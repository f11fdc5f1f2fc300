/- graph: what nil graphs, and zero ones, answer. -/
import Derived.Test.YtpgkhmjlbaoagaaGraDw
import Derived.Test.YtpgkhmjlbaoagaaGraBo
namespace Go.Proofs.Ytpgkhmjlbaoagaa
open Go.RowKit Go.Shelf
attribute [local go_sem] Oper.semAt_some
set_option linter.unusedVariables false

/-- A nil graph, or a zero one. -/
def GraBad (w : World) (v : Option Addr) : Prop := v = none ∨ ∃ g, v = some ⟨g, 0, none⟩ ∧ w.cell? ⟨g, 0, none⟩ = some (.pointer none)
theorem GraBad.below {w w' : World} {v : Option Addr} (h : GraBad w v) (k : Below w.heap.size w w') : GraBad w' v := by
  rcases h with h | ⟨g, h, c⟩
  · exact .inl h
  · exact .inr ⟨g, h, (k.cell (p := ⟨g, 0, none⟩) (World.block_lt_of_cell? _ _ c)).trans c⟩
theorem GraBad.drewN {w : World} {v : Option Addr} (h : GraBad w v) (k : Nat) : GraBad (w.drewN k) v := h
theorem run_eql_none_some13 {P : Program} (w : World) {tp te : TypeId} (a : Addr) (hp : P.underlying tp = some (.pointer te)) :
    (binOp .eql tp (.pointer none) (.pointer (some a))).run P w = .ok (.bool false) w := by
  have h : ∀ d : Nat, (Op.equalIn (d + 1) tp (.pointer none) (.pointer (some a))).run P w = .ok false w := fun d => by
    simp [Op.equalIn, run_underlying hp]
  simp only [binOp]
  simp [Op.equal, Op.maxDepth, h 9999]
theorem graB_valid (w : World) (v : Option Addr) (h : GraBad w v) : Calls Try.prog 43 #[.pointer v] w fun e w' => e = .returned (.bool false) ∧ w = w' := by
  rcases h with rfl | ⟨g, rfl, c⟩
  · go_enter Try.func43, Try.ntmps43
    go_wp2
    go_ret
    exact ⟨rfl, rfl⟩
  · have he := fun W => run_eql_none_some13 (P := Try.prog) W ⟨g, 0, none⟩ Try.underlying25
    go_enter Try.func43, Try.ntmps43
    go_wp2
    go_ret
    exact ⟨rfl, rfl⟩
theorem graB_has (w : World) (v : Option Addr) (a : Int) (h : GraBad w v) : Calls Try.prog 44 #[.pointer v, .int .i64 a] w fun e w' => e = .returned (.bool false) ∧ w = w' := by
  have H := hide h
  clear h
  go_enter Try.func44, Try.ntmps44
  go_wp2_with (go_at_call 43; refine (graB_valid _ _ H.out).mono ?_; rintro e w' ⟨rfl, rfl⟩)
  go_ret
  exact ⟨rfl, rfl⟩
theorem graB_at (w : World) (v : Option Addr) (a : Int) (h : GraBad w v) : Calls Try.prog 45 #[.pointer v, .int .i64 a] w fun e w' => e = .returned (.slice none 0 0) ∧ w = w' := by
  have H := hide h
  clear h
  go_enter Try.func45, Try.ntmps45
  go_wp2_with (go_at_call 44; refine (graB_has _ _ _ H.out).mono ?_; rintro e w' ⟨rfl, rfl⟩)
  go_ret
  exact ⟨rfl, rfl⟩
theorem graB_N (w : World) (v : Option Addr) (h : GraBad w v) : Calls Try.prog 36 #[.pointer v] w fun e w' => e = .returned (.int .i64 0) ∧ w = w' := by
  have H := hide h
  clear h
  go_enter Try.func36, Try.ntmps36
  go_wp2_with (go_at_call 43; refine (graB_valid _ _ H.out).mono ?_; rintro e w' ⟨rfl, rfl⟩)
  go_ret
  exact ⟨rfl, rfl⟩
theorem graB_Edges (w : World) (v : Option Addr) (h : GraBad w v) : Calls Try.prog 25 #[.pointer v] w fun e w' => e = .returned (.slice none 0 0) ∧ w = w' := by
  have H := hide h
  clear h
  go_enter Try.func25, Try.ntmps25
  go_wp2_with (go_at_call 43; refine (graB_valid _ _ H.out).mono ?_; rintro e w' ⟨rfl, rfl⟩)
  go_ret
  exact ⟨rfl, rfl⟩
theorem graB_Degree (w : World) (v : Option Addr) (a : Int) (h : GraBad w v) : Calls Try.prog 18 #[.pointer v, .int .i64 a] w fun e w' => e = .returned (.int .i64 0) ∧ w = w' := by
  have H := hide h
  clear h
  go_enter Try.func18, Try.ntmps18
  go_wp2_with (go_at_call 45; refine (graB_at _ _ _ H.out).mono ?_; rintro e w' ⟨rfl, rfl⟩)
  go_ret
  exact ⟨rfl, rfl⟩
theorem graB_Strength (w : World) (v : Option Addr) (a : Int) (h : GraBad w v) : Calls Try.prog 15 #[.pointer v, .int .i64 a] w fun e w' => e = .returned (.tuple #[.int .i64 0, .int .i64 1]) ∧ w = w' := by
  have H := hide h
  clear h
  go_enter Try.func15, Try.ntmps15
  go_wp2_with (go_at_call 43; refine (graB_valid _ _ H.out).mono ?_; rintro e w' ⟨rfl, rfl⟩)
  go_ret2
  exact ⟨rfl, rfl⟩
theorem graB_Under (w : World) (v : Option Addr) (a : Int) (h : GraBad w v) : Calls Try.prog 34 #[.pointer v, .int .i64 a] w fun e w' => e = .returned (.pointer none) ∧ w = w' := by
  have H := hide h
  clear h
  go_enter Try.func34, Try.ntmps34
  go_wp2_with (go_at_call 43; refine (graB_valid _ _ H.out).mono ?_; rintro e w' ⟨rfl, rfl⟩)
  go_ret
  exact ⟨rfl, rfl⟩
theorem graB_parts (w : World) (v : Option Addr) (h : GraBad w v) : Calls Try.prog 52 #[.pointer v] w fun e w' => e = .returned (.pointer none) ∧ w = w' := by
  have H := hide h
  clear h
  go_enter Try.func52, Try.ntmps52
  go_wp2_with (go_at_call 43; refine (graB_valid _ _ H.out).mono ?_; rintro e w' ⟨rfl, rfl⟩)
  go_ret
  exact ⟨rfl, rfl⟩
theorem dsN_valid (w : World) : Calls Try.prog 62 #[.pointer none] w fun e w' => e = .returned (.bool false) ∧ w = w' := by
  go_enter Try.func62, Try.ntmps62
  go_wp2
  go_ret
  exact ⟨rfl, rfl⟩
theorem dsN_Labels (w : World) : Calls Try.prog 53 #[.pointer none] w fun e w' => e = .returned (.slice none 0 0) ∧ w = w' := by
  go_enter Try.func53, Try.ntmps53
  go_wp2_with (go_at_call 62; refine (dsN_valid _).mono ?_; rintro e w' ⟨rfl, rfl⟩)
  go_ret
  exact ⟨rfl, rfl⟩
theorem dsN_Groups (w : World) : Calls Try.prog 54 #[.pointer none] w fun e w' => e = .returned (.slice none 0 0) ∧ w = w' := by
  go_enter Try.func54, Try.ntmps54
  go_wp2_with (go_at_call 62; refine (dsN_valid _).mono ?_; rintro e w' ⟨rfl, rfl⟩)
  go_ret
  exact ⟨rfl, rfl⟩
theorem graB_Labels (w : World) (v : Option Addr) (h : GraBad w v) : Calls Try.prog 27 #[.pointer v] w fun e w' => e = .returned (.slice none 0 0) ∧ w = w' := by
  have H := hide h
  clear h
  go_enter Try.func27, Try.ntmps27
  go_wp2_with (first | (go_at_call 52; refine (graB_parts _ _ H.out).mono ?_; rintro e w' ⟨rfl, rfl⟩) | (go_at_call 53; refine (dsN_Labels _).mono ?_; rintro e w' ⟨rfl, rfl⟩))
  go_ret
  exact ⟨rfl, rfl⟩
theorem graB_Components (w : World) (v : Option Addr) (h : GraBad w v) : Calls Try.prog 31 #[.pointer v] w fun e w' => e = .returned (.slice none 0 0) ∧ w = w' := by
  have H := hide h
  clear h
  go_enter Try.func31, Try.ntmps31
  go_wp2_with (first | (go_at_call 52; refine (graB_parts _ _ H.out).mono ?_; rintro e w' ⟨rfl, rfl⟩) | (go_at_call 54; refine (dsN_Groups _).mono ?_; rintro e w' ⟨rfl, rfl⟩))
  go_ret
  exact ⟨rfl, rfl⟩
theorem graB_Dist (w : World) (v : Option Addr) (a : Int) (h : GraBad w v) :
    Calls Try.prog 23 #[.pointer v, .int .i64 a] w fun e w' => e = .returned (.slice none 0 0) ∧ w = w' := by
  have HH := hide (graB_has w v a h)
  clear h
  refine (callsIn_wide (n := 3)).1 ?_
  refine callsIn_of_wp_marks Try.func23 rfl trivial ?_ rfl
  simp only [Try.ntmps23, List.size_toArray, List.length_cons, List.length_nil, Nat.reduceAdd, Nat.reduceSub, Array.replicate_succ, Array.replicate_zero, List.push_toArray, List.append_toArray, List.nil_append, List.cons_append]
  gi_wp2_with fail
  refine ⟨trivial, (callsIn_wide.2 HH.out).mono ?_⟩
  rintro e w1 ⟨rfl, rfl⟩
  gi_wp2_with fail
  exact ⟨_, results_tmp rfl _ _ _, rfl, rfl⟩
end Go.Proofs.Ytpgkhmjlbaoagaa
