/- dsu: sets that are nil, or that New did not make; the walk of DsuNil. -/
import Derived.Test.YtiijhppffboogaaDsuS
namespace Go.Proofs.Ytiijhppffboogaa
open Go.RowKit
set_option linter.unusedVariables false

def DsuBad (w : World) (v : Value) : Prop := v = .pointer none ∨ ∃ g, v = .pointer (some ⟨g, 0, none⟩) ∧ w.cell? ⟨g, 0, none⟩ = some (.pointer none)

theorem run_eql_none_some {P : Program} (w : World) {tp te : TypeId} (a : Addr) (hp : P.underlying tp = some (.pointer te)) :
    (binOp .eql tp (.pointer none) (.pointer (some a))).run P w = .ok (.bool false) w := by
  have h : ∀ d : Nat, (Op.equalIn (d + 1) tp (.pointer none) (.pointer (some a))).run P w = .ok false w := fun d => by
    simp [Op.equalIn, run_underlying hp]
  simp only [binOp]
  simp [Op.equal, Op.maxDepth, h 9999]

theorem dsuBad_valid (w : World) (v : Value) (h : DsuBad w v) : Calls Try.prog 32 #[v] w fun e w' => e = .returned (.bool false) ∧ w = w' := by
  rcases h with rfl | ⟨g, rfl, c0⟩
  · go_enter Try.func32, Try.ntmps32
    go_wp2
    go_ret
    exact ⟨rfl, rfl⟩
  · have he := fun W => run_eql_none_some (P := Try.prog) W ⟨g, 0, none⟩ Try.underlying24
    go_enter Try.func32, Try.ntmps32
    go_wp2
    go_ret
    exact ⟨rfl, rfl⟩
theorem dsuBad_has (w : World) (v : Value) (a : Int) (h : DsuBad w v) : Calls Try.prog 30 #[v, .int .i64 a] w fun e w' => e = .returned (.bool false) ∧ w = w' := by
  have H := hide h
  clear h
  go_enter Try.func30, Try.ntmps30
  go_wp2_with (go_at_call 32; refine (dsuBad_valid _ _ H.out).mono ?_; rintro e w' ⟨rfl, rfl⟩)
  go_ret
  exact ⟨rfl, rfl⟩
theorem dsuBad_union (w : World) (v : Value) (a b : Int) (h : DsuBad w v) : Calls Try.prog 20 #[v, .int .i64 a, .int .i64 b] w fun e w' => e = .returned (.tuple #[.bool false, .int .i64 1]) ∧ w = w' := by
  have H := hide h
  clear h
  go_enter Try.func20, Try.ntmps20
  go_wp2_with (go_at_call 32; refine (dsuBad_valid _ _ H.out).mono ?_; rintro e w' ⟨rfl, rfl⟩)
  go_ret2
  exact ⟨rfl, rfl⟩
theorem dsuBad_least (w : World) (v : Value) (a : Int) (h : DsuBad w v) : Calls Try.prog 17 #[v, .int .i64 a] w fun e w' => e = .returned (.tuple #[.int .i64 0, .int .i64 1]) ∧ w = w' := by
  have H := hide h
  clear h
  go_enter Try.func17, Try.ntmps17
  go_wp2_with (go_at_call 32; refine (dsuBad_valid _ _ H.out).mono ?_; rintro e w' ⟨rfl, rfl⟩)
  go_ret2
  exact ⟨rfl, rfl⟩
theorem dsuBad_same (w : World) (v : Value) (a b : Int) (h : DsuBad w v) : Calls Try.prog 13 #[v, .int .i64 a, .int .i64 b] w fun e w' => e = .returned (.bool false) ∧ w = w' := by
  have H := hide h
  clear h
  go_enter Try.func13, Try.ntmps13
  go_wp2_with (go_at_call 30; refine (dsuBad_has _ _ _ H.out).mono ?_; rintro e w' ⟨rfl, rfl⟩)
  go_ret
  exact ⟨rfl, rfl⟩
theorem dsuBad_size (w : World) (v : Value) (a : Int) (h : DsuBad w v) : Calls Try.prog 14 #[v, .int .i64 a] w fun e w' => e = .returned (.int .i64 0) ∧ w = w' := by
  have H := hide h
  clear h
  go_enter Try.func14, Try.ntmps14
  go_wp2_with (go_at_call 30; refine (dsuBad_has _ _ _ H.out).mono ?_; rintro e w' ⟨rfl, rfl⟩)
  go_ret
  exact ⟨rfl, rfl⟩
theorem dsuBad_count (w : World) (v : Value) (h : DsuBad w v) : Calls Try.prog 22 #[v] w fun e w' => e = .returned (.int .i64 0) ∧ w = w' := by
  have H := hide h
  clear h
  go_enter Try.func22, Try.ntmps22
  go_wp2_with (go_at_call 32; refine (dsuBad_valid _ _ H.out).mono ?_; rintro e w' ⟨rfl, rfl⟩)
  go_ret
  exact ⟨rfl, rfl⟩
theorem dsuBad_len (w : World) (v : Value) (h : DsuBad w v) : Calls Try.prog 24 #[v] w fun e w' => e = .returned (.int .i64 0) ∧ w = w' := by
  have H := hide h
  clear h
  go_enter Try.func24, Try.ntmps24
  go_wp2_with (go_at_call 32; refine (dsuBad_valid _ _ H.out).mono ?_; rintro e w' ⟨rfl, rfl⟩)
  go_ret
  exact ⟨rfl, rfl⟩
theorem dsuBad_labels (w : World) (v : Value) (h : DsuBad w v) : Calls Try.prog 16 #[v] w fun e w' => e = .returned (.slice none 0 0) ∧ w = w' := by
  have H := hide h
  clear h
  go_enter Try.func16, Try.ntmps16
  go_wp2_with (go_at_call 32; refine (dsuBad_valid _ _ H.out).mono ?_; rintro e w' ⟨rfl, rfl⟩)
  go_ret
  exact ⟨rfl, rfl⟩
theorem dsuBad_groups (w : World) (v : Value) (h : DsuBad w v) : Calls Try.prog 23 #[v] w fun e w' => e = .returned (.slice none 0 0) ∧ w = w' := by
  have H := hide h
  clear h
  go_enter Try.func23, Try.ntmps23
  go_wp2_with (go_at_call 32; refine (dsuBad_valid _ _ H.out).mono ?_; rintro e w' ⟨rfl, rfl⟩)
  go_ret
  exact ⟨rfl, rfl⟩
theorem dsuBad_copy (w : World) (v : Value) (h : DsuBad w v) : Calls Try.prog 18 #[v] w fun e w' => e = .returned (.pointer none) ∧ w = w' := by
  have H := hide h
  clear h
  go_enter Try.func18, Try.ntmps18
  go_wp2_with (go_at_call 32; refine (dsuBad_valid _ _ H.out).mono ?_; rintro e w' ⟨rfl, rfl⟩)
  go_ret
  exact ⟨rfl, rfl⟩

set_option maxRecDepth 100000 in
set_option maxHeartbeats 4000000 in
theorem dsuNil_walk (a0 a1 : Int) (W : World) (w0 : (Lit.int .i64 a0).wf = true) (w1 : (Lit.int .i64 a1).wf = true) :
    Calls Try.prog 10 #[.int .i64 a0, .int .i64 a1] W fun e W' => e = .returned (.bool true) ∧ Below W.heap.size W W' := by
  clear w0 w1
  go_enter Try.func10, Try.ntmps10
  go_wp2_with fail
  have hA : Below W.heap.size W ((W.alloc (.cells #[.pointer none, .slice none 0 0, .slice none 0 0, .slice none 0 0, .int .i64 0] 55)).alloc (.cells #[.pointer none, .pointer (some ⟨W.heap.size, 0, none⟩)] 24)) :=
    ((Below.refl _ _).alloc (Nat.le_refl _) _).alloc (by simp) _
  have c0 : ((W.alloc (.cells #[.pointer none, .slice none 0 0, .slice none 0 0, .slice none 0 0, .int .i64 0] 55)).alloc (.cells #[.pointer none, .pointer (some ⟨W.heap.size, 0, none⟩)] 24)).cell? ⟨W.heap.size + 1, 0, none⟩ = some (.pointer none) := by simp [go_sem]
  have c1 : ((W.alloc (.cells #[.pointer none, .slice none 0 0, .slice none 0 0, .slice none 0 0, .int .i64 0] 55)).alloc (.cells #[.pointer none, .pointer (some ⟨W.heap.size, 0, none⟩)] 24)).cell? ⟨W.heap.size + 1, 1, none⟩ = some (.pointer (some ⟨W.heap.size, 0, none⟩)) := by simp [go_sem]
  have c2 : ((W.alloc (.cells #[.pointer none, .slice none 0 0, .slice none 0 0, .slice none 0 0, .int .i64 0] 55)).alloc (.cells #[.pointer none, .pointer (some ⟨W.heap.size, 0, none⟩)] 24)).cell? ⟨W.heap.size, 0, none⟩ = some (.pointer none) := by simp [go_sem]
  generalize ((W.alloc (.cells #[.pointer none, .slice none 0 0, .slice none 0 0, .slice none 0 0, .int .i64 0] 55)).alloc (.cells #[.pointer none, .pointer (some ⟨W.heap.size, 0, none⟩)] 24)) = W0 at *
  have hA' := hide hA
  clear hA
  go_loopg [7] 2 (fun q v wr => ∃ k : Nat, k + q = 2 ∧ v = .int .i64 (k : Int) ∧ ∃ d, wr = W0.drewN d)
  case atStart => exact ⟨0, by omega, rfl, 0, rfl⟩
  case round =>
    obtain ⟨k, hk, rfl, d, rfl⟩ := hrel
    have HK := hide hk
    have hk2 : k = 0 ∨ k = 1 ∨ k = 2 := by omega
    clear hk
    rcases hk2 with rfl | rfl | rfl
    · have HB : Hid (∀ d, DsuBad (W0.drewN d) (.pointer none)) := fun _ => .inl rfl
      go_wp2_with (first | (go_at_call 20; refine (dsuBad_union _ _ _ _ (HB.out _)).mono ?_; rintro e w' ⟨rfl, rfl⟩) | (go_at_call 17; refine (dsuBad_least _ _ _ (HB.out _)).mono ?_; rintro e w' ⟨rfl, rfl⟩) | (go_at_call 13; refine (dsuBad_same _ _ _ _ (HB.out _)).mono ?_; rintro e w' ⟨rfl, rfl⟩) | (go_at_call 14; refine (dsuBad_size _ _ _ (HB.out _)).mono ?_; rintro e w' ⟨rfl, rfl⟩) | (go_at_call 22; refine (dsuBad_count _ _ (HB.out _)).mono ?_; rintro e w' ⟨rfl, rfl⟩) | (go_at_call 24; refine (dsuBad_len _ _ (HB.out _)).mono ?_; rintro e w' ⟨rfl, rfl⟩) | (go_at_call 16; refine (dsuBad_labels _ _ (HB.out _)).mono ?_; rintro e w' ⟨rfl, rfl⟩) | (go_at_call 23; refine (dsuBad_groups _ _ (HB.out _)).mono ?_; rintro e w' ⟨rfl, rfl⟩) | (go_at_call 18; refine (dsuBad_copy _ _ (HB.out _)).mono ?_; rintro e w' ⟨rfl, rfl⟩))
      go_roundg 1
      case measure => have := HK.out; omega
      case rel => exact ⟨1, by omega, by go_num, _, rfl⟩
    · have HB : Hid (∀ d, DsuBad (W0.drewN d) (.pointer (some ⟨W.heap.size, 0, none⟩))) := fun _ => .inr ⟨_, rfl, c2⟩
      go_wp2_with (first | (go_at_call 20; refine (dsuBad_union _ _ _ _ (HB.out _)).mono ?_; rintro e w' ⟨rfl, rfl⟩) | (go_at_call 17; refine (dsuBad_least _ _ _ (HB.out _)).mono ?_; rintro e w' ⟨rfl, rfl⟩) | (go_at_call 13; refine (dsuBad_same _ _ _ _ (HB.out _)).mono ?_; rintro e w' ⟨rfl, rfl⟩) | (go_at_call 14; refine (dsuBad_size _ _ _ (HB.out _)).mono ?_; rintro e w' ⟨rfl, rfl⟩) | (go_at_call 22; refine (dsuBad_count _ _ (HB.out _)).mono ?_; rintro e w' ⟨rfl, rfl⟩) | (go_at_call 24; refine (dsuBad_len _ _ (HB.out _)).mono ?_; rintro e w' ⟨rfl, rfl⟩) | (go_at_call 16; refine (dsuBad_labels _ _ (HB.out _)).mono ?_; rintro e w' ⟨rfl, rfl⟩) | (go_at_call 23; refine (dsuBad_groups _ _ (HB.out _)).mono ?_; rintro e w' ⟨rfl, rfl⟩) | (go_at_call 18; refine (dsuBad_copy _ _ (HB.out _)).mono ?_; rintro e w' ⟨rfl, rfl⟩))
      go_roundg 0
      case measure => have := HK.out; omega
      case rel => exact ⟨2, by omega, by go_num, _, rfl⟩
    · go_wp2_with fail
      refine (works8 _).mono ?_
      rintro e w5 ⟨rfl, hb5⟩
      go_wp2_with fail
      go_ret
      exact ⟨rfl, (hA'.out.drewN d).trans (hb5.mono hA'.out.size)⟩
end Go.Proofs.Ytiijhppffboogaa
