/- wrapping: tori that are nil, or zero ones; the walk of WrappingNil. -/
import Derived.Test.YtnkkdoookhhhaaaWrapK
namespace Go.Proofs.Ytnkkdoookhhhaaa
open Go.RowKit
set_option linter.unusedVariables false

def TorBad (w : World) (v : Value) : Prop := v = .pointer none ∨ ∃ g, v = .pointer (some ⟨g, 0, none⟩) ∧ w.cell? ⟨g, 2, none⟩ = some (.slice none 0 0)
theorem torBad_valid (w : World) (v : Value) (h : TorBad w v) : Calls Try.prog 33 #[v] w fun e w' => e = .returned (.bool false) ∧ w = w' := by
  rcases h with rfl | ⟨g, rfl, c0⟩
  · go_enter Try.func33, Try.ntmps33
    go_wp2
    go_ret
    exact ⟨rfl, rfl⟩
  · go_enter Try.func33, Try.ntmps33
    go_wp2
    go_ret
    exact ⟨rfl, rfl⟩
theorem torBad_has (w : World) (v : Value) (a : Int) (h : TorBad w v) : Calls Try.prog 34 #[v, .int .i64 a] w fun e w' => e = .returned (.bool false) ∧ w = w' := by
  have H := hide h
  clear h
  go_enter Try.func34, Try.ntmps34
  go_wp2_with (go_at_call 33; refine (torBad_valid _ _ H.out).mono ?_; rintro e w' ⟨rfl, rfl⟩)
  go_ret
  exact ⟨rfl, rfl⟩
theorem torBad_Add (w : World) (v : Value) (a : Int) (b : Int) (c : Int) (h : TorBad w v) : Calls Try.prog 27 #[v, .int .i64 a, .int .i64 b, .int .i64 c] w fun e w' => e = .returned (.tuple #[.bool false, .int .i64 1]) ∧ w = w' := by
  have H := hide h
  clear h
  go_enter Try.func27, Try.ntmps27
  go_wp2_with (go_at_call 33; refine (torBad_valid _ _ H.out).mono ?_; rintro e w' ⟨rfl, rfl⟩)
  go_ret2
  exact ⟨rfl, rfl⟩
theorem torBad_Wraps (w : World) (v : Value) (h : TorBad w v) : Calls Try.prog 22 #[v] w fun e w' => e = .returned (.tuple #[.bool false, .bool false]) ∧ w = w' := by
  have H := hide h
  clear h
  go_enter Try.func22, Try.ntmps22
  go_wp2_with (go_at_call 33; refine (torBad_valid _ _ H.out).mono ?_; rintro e w' ⟨rfl, rfl⟩)
  go_ret2
  exact ⟨rfl, rfl⟩
theorem torBad_Offset (w : World) (v : Value) (a : Int) (b : Int) (h : TorBad w v) : Calls Try.prog 23 #[v, .int .i64 a, .int .i64 b] w fun e w' => e = .returned (.tuple #[.int .i64 0, .int .i64 0, .bool false]) ∧ w = w' := by
  have H := hide h
  clear h
  go_enter Try.func23, Try.ntmps23
  go_wp2_with (go_at_call 34; refine (torBad_has _ _ _ H.out).mono ?_; rintro e w' ⟨rfl, rfl⟩)
  go_ret3
  exact ⟨rfl, rfl⟩
theorem torBad_Same (w : World) (v : Value) (a : Int) (b : Int) (h : TorBad w v) : Calls Try.prog 29 #[v, .int .i64 a, .int .i64 b] w fun e w' => e = .returned (.bool false) ∧ w = w' := by
  have H := hide h
  clear h
  go_enter Try.func29, Try.ntmps29
  go_wp2_with (go_at_call 34; refine (torBad_has _ _ _ H.out).mono ?_; rintro e w' ⟨rfl, rfl⟩)
  go_ret
  exact ⟨rfl, rfl⟩
theorem torBad_Count (w : World) (v : Value) (h : TorBad w v) : Calls Try.prog 24 #[v] w fun e w' => e = .returned (.int .i64 0) ∧ w = w' := by
  have H := hide h
  clear h
  go_enter Try.func24, Try.ntmps24
  go_wp2_with (go_at_call 33; refine (torBad_valid _ _ H.out).mono ?_; rintro e w' ⟨rfl, rfl⟩)
  go_ret
  exact ⟨rfl, rfl⟩
set_option maxRecDepth 100000 in
set_option maxHeartbeats 8000000 in
theorem wrappingNil_walk (a0 a1 a2 : Int) (W : World) (w0 : (Lit.int .i64 a0).wf = true) (w1 : (Lit.int .i64 a1).wf = true) (w2 : (Lit.int .i64 a2).wf = true) :
    Calls Try.prog 9 #[.int .i64 a0, .int .i64 a1, .int .i64 a2] W fun e W' => e = .returned (.bool true) ∧ Below W.heap.size W W' := by
  clear w0 w1 w2
  go_enter Try.func9, Try.ntmps9
  go_wp2_with fail
  have hA : Below W.heap.size W ((W.alloc (.cells #[.int .i64 0, .int .i64 0, .slice none 0 0, .slice none 0 0, .slice none 0 0, .slice none 0 0, .bool false, .bool false, .int .i64 0] 59)).alloc (.cells #[.pointer none, .pointer (some ⟨W.heap.size, 0, none⟩)] 32)) := ((Below.refl _ _).alloc (Nat.le_refl _) _).alloc (by simp) _
  have c0 : ((W.alloc (.cells #[.int .i64 0, .int .i64 0, .slice none 0 0, .slice none 0 0, .slice none 0 0, .slice none 0 0, .bool false, .bool false, .int .i64 0] 59)).alloc (.cells #[.pointer none, .pointer (some ⟨W.heap.size, 0, none⟩)] 32)).cell? ⟨W.heap.size + 1, 0, none⟩ = some (.pointer none) := by simp [go_sem]
  have c1 : ((W.alloc (.cells #[.int .i64 0, .int .i64 0, .slice none 0 0, .slice none 0 0, .slice none 0 0, .slice none 0 0, .bool false, .bool false, .int .i64 0] 59)).alloc (.cells #[.pointer none, .pointer (some ⟨W.heap.size, 0, none⟩)] 32)).cell? ⟨W.heap.size + 1, 1, none⟩ = some (.pointer (some ⟨W.heap.size, 0, none⟩)) := by simp [go_sem]
  have c2 : ((W.alloc (.cells #[.int .i64 0, .int .i64 0, .slice none 0 0, .slice none 0 0, .slice none 0 0, .slice none 0 0, .bool false, .bool false, .int .i64 0] 59)).alloc (.cells #[.pointer none, .pointer (some ⟨W.heap.size, 0, none⟩)] 32)).cell? ⟨W.heap.size, 2, none⟩ = some (.slice none 0 0) := by simp [go_sem]
  generalize ((W.alloc (.cells #[.int .i64 0, .int .i64 0, .slice none 0 0, .slice none 0 0, .slice none 0 0, .slice none 0 0, .bool false, .bool false, .int .i64 0] 59)).alloc (.cells #[.pointer none, .pointer (some ⟨W.heap.size, 0, none⟩)] 32)) = W0 at *
  have hA' := hide hA
  have C2 := hide c2
  clear hA c2
  go_loopg [9] 2 (fun q v wr => ∃ k : Nat, k + q = 2 ∧ v = .int .i64 (k : Int) ∧ wr = W0)
  case atStart => exact ⟨0, by omega, rfl, rfl⟩
  case round =>
    obtain ⟨k, hk, rfl, rfl⟩ := hrel
    have HK := hide hk
    have hk2 : k = 0 ∨ k = 1 ∨ k = 2 := by omega
    clear hk
    rcases hk2 with rfl | rfl | rfl
    · have HB : Hid (∀ w, TorBad w (.pointer none)) := fun _ => .inl rfl
      go_wp2_with (first | (go_at_call 27; refine (torBad_Add _ _ _ _ _ (HB.out _)).mono ?_; rintro e w' ⟨rfl, rfl⟩) | (go_at_call 22; refine (torBad_Wraps _ _ (HB.out _)).mono ?_; rintro e w' ⟨rfl, rfl⟩) | (go_at_call 23; refine (torBad_Offset _ _ _ _ (HB.out _)).mono ?_; rintro e w' ⟨rfl, rfl⟩) | (go_at_call 29; refine (torBad_Same _ _ _ _ (HB.out _)).mono ?_; rintro e w' ⟨rfl, rfl⟩) | (go_at_call 24; refine (torBad_Count _ _ (HB.out _)).mono ?_; rintro e w' ⟨rfl, rfl⟩))
      go_roundg 1
      case measure => have := HK.out; omega
      case rel => exact ⟨1, by omega, by go_num, rfl⟩
    · have HB : Hid (∀ k : Nat, TorBad wr (.pointer (some ⟨W.heap.size, 0, none⟩))) := fun _ => .inr ⟨_, rfl, C2.out⟩
      go_wp2_with (first | (go_at_call 27; refine (torBad_Add _ _ _ _ _ (HB.out 0)).mono ?_; rintro e w' ⟨rfl, rfl⟩) | (go_at_call 22; refine (torBad_Wraps _ _ (HB.out 0)).mono ?_; rintro e w' ⟨rfl, rfl⟩) | (go_at_call 23; refine (torBad_Offset _ _ _ _ (HB.out 0)).mono ?_; rintro e w' ⟨rfl, rfl⟩) | (go_at_call 29; refine (torBad_Same _ _ _ _ (HB.out 0)).mono ?_; rintro e w' ⟨rfl, rfl⟩) | (go_at_call 24; refine (torBad_Count _ _ (HB.out 0)).mono ?_; rintro e w' ⟨rfl, rfl⟩))
      go_roundg 0
      case measure => have := HK.out; omega
      case rel => exact ⟨2, by omega, by go_num, rfl⟩
    · go_wp2_with fail
      refine (works30 _).mono ?_
      rintro e w5 ⟨rfl, hb5⟩
      go_wp2_with fail
      go_ret
      exact ⟨rfl, hA'.out.trans (hb5.mono hA'.out.size)⟩
end Go.Proofs.Ytnkkdoookhhhaaa
