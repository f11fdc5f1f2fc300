/- undo: sets that are nil, or that New did not make; the walk of UndoNil. -/
import Derived.Test.YtdhmjdlkaoflnaaUndoW
namespace Go.Proofs.Ytdhmjdlkaoflnaa
open Go.RowKit
set_option linter.unusedVariables false

def UndoBad (w : World) (v : Value) : Prop := v = .pointer none ∨ ∃ g, v = .pointer (some ⟨g, 0, none⟩) ∧ w.cell? ⟨g, 0, none⟩ = some (.pointer none)

theorem run_eql_none_some {P : Program} (w : World) {tp te : TypeId} (a : Addr) (hp : P.underlying tp = some (.pointer te)) :
    (binOp .eql tp (.pointer none) (.pointer (some a))).run P w = .ok (.bool false) w := by
  have h : ∀ d : Nat, (Op.equalIn (d + 1) tp (.pointer none) (.pointer (some a))).run P w = .ok false w := fun d => by
    simp [Op.equalIn, run_underlying hp]
  simp only [binOp]
  simp [Op.equal, Op.maxDepth, h 9999]

theorem undoBad_valid (w : World) (v : Value) (h : UndoBad w v) : Calls Try.prog 31 #[v] w fun e w' => e = .returned (.bool false) ∧ w = w' := by
  rcases h with rfl | ⟨g, rfl, c0⟩
  · go_enter Try.func31, Try.ntmps31
    go_wp2
    go_ret
    exact ⟨rfl, rfl⟩
  · have he := fun W => run_eql_none_some (P := Try.prog) W ⟨g, 0, none⟩ Try.underlying24
    go_enter Try.func31, Try.ntmps31
    go_wp2
    go_ret
    exact ⟨rfl, rfl⟩
theorem undoBad_has (w : World) (v : Value) (a : Int) (h : UndoBad w v) : Calls Try.prog 39 #[v, .int .i64 a] w fun e w' => e = .returned (.bool false) ∧ w = w' := by
  have H := hide h
  clear h
  go_enter Try.func39, Try.ntmps39
  go_wp2_with (go_at_call 31; refine (undoBad_valid _ _ H.out).mono ?_; rintro e w' ⟨rfl, rfl⟩)
  go_ret
  exact ⟨rfl, rfl⟩
theorem undoBad_Union (w : World) (v : Value) (a : Int) (b : Int) (h : UndoBad w v) : Calls Try.prog 25 #[v, .int .i64 a, .int .i64 b] w fun e w' => e = .returned (.tuple #[.bool false, .int .i64 1]) ∧ w = w' := by
  have H := hide h
  clear h
  go_enter Try.func25, Try.ntmps25
  go_wp2_with (go_at_call 31; refine (undoBad_valid _ _ H.out).mono ?_; rintro e w' ⟨rfl, rfl⟩)
  go_ret2
  exact ⟨rfl, rfl⟩
theorem undoBad_Undo (w : World) (v : Value) (a : Int) (h : UndoBad w v) : Calls Try.prog 17 #[v, .int .i64 a] w fun e w' => e = .returned (.int .i64 1) ∧ w = w' := by
  have H := hide h
  clear h
  go_enter Try.func17, Try.ntmps17
  go_wp2_with (go_at_call 31; refine (undoBad_valid _ _ H.out).mono ?_; rintro e w' ⟨rfl, rfl⟩)
  go_ret
  exact ⟨rfl, rfl⟩
theorem undoBad_Same (w : World) (v : Value) (a : Int) (b : Int) (h : UndoBad w v) : Calls Try.prog 22 #[v, .int .i64 a, .int .i64 b] w fun e w' => e = .returned (.bool false) ∧ w = w' := by
  have H := hide h
  clear h
  go_enter Try.func22, Try.ntmps22
  go_wp2_with (go_at_call 39; refine (undoBad_has _ _ _ H.out).mono ?_; rintro e w' ⟨rfl, rfl⟩)
  go_ret
  exact ⟨rfl, rfl⟩
theorem undoBad_Size (w : World) (v : Value) (a : Int) (h : UndoBad w v) : Calls Try.prog 23 #[v, .int .i64 a] w fun e w' => e = .returned (.int .i64 0) ∧ w = w' := by
  have H := hide h
  clear h
  go_enter Try.func23, Try.ntmps23
  go_wp2_with (go_at_call 39; refine (undoBad_has _ _ _ H.out).mono ?_; rintro e w' ⟨rfl, rfl⟩)
  go_ret
  exact ⟨rfl, rfl⟩
theorem undoBad_Count (w : World) (v : Value) (h : UndoBad w v) : Calls Try.prog 15 #[v] w fun e w' => e = .returned (.int .i64 0) ∧ w = w' := by
  have H := hide h
  clear h
  go_enter Try.func15, Try.ntmps15
  go_wp2_with (go_at_call 31; refine (undoBad_valid _ _ H.out).mono ?_; rintro e w' ⟨rfl, rfl⟩)
  go_ret
  exact ⟨rfl, rfl⟩
theorem undoBad_Mark (w : World) (v : Value) (h : UndoBad w v) : Calls Try.prog 13 #[v] w fun e w' => e = .returned (.int .i64 0) ∧ w = w' := by
  have H := hide h
  clear h
  go_enter Try.func13, Try.ntmps13
  go_wp2_with (go_at_call 31; refine (undoBad_valid _ _ H.out).mono ?_; rintro e w' ⟨rfl, rfl⟩)
  go_ret
  exact ⟨rfl, rfl⟩
theorem undoBad_Labels (w : World) (v : Value) (h : UndoBad w v) : Calls Try.prog 14 #[v] w fun e w' => e = .returned (.slice none 0 0) ∧ w = w' := by
  have H := hide h
  clear h
  go_enter Try.func14, Try.ntmps14
  go_wp2_with (go_at_call 31; refine (undoBad_valid _ _ H.out).mono ?_; rintro e w' ⟨rfl, rfl⟩)
  go_ret
  exact ⟨rfl, rfl⟩
theorem undoBad_Copy (w : World) (v : Value) (h : UndoBad w v) : Calls Try.prog 29 #[v] w fun e w' => e = .returned (.pointer none) ∧ w = w' := by
  have H := hide h
  clear h
  go_enter Try.func29, Try.ntmps29
  go_wp2_with (go_at_call 31; refine (undoBad_valid _ _ H.out).mono ?_; rintro e w' ⟨rfl, rfl⟩)
  go_ret
  exact ⟨rfl, rfl⟩
theorem UndoBad.fresh {w w' : World} {v : Value} (h : UndoBad w v) (k : Below w.heap.size w w') : UndoBad w' v := by
  rcases h with rfl | ⟨g, rfl, c0⟩
  · exact .inl rfl
  · exact .inr ⟨g, rfl, (k.cell (p := ⟨g, 0, none⟩) (World.block_lt_of_cell? w _ c0)).trans c0⟩
set_option maxHeartbeats 2000000 in
theorem undoBad_Trial (w : World) (v x : Value) (h : UndoBad w v) : Calls Try.prog 24 #[v, x] w fun e w' => e = .returned (.tuple #[.agg #[.int .i64 0, .int .i64 0, .int .i64 0], .int .i64 1]) ∧ Below w.heap.size w w' := by
  have H := hide (h.fresh ((Below.refl _ _).alloc (Nat.le_refl _) (.cells #[.int .i64 0, .int .i64 0, .int .i64 0] 48)))
  clear h
  go_enter_defers Try.func24, Try.ntmps24
  go_wp2_with fail
  refine (undoBad_valid _ _ H.out).mono ?_
  rintro e w' ⟨rfl, rfl⟩
  go_wp2_with fail
  exact ⟨.tuple #[.agg #[.int .i64 0, .int .i64 0, .int .i64 0], .int .i64 1], by simp [results, Try.results24, go_sem], rfl, (Below.refl _ _).alloc (Nat.le_refl _) _⟩

set_option maxRecDepth 100000 in
set_option maxHeartbeats 8000000 in
theorem undoNil_walk (a0 a1 : Int) (v2 : Value) (l : List (Int × Int)) (W : World) (w0 : (Lit.int .i64 a0).wf = true) (w1 : (Lit.int .i64 a1).wf = true) (w2 : IsPairs W v2 l) :
    Calls Try.prog 9 #[.int .i64 a0, .int .i64 a1, v2] W fun e W' => e = .returned (.bool true) ∧ Below W.heap.size W W' := by
  obtain ⟨A, m, c, rfl, _⟩ := w2
  clear w0 w1
  go_enter Try.func9, Try.ntmps9
  go_wp2_with fail
  have heq : ∀ W : World, (binOp .neq 48 (.agg #[.int .i64 0, .int .i64 0, .int .i64 0]) (.agg #[.int .i64 0, .int .i64 0, .int .i64 0])).run Try.prog W = .ok (.bool false) W := fun W => by kernel_rfl
  have hA : Below W.heap.size W ((W.alloc (.cells #[.pointer none, .slice none 0 0, .slice none 0 0, .slice none 0 0] 60)).alloc (.cells #[.pointer none, .pointer (some ⟨W.heap.size, 0, none⟩)] 24)) :=
    ((Below.refl _ _).alloc (Nat.le_refl _) _).alloc (by simp) _
  have c0 : ((W.alloc (.cells #[.pointer none, .slice none 0 0, .slice none 0 0, .slice none 0 0] 60)).alloc (.cells #[.pointer none, .pointer (some ⟨W.heap.size, 0, none⟩)] 24)).cell? ⟨W.heap.size + 1, 0, none⟩ = some (.pointer none) := by simp [go_sem]
  have c1 : ((W.alloc (.cells #[.pointer none, .slice none 0 0, .slice none 0 0, .slice none 0 0] 60)).alloc (.cells #[.pointer none, .pointer (some ⟨W.heap.size, 0, none⟩)] 24)).cell? ⟨W.heap.size + 1, 1, none⟩ = some (.pointer (some ⟨W.heap.size, 0, none⟩)) := by simp [go_sem]
  have c2 : ((W.alloc (.cells #[.pointer none, .slice none 0 0, .slice none 0 0, .slice none 0 0] 60)).alloc (.cells #[.pointer none, .pointer (some ⟨W.heap.size, 0, none⟩)] 24)).cell? ⟨W.heap.size, 0, none⟩ = some (.pointer none) := by simp [go_sem]
  have hz : ((W.alloc (.cells #[.pointer none, .slice none 0 0, .slice none 0 0, .slice none 0 0] 60)).alloc (.cells #[.pointer none, .pointer (some ⟨W.heap.size, 0, none⟩)] 24)).heap.size = W.heap.size + 2 := by simp
  generalize ((W.alloc (.cells #[.pointer none, .slice none 0 0, .slice none 0 0, .slice none 0 0] 60)).alloc (.cells #[.pointer none, .pointer (some ⟨W.heap.size, 0, none⟩)] 24)) = W0 at *
  have hl0 : W.heap.size < W0.heap.size := by omega
  have hl1 : W.heap.size + 1 < W0.heap.size := by omega
  have hA' := hide hA
  have C0 := hide c0
  have C1 := hide c1
  have C2 := hide c2
  clear hA c0 c1 c2 hz
  go_loopg [9] 2 (fun q v wr => ∃ k : Nat, k + q = 2 ∧ v = .int .i64 (k : Int) ∧ Below W0.heap.size W0 wr)
  case atStart => exact ⟨0, by omega, rfl, Below.refl _ _⟩
  case round =>
    obtain ⟨k, hk, rfl, hb⟩ := hrel
    have HK := hide hk
    have hk2 : k = 0 ∨ k = 1 ∨ k = 2 := by omega
    have d0 : wr.cell? ⟨W.heap.size + 1, 0, none⟩ = some (.pointer none) := (hb.cell (p := ⟨W.heap.size + 1, 0, none⟩) hl1).trans C0.out
    have d1 : wr.cell? ⟨W.heap.size + 1, 1, none⟩ = some (.pointer (some ⟨W.heap.size, 0, none⟩)) := (hb.cell (p := ⟨W.heap.size + 1, 1, none⟩) hl1).trans C1.out
    have HBB := hide hb
    clear hk hb
    rcases hk2 with rfl | rfl | rfl
    · have HB : Hid (∀ w, Below W0.heap.size W0 w → UndoBad w (.pointer none)) := fun _ _ => .inl rfl
      go_wp2_with fail
      refine (undoBad_Union _ _ _ _ (HB.out _ HBB.out)).mono ?_
      rintro e w1 ⟨rfl, rfl⟩
      go_wp2_with fail
      refine (undoBad_Trial _ _ _ (HB.out _ HBB.out)).mono ?_
      rintro e w2 ⟨rfl, hb2⟩
      have HB2 := hide (HBB.out.trans (hb2.mono HBB.out.size))
      clear hb2 d0 d1
      go_wp2_with fail
      have hb3 := HB2.out.alloc HB2.out.size (.cells #[.int .i64 0, .int .i64 0, .int .i64 0] 48)
      go_wp2_with (first | (go_at_call 25; refine (undoBad_Union _ _ _ _ (HB.out _ hb3)).mono ?_; rintro e w' ⟨rfl, rfl⟩) | (go_at_call 17; refine (undoBad_Undo _ _ _ (HB.out _ hb3)).mono ?_; rintro e w' ⟨rfl, rfl⟩) | (go_at_call 22; refine (undoBad_Same _ _ _ _ (HB.out _ hb3)).mono ?_; rintro e w' ⟨rfl, rfl⟩) | (go_at_call 23; refine (undoBad_Size _ _ _ (HB.out _ hb3)).mono ?_; rintro e w' ⟨rfl, rfl⟩) | (go_at_call 15; refine (undoBad_Count _ _ (HB.out _ hb3)).mono ?_; rintro e w' ⟨rfl, rfl⟩) | (go_at_call 13; refine (undoBad_Mark _ _ (HB.out _ hb3)).mono ?_; rintro e w' ⟨rfl, rfl⟩) | (go_at_call 14; refine (undoBad_Labels _ _ (HB.out _ hb3)).mono ?_; rintro e w' ⟨rfl, rfl⟩) | (go_at_call 29; refine (undoBad_Copy _ _ (HB.out _ hb3)).mono ?_; rintro e w' ⟨rfl, rfl⟩))
      go_roundg 1
      case measure => have := HK.out; omega
      case rel => exact ⟨1, by omega, by go_num, hb3⟩
    · have HB : Hid (∀ w, Below W0.heap.size W0 w → UndoBad w (.pointer (some ⟨W.heap.size, 0, none⟩))) := fun w hw => .inr ⟨_, rfl, (hw.cell (p := ⟨W.heap.size, 0, none⟩) hl0).trans C2.out⟩
      go_wp2_with fail
      refine (undoBad_Union _ _ _ _ (HB.out _ HBB.out)).mono ?_
      rintro e w1 ⟨rfl, rfl⟩
      go_wp2_with fail
      refine (undoBad_Trial _ _ _ (HB.out _ HBB.out)).mono ?_
      rintro e w2 ⟨rfl, hb2⟩
      have HB2 := hide (HBB.out.trans (hb2.mono HBB.out.size))
      clear hb2 d0 d1
      go_wp2_with fail
      have hb3 := HB2.out.alloc HB2.out.size (.cells #[.int .i64 0, .int .i64 0, .int .i64 0] 48)
      go_wp2_with (first | (go_at_call 25; refine (undoBad_Union _ _ _ _ (HB.out _ hb3)).mono ?_; rintro e w' ⟨rfl, rfl⟩) | (go_at_call 17; refine (undoBad_Undo _ _ _ (HB.out _ hb3)).mono ?_; rintro e w' ⟨rfl, rfl⟩) | (go_at_call 22; refine (undoBad_Same _ _ _ _ (HB.out _ hb3)).mono ?_; rintro e w' ⟨rfl, rfl⟩) | (go_at_call 23; refine (undoBad_Size _ _ _ (HB.out _ hb3)).mono ?_; rintro e w' ⟨rfl, rfl⟩) | (go_at_call 15; refine (undoBad_Count _ _ (HB.out _ hb3)).mono ?_; rintro e w' ⟨rfl, rfl⟩) | (go_at_call 13; refine (undoBad_Mark _ _ (HB.out _ hb3)).mono ?_; rintro e w' ⟨rfl, rfl⟩) | (go_at_call 14; refine (undoBad_Labels _ _ (HB.out _ hb3)).mono ?_; rintro e w' ⟨rfl, rfl⟩) | (go_at_call 29; refine (undoBad_Copy _ _ (HB.out _ hb3)).mono ?_; rintro e w' ⟨rfl, rfl⟩))
      go_roundg 0
      case measure => have := HK.out; omega
      case rel => exact ⟨2, by omega, by go_num, hb3⟩
    · go_wp2_with fail
      refine (works9 _).mono ?_
      rintro e w5 ⟨rfl, hb5⟩
      have hf := hA'.out.trans (HBB.out.mono (by omega))
      go_wp2_with fail
      go_ret
      exact ⟨rfl, hf.trans (hb5.mono hf.size)⟩
end Go.Proofs.Ytdhmjdlkaoflnaa
