/- graph: has, at, Degree, Edges. -/
import Derived.Test.YtpgkhmjlbaoagaaGraC
namespace Go.Proofs.Ytpgkhmjlbaoagaa
open Go.RowKit
set_option linter.unusedVariables false

theorem graHas (w : World) (a : Int) (p : GLoc) (n B : Nat) (l : List (Int × Int × Int)) (h : Gr w p n B l) :
    Calls Try.prog 44 #[.pointer (some ⟨p.g, 0, none⟩), .int .i64 a] w fun e w' => e = .returned (.bool (inB n a)) ∧ w = w' := by
  have V := hide (graValid w p n B l h)
  obtain ⟨_, _, c2, _⟩ := h.cells
  have nb := h.ok.2.1
  clear h
  by_cases h0 : 0 ≤ a
  · go_enter Try.func44, Try.ntmps44
    go_wp2_with (go_at_call 43; refine V.out.mono ?_; rintro e w' ⟨rfl, rfl⟩)
    go_ret
    exact ⟨ret_bool (by simp [inB, h0]), rfl⟩
  · go_enter Try.func44, Try.ntmps44
    go_wp2_with (go_at_call 43; refine V.out.mono ?_; rintro e w' ⟨rfl, rfl⟩)
    go_ret
    exact ⟨ret_bool (by symm; simp [inB]; omega), rfl⟩
/-- A window of d ints in block b, at s. -/
def AtP (b s d : Nat) (e : Ending) : Prop := ∃ o c, e = .returned (.slice (some ⟨b, o, none⟩) d c) ∧ (0 < d → o = s)
set_option maxHeartbeats 4000000 in
theorem graAt (w : World) (v : Nat) (p : GLoc) (n B : Nat) (l : List (Int × Int × Int)) (h : Gr w p n B l) (hv : v < n) :
    Calls Try.prog 45 #[.pointer (some ⟨p.g, 0, none⟩), .int .i64 (v : Int)] w
      fun e w' => AtP p.bl (stt (2 * l.length) (eP l) v) (inc l v).length e ∧ ∃ k, w' = w.drewN k := by
  have V := graHas w (v : Int) p n B l h
  rw [inB_nat hv] at V
  have HV := hide V
  obtain ⟨_, _, c2, c3⟩ := h.cells
  obtain ⟨h1, h2, h3, h4, h5, h6, lst, h7, h8⟩ := h
  have a1 := h8.hs.int (i := v) (by omega)
  have a2 := h8.hs.int (i := v + 1) (by omega)
  have e1 := stt_end (l := l) v
  have e2 := stt_le2 (l := l) (v + 1)
  generalize stt (2 * l.length) (eP l) v = s1 at *
  generalize stt (2 * l.length) (eP l) (v + 1) = s2 at *
  generalize (inc l v).length = d at *
  subst e1
  generalize l.length = m at *
  clear h1 h4 h5 h6 h7 h8 V
  go_enter Try.func45, Try.ntmps45
  go_wp2_with (go_at_call 44; refine HV.out.mono ?_; rintro e w' ⟨rfl, rfl⟩)
  go_quiet (fail)
  go_wp2_with fail
  · go_ret
    exact ⟨⟨_, _, rfl, fun h => (by omega)⟩, _, rfl⟩
  · go_ret
    exact ⟨⟨_, _, rfl, fun h => rfl⟩, _, rfl⟩
theorem graAt_no (w : World) (v : Int) (p : GLoc) (n B : Nat) (l : List (Int × Int × Int)) (h : Gr w p n B l) (hv : inB n v = false) :
    Calls Try.prog 45 #[.pointer (some ⟨p.g, 0, none⟩), .int .i64 v] w fun e w' => e = .returned (.slice none 0 0) ∧ w = w' := by
  have V := graHas w v p n B l h
  rw [hv] at V
  have HV := hide V
  clear h V hv
  go_enter Try.func45, Try.ntmps45
  go_wp2_with (go_at_call 44; refine HV.out.mono ?_; rintro e w' ⟨rfl, rfl⟩)
  go_ret
  exact ⟨rfl, rfl⟩
/-- The degree of a vertex. -/
def gdeg (n : Nat) (l : List (Int × Int × Int)) (v : Int) : Nat := if inB n v then (inc l v.toNat).length else 0
theorem graDegree (w : World) (v : Int) (p : GLoc) (n B : Nat) (l : List (Int × Int × Int)) (h : Gr w p n B l) :
    Calls Try.prog 18 #[.pointer (some ⟨p.g, 0, none⟩), .int .i64 v] w fun e w' => e = .returned (.int .i64 (gdeg n l v : Int)) ∧ ∃ k, w' = w.drewN k := by
  cases hv : inB n v
  · have e : gdeg n l v = 0 := by unfold gdeg; rw [hv]; rfl
    rw [e]
    have H := hide (graAt_no w v p n B l h hv)
    clear h hv e
    go_enter Try.func18, Try.ntmps18
    go_wp2_with (go_at_call 45; refine H.out.mono ?_; rintro e w' ⟨rfl, rfl⟩)
    go_ret
    exact ⟨rfl, 0, rfl⟩
  · obtain ⟨v, rfl⟩ := Int.eq_ofNat_of_zero_le (show 0 ≤ v by simp [inB] at hv; omega)
    have e : gdeg n l (v : Int) = (inc l v).length := by unfold gdeg; rw [if_pos hv]; rfl
    rw [e]
    have H := graAt w v p n B l h (inB_lt hv)
    have H2 := hide H
    clear h hv e H
    go_enter Try.func18, Try.ntmps18
    go_wp2_with (go_at_call 45; refine H2.out.mono ?_; rintro e w' ⟨⟨o, c, rfl, _⟩, k, rfl⟩)
    go_ret
    exact ⟨rfl, k, rfl⟩
theorem graEdges (w : World) (p : GLoc) (n B : Nat) (l : List (Int × Int × Int)) (h : Gr w p n B l) :
    Calls Try.prog 25 #[.pointer (some ⟨p.g, 0, none⟩)] w
      fun e w' => ∃ A c, e = .returned (.slice A l.length c) ∧ OwnE w' w.heap.size (.slice A l.length c) l ∧ Below w.heap.size w w' := by
  have V := hide (graValid w p n B l h)
  obtain ⟨_, c1, _⟩ := h.cells
  have HC := hide (clone_edges_any w p.A l.length p.c l h.rd rfl (by have := h.ok.2.2; omega))
  clear h
  go_enter Try.func25, Try.ntmps25
  go_wp2_with (go_at_call 43; refine V.out.mono ?_; rintro e w' ⟨rfl, rfl⟩)
  refine HC.out.mono ?_
  rintro e w' ⟨A, c, rfl, ho, hb⟩
  have HO := hide ho
  have HB := hide hb
  clear ho hb
  go_wp2_with fail
  go_ret
  exact ⟨A, c, rfl, HO.out, HB.out⟩
end Go.Proofs.Ytpgkhmjlbaoagaa
