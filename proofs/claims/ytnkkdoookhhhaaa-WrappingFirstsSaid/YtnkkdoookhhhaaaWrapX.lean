/- Plain: the chapter's example of a torus. Nothing of the program. -/
import Derived.Test.YtnkkdoookhhhaaaWrapT
namespace Go.Proofs.Ytnkkdoookhhhaaa
open Go.RowKit
set_option linter.unusedVariables false

theorem any_flat {W H : Nat} {f : Nat → Int} {E : List Nat} (d : Nat → Int) (h : ∀ e ∈ E, d (tT W H e) = d (tS e) + f e) : anyB W H f E = false := by
  rw [← Bool.not_eq_true, anyB_iff]
  rintro ⟨i, _, hn⟩
  exact hn ⟨d, fun e he _ => h e he⟩
theorem wnd_flat {W H : Nat} {f : Nat → Int} {E : List Nat} {v : Nat} (d : Nat → Int) (h : ∀ e ∈ E, d (tT W H e) = d (tS e) + f e) : wndB W H f E v = false := wndB_false.2 ⟨d, fun e he _ => h e he⟩
theorem ex30_L : tL 3 2 [] 0 ≠ tL 3 2 [] 1 ∧ tL 3 2 [0] 1 ≠ tL 3 2 [0] 2 ∧ tL 3 2 [0, 2] 2 = tL 3 2 [0, 2] 0 ∧ sets 6 (tL 3 2 [0, 2, 4]) = 4 ∧ tL 3 2 [0, 2] 0 = tL 3 2 [0, 2] 2 := by decide +kernel
theorem ex30_off : offX 3 2 [0, 2] 0 2 = 2 ∧ offY 3 2 [0, 2] 0 2 = 0 ∧ offOk 3 2 [0, 2] 0 2 = true := by
  have hx : ∀ e ∈ [0, 2], (fun v : Nat => ((v % 3 : Nat) : Int)) (tT 3 2 e) = (fun v : Nat => ((v % 3 : Nat) : Int)) (tS e) + tX e := by decide
  have hy : ∀ e ∈ [0, 2], (fun _ : Nat => (0 : Int)) (tT 3 2 e) = (fun _ : Nat => (0 : Int)) (tS e) + tY e := by decide
  have h1 := wnd_flat (W := 3) (H := 2) (f := tX) (E := [0, 2]) (v := 0) (fun v : Nat => ((v % 3 : Nat) : Int)) hx
  have h2 := wnd_flat (W := 3) (H := 2) (f := tY) (E := [0, 2]) (v := 0) (fun _ : Nat => (0 : Int)) hy
  have hok : offOk 3 2 [0, 2] ((0 : Nat) : Int) ((2 : Nat) : Int) = true := (offOk_iff (by decide) (by decide)).2 ⟨ex30_L.2.2.2.2, h1, h2⟩
  have p1 : Pt tS (tT 3 2) tX [0, 2] (tL 3 2 [0, 2]) 0 2 2 := fun φ hφ => by
    have a := hφ 0 (by decide) (by decide)
    have b := hφ 2 (by decide) (by decide +kernel)
    have e1 : tT 3 2 0 = 1 := by decide
    have e2 : tT 3 2 2 = 2 := by decide
    have e3 : tS 0 = 0 := by decide
    have e4 : tS 2 = 1 := by decide
    have e5 : tX 0 = 1 := by decide
    have e6 : tX 2 = 1 := by decide
    rw [e1, e3, e5] at a
    rw [e2, e4, e6] at b
    omega
  have p2 : Pt tS (tT 3 2) tY [0, 2] (tL 3 2 [0, 2]) 0 2 0 := fun φ hφ => by
    have a := hφ 0 (by decide) (by decide)
    have b := hφ 2 (by decide) (by decide +kernel)
    have e1 : tT 3 2 0 = 1 := by decide
    have e2 : tT 3 2 2 = 2 := by decide
    have e3 : tS 0 = 0 := by decide
    have e4 : tS 2 = 1 := by decide
    have e5 : tY 0 = 0 := by decide
    have e6 : tY 2 = 0 := by decide
    rw [e1, e3, e5] at a
    rw [e2, e4, e6] at b
    omega
  have ox := offI_eq (wndB_false.1 h1) rfl (fun φ _ => (by omega : φ 0 = φ 0 + 0)) p1
  have oy := offI_eq (wndB_false.1 h2) rfl (fun φ _ => (by omega : φ 0 = φ 0 + 0)) p2
  refine ⟨?_, ?_, hok⟩
  · have : offX 3 2 [0, 2] ((0 : Nat) : Int) ((2 : Nat) : Int) = 2 := by unfold offX; rw [hok]; exact ox
    exact this
  · have : offY 3 2 [0, 2] ((0 : Nat) : Int) ((2 : Nat) : Int) = 0 := by unfold offY; rw [hok]; exact oy
    exact this
theorem ex30_any : anyB 3 2 tX [0, 2, 4] = true ∧ anyB 3 2 tY [0, 2, 4] = false := by
  constructor
  · rw [anyB_iff]
    refine ⟨0, by decide, ?_⟩
    rintro ⟨φ, hφ⟩
    have a := hφ 0 (by decide) (by decide +kernel)
    have b := hφ 2 (by decide) (by decide +kernel)
    have c := hφ 4 (by decide) (by decide +kernel)
    have e1 : tT 3 2 0 = 1 := by decide
    have e2 : tT 3 2 2 = 2 := by decide
    have e7 : tT 3 2 4 = 0 := by decide
    have e3 : tS 0 = 0 := by decide
    have e4 : tS 2 = 1 := by decide
    have e8 : tS 4 = 2 := by decide
    have e5 : tX 0 = 1 := by decide
    have e6 : tX 2 = 1 := by decide
    have e9 : tX 4 = 1 := by decide
    rw [e1, e3, e5] at a
    rw [e2, e4, e6] at b
    rw [e7, e8, e9] at c
    omega
  · exact any_flat (fun _ => 0) (by decide)
theorem ex30_first : fstK 3 2 [0, 2, 1, 4] = 4 ∧ fstB 3 2 [0, 2, 1, 4] = true := by
  have w0 : wrp 3 2 [0, 2, 1, 4] 0 = false := by
    unfold wrp
    rw [Bool.or_eq_false_iff]
    exact ⟨any_flat (fun v => ((v % 3 : Nat) : Int)) (by decide), any_flat (fun v => ((v / 3 : Nat) : Int)) (by decide)⟩
  have w1 : wrp 3 2 [0, 2, 1, 4] 1 = false := by
    unfold wrp
    rw [Bool.or_eq_false_iff]
    exact ⟨any_flat (fun v => ((v % 3 : Nat) : Int)) (by decide), any_flat (fun v => ((v / 3 : Nat) : Int)) (by decide)⟩
  have w2 : wrp 3 2 [0, 2, 1, 4] 2 = false := by
    unfold wrp
    rw [Bool.or_eq_false_iff]
    exact ⟨any_flat (fun v => ((v % 3 : Nat) : Int)) (by decide), any_flat (fun v => ((v / 3 : Nat) : Int)) (by decide)⟩
  have w3 : wrp 3 2 [0, 2, 1, 4] 3 = true := by
    unfold wrp
    rw [Bool.or_eq_true]
    left
    show anyB 3 2 tX [0, 2, 1, 4] = true
    rw [anyB_iff]
    refine ⟨0, by decide, ?_⟩
    rintro ⟨φ, hφ⟩
    have a := hφ 0 (by decide) (by decide +kernel)
    have b := hφ 2 (by decide) (by decide +kernel)
    have c := hφ 4 (by decide) (by decide +kernel)
    have e1 : tT 3 2 0 = 1 := by decide
    have e2 : tT 3 2 2 = 2 := by decide
    have e7 : tT 3 2 4 = 0 := by decide
    have e3 : tS 0 = 0 := by decide
    have e4 : tS 2 = 1 := by decide
    have e8 : tS 4 = 2 := by decide
    have e5 : tX 0 = 1 := by decide
    have e6 : tX 2 = 1 := by decide
    have e9 : tX 4 = 1 := by decide
    rw [e1, e3, e5] at a
    rw [e2, e4, e6] at b
    rw [e7, e8, e9] at c
    omega
  have hl : lead (wrp 3 2 [0, 2, 1, 4]) 4 = 3 := lead_some (fun j hj => by
    have : j = 0 ∨ j = 1 ∨ j = 2 := by omega
    rcases this with rfl | rfl | rfl
    · exact w0
    · exact w1
    · exact w2) (by omega) w3
  unfold fstK fstB
  constructor
  · show (if lead (wrp 3 2 [0, 2, 1, 4]) 4 < 4 then (lead (wrp 3 2 [0, 2, 1, 4]) 4 : Int) + 1 else 0) = _
    rw [hl]; rfl
  · show decide (lead (wrp 3 2 [0, 2, 1, 4]) 4 < 4) = _
    rw [hl]; rfl

/-! ### Lists of edges -/
def edgS (once : Bool) (acc : List Nat) (e : Nat) : List Nat := if once && acc.contains e then acc else acc ++ [e]
/-- The edges that numbers choose: at most the first 300, each once, if that is asked for. -/
def edg (N : Nat) (once : Bool) (l : List Nat) : List Nat := ((l.take 300).map (· % N)).foldl (edgS once) []
def edgK (N : Nat) (once : Bool) (l : List Nat) (k : Nat) : List Nat := ((l.take k).map (· % N)).foldl (edgS once) []
theorem edgK_succ {N : Nat} {once : Bool} {l : List Nat} {k : Nat} (h : k < l.length) : edgK N once l (k + 1) = edgS once (edgK N once l k) (l[k] % N) := by
  unfold edgK
  rw [List.take_succ_eq_append_getElem h, List.map_append, List.foldl_append]
  rfl
theorem edgK_lt {N : Nat} (hN : 0 < N) {once : Bool} {l : List Nat} : ∀ k, k ≤ l.length → (∀ e ∈ edgK N once l k, e < N) ∧ (edgK N once l k).length ≤ k ∧ (once = true → (edgK N once l k).Nodup) := by
  intro k
  induction k with
  | zero => intro _; exact ⟨fun e he => by simp [edgK] at he, by simp [edgK], fun _ => by simp [edgK]⟩
  | succ k ih =>
    intro hk
    obtain ⟨h1, h2, h3⟩ := ih (by omega)
    rw [edgK_succ (by omega)]
    unfold edgS
    split
    · exact ⟨h1, by omega, h3⟩
    · rename_i hc
      refine ⟨fun e he => ?_, by simp; omega, fun ho => ?_⟩
      · rcases List.mem_append.1 he with he | he
        · exact h1 e he
        · rw [List.mem_singleton.1 he]; exact Nat.mod_lt _ hN
      · rw [List.nodup_append]
        refine ⟨h3 ho, by simp, fun a ha b hb e => ?_⟩
        rw [List.mem_singleton.1 hb] at e
        subst e
        subst ho
        exact hc (by simpa using ha)
theorem edg_K {N : Nat} {once : Bool} {l : List Nat} : edg N once l = edgK N once l (min l.length 300) := by
  unfold edg edgK
  congr 2
  rw [Nat.min_comm, ← List.take_take, List.take_length]
theorem edg_in {N : Nat} (hN : 0 < N) (once : Bool) (l : List Nat) : (∀ e ∈ edg N once l, e < N) ∧ (edg N once l).length ≤ 300 ∧ (once = true → (edg N once l).Nodup) := by
  rw [edg_K]
  obtain ⟨h1, h2, h3⟩ := edgK_lt hN (once := once) (l := l) (min l.length 300) (Nat.min_le_left _ _)
  exact ⟨h1, by omega, h3⟩
end Go.Proofs.Ytnkkdoookhhhaaa
