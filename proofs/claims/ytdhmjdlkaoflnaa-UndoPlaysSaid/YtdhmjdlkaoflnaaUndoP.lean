/- Plain: unions that can be undone: a forest without halving, the roots that were attached, the labels ahead of each union. -/
import Derived.Test.YtdhmjdlkaoflnaaDsuP
namespace Go.Proofs.Ytdhmjdlkaoflnaa
open Go.RowKit
set_option linter.unusedVariables false

/-- up, size and the roots attached so far, with the labels ahead of each union, and those of now. -/
inductive Hist (n : Nat) : (Nat → Nat) → (Nat → Nat) → List Nat → List (Nat → Nat) → (Nat → Nat) → Prop
  | new : Hist n (fun i => i) (fun _ => 1) [] [] (fun i => i)
  | step {up size : Nat → Nat} {log : List Nat} {past : List (Nat → Nat)} {L : Nat → Nat} (x y : Nat) : Hist n up size log past L → x < n → y < n → up x = x → up y = y → x ≠ y →
      Hist n (upd up y x) (upd size x (size x + size y)) (log ++ [y]) (past ++ [L]) (merge L (L x) (L y))

theorem Hist.st {n : Nat} {up size : Nat → Nat} {log : List Nat} {past : List (Nat → Nat)} {L : Nat → Nat} (h : Hist n up size log past L) :
    ∃ (least rep ρ : Nat → Nat) (M c : Nat), Sts n L up least size rep ρ M c ∧ Lab n L ∧ c + log.length = n ∧ past.length = log.length ∧ (∀ y ∈ log, y < n) := by
  induction h with
  | new => exact ⟨_, _, _, _, _, Sts.new n, Lab.id_ n, by simp, rfl, by simp⟩
  | @step up size log past L x y h hx hy ux uy hne ih =>
    obtain ⟨least, rep, ρ, M, c, hs, hl, hc, hp, hm⟩ := ih
    have rx := hs.fo.root x hx ux
    have ry := hs.fo.root y hy uy
    have hu := hs.union hl hx hy (by rw [rx, ry]; exact hne)
    rw [rx, ry] at hu
    have hc1 : 1 ≤ c := by rw [hs.cn]; exact cnt_pos (m := L x) (hl.lt hx) (by simpa using hl.idem x hx)
    refine ⟨_, _, _, _, _, hu, hl.merge_ hx hy, by rw [List.length_append]; simp; omega, by simp [hp], fun z hz => ?_⟩
    rcases List.mem_append.1 hz with hz | hz
    · exact hm z hz
    · have : z = y := by simpa using hz
      subst this; exact hy

/-- The last union undone. -/
theorem Hist.pop {n : Nat} {up size : Nat → Nat} {lg : List Nat} {ps : List (Nat → Nat)} {l : Nat → Nat} (h : Hist n up size lg ps l) :
    ∀ {log : List Nat} {y : Nat} {past : List (Nat → Nat)} {L : Nat → Nat}, lg = log ++ [y] → ps = past ++ [L] →
      y < n ∧ up y < n ∧ up y ≠ y ∧ up (up y) = up y ∧ size y ≤ size (up y) ∧ Hist n (upd up y y) (upd size (up y) (size (up y) - size y)) log past L := by
  intro log y past L e1 e2
  cases h with
  | new => simp at e1
  | @step up size log' past' L' x y' h hx hy ux uy hne =>
    obtain ⟨rfl, e3⟩ := List.append_inj' e1 rfl
    obtain ⟨rfl, e4⟩ := List.append_inj' e2 rfl
    have e3 : y' = y := by simpa using e3
    have e4 : L' = L := by simpa using e4
    subst e3
    subst e4
    have u1 : upd up y' x y' = x := upd_same _ _ _
    have s1 : upd size x (size x + size y') y' = size y' := upd_other _ _ (fun e => hne e.symm)
    have s2 : upd size x (size x + size y') x = size x + size y' := upd_same _ _ _
    rw [u1, s1, s2]
    refine ⟨hy, hx, hne, by rw [upd_other _ _ hne]; exact ux, by omega, ?_⟩
    have f1 : upd (upd up y' x) y' y' = up := by
      funext j
      unfold upd
      split
      · rename_i e; rw [e, uy]
      · rfl
    have f2 : upd (upd size x (size x + size y')) x (size x + size y' - size y') = size := by
      funext j
      unfold upd
      split
      · rename_i e; rw [e]; omega
      · rfl
    rw [f1, f2]; exact h

/-- The labels at a mark. -/
def atL (past : List (Nat → Nat)) (L : Nat → Nat) (m : Nat) : Nat → Nat := (past[m]?).getD L
theorem atL_top (past : List (Nat → Nat)) (L : Nat → Nat) {m : Nat} (h : past.length ≤ m) : atL past L m = L := by simp [atL, List.getElem?_eq_none h]
theorem atL_lt (past : List (Nat → Nat)) (L : Nat → Nat) {m : Nat} (h : m < past.length) : atL past L m = past[m] := by simp [atL, h]

/-- One step of going back, from k + 1 unions to k. -/
theorem Hist.back1 {n : Nat} {up size : Nat → Nat} {log : List Nat} {past : List (Nat → Nat)} {L : Nat → Nat} {k : Nat} (hk : k < log.length) (hp : past.length = log.length)
    (h : Hist n up size (log.take (k + 1)) (past.take (k + 1)) (atL past L (k + 1))) :
    log[k] < n ∧ up log[k] < n ∧ up log[k] ≠ log[k] ∧ up (up log[k]) = up log[k] ∧ size log[k] ≤ size (up log[k]) ∧
      Hist n (upd up log[k] log[k]) (upd size (up log[k]) (size (up log[k]) - size log[k])) (log.take k) (past.take k) (atL past L k) := by
  rw [atL_lt past L (m := k) (by omega)]
  exact h.pop (List.take_succ_eq_append_getElem hk) (List.take_succ_eq_append_getElem (by omega))
theorem Hist.full {n : Nat} {up size : Nat → Nat} {log : List Nat} {past : List (Nat → Nat)} {L : Nat → Nat} (h : Hist n up size log past L) :
    Hist n up size (log.take log.length) (past.take log.length) (atL past L log.length) := by
  obtain ⟨_, _, _, _, _, _, _, _, hp, _⟩ := h.st
  rw [List.take_length, ← hp, List.take_length, atL_top _ _ (Nat.le_refl _)]; exact h
end Go.Proofs.Ytdhmjdlkaoflnaa
