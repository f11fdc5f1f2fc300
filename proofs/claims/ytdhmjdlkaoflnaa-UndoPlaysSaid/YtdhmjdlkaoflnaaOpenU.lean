/- Arguments that are slices of pairs of bytes. Nothing of the program. -/
import Derived.Test.YtdhmjdlkaoflnaaOpen
namespace Go.Proofs.Ytdhmjdlkaoflnaa
open Go.RowKit Go.ChangeShapes Go.WideShapes Go.Deep
set_option linter.unusedVariables false

def pc8 (e : Nat × Nat) : List Value := [.int .u8 (e.1 : Int), .int .u8 (e.2 : Int)]
def P8Ok (e : Nat × Nat) : Prop := e.1 < 256 ∧ e.2 < 256
def IsPairs8 (W : World) (v : Value) (l : List (Nat × Nat)) : Prop := ∃ (A : Option Addr) (n c : Nat), v = .slice A n c ∧ n ≤ maxLen ∧ l.length = n ∧ (∀ a ∈ l, P8Ok a) ∧ Rd W A n 2 (l.flatMap pc8)
theorem pc8_get (l : List (Nat × Nat)) (j : Nat) (hj : j < l.length) : (l.flatMap pc8)[j * 2]? = some (.int .u8 (l[j].1 : Int)) ∧ (l.flatMap pc8)[j * 2 + 1]? = some (.int .u8 (l[j].2 : Int)) := by
  induction l generalizing j with
  | nil => simp at hj
  | cons e l ih =>
    cases j with
    | zero => simp [pc8]
    | succ j =>
      have e1 : (e :: l).flatMap pc8 = [.int .u8 (e.1 : Int), .int .u8 (e.2 : Int)] ++ l.flatMap pc8 := rfl
      obtain ⟨a, b⟩ := ih j (by simpa using hj)
      rw [e1]
      refine ⟨?_, ?_⟩
      · rw [List.getElem?_append_right (by simp; omega)]; simpa [show (j + 1) * 2 - 2 = j * 2 by omega] using a
      · rw [List.getElem?_append_right (by simp; omega)]; simpa [show (j + 1) * 2 + 1 - 2 = j * 2 + 1 by omega] using b
theorem Rd.pair8 {w : World} {A : Option Addr} {n : Nat} {l : List (Nat × Nat)} (h : Rd w A n 2 (l.flatMap pc8)) (j : Nat) (hj : j < l.length) (hn : l.length = n) :
    ∃ b o, A = some ⟨b, o, none⟩ ∧ b < w.heap.size ∧ w.cell? ⟨b, o + j * 2, none⟩ = some (.int .u8 (l[j].1 : Int)) ∧ w.cell? ⟨b, o + j * 2 + 1, none⟩ = some (.int .u8 (l[j].2 : Int)) := by
  obtain ⟨b, o, e, hb, hc⟩ := h.2 (by omega)
  obtain ⟨x, y⟩ := pc8_get l j hj
  exact ⟨b, o, e, hb, hc _ _ x, by have := hc _ _ y; rwa [← Nat.add_assoc] at this⟩
theorem open_pairs8 {H : Type} {enc : TypeId × Value → H} {P : Program} {W : World} {base b0 : Nat} {r : Reach} {spare : Nat → Bool} {held : Bool} {t e i : TypeId} {v : Value} {d : DataW H} {p : List MemPlace}
    (ht : P.underlying t = some (.slice e)) (he : P.underlying e = some (.array 2 i)) (hi : P.underlying i = some (.int .u8)) (hc : P.cellsOf e = 2) (hci : P.cellsOf i = 1)
    (hv : Value.okWide P W r b0 t v) (h : DataW.Trod enc P W base spare held t v d p) : ∃ l, IsPairs8 W v l := by
  obtain ⟨A, n, c, l, h1, h2, h3, h4, h5⟩ := open_list pc8 P8Ok 2 (fun _ => rfl) (by decide) ht hc (fun n cs y hy => by
    obtain ⟨xs, m, hm, hx, hcl, hxl, hg⟩ := DataW.trod_array he hy
    have g0 := hg 0 (by decide)
    have g1 := hg 1 (by decide)
    rw [hc] at hcl
    match cs, hcl with
    | [c0, c1], _ =>
      match xs, hxl with
      | [y0, y1], _ =>
        rw [hci] at g0 g1
        simp at g0 g1
        obtain ⟨x0, e0, _, w0⟩ := DataW.trod_int hi g0
        obtain ⟨x1, e1, _, w1⟩ := DataW.trod_int hi g1
        simp at e0 e1
        subst e0; subst e1
        have b0 : 0 ≤ x0 ∧ x0 < 256 := by simp [Lit.wf, IntKind.min, IntKind.max, IntKind.signed, IntKind.bits] at w0; omega
        have b1 : 0 ≤ x1 ∧ x1 < 256 := by simp [Lit.wf, IntKind.min, IntKind.max, IntKind.signed, IntKind.bits] at w1; omega
        obtain ⟨x0, rfl⟩ := Int.eq_ofNat_of_zero_le b0.1
        obtain ⟨x1, rfl⟩ := Int.eq_ofNat_of_zero_le b1.1
        exact ⟨(x0, x1), rfl, by simp only; omega, by simp only; omega⟩) (okWide_slice ht hv) h
  exact ⟨l, A, n, c, h1, h2, h3, h4, h5⟩
end Go.Proofs.Ytdhmjdlkaoflnaa
