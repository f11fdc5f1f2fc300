/- Plain: what LatticeDegrees keeps, edge by edge. -/
import Derived.Test.YtbkgnachgpbcpaaLatDeh
import Derived.Test.YtbkgnachgpbcpaaMem
namespace Go.Proofs.Ytbkgnachgpbcpaa
open Go.RowKit
set_option linter.unusedVariables false

theorem pair_inj {n x y a b : Nat} (hy : y < n) (hb : b < n) (h : x * n + y = a * n + b) : x = a ∧ y = b := by
  have h1 := congrArg (· / n) h
  have h2 := congrArg (· % n) h
  simp only [Nat.mul_comm x n, Nat.mul_comm a n, Nat.mul_add_mod, Nat.mod_eq_of_lt hy, Nat.mod_eq_of_lt hb, Nat.mul_add_div (show 0 < n by omega), Nat.div_eq_of_lt hy, Nat.div_eq_of_lt hb, Nat.add_zero] at h1 h2
  exact ⟨h1, h2⟩
/-- The places struck by the edges. -/
def sn (n : Nat) (L : List (Int × Int × Int)) (q : Nat) : Bool := L.any fun e => decide (e.1.toNat * n + e.2.1.toNat = q) || decide (e.2.1.toNat * n + e.1.toNat = q)
def dn (L : List (Int × Int × Int)) (v : Nat) : Nat := dg L (v : Int)
theorem sn_nil (n : Nat) : sn n [] = fun _ => false := rfl
theorem dn_nil : dn [] = fun _ => 0 := rfl
theorem sn_snoc (n : Nat) (L : List (Int × Int × Int)) (a b : Nat) (t : Int) : sn n (L ++ [((a : Int), (b : Int), t)]) = updb (updb (sn n L) (a * n + b) true) (b * n + a) true := by
  funext q
  simp only [sn, updb, List.any_append, List.any_cons, List.any_nil, Bool.or_false, Int.toNat_natCast]
  by_cases h1 : q = b * n + a
  · simp [h1]
  · by_cases h2 : q = a * n + b
    · simp [h2]
    · have h1' : ¬ b * n + a = q := fun h => h1 h.symm
      have h2' : ¬ a * n + b = q := fun h => h2 h.symm
      simp [h1, h2, h1', h2']
theorem dn_snoc (L : List (Int × Int × Int)) (a b : Nat) (t : Int) (hab : a ≠ b) : dn (L ++ [((a : Int), (b : Int), t)]) = upd (upd (dn L) a (dn L a + 1)) b (dn L b + 1) := by
  funext q
  simp only [dn, dg, upd, List.countP_append, List.countP_cons, List.countP_nil, decide_eq_true_eq]
  by_cases h1 : q = b
  · subst h1
    have e1 : ¬ (a : Int) = (q : Int) := by omega
    simp [e1]; omega
  · by_cases h2 : q = a
    · subst h2
      have e1 : ¬ (b : Int) = (q : Int) := by omega
      simp [h1, e1]; omega
    · have e1 : ¬ (b : Int) = (q : Int) := by omega
      have e2 : ¬ (a : Int) = (q : Int) := by omega
      simp [h1, h2, e1, e2]
theorem sn_fresh {n : Nat} {L : List (Int × Int × Int)} {a b : Nat} {t : Int} (ha : a < n) (hb : b < n) (hA : ∀ f ∈ L, Apart f ((a : Int), (b : Int), t))
    (hR : ∀ f ∈ L, 0 ≤ f.1 ∧ f.1 < (n : Int) ∧ 0 ≤ f.2.1 ∧ f.2.1 < (n : Int)) : sn n L (a * n + b) = false := by
  rw [sn, List.any_eq_false]
  intro f hf
  have h1 := hA f hf
  obtain ⟨r0, r1, r2, r3⟩ := hR f hf
  obtain ⟨x, y, s⟩ := f
  simp only [Apart] at h1 r0 r1 r2 r3 ⊢
  simp only [Bool.or_eq_true, decide_eq_true_eq, not_or]
  constructor
  · intro h
    have := pair_inj (by omega) hb h
    exact h1.1 (by omega)
  · intro h
    have := pair_inj (by omega) hb h
    exact h1.2 (by omega)

/-- An edge's part in the run. -/
theorem edge_step {w h : Int} {n : Nat} (hg : gridB w h = true) (hn : w * h = (n : Int)) (wx wy three : Bool) {L : List (Int × Int × Int)} (hL : gL w h wx wy (dirsOf three) = L) {k : Nat} (hk : k < L.length) :
    ∃ a b : Nat, L[k] = ((a : Int), (b : Int), 0) ∧ a < n ∧ b < n ∧ a ≠ b ∧ sn n (L.take k) (a * n + b) = false ∧ sn n (L.take (k + 1)) = updb (updb (sn n (L.take k)) (a * n + b) true) (b * n + a) true ∧
      dn (L.take (k + 1)) = upd (upd (dn (L.take k)) a (dn (L.take k) a + 1)) b (dn (L.take k) b + 1) ∧ dn (L.take k) a < 100000 ∧ dn (L.take k) b < 100000 := by
  have hmem : ∀ e, e ∈ L → _ := fun e (he : e ∈ L) => gL_mem (w := w) (h := h) (wx := wx) (wy := wy) (three := three) (e := e) (by rw [hL]; exact he)
  have hne : ∀ e, e ∈ L → e.1 ≠ e.2.1 := fun e he => gL_ne hg wx wy three (by rw [hL]; exact he)
  have hap := gL_apart hg wx wy three
  have hlen := gL_len w h wx wy three
  rw [hL] at hap hlen
  have m := hmem _ (List.getElem_mem hk)
  have ne := hne _ (List.getElem_mem hk)
  have hts : L.take (k + 1) = L.take k ++ [L[k]] := List.take_succ_eq_append_getElem hk
  have hA : ∀ f ∈ L.take k, Apart f L[k] := by
    intro f hf
    obtain ⟨i, hi, rfl⟩ := List.mem_take_iff_getElem.1 hf
    exact List.pairwise_iff_getElem.1 hap i k (by omega) hk (by omega)
  have hR : ∀ f ∈ L.take k, 0 ≤ f.1 ∧ f.1 < (n : Int) ∧ 0 ≤ f.2.1 ∧ f.2.1 < (n : Int) := by
    intro f hf
    have := hmem f (List.mem_of_mem_take hf)
    rw [hn] at this
    exact ⟨this.1, this.2.1, this.2.2.1, this.2.2.2.1⟩
  have hcp : ∀ v, dn (L.take k) v < 100000 := by
    intro v
    have c1 := List.countP_le_length (p := fun e : Int × Int × Int => decide (e.1 = (v : Int))) (l := L.take k)
    have c2 := List.countP_le_length (p := fun e : Int × Int × Int => decide (e.2.1 = (v : Int))) (l := L.take k)
    have := List.length_take_le k L
    have c3 : (L.take k).length ≤ L.length := by rw [List.length_take]; omega
    unfold dn dg
    omega
  generalize L[k] = e at *
  obtain ⟨u, v, t⟩ := e
  rw [hn] at m
  obtain ⟨u0, u1, v0, v1, ht⟩ := m
  simp only at u0 u1 v0 v1 ht ne
  obtain ⟨a, rfl⟩ := Int.eq_ofNat_of_zero_le u0
  obtain ⟨b, rfl⟩ := Int.eq_ofNat_of_zero_le v0
  subst ht
  have hab : a ≠ b := by omega
  exact ⟨a, b, rfl, by omega, by omega, hab, sn_fresh (by omega) (by omega) hA hR, by rw [hts, sn_snoc], by rw [hts, dn_snoc _ _ _ _ hab], hcp a, hcp b⟩
end Go.Proofs.Ytbkgnachgpbcpaa
