/- The plain law of DsuPaths: spreading from an element finds its set. -/
import Derived.Test.YtoomcgmbaogjbaaDoorDsuP
namespace Go.Proofs.YtoomcgmbaogjbaaDoor
open Go.RowKit
set_option linter.unusedVariables false

def stepP (n : Nat) (f : Nat → Bool) (e : Int × Int) : Nat → Bool :=
  if inB n e.1 && inB n e.2 && (f e.1.toNat || f e.2.toNat) then updb (updb f e.1.toNat true) e.2.toNat true else f
def roundP (n : Nat) (l : List (Int × Int)) (f : Nat → Bool) : Nat → Bool := l.foldl (stepP n) f
def iterP (n : Nat) (l : List (Int × Int)) (f : Nat → Bool) : Nat → (Nat → Bool)
  | 0 => f
  | r + 1 => roundP n l (iterP n l f r)

theorem updb_mono {f : Nat → Bool} (i : Nat) {j : Nat} (h : f j = true) : updb f i true j = true := by unfold updb; split <;> simp [h]
theorem updb_self {f : Nat → Bool} {i : Nat} (h : f i = true) : updb f i true = f := by funext j; unfold updb; split <;> simp_all
theorem updb_at (f : Nat → Bool) (i : Nat) (v : Bool) : updb f i v i = v := by simp [updb]
theorem stepP_mono {n : Nat} {f : Nat → Bool} (e : Int × Int) {j : Nat} (h : f j = true) : stepP n f e j = true := by
  unfold stepP; split
  · exact updb_mono _ (updb_mono _ h)
  · exact h


/-- Every pair of elements is seen whole or not at all. -/
def Closed (n : Nat) (l : List (Int × Int)) (f : Nat → Bool) : Prop := ∀ e ∈ l, inB n e.1 = true → inB n e.2 = true → f e.1.toNat = f e.2.toNat

theorem stepP_cnt (n : Nat) (f : Nat → Bool) (e : Int × Int) : (stepP n f e = f ∧ (inB n e.1 = true → inB n e.2 = true → f e.1.toNat = f e.2.toNat)) ∨ cnt f n + 1 ≤ cnt (stepP n f e) n := by
  by_cases h1 : inB n e.1 = true
  · by_cases h2 : inB n e.2 = true
    · cases ha : f e.1.toNat
      · cases hb : f e.2.toNat
        · left; simp [stepP, h1, h2, ha, hb]
        · right
          refine cnt_lt (fun i _ h => stepP_mono e h) (inB_lt h1) ha ?_
          simp only [stepP, h1, h2, ha, hb, Bool.or_true, Bool.and_true, if_true]
          exact updb_mono _ (updb_at _ _ _)
      · cases hb : f e.2.toNat
        · right
          refine cnt_lt (fun i _ h => stepP_mono e h) (inB_lt h2) hb ?_
          simp only [stepP, h1, h2, ha, hb, Bool.true_or, Bool.and_true, if_true]
          exact updb_at _ _ _
        · left
          refine ⟨?_, fun _ _ => rfl⟩
          simp only [stepP, h1, h2, ha, hb, Bool.true_or, Bool.and_true, if_true]
          rw [updb_self ha, updb_self hb]
    · left; simp [stepP, h2]
  · left; simp [stepP, h1]

theorem roundP_cnt (n : Nat) (l : List (Int × Int)) (f : Nat → Bool) : (roundP n l f = f ∧ Closed n l f) ∨ cnt f n + 1 ≤ cnt (roundP n l f) n := by
  induction l generalizing f with
  | nil => left; exact ⟨rfl, fun e he => by simp at he⟩
  | cons e l ih =>
    have e1 : roundP n (e :: l) f = roundP n l (stepP n f e) := rfl
    rw [e1]
    rcases stepP_cnt n f e with ⟨h1, h2⟩ | h1
    · rw [h1]
      rcases ih f with ⟨h3, h4⟩ | h3
      · left
        refine ⟨h3, fun x hx => ?_⟩
        rcases List.mem_cons.1 hx with rfl | hx
        · exact h2
        · exact h4 x hx
      · right; exact h3
    · right
      rcases ih (stepP n f e) with ⟨h3, _⟩ | h3
      · rw [h3]; exact h1
      · omega

theorem iterP_closed (n : Nat) (l : List (Int × Int)) (f : Nat → Bool) (r : Nat) : Closed n l (iterP n l f r) ∨ cnt f n + r ≤ cnt (iterP n l f r) n := by
  induction r with
  | zero => right; simp [iterP]
  | succ r ih =>
    show Closed n l (roundP n l (iterP n l f r)) ∨ _ ≤ cnt (roundP n l (iterP n l f r)) n
    rcases roundP_cnt n l (iterP n l f r) with ⟨h1, h2⟩ | h1
    · left; rw [h1]; exact h2
    · rcases ih with h2 | h2
      · left
        have : roundP n l (iterP n l f r) = iterP n l f r := by
          clear h1
          have key : ∀ (m : List (Int × Int)) (g : Nat → Bool), Closed n m g → roundP n m g = g := by
            intro m
            induction m with
            | nil => intro g _; rfl
            | cons e m ihm =>
              intro g hg
              show roundP n m (stepP n g e) = g
              have hs : stepP n g e = g := by
                unfold stepP; split
                · rename_i hc
                  simp only [Bool.and_eq_true, Bool.or_eq_true] at hc
                  obtain ⟨⟨c1, c2⟩, c3⟩ := hc
                  have := hg e (by simp) c1 c2
                  have hb : g e.2.toNat = true := by rcases c3 with c3 | c3 <;> simp_all
                  have ha : g e.1.toNat = true := by rw [this, hb]
                  rw [updb_self ha, updb_self hb]
                · rfl
              rw [hs]; exact ihm g fun x hx => hg x (by simp [hx])
          exact key l _ h2
        rw [this]; exact h2
      · right; omega

/-! ### Soundness -/
theorem unionL_keep {n : Nat} {L : Nat → Nat} {i j : Nat} (a b : Int) (h : L i = L j) : unionL n L a b i = unionL n L a b j := by
  unfold unionL; split
  · unfold merge; rw [h]
  · exact h
theorem foldU_keep {n : Nat} (l : List (Int × Int)) {L : Nat → Nat} {i j : Nat} (h : L i = L j) : foldU n l L i = foldU n l L j := by
  induction l generalizing L with
  | nil => exact h
  | cons e l ih => exact ih (unionL_keep e.1 e.2 h)
theorem foldU_joins {n : Nat} {l : List (Int × Int)} (L : Nat → Nat) {e : Int × Int} (he : e ∈ l) (h1 : inB n e.1 = true) (h2 : inB n e.2 = true) : foldU n l L e.1.toNat = foldU n l L e.2.toNat := by
  induction l generalizing L with
  | nil => simp at he
  | cons x l ih =>
    rcases List.mem_cons.1 he with rfl | he
    · refine foldU_keep l ?_
      simp only [unionL, h1, h2, Bool.and_self, if_true]
      rw [merge_in (.inl rfl), merge_in (.inr rfl)]
    · exact ih _ he
theorem foldU_closed {n : Nat} {l : List (Int × Int)} {L : Nat → Nat} {f : Nat → Bool} (hc : Closed n l f) (h0 : ∀ i j, i < n → j < n → L i = L j → f i = f j) :
    ∀ i j, i < n → j < n → foldU n l L i = foldU n l L j → f i = f j := by
  induction l generalizing L with
  | nil => exact h0
  | cons e l ih =>
    refine ih (L := unionL n L e.1 e.2) (fun x hx => hc x (by simp [hx])) fun i j hi hj h => ?_
    unfold unionL at h
    split at h
    · rename_i hv
      simp only [Bool.and_eq_true] at hv
      have hab := hc e (by simp) hv.1 hv.2
      have ha := inB_lt hv.1
      have hb := inB_lt hv.2
      have hk : L i = L j ∨ ((L i = L e.1.toNat ∨ L i = L e.2.toNat) ∧ (L j = L e.1.toNat ∨ L j = L e.2.toNat)) := by
        unfold merge at h
        split at h <;> split at h <;> omega
      rcases hk with hk | ⟨hki, hkj⟩
      · exact h0 i j hi hj hk
      · have fi : f i = f e.1.toNat := by
          rcases hki with hki | hki
          · exact h0 i _ hi ha hki
          · rw [hab]; exact h0 i _ hi hb hki
        have fj : f j = f e.1.toNat := by
          rcases hkj with hkj | hkj
          · exact h0 j _ hj ha hkj
          · rw [hab]; exact h0 j _ hj hb hkj
        rw [fi, fj]
    · exact h0 i j hi hj h

theorem foldP_sound {n : Nat} {l : List (Int × Int)} {L : Nat → Nat} {r : Nat} (hj : ∀ e ∈ l, inB n e.1 = true → inB n e.2 = true → L e.1.toNat = L e.2.toNat) {f : Nat → Bool}
    (h : ∀ i, i < n → f i = true → L i = r) : ∀ i, i < n → roundP n l f i = true → L i = r := by
  induction l generalizing f with
  | nil => exact h
  | cons e l ih =>
    refine ih (f := stepP n f e) (fun x hx => hj x (by simp [hx])) fun i hi hf => ?_
    unfold stepP at hf
    split at hf
    · rename_i hv
      simp only [Bool.and_eq_true, Bool.or_eq_true] at hv
      obtain ⟨⟨v1, v2⟩, v3⟩ := hv
      have hab := hj e (by simp) v1 v2
      have hr : L e.1.toNat = r := by
        rcases v3 with v3 | v3
        · exact h _ (inB_lt v1) v3
        · rw [hab]; exact h _ (inB_lt v2) v3
      by_cases c1 : i = e.2.toNat
      · rw [c1, ← hab]; exact hr
      · by_cases c2 : i = e.1.toNat
        · rw [c2]; exact hr
        · refine h i hi ?_
          simpa [updb, c1, c2] using hf
    · exact h i hi hf

theorem paths_law (n : Nat) (l : List (Int × Int)) (s : Nat) (hs : s < n) :
    ∀ i, i < n → iterP n l (updb (fun _ => false) s true) n i = (foldU n l (fun i => i) s == foldU n l (fun i => i) i) := by
  intro i hi
  have c0 : cnt (updb (fun _ => false) s true) n ≥ 1 := cnt_pos hs (updb_at _ _ _)
  have hc : Closed n l (iterP n l (updb (fun _ => false) s true) n) := by
    rcases iterP_closed n l (updb (fun _ => false) s true) n with h | h
    · exact h
    · have := cnt_le (iterP n l (updb (fun _ => false) s true) n) n; omega
  have hmono : ∀ r, iterP n l (updb (fun _ => false) s true) r s = true := by
    intro r
    induction r with
    | zero => exact updb_at _ _ _
    | succ r ih =>
      show roundP n l _ s = true
      generalize iterP n l (updb (fun _ => false) s true) r = g at ih
      clear hc
      induction l generalizing g with
      | nil => exact ih
      | cons e l ihl => exact ihl _ (stepP_mono e ih)
  have hsound : ∀ r, ∀ i, i < n → iterP n l (updb (fun _ => false) s true) r i = true → foldU n l (fun i => i) i = foldU n l (fun i => i) s := by
    intro r
    induction r with
    | zero =>
      intro i _ h
      have : i = s := by
        by_cases c : i = s
        · exact c
        · simp [iterP, updb, c] at h
      rw [this]
    | succ r ih => exact foldP_sound (fun e he h1 h2 => foldU_joins _ he h1 h2) ih
  rw [Bool.eq_iff_iff, beq_iff_eq]
  constructor
  · intro h; exact (hsound n i hi h).symm
  · intro h
    rw [← foldU_closed hc (fun i j _ _ h => by have h' : i = j := h; rw [h']) s i hs hi h]
    exact hmono n
end Go.Proofs.YtoomcgmbaogjbaaDoor
