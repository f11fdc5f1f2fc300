/- bag: update. -/
import Derived.Test.YtoomcgmbaogjbaaBagF
import Derived.StillTailTactics
namespace Go.Proofs.Ytoomcgmbaogjbaa
open Go.RowKit
set_option linter.unusedVariables false

/-- What an update makes of the list in order. -/
def bupd (x : Int) (g : Nat → Nat) : List (Int × Nat) → List (Int × Nat)
  | [] => if g 0 = 0 then [] else [(x, g 0)]
  | (y, k) :: L => if x < y then (if g 0 = 0 then (y, k) :: L else (x, g 0) :: (y, k) :: L) else if x = y then (if g k = 0 then L else (x, g k) :: L) else (y, k) :: bupd x g L
theorem bupd_lt (x : Int) (g : Nat → Nat) (y : Int) (k : Nat) (B : List (Int × Nat)) (h : x < y) : ∀ A : List (Int × Nat), bupd x g (A ++ (y, k) :: B) = bupd x g A ++ (y, k) :: B
  | [] => by simp only [List.nil_append, bupd, if_pos h]; split <;> rfl
  | (z, j) :: A => by
    simp only [List.cons_append, bupd, bupd_lt x g y k B h A]
    by_cases h1 : x < z
    · simp only [if_pos h1]; split <;> rfl
    · simp only [if_neg h1]
      by_cases h2 : x = z
      · simp only [if_pos h2]; split <;> rfl
      · simp only [if_neg h2, List.cons_append]
theorem bupd_ge (x : Int) (g : Nat → Nat) (B : List (Int × Nat)) : ∀ A : List (Int × Nat), (∀ a ∈ A, a.1 < x) → bupd x g (A ++ B) = A ++ bupd x g B
  | [], _ => rfl
  | (z, j) :: A, h => by
    have hz : z < x := h _ (List.mem_cons_self ..)
    have h1 : ¬ x < z := by omega
    have h2 : ¬ x = z := by omega
    simp only [List.cons_append, bupd, if_neg h1, if_neg h2, bupd_ge x g B A fun a ha => h a (List.mem_cons_of_mem _ ha)]
theorem bupd_sum (x : Int) (g : Nat → Nat) (hg : ∀ k, g k ≤ k + 1) : ∀ L : List (Int × Nat), ((bupd x g L).map (·.2)).sum ≤ (L.map (·.2)).sum + 1
  | [] => by have := hg 0; simp only [bupd]; split <;> simp <;> omega
  | (y, k) :: L => by
    have h0 := hg 0
    have h1 := hg k
    have h2 := bupd_sum x g hg L
    simp only [bupd]
    (repeat' split) <;> simp only [List.map_cons, List.sum_cons] <;> omega
theorem bupd_len (x : Int) (g : Nat → Nat) : ∀ L : List (Int × Nat), (bupd x g L).length ≤ L.length + 1
  | [] => by simp only [bupd]; split <;> simp
  | (y, k) :: L => by
    have h2 := bupd_len x g L
    simp only [bupd]
    (repeat' split) <;> simp only [List.length_cons] <;> omega
/-- How often x is in the list. -/
def getL (x : Int) : List (Int × Nat) → Nat
  | [] => 0
  | (y, k) :: L => if x < y then 0 else if x = y then k else getL x L
theorem getL_lt (x y : Int) (k : Nat) (B : List (Int × Nat)) (h : x < y) : ∀ A : List (Int × Nat), getL x (A ++ (y, k) :: B) = getL x A
  | [] => by simp only [List.nil_append, getL, if_pos h]
  | (z, j) :: A => by simp only [List.cons_append, getL, getL_lt x y k B h A]
theorem getL_ge (x : Int) (B : List (Int × Nat)) : ∀ A : List (Int × Nat), (∀ a ∈ A, a.1 < x) → getL x (A ++ B) = getL x B
  | [], _ => rfl
  | (z, j) :: A, h => by
    have hz : z < x := h _ (List.mem_cons_self ..)
    have h1 : ¬ x < z := by omega
    have h2 : ¬ x = z := by omega
    simp only [List.cons_append, getL, if_neg h1, if_neg h2, getL_ge x B A fun a ha => h a (List.mem_cons_of_mem _ ha)]
def Sorted (L : List (Int × Nat)) : Prop := L.Pairwise fun a b => a.1 < b.1

theorem bupd_mem (x : Int) (g : Nat → Nat) : ∀ L : List (Int × Nat), ∀ a ∈ bupd x g L, a.1 = x ∨ ∃ b ∈ L, b.1 = a.1
  | [], a, h => by
    simp only [bupd] at h
    split at h
    · cases h
    · exact .inl (by rw [List.mem_singleton.1 h])
  | (y, k) :: L, a, h => by
    simp only [bupd] at h
    split at h
    · split at h
      · exact .inr ⟨a, h, rfl⟩
      · rcases List.mem_cons.1 h with rfl | h
        · exact .inl rfl
        · exact .inr ⟨a, h, rfl⟩
    · split at h
      · split at h
        · exact .inr ⟨a, List.mem_cons_of_mem _ h, rfl⟩
        · rcases List.mem_cons.1 h with rfl | h
          · exact .inl rfl
          · exact .inr ⟨a, List.mem_cons_of_mem _ h, rfl⟩
      · rcases List.mem_cons.1 h with rfl | h
        · exact .inr ⟨_, List.mem_cons_self .., rfl⟩
        · exact (bupd_mem x g L a h).imp id fun ⟨b, hb, e⟩ => ⟨b, List.mem_cons_of_mem _ hb, e⟩
theorem bupd_sorted (x : Int) (g : Nat → Nat) : ∀ {L : List (Int × Nat)}, Sorted L → Sorted (bupd x g L)
  | [], _ => by simp only [bupd]; split <;> simp [Sorted]
  | (y, k) :: L, h => by
    obtain ⟨h1, h2⟩ := List.pairwise_cons.1 h
    simp only [bupd]
    split
    · rename_i hxy
      split
      · exact h
      · refine List.pairwise_cons.2 ⟨fun a ha => ?_, h⟩
        rcases List.mem_cons.1 ha with rfl | ha
        · exact hxy
        · exact Int.lt_trans hxy (h1 a ha)
    · split
      · rename_i hxy
        subst hxy
        split
        · exact h2
        · exact List.pairwise_cons.2 ⟨h1, h2⟩
      · rename_i h3 h4
        refine List.pairwise_cons.2 ⟨fun a ha => ?_, bupd_sorted x g h2⟩
        rcases bupd_mem x g L a ha with e | ⟨b, hb, e⟩
        · rw [e]; show y < x; omega
        · rw [← e]; exact h1 b hb

theorem Fr.trans_new {S S' : List Nat} {w w' w2 : World} (h : Fr S w w') (k : Fr S' w' w2) (hS : ∀ b ∈ S', b ∈ S ∨ w.heap.size ≤ b) : Fr S w w2 :=
  ⟨k.os.trans h.os, k.tape.trans h.tape, k.output.trans h.output, Nat.le_trans h.size k.size, fun i hi hn => (k.block i (Nat.lt_of_lt_of_le hi h.size) (fun hm => (hS i hm).elim hn (fun hh => by omega))).trans (h.block i hi hn)⟩


theorem bagUpd_left (w w5 : World) (b : Nat) (l r t5 : BT) (x y : Int) (n : Nat) (g : Nat → Nat) (ht : Tr w (.node b l r y n)) (nd : (BT.node b l r y n).bl.Nodup) (so : Sorted (BT.node b l r y n).ls) (hxy : x < y)
    (hg : ∀ k, g k ≤ k + 1) (hs : n + l.sz + r.sz + 1 ≤ 1000000) (hd : 1 + l.ct + r.ct + 1 ≤ 1000000) (ht5 : Tr w5 t5) (hl5 : t5.ls = bupd x g l.ls) (hn5 : t5.bl.Nodup)
    (hb5 : ∀ k ∈ t5.bl, k ∈ l.bl ∨ w.heap.size ≤ k) (hf5 : Fr l.bl w w5) :
    Calls Try.prog 61 #[.pointer (some ⟨b, 0, none⟩)] (w5.setCell ⟨b, 0, none⟩ (.pointer t5.pt)) fun e w' => ∃ t' : BT, e = .returned (.pointer t'.pt) ∧ Tr w' t' ∧ t'.ls = bupd x g (BT.node b l r y n).ls ∧ t'.bl.Nodup ∧
      (∀ k ∈ t'.bl, k ∈ (BT.node b l r y n).bl ∨ w.heap.size ≤ k) ∧ Fr (BT.node b l r y n).bl w w' := by
  obtain ⟨ndb, ndlr⟩ := List.nodup_cons.1 nd
  obtain ⟨ndl, ndr, dj⟩ := List.nodup_append.1 ndlr
  have hbl : b ∉ l.bl := fun h => ndb (List.mem_append.2 (.inl h))
  have hbr : b ∉ r.bl := fun h => ndb (List.mem_append.2 (.inr h))
  have hbw := ht.1.lt
  have hb5' : b ∉ t5.bl := fun h => (hb5 b h).elim hbl (fun h => by omega)
  have hrw : ∀ k ∈ r.bl, k < w.heap.size := Tr.lt ht.2.2
  have hf6 : Fr [b] w5 (w5.setCell ⟨b, 0, none⟩ (.pointer t5.pt)) := (Fr.refl [b] w5).setCell (p := ⟨b, 0, none⟩) (.inl (by simp)) _
  have hq5 := ht.1.fr hf5 hbl
  have hb1 : ∀ S : BT, b ∉ S.bl → ∀ k ∈ S.bl, k ∉ [b] := fun S h k hk hm => by
    simp only [List.mem_cons, List.not_mem_nil, or_false] at hm
    subst hm
    exact h hk
  have hr6 : Tr (w5.setCell ⟨b, 0, none⟩ (.pointer t5.pt)) r := ((ht.2.2).fr hf5 (fun k hk hm => dj k hm k hk rfl)).fr hf6 (hb1 _ hbr)
  have ht6 : Tr (w5.setCell ⟨b, 0, none⟩ (.pointer t5.pt)) t5 := ht5.fr hf6 (hb1 _ hb5')
  have hz := bupd_sum x g hg l.ls
  have hc := bupd_len x g l.ls
  rw [← hl5, ← BT.sz_ls, ← BT.sz_ls] at hz
  rw [← hl5, ← BT.ct_ls, ← BT.ct_ls] at hc
  have hnd : (b :: (t5.bl ++ r.bl)).Nodup := List.nodup_cons.2 ⟨fun h => (List.mem_append.1 h).elim hb5' hbr, List.nodup_append.2 ⟨hn5, ndr, fun p hp q hq e => (hb5 p hp).elim (fun h => dj p h q hq e) (fun h => by have := hrw q hq; omega)⟩⟩
  have hmem : ∀ k ∈ b :: (t5.bl ++ r.bl), k ∈ (BT.node b l r y n).bl ∨ w.heap.size ≤ k := fun k hk => by
    rcases List.mem_cons.1 hk with h | h
    · exact .inl (h ▸ List.mem_cons_self ..)
    · rcases List.mem_append.1 h with h | h
      · exact (hb5 k h).imp (fun h => List.mem_cons_of_mem _ (List.mem_append.2 (.inl h))) id
      · exact .inl (List.mem_cons_of_mem _ (List.mem_append.2 (.inr h)))
  refine (bagBalance _ b t5 r y n _ _ _ (hq5.set0 t5.pt) ht6 hr6 hnd (by omega) (by omega)).mono ?_
  rintro e w7 ⟨t7, rfl, ht7, hl7, hp7, hf7⟩
  refine ⟨t7, rfl, ht7, ?_, hp7.nodup_iff.2 hnd, fun k hk => hmem k (hp7.mem_iff.1 hk), ?_⟩
  · rw [hl7, BT.ls, hl5]
    exact (bupd_lt x g y n r.ls hxy l.ls).symm
  · exact ((hf5.mono fun k hk => List.mem_cons_of_mem _ (List.mem_append.2 (.inl hk))).trans (hf6.mono (by simp))).trans_new hf7 hmem

theorem bagUpd_right (w w5 : World) (b : Nat) (l r t5 : BT) (x y : Int) (n : Nat) (g : Nat → Nat) (ht : Tr w (.node b l r y n)) (nd : (BT.node b l r y n).bl.Nodup) (so : Sorted (BT.node b l r y n).ls) (hxy : y < x)
    (hg : ∀ k, g k ≤ k + 1) (hs : n + l.sz + r.sz + 1 ≤ 1000000) (hd : 1 + l.ct + r.ct + 1 ≤ 1000000) (ht5 : Tr w5 t5) (hl5 : t5.ls = bupd x g r.ls) (hn5 : t5.bl.Nodup)
    (hb5 : ∀ k ∈ t5.bl, k ∈ r.bl ∨ w.heap.size ≤ k) (hf5 : Fr r.bl w w5) :
    Calls Try.prog 61 #[.pointer (some ⟨b, 0, none⟩)] (w5.setCell ⟨b, 1, none⟩ (.pointer t5.pt)) fun e w' => ∃ t' : BT, e = .returned (.pointer t'.pt) ∧ Tr w' t' ∧ t'.ls = bupd x g (BT.node b l r y n).ls ∧ t'.bl.Nodup ∧
      (∀ k ∈ t'.bl, k ∈ (BT.node b l r y n).bl ∨ w.heap.size ≤ k) ∧ Fr (BT.node b l r y n).bl w w' := by
  obtain ⟨ndb, ndlr⟩ := List.nodup_cons.1 nd
  obtain ⟨ndl, ndr, dj⟩ := List.nodup_append.1 ndlr
  have hbl : b ∉ l.bl := fun h => ndb (List.mem_append.2 (.inl h))
  have hbr : b ∉ r.bl := fun h => ndb (List.mem_append.2 (.inr h))
  have hbw := ht.1.lt
  have hb5' : b ∉ t5.bl := fun h => (hb5 b h).elim hbr (fun h => by omega)
  have hrw : ∀ k ∈ l.bl, k < w.heap.size := Tr.lt ht.2.1
  have hf6 : Fr [b] w5 (w5.setCell ⟨b, 1, none⟩ (.pointer t5.pt)) := (Fr.refl [b] w5).setCell (p := ⟨b, 1, none⟩) (.inl (by simp)) _
  have hq5 := ht.1.fr hf5 hbr
  have hb1 : ∀ S : BT, b ∉ S.bl → ∀ k ∈ S.bl, k ∉ [b] := fun S h k hk hm => by
    simp only [List.mem_cons, List.not_mem_nil, or_false] at hm
    subst hm
    exact h hk
  have hr6 : Tr (w5.setCell ⟨b, 1, none⟩ (.pointer t5.pt)) l := ((ht.2.1).fr hf5 (fun k hk hm => dj k hk k hm rfl)).fr hf6 (hb1 _ hbl)
  have ht6 : Tr (w5.setCell ⟨b, 1, none⟩ (.pointer t5.pt)) t5 := ht5.fr hf6 (hb1 _ hb5')
  have hz := bupd_sum x g hg r.ls
  have hc := bupd_len x g r.ls
  rw [← hl5, ← BT.sz_ls, ← BT.sz_ls] at hz
  rw [← hl5, ← BT.ct_ls, ← BT.ct_ls] at hc
  have hnd : (b :: (l.bl ++ t5.bl)).Nodup := List.nodup_cons.2 ⟨fun h => (List.mem_append.1 h).elim hbl hb5', List.nodup_append.2 ⟨ndl, hn5, fun p hp q hq e => (hb5 q hq).elim (fun h => dj p hp q h e) (fun h => by have := hrw p hp; omega)⟩⟩
  have hmem : ∀ k ∈ b :: (l.bl ++ t5.bl), k ∈ (BT.node b l r y n).bl ∨ w.heap.size ≤ k := fun k hk => by
    rcases List.mem_cons.1 hk with h | h
    · exact .inl (h ▸ List.mem_cons_self ..)
    · rcases List.mem_append.1 h with h | h
      · exact .inl (List.mem_cons_of_mem _ (List.mem_append.2 (.inl h)))
      · exact (hb5 k h).imp (fun h => List.mem_cons_of_mem _ (List.mem_append.2 (.inr h))) id
  refine (bagBalance _ b l t5 y n _ _ _ (hq5.set1 t5.pt) hr6 ht6 hnd (by omega) (by omega)).mono ?_
  rintro e w7 ⟨t7, rfl, ht7, hl7, hp7, hf7⟩
  refine ⟨t7, rfl, ht7, ?_, hp7.nodup_iff.2 hnd, fun k hk => hmem k (hp7.mem_iff.1 hk), ?_⟩
  · rw [hl7, BT.ls, hl5]
    have hsy : ∀ a ∈ l.ls ++ [(y, n)], a.1 < x := by
      have := so
      unfold Sorted at this
      rw [BT.ls, List.pairwise_append] at this
      intro a ha
      rcases List.mem_append.1 ha with ha | ha
      · exact Int.lt_trans (this.2.2 a ha _ (List.mem_cons_self ..)) hxy
      · rw [List.mem_singleton.1 ha]; exact hxy
    have := bupd_ge x g r.ls (l.ls ++ [(y, n)]) hsy
    simpa using this.symm
  · exact ((hf5.mono fun k hk => List.mem_cons_of_mem _ (List.mem_append.2 (.inr hk))).trans (hf6.mono (by simp))).trans_new hf7 hmem

theorem bagUpd_at (w w5 : World) (b : Nat) (l r : BT) (x : Int) (n : Nat) (g : Nat → Nat) (ht : Tr w (.node b l r x n)) (nd : (BT.node b l r x n).bl.Nodup) (so : Sorted (BT.node b l r x n).ls)
    (hg : ∀ k, g k ≤ k + 1) (hs : n + l.sz + r.sz + 1 ≤ 1000000) (hd : 1 + l.ct + r.ct + 1 ≤ 1000000) (hw : Dr w w5) (h0 : ¬ g n = 0) :
    Calls Try.prog 61 #[.pointer (some ⟨b, 0, none⟩)] (w5.setCell ⟨b, 3, none⟩ (.int .i64 (g n : Int))) fun e w' => ∃ t' : BT, e = .returned (.pointer t'.pt) ∧ Tr w' t' ∧ t'.ls = bupd x g (BT.node b l r x n).ls ∧ t'.bl.Nodup ∧
      (∀ k ∈ t'.bl, k ∈ (BT.node b l r x n).bl ∨ w.heap.size ≤ k) ∧ Fr (BT.node b l r x n).bl w w' := by
  obtain ⟨ndb, ndlr⟩ := List.nodup_cons.1 nd
  have hbl : b ∉ l.bl := fun h => ndb (List.mem_append.2 (.inl h))
  have hbr : b ∉ r.bl := fun h => ndb (List.mem_append.2 (.inr h))
  have hb1 : ∀ S : BT, b ∉ S.bl → ∀ k ∈ S.bl, k ∉ [b] := fun S h k hk hm => by
    simp only [List.mem_cons, List.not_mem_nil, or_false] at hm
    subst hm
    exact h hk
  have hf6 : Fr [b] w5 (w5.setCell ⟨b, 3, none⟩ (.int .i64 (g n : Int))) := (Fr.refl [b] w5).setCell (p := ⟨b, 3, none⟩) (.inl (by simp)) _
  have := hg n
  refine (bagBalance _ b l r x (g n) _ _ _ ((ht.1.dr hw).set3 (g n)) ((ht.2.1.dr hw).fr hf6 (hb1 _ hbl)) ((ht.2.2.dr hw).fr hf6 (hb1 _ hbr)) nd (by omega) (by omega)).mono ?_
  rintro e w7 ⟨t7, rfl, ht7, hl7, hp7, hf7⟩
  refine ⟨t7, rfl, ht7, ?_, hp7.nodup_iff.2 nd, fun k hk => .inl (hp7.mem_iff.1 hk), ?_⟩
  · have hsy : ∀ a ∈ l.ls, a.1 < x := by
      have := so
      unfold Sorted at this
      rw [BT.ls, List.pairwise_append] at this
      exact fun a ha => this.2.2 a ha _ (List.mem_cons_self ..)
    rw [hl7, BT.ls, bupd_ge x g _ l.ls hsy, bupd, if_neg (Int.lt_irrefl _), if_pos rfl, if_neg h0]
  · exact ((hw.fr _).trans (hf6.mono (by simp [BT.bl]))).trans hf7

theorem bagUpd_out (w w5 : World) (b : Nat) (l r : BT) (x : Int) (n : Nat) (g : Nat → Nat) (ht : Tr w (.node b l r x n)) (nd : (BT.node b l r x n).bl.Nodup) (so : Sorted (BT.node b l r x n).ls)
    (hs : n + l.sz + r.sz + 1 ≤ 1000000) (hd : 1 + l.ct + r.ct + 1 ≤ 1000000) (hw : Dr w w5) (h0 : g n = 0) (k : Nat) :
    Calls Try.prog 60 #[.pointer l.pt, .pointer r.pt] ((w5.setCell ⟨b, 3, none⟩ (.int .i64 (g n : Int))).drewN k) fun e w' => ∃ t' : BT, e = .returned (.pointer t'.pt) ∧ Tr w' t' ∧ t'.ls = bupd x g (BT.node b l r x n).ls ∧ t'.bl.Nodup ∧
      (∀ k ∈ t'.bl, k ∈ (BT.node b l r x n).bl ∨ w.heap.size ≤ k) ∧ Fr (BT.node b l r x n).bl w w' := by
  obtain ⟨ndb, ndlr⟩ := List.nodup_cons.1 nd
  have hbl : b ∉ l.bl := fun h => ndb (List.mem_append.2 (.inl h))
  have hbr : b ∉ r.bl := fun h => ndb (List.mem_append.2 (.inr h))
  have hb1 : ∀ S : BT, b ∉ S.bl → ∀ k ∈ S.bl, k ∉ [b] := fun S h k hk hm => by
    simp only [List.mem_cons, List.not_mem_nil, or_false] at hm
    subst hm
    exact h hk
  have hf6 : Fr [b] w5 ((w5.setCell ⟨b, 3, none⟩ (.int .i64 (g n : Int))).drewN k) := ((Fr.refl [b] w5).setCell (p := ⟨b, 3, none⟩) (.inl (by simp)) _).drewN k
  refine (bagJoin _ l r ((ht.2.1.dr hw).fr hf6 (hb1 _ hbl)) ((ht.2.2.dr hw).fr hf6 (hb1 _ hbr)) ndlr (by omega) (by omega)).mono ?_
  rintro e w7 ⟨t7, rfl, ht7, hl7, hp7, hf7⟩
  refine ⟨t7, rfl, ht7, ?_, hp7.nodup_iff.2 ndlr, fun k hk => .inl (List.mem_cons_of_mem _ (hp7.mem_iff.1 hk)), ?_⟩
  · have hsy : ∀ a ∈ l.ls, a.1 < x := by
      have := so
      unfold Sorted at this
      rw [BT.ls, List.pairwise_append] at this
      exact fun a ha => this.2.2 a ha _ (List.mem_cons_self ..)
    rw [hl7, BT.ls, bupd_ge x g _ l.ls hsy, bupd, if_neg (Int.lt_irrefl _), if_pos rfl, if_pos h0]
  · exact ((hw.fr _).trans (hf6.mono (by simp [BT.bl]))).trans (hf7.mono fun k hk => List.mem_cons_of_mem _ hk)
end Go.Proofs.Ytoomcgmbaogjbaa
