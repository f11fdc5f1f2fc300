/- plain: a bag's list as a multiset; the sizes of sets, and what a union makes of them. plain: the sizes of the sets. -/
import Derived.Test.YtoomcgmbaogjbaaBagM
import Derived.Test.YtoomcgmbaogjbaaBagL
import Derived.Test.YtoomcgmbaogjbaaBagK
import Derived.Test.YtoomcgmbaogjbaaBagI
import Derived.Test.YtoomcgmbaogjbaaRowP
import Derived.Test.YtoomcgmbaogjbaaDsuG
namespace Go.Proofs.Ytoomcgmbaogjbaa
open Go.RowKit
set_option linter.unusedVariables false

def flat (L : List (Int × Nat)) : List Int := L.flatMap fun p => List.replicate p.2 p.1
theorem flat_cons (y : Int) (k : Nat) (L : List (Int × Nat)) : flat ((y, k) :: L) = List.replicate k y ++ flat L := by simp [flat]
theorem flat_len : ∀ L : List (Int × Nat), (flat L).length = (L.map (·.2)).sum
  | [] => rfl
  | (y, k) :: L => by rw [flat_cons, List.length_append, List.length_replicate, flat_len L]; rfl
theorem flat_mem {L : List (Int × Nat)} {z : Int} : z ∈ flat L ↔ ∃ p ∈ L, p.1 = z ∧ 0 < p.2 := by
  simp only [flat, List.mem_flatMap, List.mem_replicate]
  constructor
  · rintro ⟨p, hp, h1, rfl⟩; exact ⟨p, hp, rfl, by omega⟩
  · rintro ⟨p, hp, rfl, h⟩; exact ⟨p, hp, by omega, rfl⟩
theorem flat_add (x : Int) : ∀ L : List (Int × Nat), (flat (bupd x (fun k => k + 1) L)).Perm (x :: flat L)
  | [] => by simp [bupd, flat]
  | (y, k) :: L => by
    simp only [bupd]
    split
    · rw [if_neg (by omega), flat_cons]; exact List.Perm.refl _
    · split
      · rename_i h; subst h
        rw [if_neg (by omega), flat_cons, flat_cons, List.replicate_succ]; exact List.Perm.refl _
      · rw [flat_cons, flat_cons]
        exact ((flat_add x L).append_left _).trans List.perm_middle
theorem flat_del (x : Int) : ∀ L : List (Int × Nat), 1 ≤ getL x L → (x :: flat (bupd x (fun k => k - 1) L)).Perm (flat L)
  | [], h => by simp [getL] at h
  | (y, k) :: L, h => by
    simp only [getL] at h
    simp only [bupd]
    split
    · rename_i h1; rw [if_pos h1] at h; omega
    · rename_i h1
      rw [if_neg h1] at h
      split
      · rename_i h2
        rw [if_pos h2] at h
        subst h2
        obtain ⟨j, rfl⟩ : ∃ j, k = j + 1 := ⟨k - 1, by omega⟩
        rw [Nat.add_sub_cancel]
        split
        · rename_i h3; subst h3; simp [flat_cons]
        · rw [flat_cons, flat_cons, List.replicate_succ]; exact List.Perm.refl _
      · rename_i h2
        rw [if_neg h2] at h
        rw [flat_cons, flat_cons]
        exact (List.perm_middle.symm).trans ((flat_del x L h).append_left _)
theorem getL_pos (x : Int) : ∀ L : List (Int × Nat), Sorted L → Pos L → x ∈ flat L → 1 ≤ getL x L
  | [], _, _, h => by simp [flat] at h
  | (y, k) :: L, hs, hp, h => by
    obtain ⟨h1, h2⟩ := List.pairwise_cons.1 hs
    obtain ⟨p, hm, rfl, h0⟩ := flat_mem.1 h
    simp only [getL]
    rcases List.mem_cons.1 hm with rfl | hm
    · rw [if_neg (Int.lt_irrefl _), if_pos rfl]; exact h0
    · have := h1 p hm
      simp only at this
      rw [if_neg (by omega), if_neg (by omega)]
      exact getL_pos _ L h2 (fun q hq => hp q (List.mem_cons_of_mem _ hq)) (flat_mem.2 ⟨p, hm, rfl, h0⟩)
theorem bupd_pos (x : Int) (g : Nat → Nat) : ∀ L : List (Int × Nat), Pos L → Pos (bupd x g L)
  | [], h => by
    simp only [bupd]
    split
    · exact h
    · intro p hp; rw [List.mem_singleton.1 hp]; show 0 < g 0; omega
  | (y, k) :: L, h => by
    have hL : Pos L := fun q hq => h q (List.mem_cons_of_mem _ hq)
    simp only [bupd]
    split
    · split
      · exact h
      · intro p hp
        rcases List.mem_cons.1 hp with rfl | hp
        · show 0 < g 0; omega
        · exact h p hp
    · split
      · split
        · exact hL
        · intro p hp
          rcases List.mem_cons.1 hp with rfl | hp
          · show 0 < g k; omega
          · exact hL p hp
      · intro p hp
        rcases List.mem_cons.1 hp with rfl | hp
        · exact h _ (List.mem_cons_self ..)
        · exact bupd_pos x g L hL p hp
/-- A list stands for a multiset. -/
structure Rep (L : List (Int × Nat)) (Z : List Int) : Prop where
  so : Sorted L
  ps : Pos L
  pm : (flat L).Perm Z
theorem Rep.nil : Rep [] [] := ⟨by simp [Sorted], fun p hp => absurd hp (by simp), by simp [flat]⟩
theorem Rep.add {L : List (Int × Nat)} {Z : List Int} (h : Rep L Z) (x : Int) : Rep (bupd x (fun k => k + 1) L) (x :: Z) :=
  ⟨bupd_sorted x _ h.so, bupd_pos x _ L h.ps, (flat_add x L).trans (h.pm.cons x)⟩
theorem Rep.get {L : List (Int × Nat)} {Z : List Int} {x : Int} (h : Rep L (x :: Z)) : 1 ≤ getL x L :=
  getL_pos x L h.so h.ps (h.pm.mem_iff.2 (List.mem_cons_self ..))
theorem Rep.del {L : List (Int × Nat)} {Z : List Int} {x : Int} (h : Rep L (x :: Z)) : Rep (bupd x (fun k => k - 1) L) Z :=
  ⟨bupd_sorted x _ h.so, bupd_pos x _ L h.ps, ((flat_del x L h.get).trans h.pm).cons_inv⟩
theorem Rep.perm {L : List (Int × Nat)} {Z Z' : List Int} (h : Rep L Z) (k : Z.Perm Z') : Rep L Z' := ⟨h.so, h.ps, h.pm.trans k⟩
theorem Rep.sz {t : BT} {Z : List Int} (h : Rep t.ls Z) : t.sz = Z.length := by rw [BT.sz_ls, ← flat_len, h.pm.length_eq]
theorem Pos.len : ∀ {L : List (Int × Nat)}, Pos L → L.length ≤ (L.map (·.2)).sum
  | [], _ => Nat.le_refl _
  | (y, k) :: L, h => by
    have := Pos.len (L := L) fun q hq => h q (List.mem_cons_of_mem _ hq)
    have h0 := h (y, k) (List.mem_cons_self ..)
    simp only [List.length_cons, List.map_cons, List.sum_cons] at h0 ⊢
    omega
theorem Rep.ct {t : BT} {Z : List Int} (h : Rep t.ls Z) : t.ct ≤ Z.length := by rw [BT.ct_ls, ← h.pm.length_eq, flat_len]; exact h.ps.len
theorem Rep.sml {L : List (Int × Nat)} {Z : List Int} (h : Rep L Z) (hz : ∀ z ∈ Z, 0 ≤ z ∧ z ≤ 200) (hl : Z.length ≤ 200) : Sml L := fun p hp => by
  have h0 := h.ps p hp
  have := hz p.1 (h.pm.mem_iff.1 (flat_mem.2 ⟨p, hp, rfl, h0⟩))
  refine ⟨this.1, this.2, ?_⟩
  have hs : p.2 ≤ (L.map (·.2)).sum := by
    obtain ⟨A, B, rfl⟩ := List.append_of_mem hp
    simp only [List.map_append, List.map_cons, List.sum_append, List.sum_cons]; omega
  rw [← flat_len, h.pm.length_eq] at hs
  omega
theorem sqL_flat : ∀ L : List (Int × Nat), sqL L = ((flat L).map fun z => z.toNat * z.toNat).sum
  | [] => rfl
  | (y, k) :: L => by
    have e : sqL ((y, k) :: L) = y.toNat * y.toNat * k + sqL L := rfl
    rw [e, flat_cons, List.map_append, List.sum_append, ← sqL_flat L, List.map_replicate, List.sum_replicate_nat, Nat.mul_comm]
theorem Rep.sq {L : List (Int × Nat)} {Z : List Int} (h : Rep L Z) : sqL L = (Z.map fun z => z.toNat * z.toNat).sum := by
  rw [sqL_flat]; exact (h.pm.map _).sum_nat
theorem BT.last_is : ∀ t : BT, t ≠ .nil → ∃ n, (t.last, n) ∈ t.ls
  | .nil, h => absurd rfl h
  | .node b l .nil x n, _ => ⟨n, by simp [BT.last, BT.ls]⟩
  | .node b l (.node b' l' r' x' n') x n, _ => by
    obtain ⟨m, hm⟩ := BT.last_is (.node b' l' r' x' n') (by simp)
    refine ⟨m, ?_⟩
    show (BT.last (.node b' l' r' x' n'), m) ∈ _
    rw [BT.ls]
    exact List.mem_append.2 (.inr (List.mem_cons_of_mem _ hm))
theorem BT.last_ge : ∀ t : BT, Sorted t.ls → ∀ p ∈ t.ls, p.1 ≤ t.last
  | .nil, _, p, hp => by cases hp
  | .node b l .nil x n, hs, p, hp => by
    have hs := Sorted.parts hs
    simp only [BT.ls, List.mem_append, List.mem_cons, List.not_mem_nil, or_false] at hp
    rcases hp with hp | rfl
    · exact Int.le_of_lt (hs.2.1 p hp)
    · exact Int.le_refl _
  | .node b l (.node b' l' r' x' n') x n, hs, p, hp => by
    show p.1 ≤ BT.last (.node b' l' r' x' n')
    have ih := BT.last_ge (.node b' l' r' x' n') hs.parts.2.2
    have hx : x ≤ BT.last (.node b' l' r' x' n') := by
      obtain ⟨m, hm⟩ := BT.last_is (.node b' l' r' x' n') (by simp)
      have := hs
      unfold Sorted at this
      rw [BT.ls, List.pairwise_append] at this
      exact Int.le_of_lt ((List.pairwise_cons.1 this.2.1).1 _ hm)
    rw [BT.ls] at hp
    rcases List.mem_append.1 hp with h | h
    · exact Int.le_trans (Int.le_of_lt (hs.parts.2.1 p h)) hx
    · rcases List.mem_cons.1 h with rfl | h
      · exact hx
      · exact ih p h
theorem Rep.last {t : BT} {Z : List Int} (h : Rep t.ls Z) (hz : Z ≠ []) : t.last ∈ Z ∧ ∀ z ∈ Z, z ≤ t.last := by
  have hn : t ≠ .nil := fun e => by
    subst e
    have := h.pm.length_eq
    simp [flat, BT.ls] at this
    exact hz (List.eq_nil_of_length_eq_zero this.symm)
  obtain ⟨n, hm⟩ := t.last_is hn
  refine ⟨h.pm.mem_iff.1 (flat_mem.2 ⟨_, hm, rfl, h.ps _ hm⟩), fun z hzm => ?_⟩
  obtain ⟨p, hp, rfl, -⟩ := flat_mem.1 (h.pm.mem_iff.2 hzm)
  exact t.last_ge h.so p hp
end Go.Proofs.Ytoomcgmbaogjbaa
namespace Go.Proofs.Ytoomcgmbaogjbaa
open Go.RowKit
set_option linter.unusedVariables false

def Zs (n : Nat) (L : Nat → Nat) : List Int := (rts L n).map fun r => (cls n L r : Int)
theorem Zs_len (n : Nat) (L : Nat → Nat) : (Zs n L).length = sets n L := by simp [Zs, rts_len]
theorem rts_mem {n : Nat} {L : Nat → Nat} {i : Nat} : i ∈ rts L n ↔ i < n ∧ L i = i := by simp [rts]
theorem rts_nodup (L : Nat → Nat) (n : Nat) : (rts L n).Nodup := List.nodup_range.sublist List.filter_sublist
theorem Zs_id (n : Nat) : Zs n (fun i => i) = List.replicate n 1 := by
  have h : rts (fun i => i) n = List.range n := List.filter_eq_self.2 fun i _ => by simp
  rw [Zs, h]
  refine List.eq_replicate_iff.2 ⟨by simp, fun z hz => ?_⟩
  obtain ⟨i, hi, rfl⟩ := List.mem_map.1 hz
  rw [cls_id (List.mem_range.1 hi)]; rfl
theorem Zs_bd {n : Nat} {L : Nat → Nat} : ∀ z ∈ Zs n L, 0 ≤ z ∧ z ≤ (n : Int) := fun z hz => by
  obtain ⟨i, hi, rfl⟩ := List.mem_map.1 hz
  have : cls n L i ≤ n := cnt_le _ _
  omega
theorem Zs_merge {n : Nat} {L : Nat → Nat} (hl : Lab n L) {a b : Nat} (ha : a < n) (hb : b < n) (h : L a < L b) :
    ∃ R, (Zs n L).Perm ((cls n L (L a) : Int) :: (cls n L (L b) : Int) :: R) ∧ (Zs n (merge L (L a) (L b))).Perm (((cls n L (L a) + cls n L (L b) : Nat) : Int) :: R) := by
  have hx := hl.idem a ha
  have hy := hl.idem b hb
  have hxn := hl.lt ha
  have hyn := hl.lt hb
  generalize L a = x at *
  generalize L b = y at *
  have hmm : max x y = y := by omega
  have hmi : min x y = x := by omega
  let S := (rts L n).filter fun i => !(i == x) && !(i == y)
  have hS : ∀ i, i ∈ S ↔ (i < n ∧ L i = i) ∧ i ≠ x ∧ i ≠ y := fun i => by
    show i ∈ (rts L n).filter _ ↔ _
    rw [List.mem_filter, rts_mem]; simp
  have hSn : S.Nodup := (rts_nodup L n).sublist List.filter_sublist
  have p1 : (rts L n).Perm (x :: y :: S) := (List.perm_ext_iff_of_nodup (rts_nodup L n) (by
    refine List.nodup_cons.2 ⟨?_, List.nodup_cons.2 ⟨fun hm => ((hS y).1 hm).2.2 rfl, hSn⟩⟩
    intro hm
    rcases List.mem_cons.1 hm with e | hm
    · omega
    · exact ((hS x).1 hm).2.1 rfl)).2 fun i => by
    rw [rts_mem, List.mem_cons, List.mem_cons, hS]
    constructor
    · intro hi
      by_cases e : i = x
      · exact .inl e
      · by_cases e' : i = y
        · exact .inr (.inl e')
        · exact .inr (.inr ⟨hi, e, e'⟩)
    · rintro (rfl | rfl | hi)
      · exact ⟨hxn, hx⟩
      · exact ⟨hyn, hy⟩
      · exact hi.1
  have hmr : ∀ i, i < n → (merge L x y i = i ↔ L i = i ∧ i ≠ y) := fun i hi => by
    unfold merge
    rw [hmm, hmi]
    have hle := hl.le i hi
    split
    · rename_i e
      constructor
      · intro e2; exfalso; omega
      · rintro ⟨e2, e3⟩; exfalso; omega
    · rename_i e
      constructor
      · intro e2; exact ⟨e2, fun e3 => e (by rw [e3]; exact hy)⟩
      · rintro ⟨e2, -⟩; exact e2
  have p2 : (rts (merge L x y) n).Perm (x :: S) := (List.perm_ext_iff_of_nodup (rts_nodup _ n) (List.nodup_cons.2 ⟨fun hm => ((hS x).1 hm).2.1 rfl, hSn⟩)).2 fun i => by
    rw [rts_mem, List.mem_cons, hS]
    constructor
    · rintro ⟨hi, he⟩
      obtain ⟨h1, h2⟩ := (hmr i hi).1 he
      by_cases e : i = x
      · exact .inl e
      · exact .inr ⟨⟨hi, h1⟩, e, h2⟩
    · rintro (rfl | ⟨⟨hi, h1⟩, h2, h3⟩)
      · exact ⟨hxn, (hmr i hxn).2 ⟨hx, by omega⟩⟩
      · exact ⟨hi, (hmr i hi).2 ⟨h1, h3⟩⟩
  refine ⟨S.map fun r => (cls n L r : Int), by simpa [Zs] using p1.map fun r => (cls n L r : Int), ?_⟩
  have := p2.map fun r => (cls n (merge L x y) r : Int)
  refine this.trans ?_
  have e1 : cls n (merge L x y) x = cls n L x + cls n L y := by
    have := cls_merge (n := n) (L := L) (x := x) (y := y) (by omega)
    rwa [hmi] at this
  rw [List.map_cons, e1]
  refine List.Perm.cons _ (List.Perm.of_eq (List.map_congr_left fun i hi => ?_))
  obtain ⟨-, h2, h3⟩ := (hS i).1 hi
  rw [cls_merge_out h2 h3]
theorem Zs_sq {n : Nat} {L : Nat → Nat} (hl : Lab n L) : ((Zs n L).map fun z => z.toNat * z.toNat).sum = sq n L := by
  rw [← sq_labels hl]
  have h : ∀ k, k ≤ n → (((rts L k).map fun r => (cls n L r : Int)).map fun z : Int => z.toNat * z.toNat).sum = sm (fun i => cls n L i * cls n L i) k := by
    intro k
    induction k with
    | zero => intro _; rfl
    | succ k ih =>
      intro hk
      have ih := ih (by omega)
      by_cases e : L k = k
      · rw [rts_succ_in e, List.map_append, List.map_append, List.sum_append, ih]
        simp [sm]
      · rw [rts_succ_out e, ih]
        simp only [sm, cls_none hl e, Nat.mul_zero, Nat.add_zero]
  exact h n (Nat.le_refl _)
theorem Zs_last {n : Nat} {L : Nat → Nat} (hl : Lab n L) {t : BT} (h : Rep t.ls (Zs n L)) : t.last = (lrg n L : Int) := by
  rw [← lrg_labels hl]
  by_cases hn : n = 0
  · subst hn
    have hsz := h.sz
    have : Zs 0 L = [] := by simp [Zs, rts]
    rw [this] at hsz
    cases t with
    | nil => rfl
    | node b l r x m => have := h.ps.sz; simp only [List.length_nil] at hsz; omega
  · have h0 : L 0 = 0 := by have := hl.le 0 (by omega); omega
    have hz : Zs n L ≠ [] := fun e => by
      have hm : (cls n L 0 : Int) ∈ Zs n L := List.mem_map.2 ⟨0, rts_mem.2 ⟨by omega, h0⟩, rfl⟩
      rw [e] at hm; cases hm
    obtain ⟨h1, h2⟩ := h.last hz
    obtain ⟨r, hr, e⟩ := List.mem_map.1 h1
    have hle : t.last ≤ (mx (fun i => cls n L i) n : Int) := by
      rw [← e]
      have := le_mx (f := fun i => cls n L i) (rts_mem.1 hr).1
      omega
    have hge : ((mx (fun i => cls n L i) n : Nat) : Int) ≤ t.last := by
      have h0l : 0 ≤ t.last := (Zs_bd _ h1).1
      obtain ⟨T, hT⟩ : ∃ T : Nat, t.last = (T : Int) := ⟨t.last.toNat, by omega⟩
      rw [hT]
      have : mx (fun i => cls n L i) n ≤ T := mx_le fun i hi => by
        by_cases e : L i = i
        · have := h2 _ (List.mem_map.2 ⟨i, rts_mem.2 ⟨hi, e⟩, rfl⟩)
          omega
        · rw [cls_none hl e]; omega
      omega
    omega
end Go.Proofs.Ytoomcgmbaogjbaa
