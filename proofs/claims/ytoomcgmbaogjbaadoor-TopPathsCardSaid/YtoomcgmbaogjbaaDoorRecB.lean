/- recon: find. recon: the blocks of a tree, made in whatever order. -/
import Derived.Test.YtoomcgmbaogjbaaDoorLctM
import Derived.Test.YtoomcgmbaogjbaaDoorForest
import Derived.Test.YtoomcgmbaogjbaaDoorDsuN
import Derived.Test.YtoomcgmbaogjbaaDoorAny
import Derived.Test.YtoomcgmbaogjbaaDoorInfo
namespace Go.Proofs.YtoomcgmbaogjbaaDoor
open Go.RowKit
set_option linter.unusedVariables false

/-- n pairs of ints. -/
def prs (n : Nat) (f g : Nat → Nat) : Array Value := ((List.range (n * 2)).map fun j => Value.int .i64 ((if j % 2 = 0 then f (j / 2) else g (j / 2) : Nat) : Int)).toArray
theorem prs_size (n : Nat) (f g : Nat → Nat) : (prs n f g).size = n * 2 := by simp [prs]
theorem prs_at {n j : Nat} (f g : Nat → Nat) (h : j < n * 2) : (prs n f g)[j]? = some (.int .i64 ((if j % 2 = 0 then f (j / 2) else g (j / 2) : Nat) : Int)) := by simp [prs, h]
theorem prs_0 {n i : Nat} (f g : Nat → Nat) (h : i < n) : (prs n f g)[i * 2]? = some (.int .i64 (f i : Int)) := by
  rw [prs_at f g (by omega), if_pos (by omega), show i * 2 / 2 = i by omega]
theorem prs_1 {n i : Nat} (f g : Nat → Nat) (h : i < n) : (prs n f g)[i * 2 + 1]? = some (.int .i64 (g i : Int)) := by
  rw [prs_at f g (by omega), if_neg (by omega), show (i * 2 + 1) / 2 = i by omega]
theorem prs_congr {n : Nat} {f g f' g' : Nat → Nat} (h : ∀ i, i < n → f i = f' i ∧ g i = g' i) : prs n f g = prs n f' g' := by
  apply Array.ext_getElem?
  intro j
  by_cases hj : j < n * 2
  · rw [prs_at f g hj, prs_at f' g' hj, (h (j / 2) (by omega)).1, (h (j / 2) (by omega)).2]
  · have e1 : (prs n f g)[j]? = none := by simp [prs]; omega
    have e2 : (prs n f' g')[j]? = none := by simp [prs]; omega
    rw [e1, e2]
theorem prs_set0 (n : Nat) (f g : Nat → Nat) (i v : Nat) : (prs n f g).setIfInBounds (i * 2) (.int .i64 (v : Int)) = prs n (upd f i v) g := by
  apply Array.ext_getElem?
  intro j
  rw [Array.getElem?_setIfInBounds]
  by_cases hj : j < n * 2
  · rw [prs_at f g hj, prs_at _ g hj, prs_size]
    by_cases e : i * 2 = j
    · rw [if_pos e, if_pos (by omega), if_pos (by omega), show j / 2 = i by omega, upd_same]
    · rw [if_neg e]
      by_cases e2 : j % 2 = 0
      · rw [if_pos e2, if_pos e2, upd_other _ _ (show j / 2 ≠ i by omega)]
      · rw [if_neg e2, if_neg e2]
  · have e1 : (prs n f g)[j]? = none := by simp [prs]; omega
    have e2 : (prs n (upd f i v) g)[j]? = none := by simp [prs]; omega
    rw [e1, e2, prs_size]
    split
    · rw [if_neg (by omega)]
    · rfl
theorem prs_set1 (n : Nat) (f g : Nat → Nat) (i v : Nat) : (prs n f g).setIfInBounds (i * 2 + 1) (.int .i64 (v : Int)) = prs n f (upd g i v) := by
  apply Array.ext_getElem?
  intro j
  rw [Array.getElem?_setIfInBounds]
  by_cases hj : j < n * 2
  · rw [prs_at f g hj, prs_at f _ hj, prs_size]
    by_cases e : i * 2 + 1 = j
    · rw [if_pos e, if_pos (by omega), if_neg (by omega), show j / 2 = i by omega, upd_same]
    · rw [if_neg e]
      by_cases e2 : j % 2 = 0
      · rw [if_pos e2, if_pos e2]
      · rw [if_neg e2, if_neg e2, upd_other _ _ (show j / 2 ≠ i by omega)]
  · have e1 : (prs n f g)[j]? = none := by simp [prs]; omega
    have e2 : (prs n f (upd g i v))[j]? = none := by simp [prs]; omega
    rw [e1, e2, prs_size]
    split
    · rw [if_neg (by omega)]
    · rfl
/-- A root is hung below another. -/
theorem Forest.link {n M : Nat} {up rep ρ : Nat → Nat} (h : Forest n up rep ρ M) {a b : Nat} (ha : a < n) (hb : b < n) (ra : rep a = a) (rb : rep b = b) (hne : a ≠ b) :
    Forest n (upd up b a) (fun i => if rep i = b then a else rep i) (fun i => if rep i = a then ρ i + M + 1 else ρ i) (2 * M + 1) := by
  have ua : up a = a := by have := h.rep_root a ha; rwa [ra] at this
  have ub : up b = b := by have := h.rep_root b hb; rwa [rb] at this
  refine ⟨fun i hi => ?_, fun i hi => ?_, fun i hi => ?_, fun i hi hu => ?_, fun i hi => ?_, fun i hi => ⟨?_, fun hu => ?_⟩⟩
  · by_cases e : i = b
    · subst e; rw [upd_same]; exact ha
    · rw [upd_other _ _ e]; exact h.up_lt i hi
  · show (if rep i = b then a else rep i) < n
    split
    · exact ha
    · exact h.rep_lt i hi
  · show (if rep (upd up b a i) = b then a else rep (upd up b a i)) = if rep i = b then a else rep i
    by_cases e : i = b
    · subst e; rw [upd_same, ra, rb, if_pos rfl, if_neg hne]
    · rw [upd_other _ _ e, h.rep_up i hi]
  · show (if rep i = b then a else rep i) = i
    by_cases e : i = b
    · subst e; rw [upd_same] at hu; exact absurd hu hne
    · rw [upd_other _ _ e] at hu
      have := h.root i hi hu
      rw [if_neg (by omega)]; exact this
  · show upd up b a (if rep i = b then a else rep i) = if rep i = b then a else rep i
    split
    · rw [upd_other _ _ hne, ua]
    · rename_i e
      rw [upd_other _ _ e, h.rep_root i hi]
  · show (if rep i = a then ρ i + M + 1 else ρ i) ≤ 2 * M + 1
    have := (h.rank i hi).1
    split <;> omega
  · show (if rep i = a then ρ i + M + 1 else ρ i) < if rep (upd up b a i) = a then ρ (upd up b a i) + M + 1 else ρ (upd up b a i)
    by_cases e : i = b
    · subst e
      rw [upd_same, ra, rb, if_pos rfl, if_neg (fun e => hne e.symm)]
      have := (h.rank i hb).1
      omega
    · rw [upd_other _ _ e] at hu ⊢
      rw [h.rep_up i hi]
      have := (h.rank i hi).2 hu
      split <;> omega
set_option maxRecDepth 100000 in
theorem recFind (w : World) (a n bu M : Nat) (up rt rep ρ : Nat → Nat) (h : Blk w bu 75 (prs n up rt)) (hf : Forest n up rep ρ M) (ha : a < n) (hn : n ≤ 65536) :
    Calls Tryd.prog 26 #[.slice (some ⟨bu, 0, none⟩) n n, .int .i64 (a : Int)] w fun e w' => e = .returned (.int .i64 (rep a : Int)) ∧ ∃ up', Blk w' bu 75 (prs n up' rt) ∧ Forest n up' rep ρ M ∧ Fr [bu] w w' := by
  have H := hide h
  have HF := hide hf
  clear h hf
  go_enter Tryd.func26, Tryd.ntmps26
  go_wp2_with fail
  go_loopg [1] (M - ρ a) (fun k v wr => ∃ (x : Nat) (up' : Nat → Nat), x < n ∧ v = .int .i64 (x : Int) ∧ rep x = rep a ∧ M - ρ x ≤ k ∧ Blk wr bu 75 (prs n up' rt) ∧ Forest n up' rep ρ M ∧ Fr [bu] w wr)
  case atStart => exact ⟨a, up, ha, rfl, rfl, Nat.le_refl _, H.out, HF.out, Fr.refl _ _⟩
  case round =>
    obtain ⟨x, up', hx, rfl, hrep, hk, hd, hf, hfr⟩ := hrel
    have HR := hide hrep
    have hp := hf.up_lt x hx
    have hpp := hf.up_lt _ hp
    have cx : wr.cell? ⟨bu, x * 2, none⟩ = some (.int .i64 (up' x : Int)) := (hd.cell _).trans (prs_0 _ _ hx)
    have cp : wr.cell? ⟨bu, up' x * 2, none⟩ = some (.int .i64 (up' (up' x) : Int)) := (hd.cell _).trans (prs_0 _ _ hp)
    have fz := hd.frozen (x * 2)
    have HD := hide hd
    have HF2 := hide hf
    have HFR := hide hfr
    clear hrep hd hf hfr ha
    by_cases he : up' x = x
    · have he' : ((up' x : Int) == (x : Int)) = true := by simp [he]
      have HE := hide he
      clear he
      go_wp2_with fail
      go_ret
      exact ⟨ret_int (by rw [← HR.out, HF2.out.root x hx HE.out]), up', HD.out, HF2.out, HFR.out⟩
    · have he' : ((up' x : Int) == (x : Int)) = false := by simpa using fun e : (up' x : Int) = (x : Int) => he (by omega)
      have HE := hide he
      clear he
      go_wp2_with fail
      go_region
      all_goals go_wp2_with fail
      go_roundg (M - ρ (up' (up' x)))
      case measure =>
        have r1 := HF2.out.rank x hx
        have r2 := HF2.out.rank _ hp
        have r3 := HF2.out.rank _ hpp
        have h1 := r1.2 HE.out
        by_cases e : up' (up' x) = up' x
        · rw [e]; omega
        · have h2 := r2.2 e; omega
      case rel =>
        refine ⟨up' (up' x), upd up' x (up' (up' x)), hpp, rfl, ?_, Nat.le_refl _, ?_, HF2.out.halve hx HE.out, ((HFR.out.setCell (p := ⟨bu, x * 2, none⟩) (.inl (by simp)) _).drew)⟩
        · rw [HF2.out.rep_up _ hp, HF2.out.rep_up x hx]; exact HR.out
        · have := HD.out.set_ (x * 2) (.int .i64 (up' (up' x) : Int))
          rw [prs_set0] at this
          exact this
end Go.Proofs.YtoomcgmbaogjbaaDoor
namespace Go.Proofs.YtoomcgmbaogjbaaDoor
open Go.RowKit
set_option linter.unusedVariables false

theorem int64_info0 : (Tryd.prog.info? 2).map (fun i => (i.zero, i.size, i.bytes)) = some (some (.int .i64 0), 1, 8) := by kernel_rfl
def gd (L : Array Bool) (j : Nat) : Bool := L.getD j false
theorem gd_set {L : Array Bool} {i : Nat} (h : i < L.size) (j : Nat) : gd (L.setIfInBounds i true) j = if j = i then true else gd L j := by
  unfold gd
  rw [Array.getD_eq_getD_getElem?, Array.getD_eq_getD_getElem?, Array.getElem?_setIfInBounds]
  by_cases e : i = j
  · subst e; simp [h]
  · rw [if_neg e, if_neg (fun e2 => e e2.symm)]
def updV (f : Nat → Value) (i : Nat) (v : Value) : Nat → Value := fun j => if j = i then v else f j
/-- Which operation writes a slot. -/
def slB (s : Nat) : Option Nat := if 34 ≤ s ∧ s ≤ 45 then some (s - 34) else if s = 9 then some 12 else none
def mmB (L : Array Bool) (V : Nat → Value) (s : Nat) : Option Value := (slB s).bind fun j => if gd L j then some (V j) else none
theorem mmB_put {L : Array Bool} {V : Nat → Value} {i d : Nat} (v : Value) (hi : i < L.size) (hd : ∀ s, slB s = some i ↔ s = d) (s : Nat) : (if s = d then some v else mmB L V s) = mmB (L.setIfInBounds i true) (updV V i v) s := by
  unfold mmB
  by_cases e : s = d
  · rw [if_pos e, (hd s).2 e]
    show some v = if gd (L.setIfInBounds i true) i then some (updV V i v i) else none
    rw [gd_set hi, if_pos rfl, if_pos rfl]
    unfold updV; rw [if_pos rfl]
  · rw [if_neg e]
    cases hs : slB s with
    | none => rfl
    | some j =>
      have hj : j ≠ i := fun e2 => e ((hd s).1 (by rw [hs, e2]))
      show (if gd L j then some (V j) else none) = if gd (L.setIfInBounds i true) j then some (updV V i v j) else none
      rw [gd_set hi, if_neg hj]
      unfold updV; rw [if_neg hj]
theorem slB_lo {i : Nat} (h : i ≤ 11) (s : Nat) : slB s = some i ↔ s = 34 + i := by
  unfold slB
  split
  · simp; omega
  · split
    · simp; omega
    · simp; omega
theorem slB_0 (s : Nat) : slB s = some 0 ↔ s = 34 := slB_lo (i := 0) (by omega) s
theorem slB_11 (s : Nat) : slB s = some 11 ↔ s = 45 := slB_lo (i := 11) (by omega) s
theorem slB_12 (s : Nat) : slB s = some 12 ↔ s = 9 := by
  unfold slB
  split
  · simp; omega
  · split
    · simp; omega
    · simp; omega
def MkB (j : Nat) : Prop := j = 2 ∨ j = 4 ∨ j = 6 ∨ j = 8 ∨ j = 10
def fullT (V : Nat → Value) : Array Value := #[V 0, V 2, V 4, V 6, V 8, V 10]
def zeroT : Array Value := #[.int .i64 0, .slice none 0 0, .slice none 0 0, .slice none 0 0, .slice none 0 0, .slice none 0 0]
def tyB (j : Nat) : TypeId := if j = 8 then 2 else 3
/-- The region on its way: L tells which operations are done. -/
structure BS (a0 : Act) (w0 : World) (n sz : Nat) (L : Array Bool) (a : Act) (w : World) (V : Nat → Value) (g : Nat → Nat) : Prop where
  ls : L.size = 14
  ov : Ov a0 a (mmB L V)
  bel : Below w0.heap.size w0 w
  v0 : gd L 0 = true → V 0 = .int .i64 (n : Int)
  vm : ∀ j, j % 2 = 1 → j < 10 → gd L j = true → V j = .int .i64 (sz : Int)
  vb : ∀ j, MkB j → gd L j = true → V j = .slice (some ⟨g j, 0, none⟩) sz sz ∧ w0.heap.size ≤ g j ∧ Blk w (g j) (tyB j) (arr sz fun _ => 0)
  v12 : gd L 12 = true → V 12 = .pointer (some ⟨g 12, 0, none⟩) ∧ w0.heap.size ≤ g 12 ∧ Blk w (g 12) 45 (if gd L 13 then fullT V else zeroT)
  v11 : gd L 11 = true → gd L 0 = true ∧ (∀ j, MkB j → gd L j = true) ∧ V 11 = .agg (fullT V)
  v13 : gd L 13 = true → gd L 11 = true ∧ gd L 12 = true
  ne : ∀ j k, MkB j → MkB k → gd L j = true → gd L k = true → g j = g k → j = k
section
variable {a0 a : Act} {w0 w : World} {n sz : Nat} {L : Array Bool} {V : Nat → Value} {g : Nat → Nat}
theorem updV_ne {f : Nat → Value} {i j : Nat} {v : Value} (h : j ≠ i) : updV f i v j = f j := if_neg h
theorem updV_eq {f : Nat → Value} {i : Nat} {v : Value} : updV f i v i = v := if_pos rfl
theorem fullT_upd {i : Nat} {v : Value} (h0 : i ≠ 0) (hm : ¬ MkB i) : fullT (updV V i v) = fullT V := by
  unfold MkB at hm
  unfold fullT
  rw [updV_ne (by omega), updV_ne (by omega), updV_ne (by omega), updV_ne (by omega), updV_ne (by omega), updV_ne (by omega)]
/-- A number is moved. -/
theorem BS.mov (h : BS a0 w0 n sz L a w V g) {i : Nat} (hi : i < 10) (h1 : i % 2 = 1) : BS a0 w0 n sz (L.setIfInBounds i true) (a.put (some (34 + i)) (.int .i64 (sz : Int))) w (updV V i (.int .i64 (sz : Int))) g := by
  have hs := h.ls
  have G := fun j => gd_set (L := L) (i := i) (by omega) j
  have G' : ∀ j, j ≠ i → gd (L.setIfInBounds i true) j = gd L j := fun j hj => by rw [G, if_neg hj]
  have hm : ∀ j, MkB j → j ≠ i := fun j hj => by unfold MkB at hj; omega
  have hf : fullT (updV V i (.int .i64 (sz : Int))) = fullT V := fullT_upd (by omega) (fun e => hm i e rfl)
  refine ⟨by simpa using hs, (h.ov.put _ _).congr fun s _ => by rw [mmB_put _ (by omega) (slB_lo (by omega))], h.bel, ?_, ?_, ?_, ?_, ?_, ?_, ?_⟩
  · rw [G' 0 (by omega), updV_ne (by omega)]; exact h.v0
  · intro j j1 j2 hj
    by_cases e : j = i
    · rw [e, updV_eq]
    · rw [updV_ne e]; rw [G' j e] at hj; exact h.vm j j1 j2 hj
  · intro j mj hj
    rw [G' j (hm j mj)] at hj
    rw [updV_ne (hm j mj)]; exact h.vb j mj hj
  · intro hj
    rw [G' 12 (by omega)] at hj
    rw [G' 13 (by omega), updV_ne (by omega), hf]; exact h.v12 hj
  · intro hj
    rw [G' 11 (by omega)] at hj
    obtain ⟨x, y, z⟩ := h.v11 hj
    refine ⟨by rw [G' 0 (by omega)]; exact x, fun j mj => by rw [G' j (hm j mj)]; exact y j mj, ?_⟩
    rw [updV_ne (by omega), hf]; exact z
  · intro hj
    rw [G' 13 (by omega)] at hj
    rw [G' 11 (by omega), G' 12 (by omega)]; exact h.v13 hj
  · intro j k mj mk hj hk
    rw [G' j (hm j mj)] at hj
    rw [G' k (hm k mk)] at hk
    exact h.ne j k mj mk hj hk
theorem BS.mov0 (h : BS a0 w0 n sz L a w V g) (hL : gd L 0 = false) : BS a0 w0 n sz (L.setIfInBounds 0 true) (a.put (some 34) (.int .i64 (n : Int))) w (updV V 0 (.int .i64 (n : Int))) g := by
  have hs := h.ls
  have G := fun j => gd_set (L := L) (i := 0) (by omega) j
  have G' : ∀ j, j ≠ 0 → gd (L.setIfInBounds 0 true) j = gd L j := fun j hj => by rw [G, if_neg hj]
  have hm : ∀ j, MkB j → j ≠ 0 := fun j hj => by unfold MkB at hj; omega
  have n11 : gd L 11 ≠ true := fun e => by have := (h.v11 e).1; rw [hL] at this; cases this
  have n13 : gd L 13 ≠ true := fun e => n11 (h.v13 e).1
  refine ⟨by simpa using hs, (h.ov.put _ _).congr fun s _ => by rw [mmB_put _ (by omega) slB_0], h.bel, ?_, ?_, ?_, ?_, ?_, ?_, ?_⟩
  · intro _; exact updV_eq
  · intro j j1 j2 hj
    rw [updV_ne (by omega)]; rw [G' j (by omega)] at hj; exact h.vm j j1 j2 hj
  · intro j mj hj
    rw [G' j (hm j mj)] at hj
    rw [updV_ne (hm j mj)]; exact h.vb j mj hj
  · intro hj
    rw [G' 12 (by omega)] at hj
    rw [G' 13 (by omega), updV_ne (by omega), if_neg n13]
    have := h.v12 hj
    rwa [if_neg n13] at this
  · intro hj
    rw [G' 11 (by omega)] at hj
    exact absurd hj n11
  · intro hj
    rw [G' 13 (by omega)] at hj
    exact absurd hj n13
  · intro j k mj mk hj hk
    rw [G' j (hm j mj)] at hj
    rw [G' k (hm k mk)] at hk
    exact h.ne j k mj mk hj hk
theorem BS.bld (h : BS a0 w0 n sz L a w V g) (h0 : gd L 0 = true) (hm : ∀ j, MkB j → gd L j = true) : BS a0 w0 n sz (L.setIfInBounds 11 true) (a.put (some 45) (.agg (fullT V))) w (updV V 11 (.agg (fullT V))) g := by
  have hs := h.ls
  have G := fun j => gd_set (L := L) (i := 11) (by omega) j
  have G' : ∀ j, j ≠ 11 → gd (L.setIfInBounds 11 true) j = gd L j := fun j hj => by rw [G, if_neg hj]
  have hn : ∀ j, MkB j → j ≠ 11 := fun j hj => by unfold MkB at hj; omega
  have hf : fullT (updV V 11 (.agg (fullT V))) = fullT V := fullT_upd (by omega) (fun e => hn 11 e rfl)
  refine ⟨by simpa using hs, (h.ov.put _ _).congr fun s _ => by rw [mmB_put _ (by omega) slB_11], h.bel, ?_, ?_, ?_, ?_, ?_, ?_, ?_⟩
  · rw [G' 0 (by omega), updV_ne (by omega)]; exact h.v0
  · intro j j1 j2 hj
    rw [updV_ne (by omega)]; rw [G' j (by omega)] at hj; exact h.vm j j1 j2 hj
  · intro j mj hj
    rw [G' j (hn j mj)] at hj
    rw [updV_ne (hn j mj)]; exact h.vb j mj hj
  · intro hj
    rw [G' 12 (by omega)] at hj
    rw [G' 13 (by omega), updV_ne (by omega), hf]; exact h.v12 hj
  · intro hj
    refine ⟨by rw [G' 0 (by omega)]; exact h0, fun j mj => by rw [G' j (hn j mj)]; exact hm j mj, ?_⟩
    rw [updV_eq, hf]
  · intro hj
    rw [G' 13 (by omega)] at hj
    rw [G 11, if_pos rfl, G' 12 (by omega)]
    exact ⟨rfl, (h.v13 hj).2⟩
  · intro j k mj mk hj hk
    rw [G' j (hn j mj)] at hj
    rw [G' k (hn k mk)] at hk
    exact h.ne j k mj mk hj hk
theorem BS.mak (h : BS a0 w0 n sz L a w V g) {i : Nat} (hi : MkB i) (hL : gd L i = false) : BS a0 w0 n sz (L.setIfInBounds i true) (a.put (some (34 + i)) (.slice (some ⟨w.heap.size, 0, none⟩) sz sz)) (w.alloc (.cells (arr sz fun _ => 0) (tyB i))) (updV V i (.slice (some ⟨w.heap.size, 0, none⟩) sz sz)) (upd g i w.heap.size) := by
  have hs := h.ls
  have hi2 : i < 11 ∧ i % 2 = 0 ∧ i ≠ 0 := by unfold MkB at hi; omega
  have G := fun j => gd_set (L := L) (i := i) (by omega) j
  have G' : ∀ j, j ≠ i → gd (L.setIfInBounds i true) j = gd L j := fun j hj => by rw [G, if_neg hj]
  have n11 : gd L 11 ≠ true := fun e => by have := (h.v11 e).2.1 i hi; rw [hL] at this; cases this
  have n13 : gd L 13 ≠ true := fun e => n11 (h.v13 e).1
  refine ⟨by simpa using hs, (h.ov.put _ _).congr fun s _ => by rw [mmB_put _ (by omega) (slB_lo (by omega))], h.bel.alloc h.bel.size _, ?_, ?_, ?_, ?_, ?_, ?_, ?_⟩
  · rw [G' 0 (by omega), updV_ne (by omega)]; exact h.v0
  · intro j j1 j2 hj
    rw [updV_ne (by omega)]; rw [G' j (by omega)] at hj; exact h.vm j j1 j2 hj
  · intro j mj hj
    by_cases e : j = i
    · subst e
      rw [updV_eq, upd_same]
      exact ⟨rfl, h.bel.size, Blk.new _ _ _⟩
    · rw [G' j e] at hj
      rw [updV_ne e, upd_other _ _ e]
      obtain ⟨x, y, z⟩ := h.vb j mj hj
      exact ⟨x, y, z.alloc _⟩
  · intro hj
    rw [G' 12 (by omega)] at hj
    rw [G' 13 (by omega), updV_ne (by omega), upd_other _ _ (by omega), if_neg n13]
    have := h.v12 hj
    rw [if_neg n13] at this
    exact ⟨this.1, this.2.1, this.2.2.alloc _⟩
  · intro hj
    rw [G' 11 (by omega)] at hj
    exact absurd hj n11
  · intro hj
    rw [G' 13 (by omega)] at hj
    exact absurd hj n13
  · intro j k mj mk hj hk e
    by_cases ej : j = i
    · by_cases ek : k = i
      · rw [ej, ek]
      · rw [G' k ek] at hk
        rw [ej, upd_same, upd_other _ _ ek] at e
        have := (h.vb k mk hk).2.2.lt
        omega
    · rw [G' j ej] at hj
      by_cases ek : k = i
      · rw [ek, upd_same, upd_other _ _ ej] at e
        have := (h.vb j mj hj).2.2.lt
        omega
      · rw [G' k ek] at hk
        rw [upd_other _ _ ej, upd_other _ _ ek] at e
        exact h.ne j k mj mk hj hk e
theorem BS.alc (h : BS a0 w0 n sz L a w V g) (hL : gd L 12 = false) : BS a0 w0 n sz (L.setIfInBounds 12 true) (a.put (some 9) (.pointer (some ⟨w.heap.size, 0, none⟩))) (w.alloc (.cells zeroT 45)) (updV V 12 (.pointer (some ⟨w.heap.size, 0, none⟩))) (upd g 12 w.heap.size) := by
  have hs := h.ls
  have G := fun j => gd_set (L := L) (i := 12) (by omega) j
  have G' : ∀ j, j ≠ 12 → gd (L.setIfInBounds 12 true) j = gd L j := fun j hj => by rw [G, if_neg hj]
  have hn : ∀ j, MkB j → j ≠ 12 := fun j hj => by unfold MkB at hj; omega
  have n13 : gd L 13 ≠ true := fun e => by have := (h.v13 e).2; rw [hL] at this; cases this
  have hf : fullT (updV V 12 (.pointer (some ⟨w.heap.size, 0, none⟩))) = fullT V := fullT_upd (by omega) (fun e => hn 12 e rfl)
  refine ⟨by simpa using hs, (h.ov.put _ _).congr fun s _ => by rw [mmB_put _ (by omega) slB_12], h.bel.alloc h.bel.size _, ?_, ?_, ?_, ?_, ?_, ?_, ?_⟩
  · rw [G' 0 (by omega), updV_ne (by omega)]; exact h.v0
  · intro j j1 j2 hj
    rw [updV_ne (by omega)]; rw [G' j (by omega)] at hj; exact h.vm j j1 j2 hj
  · intro j mj hj
    rw [G' j (hn j mj)] at hj
    rw [updV_ne (hn j mj), upd_other _ _ (hn j mj)]
    obtain ⟨x, y, z⟩ := h.vb j mj hj
    exact ⟨x, y, z.alloc _⟩
  · intro hj
    rw [G' 13 (by omega), updV_eq, upd_same, if_neg n13]
    exact ⟨rfl, h.bel.size, Blk.new _ _ _⟩
  · intro hj
    rw [G' 11 (by omega)] at hj
    obtain ⟨x, y, z⟩ := h.v11 hj
    refine ⟨by rw [G' 0 (by omega)]; exact x, fun j mj => by rw [G' j (hn j mj)]; exact y j mj, ?_⟩
    rw [updV_ne (by omega), hf]; exact z
  · intro hj
    rw [G' 13 (by omega)] at hj
    exact absurd hj n13
  · intro j k mj mk hj hk e
    rw [G' j (hn j mj)] at hj
    rw [G' k (hn k mk)] at hk
    rw [upd_other _ _ (hn j mj), upd_other _ _ (hn k mk)] at e
    exact h.ne j k mj mk hj hk e
def stoT (w : World) (b : Nat) (V : Nat → Value) : World := (((((w.setCell ⟨b, 0, none⟩ (V 0)).setCell ⟨b, 1, none⟩ (V 2)).setCell ⟨b, 2, none⟩ (V 4)).setCell ⟨b, 3, none⟩ (V 6)).setCell ⟨b, 4, none⟩ (V 8)).setCell ⟨b, 5, none⟩ (V 10)
theorem BS.sto (h : BS a0 w0 n sz L a w V g) (h12 : gd L 12 = true) (h11 : gd L 11 = true) (hL : gd L 13 = false) : BS a0 w0 n sz (L.setIfInBounds 13 true) (a.put none undef) (stoT w (g 12) V) V g := by
  have hs := h.ls
  have G := fun j => gd_set (L := L) (i := 13) (by omega) j
  have G' : ∀ j, j ≠ 13 → gd (L.setIfInBounds 13 true) j = gd L j := fun j hj => by rw [G, if_neg hj]
  have hn : ∀ j, MkB j → j ≠ 13 := fun j hj => by unfold MkB at hj; omega
  obtain ⟨x12, y12, z12⟩ := h.v12 h12
  rw [if_neg (by rw [hL]; exact Bool.false_ne_true)] at z12
  have hmm : ∀ s, mmB L V s = mmB (L.setIfInBounds 13 true) V s := fun s => by
    unfold mmB
    cases hs2 : slB s with
    | none => rfl
    | some j =>
      have hj : j ≠ 13 := fun e => by
        subst e
        unfold slB at hs2
        split at hs2
        · simp at hs2; omega
        · split at hs2 <;> simp at hs2
      show (if gd L j then some (V j) else none) = if gd (L.setIfInBounds 13 true) j then some (V j) else none
      rw [G' j hj]
  refine ⟨by simpa using hs, h.ov.congr fun s _ => by rw [hmm], ?_, ?_, ?_, ?_, ?_, ?_, ?_, ?_⟩
  · unfold stoT
    exact (((((h.bel.setCell (p := ⟨g 12, 0, none⟩) y12 _).setCell (p := ⟨g 12, 1, none⟩) y12 _).setCell (p := ⟨g 12, 2, none⟩) y12 _).setCell (p := ⟨g 12, 3, none⟩) y12 _).setCell (p := ⟨g 12, 4, none⟩) y12 _).setCell (p := ⟨g 12, 5, none⟩) y12 _
  · rw [G' 0 (by omega)]; exact h.v0
  · intro j j1 j2 hj
    rw [G' j (by omega)] at hj; exact h.vm j j1 j2 hj
  · intro j mj hj
    rw [G' j (hn j mj)] at hj
    obtain ⟨x, y, z⟩ := h.vb j mj hj
    have hne : g j ≠ g 12 := z.ne_ z12 (by unfold tyB; split <;> decide)
    refine ⟨x, y, ?_⟩
    unfold stoT
    exact (((((z.far (p := ⟨g 12, 0, none⟩) hne _).far (p := ⟨g 12, 1, none⟩) hne _).far (p := ⟨g 12, 2, none⟩) hne _).far (p := ⟨g 12, 3, none⟩) hne _).far (p := ⟨g 12, 4, none⟩) hne _).far (p := ⟨g 12, 5, none⟩) hne _
  · intro hj
    rw [G 13, if_pos rfl, if_pos rfl]
    refine ⟨x12, y12, ?_⟩
    unfold stoT
    exact (((((z12.set_ 0 _).set_ 1 _).set_ 2 _).set_ 3 _).set_ 4 _).set_ 5 _
  · intro hj
    rw [G' 11 (by omega)] at hj
    obtain ⟨x, y, z⟩ := h.v11 hj
    exact ⟨by rw [G' 0 (by omega)]; exact x, fun j mj => by rw [G' j (hn j mj)]; exact y j mj, z⟩
  · intro _
    rw [G' 11 (by omega), G' 12 (by omega)]; exact ⟨h11, h12⟩
  · intro j k mj mk hj hk
    rw [G' j (hn j mj)] at hj
    rw [G' k (hn k mk)] at hk
    exact h.ne j k mj mk hj hk
theorem BS.start (a0 : Act) (w0 : World) (n sz : Nat) : BS a0 w0 n sz (Array.replicate 14 false) a0 w0.drew (fun _ => undef) (fun _ => 0) := by
  have hg : ∀ j, gd (Array.replicate 14 false) j ≠ true := fun j => by
    unfold gd
    rw [Array.getD_eq_getD_getElem?, Array.getElem?_replicate]
    split <;> simp
  refine ⟨by simp, (Ov.start a0).congr fun s _ => ?_, (Below.refl _ w0).drewN 1, fun h => absurd h (hg _), fun j _ _ h => absurd h (hg _), fun j _ h => absurd h (hg _), fun h => absurd h (hg _), fun h => absurd h (hg _), fun h => absurd h (hg _), fun j k _ _ h => absurd h (hg _)⟩
  have : mmB (Array.replicate 14 false) (fun _ => undef) s = none := by
    unfold mmB
    cases slB s with
    | none => rfl
    | some j => show (if gd (Array.replicate 14 false) j then _ else none) = none; rw [if_neg (hg j)]
  rw [this]
theorem BS.val (h : BS a0 w0 n sz L a w V g) (hsz : a0.tmps.size = 176) {s i : Nat} (hs : s < 176) (hi : slB s = some i) (hL : gd L i = true) : a.eval (.tmp s) = V i := by
  rw [h.ov.eval (by omega)]
  unfold mmB
  rw [hi]
  show ((if gd L i then some (V i) else none).getD _) = V i
  rw [if_pos hL]; rfl
theorem BS.frame (h : BS a0 w0 n sz L a w V g) (hall : ∀ j, j < 14 → gd L j = true) :
    a = (((((((((((((a0.put (some 34) (V 0)).put (some 35) (V 1)).put (some 36) (V 2)).put (some 37) (V 3)).put (some 38) (V 4)).put (some 39) (V 5)).put (some 40) (V 6)).put (some 41) (V 7)).put (some 42) (V 8)).put (some 43) (V 9)).put (some 44) (V 10)).put (some 45) (V 11)).put (some 9) (V 12)) := by
  refine h.ov.eq (Ov.congr ((((((((((((((Ov.start a0).put 34 (V 0)).put 35 (V 1)).put 36 (V 2)).put 37 (V 3)).put 38 (V 4)).put 39 (V 5)).put 40 (V 6)).put 41 (V 7)).put 42 (V 8)).put 43 (V 9)).put 44 (V 10)).put 45 (V 11)).put 9 (V 12)) fun s _ => ?_)
  congr 1
  unfold mmB slB
  by_cases h1 : 34 ≤ s ∧ s ≤ 45
  · rw [if_pos h1]
    show _ = if gd L (s - 34) then some (V (s - 34)) else none
    rw [if_pos (hall _ (by omega))]
    rcases (show s = 34 ∨ s = 35 ∨ s = 36 ∨ s = 37 ∨ s = 38 ∨ s = 39 ∨ s = 40 ∨ s = 41 ∨ s = 42 ∨ s = 43 ∨ s = 44 ∨ s = 45 by omega) with rfl | rfl | rfl | rfl | rfl | rfl | rfl | rfl | rfl | rfl | rfl | rfl <;> rfl
  · rw [if_neg h1]
    by_cases h2 : s = 9
    · subst h2
      show some (V 12) = if gd L 12 then some (V 12) else none
      rw [if_pos (hall 12 (by omega))]
    · rw [if_neg h2, if_neg h2, if_neg (by omega), if_neg (by omega), if_neg (by omega), if_neg (by omega), if_neg (by omega), if_neg (by omega), if_neg (by omega), if_neg (by omega), if_neg (by omega), if_neg (by omega), if_neg (by omega), if_neg (by omega)]
      rfl
end
noncomputable def bldOps : Option (Array Oper) := Tryd.f12.body.bind (regOps 5)
theorem ready_dep {md : Region.Mode} {ops : Array Oper} {L : Array Bool} {i : Nat} {o : Oper} (h : i ∈ Region.ready md ops L) (ho : ops[i]? = some o) : (o.after.all fun e => !Region.binds md e || gd L e.on) = true ∧ gd L i = false := by
  obtain ⟨-, hi, e⟩ := ready_false h
  unfold Region.ready at h
  obtain ⟨h1, h2⟩ := List.mem_filter.1 h
  rw [Bool.and_eq_true, ho] at h2
  refine ⟨h2.2, ?_⟩
  unfold gd
  rw [Array.getD_eq_getD_getElem?, Array.getElem?_eq_getElem hi, e]; rfl
theorem ready_none {md : Region.Mode} {ops : Array Oper} {L : Array Bool} (h : Region.ready md ops L = []) (hs : L.size = ops.size) {i : Nat} {o : Oper} (ho : ops[i]? = some o) (hd : ∀ e ∈ o.after.toList, gd L e.on = true) : gd L i = true := by
  have hi : i < ops.size := (Array.getElem?_eq_some_iff.1 ho).1
  cases hg : gd L i with
  | true => rfl
  | false =>
    exfalso
    have : i ∈ Region.ready md ops L := by
      unfold Region.ready
      refine List.mem_filter.2 ⟨List.mem_range.2 hi, ?_⟩
      rw [Bool.and_eq_true, ho]
      refine ⟨?_, ?_⟩
      · unfold gd at hg
        rw [Array.getD_eq_getD_getElem?, Array.getElem?_eq_getElem (by omega)] at hg
        rw [Array.getD_eq_getD_getElem?, Array.getElem?_eq_getElem (by omega)]
        simpa using hg
      · show (o.after.all fun e => !Region.binds md e || gd L e.on) = true
        rw [Array.all_eq_true]
        intro k hk
        rw [hd _ (Array.getElem_mem_toList hk), Bool.or_true]
    rw [h] at this
    cases this
theorem ex_move (P : Program) (ρ : Operand → Value) (o : Oper) (x : Operand) (h : o.op = .move x) (w : World) : (execOp ρ o).run P w = .ok (.value (ρ x)) w := by unfold execOp; rw [h]; rfl
set_option maxRecDepth 100000 in
set_option maxHeartbeats 4000000 in
theorem bldReg (id : Nat) (ops : Array Oper) (hops : bldOps = some ops) (Q : Exit → Act → World → Prop) (a0 : Act) (w0 : World) (n sz : Nat) (h176 : a0.tmps.size = 176) (e0 : a0.eval (.tmp 0) = .int .i64 (n : Int)) (e8 : a0.eval (.tmp 8) = .int .i64 (sz : Int)) (hsz : sz ≤ 100000)
    (hQ : ∀ L a w V g, BS a0 w0 n sz L a w V g → (∀ j, j < 14 → gd L j = true) → Q .normal a w) : (Code.region id ops true).wp Tryd.prog Q a0 w0 := by
  obtain rfl := Option.some.inj hops
  clear hops
  obtain ⟨i0, hi, hz0, hz1, hz2⟩ := info_parts int_info0
  have hmk := fun W => run_make_ints 30 3 i0 Tryd.underlying30 hi hz0 hz1 hz2 sz (by omega) W
  obtain ⟨i1, hj, hy0, hy1, hy2⟩ := info_parts int64_info0
  have hmk2 := fun W => run_make_ints 43 2 i1 Tryd.underlying43 hj hy0 hy1 hy2 sz (by omega) W
  clear hi hz0 hz1 hz2 hj hy0 hy1 hy2
  refine wp_region_any (by kernel_rfl) (wpAny_inv (fun L a w => ∃ V g, BS a0 w0 n sz L a w V g) ?_ ?_ _ _ _ _ ⟨_, _, BS.start a0 w0 n sz⟩ (by decide))
  · rintro L a w ⟨V, g, h⟩ i hi
    have hlt := (ready_false hi).1
    have E0 : a.eval (.tmp 0) = .int .i64 (n : Int) := (h.ov.old (by omega) rfl).trans e0
    have E8 : a.eval (.tmp 8) = .int .i64 (sz : Int) := (h.ov.old (by omega) rfl).trans e8
    change i < 14 at hlt
    rcases (show i = 0 ∨ i = 1 ∨ i = 2 ∨ i = 3 ∨ i = 4 ∨ i = 5 ∨ i = 6 ∨ i = 7 ∨ i = 8 ∨ i = 9 ∨ i = 10 ∨ i = 11 ∨ i = 12 ∨ i = 13 by omega) with rfl | rfl | rfl | rfl | rfl | rfl | rfl | rfl | rfl | rfl | rfl | rfl | rfl | rfl
    all_goals have hd := ready_dep hi rfl
    · exact wpOp_at rfl rfl _ _ ((ex_move _ _ _ _ rfl _).trans (by rw [E0])) ⟨_, _, h.mov0 hd.2⟩
    · exact wpOp_at rfl rfl _ _ ((ex_move _ _ _ _ rfl _).trans (by rw [E8])) ⟨_, _, h.mov (by omega) (by omega)⟩
    · have h1 : gd L 1 = true := by simpa [Region.binds] using hd.1
      have E := (h.val h176 (by omega) (slB_lo (i := 1) (by omega) 35 |>.2 rfl) h1).trans (h.vm 1 (by omega) (by omega) h1)
      refine wpOp_at rfl rfl _ _ ?_ ⟨_, _, h.mak (i := 2) (.inl rfl) hd.2⟩
      generalize a.eval = ρ at *
      clear hd hi
      unfold execOp
      go_simp
      rfl
    · exact wpOp_at rfl rfl _ _ ((ex_move _ _ _ _ rfl _).trans (by rw [E8])) ⟨_, _, h.mov (by omega) (by omega)⟩
    · have h1 : gd L 3 = true := by simpa [Region.binds] using hd.1
      have E := (h.val h176 (by omega) (slB_lo (i := 3) (by omega) 37 |>.2 rfl) h1).trans (h.vm 3 (by omega) (by omega) h1)
      refine wpOp_at rfl rfl _ _ ?_ ⟨_, _, h.mak (i := 4) (.inr (.inl rfl)) hd.2⟩
      generalize a.eval = ρ at *
      clear hd hi
      unfold execOp
      go_simp
      rfl
    · exact wpOp_at rfl rfl _ _ ((ex_move _ _ _ _ rfl _).trans (by rw [E8])) ⟨_, _, h.mov (by omega) (by omega)⟩
    · have h1 : gd L 5 = true := by simpa [Region.binds] using hd.1
      have E := (h.val h176 (by omega) (slB_lo (i := 5) (by omega) 39 |>.2 rfl) h1).trans (h.vm 5 (by omega) (by omega) h1)
      refine wpOp_at rfl rfl _ _ ?_ ⟨_, _, h.mak (i := 6) (.inr (.inr (.inl rfl))) hd.2⟩
      generalize a.eval = ρ at *
      clear hd hi
      unfold execOp
      go_simp
      rfl
    · exact wpOp_at rfl rfl _ _ ((ex_move _ _ _ _ rfl _).trans (by rw [E8])) ⟨_, _, h.mov (by omega) (by omega)⟩
    · have h1 : gd L 7 = true := by simpa [Region.binds] using hd.1
      have E := (h.val h176 (by omega) (slB_lo (i := 7) (by omega) 41 |>.2 rfl) h1).trans (h.vm 7 (by omega) (by omega) h1)
      refine wpOp_at rfl rfl _ _ ?_ ⟨_, _, h.mak (i := 8) (.inr (.inr (.inr (.inl rfl)))) hd.2⟩
      generalize a.eval = ρ at *
      clear hd hi
      unfold execOp
      go_simp
      rfl
    · exact wpOp_at rfl rfl _ _ ((ex_move _ _ _ _ rfl _).trans (by rw [E8])) ⟨_, _, h.mov (by omega) (by omega)⟩
    · have h1 : gd L 9 = true := by simpa [Region.binds] using hd.1
      have E := (h.val h176 (by omega) (slB_lo (i := 9) (by omega) 43 |>.2 rfl) h1).trans (h.vm 9 (by omega) (by omega) h1)
      refine wpOp_at rfl rfl _ _ ?_ ⟨_, _, h.mak (i := 10) (.inr (.inr (.inr (.inr rfl)))) hd.2⟩
      generalize a.eval = ρ at *
      clear hd hi
      unfold execOp
      go_simp
      rfl
    · have h1 : gd L 0 = true ∧ gd L 2 = true ∧ gd L 4 = true ∧ gd L 6 = true ∧ gd L 8 = true ∧ gd L 10 = true := by simpa [Region.binds, and_assoc] using hd.1
      have hall : ∀ j, MkB j → gd L j = true := by rintro j (rfl | rfl | rfl | rfl | rfl) <;> simp [h1]
      have V0 := h.v0 h1.1
      have V2 := (h.vb 2 (.inl rfl) (hall 2 (.inl rfl))).1
      have V4 := (h.vb 4 (.inr (.inl rfl)) (hall 4 (.inr (.inl rfl)))).1
      have V6 := (h.vb 6 (.inr (.inr (.inl rfl))) (hall 6 (.inr (.inr (.inl rfl))))).1
      have V8 := (h.vb 8 (.inr (.inr (.inr (.inl rfl)))) (hall 8 (.inr (.inr (.inr (.inl rfl)))))).1
      have V10 := (h.vb 10 (.inr (.inr (.inr (.inr rfl)))) (hall 10 (.inr (.inr (.inr (.inr rfl)))))).1
      have F0 := (h.val h176 (by omega) (slB_0 34 |>.2 rfl) h1.1).trans V0
      have F2 := (h.val h176 (by omega) (slB_lo (i := 2) (by omega) 36 |>.2 rfl) h1.2.1).trans V2
      have F4 := (h.val h176 (by omega) (slB_lo (i := 4) (by omega) 38 |>.2 rfl) h1.2.2.1).trans V4
      have F6 := (h.val h176 (by omega) (slB_lo (i := 6) (by omega) 40 |>.2 rfl) h1.2.2.2.1).trans V6
      have F8 := (h.val h176 (by omega) (slB_lo (i := 8) (by omega) 42 |>.2 rfl) h1.2.2.2.2.1).trans V8
      have F10 := (h.val h176 (by omega) (slB_lo (i := 10) (by omega) 44 |>.2 rfl) h1.2.2.2.2.2).trans V10
      refine wpOp_at rfl rfl _ _ ?_ ⟨_, _, h.bld h1.1 hall⟩
      have ef : fullT V = #[.int .i64 (n : Int), .slice (some ⟨g 2, 0, none⟩) sz sz, .slice (some ⟨g 4, 0, none⟩) sz sz, .slice (some ⟨g 6, 0, none⟩) sz sz, .slice (some ⟨g 8, 0, none⟩) sz sz, .slice (some ⟨g 10, 0, none⟩) sz sz] := by
        unfold fullT; rw [V0, V2, V4, V6, V8, V10]
      rw [ef]
      generalize a.eval = ρ at *
      clear hd hi ef V0 V2 V4 V6 V8 V10
      unfold execOp
      go_simp
    · refine wpOp_at rfl rfl _ _ ?_ ⟨_, _, h.alc hd.2⟩
      generalize a.eval = ρ at *
      clear hd hi
      unfold execOp zeroT
      go_simp
    · have h1 : gd L 12 = true ∧ gd L 11 = true := by
        have := hd.1
        simp [Region.binds] at this
        exact ⟨this.1, this.2.1⟩
      obtain ⟨x0, x1, x2⟩ := h.v11 h1.2
      have V0 := h.v0 x0
      have V2 := (h.vb 2 (.inl rfl) (x1 2 (.inl rfl))).1
      have V4 := (h.vb 4 (.inr (.inl rfl)) (x1 4 (.inr (.inl rfl)))).1
      have V6 := (h.vb 6 (.inr (.inr (.inl rfl))) (x1 6 (.inr (.inr (.inl rfl))))).1
      have V8 := (h.vb 8 (.inr (.inr (.inr (.inl rfl)))) (x1 8 (.inr (.inr (.inr (.inl rfl)))))).1
      have V10 := (h.vb 10 (.inr (.inr (.inr (.inr rfl)))) (x1 10 (.inr (.inr (.inr (.inr rfl)))))).1
      obtain ⟨y0, y1, y2⟩ := h.v12 h1.1
      have F9 := (h.val h176 (by omega) (slB_12 9 |>.2 rfl) h1.1).trans y0
      have F45 := (h.val h176 (by omega) (slB_11 45 |>.2 rfl) h1.2).trans x2
      have ef : fullT V = #[.int .i64 (n : Int), .slice (some ⟨g 2, 0, none⟩) sz sz, .slice (some ⟨g 4, 0, none⟩) sz sz, .slice (some ⟨g 6, 0, none⟩) sz sz, .slice (some ⟨g 8, 0, none⟩) sz sz, .slice (some ⟨g 10, 0, none⟩) sz sz] := by
        unfold fullT; rw [V0, V2, V4, V6, V8, V10]
      rw [ef] at F45
      rw [if_neg (by rw [hd.2]; exact Bool.false_ne_true)] at y2
      have c0 := y2.get 0 _ rfl
      have c1 := y2.get 1 _ rfl
      have c2 := y2.get 2 _ rfl
      have c3 := y2.get 3 _ rfl
      have c4 := y2.get 4 _ rfl
      have c5 := y2.get 5 _ rfl
      have z := y2.frozen
      refine wpOp_skip rfl rfl _ ?_ ⟨_, _, h.sto h1.1 h1.2 hd.2⟩
      unfold stoT
      rw [V0, V2, V4, V6, V8, V10]
      generalize a.eval = ρ at *
      clear hd hi ef V0 V2 V4 V6 V8 V10 x0 x1 x2 y0 y1 y2
      unfold execOp
      go_simp
  · rintro L a w ⟨V, g, h⟩ hr
    have hs : ∀ {i : Nat} {o : Oper}, _ := fun {i o} => ready_none (i := i) (o := o) hr h.ls
    have g0 : gd L 0 = true := hs rfl (by simp)
    have g1 : gd L 1 = true := hs rfl (by simp)
    have g3 : gd L 3 = true := hs rfl (by simp)
    have g5 : gd L 5 = true := hs rfl (by simp)
    have g7 : gd L 7 = true := hs rfl (by simp)
    have g9 : gd L 9 = true := hs rfl (by simp)
    have g12 : gd L 12 = true := hs rfl (by simp)
    have g2 : gd L 2 = true := hs rfl (by simp [g1])
    have g4 : gd L 4 = true := hs rfl (by simp [g3])
    have g6 : gd L 6 = true := hs rfl (by simp [g5])
    have g8 : gd L 8 = true := hs rfl (by simp [g7])
    have g10 : gd L 10 = true := hs rfl (by simp [g9])
    have g11 : gd L 11 = true := hs rfl (by simp [g0, g2, g4, g6, g8, g10])
    have g13 : gd L 13 = true := hs rfl (by simp [g0, g1, g2, g3, g4, g5, g6, g7, g8, g9, g10, g11, g12])
    refine hQ L a w V g h fun j hj => ?_
    rcases (show j = 0 ∨ j = 1 ∨ j = 2 ∨ j = 3 ∨ j = 4 ∨ j = 5 ∨ j = 6 ∨ j = 7 ∨ j = 8 ∨ j = 9 ∨ j = 10 ∨ j = 11 ∨ j = 12 ∨ j = 13 by omega) with rfl | rfl | rfl | rfl | rfl | rfl | rfl | rfl | rfl | rfl | rfl | rfl | rfl | rfl <;> assumption
end Go.Proofs.YtoomcgmbaogjbaaDoor
