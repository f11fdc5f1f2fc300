/- plain: permutations out of draws. shuffle: identity, Draw, Check. shuffle: Check. -/
import Derived.Test.YtoomcgmbaogjbaaMem
import Derived.Test.YtoomcgmbaogjbaaDsuA
import Derived.Test.YtoomcgmbaogjbaaOpen
import Derived.Deep.DeepCutAuto
namespace Go.Proofs.Ytoomcgmbaogjbaa
open Go.RowKit
set_option linter.unusedVariables false

/-- Two elements change places. -/
def swp (f : Nat → Nat) (i j : Nat) : Nat → Nat := upd (upd f i (f j)) j (f i)
/-- The place that a draw gives. -/
def dpl (ds : List Nat) (n i : Nat) : Nat := i + (ds[i]?.getD 0) % (n - i)
/-- The permutation after so many draws. -/
def drw (ds : List Nat) (n : Nat) : Nat → Nat → Nat
  | 0 => fun i => i
  | k + 1 => swp (drw ds n k) k (dpl ds n k)
/-- A permutation of the numbers below n. -/
def Prm (n : Nat) (f : Nat → Nat) : Prop := (∀ i, i < n → f i < n) ∧ ∀ i j, i < n → j < n → f i = f j → i = j
theorem dpl_lt {ds : List Nat} {n i : Nat} (h : i < n) : dpl ds n i < n := by
  unfold dpl
  have := Nat.mod_lt (ds[i]?.getD 0) (show 0 < n - i by omega)
  omega
theorem prm_swp {n i j : Nat} {f : Nat → Nat} (h : Prm n f) (hi : i < n) (hj : j < n) : Prm n (swp f i j) := by
  have e : ∀ k, swp f i j k = if k = j then f i else if k = i then f j else f k := fun k => by
    unfold swp upd
    by_cases h1 : k = j
    · simp [h1]
    · by_cases h2 : k = i
      · simp [h2]
      · simp [h1, h2]
  refine ⟨fun k hk => ?_, fun a b ha hb hab => ?_⟩
  · rw [e]
    split
    · exact h.1 _ hi
    · split
      · exact h.1 _ hj
      · exact h.1 _ hk
  · rw [e, e] at hab
    have inj := h.2
    by_cases h1 : a = j <;> by_cases h2 : b = j
    · omega
    · simp only [h1, h2, if_true, if_false] at hab
      split at hab
      · rename_i h3
        have := inj _ _ hi hj hab
        omega
      · have := inj _ _ hi hb hab
        omega
    · simp only [h1, h2, if_true, if_false] at hab
      split at hab
      · rename_i h3
        have := inj _ _ hj hi hab
        omega
      · have := inj _ _ ha hi hab
        omega
    · simp only [h1, h2, if_false] at hab
      split at hab <;> split at hab
      · omega
      · have := inj _ _ hj hb hab
        omega
      · have := inj _ _ ha hj hab
        omega
      · exact inj _ _ ha hb hab
theorem drw_prm (ds : List Nat) (n : Nat) : ∀ k, k ≤ n → Prm n (drw ds n k)
  | 0, _ => ⟨fun i hi => hi, fun i j _ _ h => h⟩
  | k + 1, h => prm_swp (drw_prm ds n k (by omega)) (by omega) (dpl_lt (by omega))
/-- Every number below n comes up. -/
def Onto (n : Nat) (f : Nat → Nat) : Prop := ∀ y, y < n → ∃ i, i < n ∧ f i = y
theorem onto_swp {n i j : Nat} {f : Nat → Nat} (h : Onto n f) (hi : i < n) (hj : j < n) : Onto n (swp f i j) := by
  intro y hy
  obtain ⟨k, hk, e⟩ := h y hy
  have ee : ∀ k, swp f i j k = if k = j then f i else if k = i then f j else f k := fun k => by
    unfold swp upd
    by_cases h1 : k = j
    · simp [h1]
    · by_cases h2 : k = i
      · simp [h2]
      · simp [h1, h2]
  by_cases h1 : k = i
  · exact ⟨j, hj, by rw [ee, if_pos rfl, ← h1]; exact e⟩
  · by_cases h2 : k = j
    · by_cases h3 : i = j
      · omega
      · exact ⟨i, hi, by rw [ee, if_neg h3, if_pos rfl, ← h2]; exact e⟩
    · exact ⟨k, hk, by rw [ee, if_neg h2, if_neg h1]; exact e⟩
theorem drw_onto (ds : List Nat) (n : Nat) : ∀ k, k ≤ n → Onto n (drw ds n k)
  | 0, _ => fun y hy => ⟨y, hy, rfl⟩
  | k + 1, h => onto_swp (drw_onto ds n k (by omega)) (by omega) (dpl_lt (by omega))
/-- The elements of a permutation that come ahead of k. -/
def prmL (n : Nat) (f : Nat → Nat) : List Nat := (List.range n).map f
theorem prmL_lt {n : Nat} {f : Nat → Nat} (h : Prm n f) : ∀ i ∈ prmL n f, i < n := fun i hi => by
  simp only [prmL, List.mem_map, List.mem_range] at hi
  obtain ⟨j, hj, rfl⟩ := hi
  exact h.1 j hj
end Go.Proofs.Ytoomcgmbaogjbaa
namespace Go.Proofs.Ytoomcgmbaogjbaa
open Go.RowKit
set_option linter.unusedVariables false

theorem int_make : (Try.prog.info? 3).map (fun i => (i.zero, i.size, i.bytes)) = some (some (.int .i64 0), 1, 8) := by kernel_rfl
theorem shIdF (W : World) (i x : Int) : Calls Try.prog 21 #[.int .i64 i, .int .i64 x] W fun e w' => e = .returned (.int .i64 i) ∧ W = w' := by
  go_enter Try.func21, Try.ntmps21
  go_wp2_with fail
  go_ret
  exact ⟨rfl, rfl⟩

/-- i below k, 0 from k on. -/
def idto (k : Nat) : Nat → Nat := fun j => if j < k then j else 0
theorem idto_succ (k : Nat) : upd (idto k) k k = idto (k + 1) := by
  funext j
  unfold upd idto
  split
  · rename_i h; rw [if_pos (by omega), h]
  · split
    · rw [if_pos (by omega)]
    · rw [if_neg (by omega)]

set_option maxRecDepth 100000 in
set_option maxHeartbeats 8000000 in
theorem shEach (w : World) (n c b : Nat) (hn : n ≤ 1000) (f : Nat → Nat) (h : Blk w b 3 (arr n f)) :
    Calls Try.prog 20 #[.slice (some ⟨b, 0, none⟩) n c, .func (.func 21) #[] #[]] w
      fun e w' => ∃ g, e = .returned (.slice (some ⟨g, 0, none⟩) n n) ∧ Blk w' g 3 (arr n fun i => i) ∧ w.heap.size ≤ g ∧ Fr [] w w' := by
  obtain ⟨i0, hi, hz0, hz1, hz2⟩ := info_parts int_make
  have hmk := fun W => run_make_ints 29 3 i0 Try.underlying29 hi hz0 hz1 hz2 n (by omega) W
  clear hi hz0 hz1 hz2
  have H := hide h
  clear h
  go_enter Try.func20, Try.ntmps20
  go_wp2_with fail
  go_loopg [13] n (fun gh s wr => ∃ k : Nat, k + gh = n ∧ s = .int .i64 (k : Int) ∧ Blk wr w.heap.size 3 (arr n (idto k)) ∧ Fr [] w wr)
  case atStart => exact ⟨0, by omega, rfl, by have := Blk.new w 3 (arr n fun _ => 0); rwa [show (fun _ => 0 : Nat → Nat) = idto 0 by funext j; simp [idto]] at this, (Fr.refl [] w).alloc _⟩
  case round =>
    obtain ⟨k, hk, rfl, hb, hf⟩ := hrel
    have HK := hide hk
    have HB := hide hb
    have HF := hide hf
    have hkn : k ≤ n := by omega
    clear hk
    by_cases hlt : k < n
    · have c0 : wr.cell? ⟨b, k, none⟩ = some (.int .i64 (f k : Int)) := ((H.out.fr hf (by simp))).int hlt
      have c1 : wr.cell? ⟨w.heap.size, k, none⟩ = some (.int .i64 (idto k k : Int)) := hb.int hlt
      have z1 := hb.frozen k
      clear hb hf
      go_wp2_with (go_at_call 21; refine (shIdF _ _ _).mono ?_; rintro e w5 ⟨rfl, rfl⟩)
      go_roundg (n - (k + 1))
      case measure => have := HK.out; omega
      case rel =>
        refine ⟨k + 1, by omega, by go_num, ?_, HF.out.setCell (p := ⟨w.heap.size, k, none⟩) (.inr (Nat.le_refl _)) _⟩
        rw [← idto_succ]
        exact HB.out.setInt k k
    · obtain rfl : k = n := by omega
      clear hb hf
      go_wp2_with fail
      go_ret
      refine ⟨w.heap.size, rfl, ?_, Nat.le_refl _, HF.out⟩
      have := HB.out
      have e : arr k (idto k) = arr k fun i => i := arr_congr fun i hi => if_pos hi
      rwa [e] at this

set_option maxRecDepth 100000 in
theorem shIdentity (w : World) (n : Nat) (hn : n ≤ 1000) : Calls Try.prog 12 #[.int .i64 (n : Int)] w
      fun e w' => ∃ g, e = .returned (.slice (some ⟨g, 0, none⟩) n n) ∧ Blk w' g 3 (arr n fun i => i) ∧ w.heap.size ≤ g ∧ Fr [] w w' := by
  obtain ⟨i0, hi, hz0, hz1, hz2⟩ := info_parts int_make
  have hmk := fun W => run_make_ints 29 3 i0 Try.underlying29 hi hz0 hz1 hz2 n (by omega) W
  clear hi hz0 hz1 hz2
  have HE := hide (shEach (w.alloc (.cells (arr n fun _ => 0) 3)) n n w.heap.size hn (fun _ => 0) (Blk.new w 3 (arr n fun _ => 0)))
  go_enter Try.func12, Try.ntmps12
  go_wp2_with fail
  refine HE.out.mono ?_
  rintro e w1 ⟨g, rfl, hb, hg, hf⟩
  have HB := hide hb
  have HF := hide hf
  simp only [World.size_alloc] at hg
  clear hb hf
  go_wp2_with fail
  go_ret
  exact ⟨g, rfl, HB.out, by omega, ((Fr.refl [] w).alloc _).trans HF.out⟩

/-- Draws, as cells. -/
def u6v (ds : List Nat) : List Value := ds.map fun (i : Nat) => Value.int .u64 (i : Int)
theorem Rd.u6 {w : World} {A : Option Addr} {n : Nat} {ds : List Nat} (h : Rd w A n 1 (u6v ds)) (j : Nat) (hj : j < ds.length) (hn : ds.length = n) :
    ∃ b o, A = some ⟨b, o, none⟩ ∧ b < w.heap.size ∧ w.cell? ⟨b, o + j, none⟩ = some (.int .u64 (ds[j] : Int)) := by
  obtain ⟨b, o, h1, h2, h3⟩ := h.2 (by omega)
  exact ⟨b, o, h1, h2, h3 j _ (by simp [u6v, hj])⟩

set_option maxRecDepth 100000 in
theorem shDraw_short (w : World) (n m c : Nat) (A : Option Addr) (hn : n ≤ 1000) (hm : (m : Int) < (n : Int) - 1) :
    Calls Try.prog 6 #[.int .i64 (n : Int), .slice A m c] w fun e w' => e = .returned (.tuple #[.slice none 0 0, .int .i64 14]) ∧ w = w' := by
  have h1 : ¬ (n : Int) < 0 := by omega
  have h2 : (n : Int) ≤ 16384 := by omega
  have h3 : IntKind.i64.wrap ((n : Int) - 1) = (n : Int) - 1 := IntWalk.i64_in _ (by omega)
  go_enter Try.func6, Try.ntmps6
  go_wp2_with fail
  go_ret2
  exact ⟨rfl, rfl⟩

set_option maxRecDepth 100000 in
set_option maxHeartbeats 8000000 in
theorem shDraw (w : World) (n m c : Nat) (A : Option Addr) (ds : List Nat) (hn : n ≤ 1000) (hm : (n : Int) - 1 ≤ (m : Int)) (hm2 : m ≤ 1000) (hr : Rd w A m 1 (u6v ds)) (hl : ds.length = m) (hd : ∀ d ∈ ds, d < 18446744073709551616) :
    Calls Try.prog 6 #[.int .i64 (n : Int), .slice A m c] w
      fun e w' => ∃ g, e = .returned (.tuple #[.slice (some ⟨g, 0, none⟩) n n, .int .i64 0]) ∧ Blk w' g 3 (arr n (drw ds n (n - 1))) ∧ w.heap.size ≤ g ∧ Fr [] w w' := by
  have h1 : ¬ (n : Int) < 0 := by omega
  have h2 : (n : Int) ≤ 16384 := by omega
  have h3 : IntKind.i64.wrap ((n : Int) - 1) = (n : Int) - 1 := IntWalk.i64_in _ (by omega)
  have HR := hide hr
  have HL := hide hl
  have HD := hide hd
  clear hr hl hd
  go_enter Try.func6, Try.ntmps6
  go_wp2_with fail
  refine (shIdentity w n hn).mono ?_
  rintro e w1 ⟨g, rfl, hb, hg, hf⟩
  have HB1 := hide hb
  have HF1 := hide hf
  have HG := hide hg
  clear hb hf hg h1 h2
  go_wp2_with fail
  go_loopg [24] n (fun gh s wr => ∃ k : Nat, k + gh = n ∧ k ≤ n - 1 ∧ s = .int .i64 (k : Int) ∧ Blk wr g 3 (arr n (drw ds n k)) ∧ Fr [] w wr)
  case atStart => exact ⟨0, by omega, by omega, rfl, HB1.out, HF1.out⟩
  case round =>
    obtain ⟨k, hk, hk2, rfl, hb, hf⟩ := hrel
    have HK := hide hk
    have HB := hide hb
    have HF := hide hf
    clear hk HB1 HF1
    by_cases hlt : k + 1 < n
    · have hkd : k < ds.length := by rw [HL.out]; omega
      obtain ⟨b, o, rfl, hbl, cD⟩ := (HR.out.fr HF.out (by simp)).u6 k hkd HL.out
      have hdk := HD.out _ (List.getElem_mem hkd)
      have hpl : dpl ds n k = k + ds[k] % (n - k) := by unfold dpl; rw [List.getElem?_eq_getElem hkd]; rfl
      have hpn : dpl ds n k < n := dpl_lt (by omega)
      have cj : wr.cell? ⟨g, dpl ds n k, none⟩ = some (.int .i64 (drw ds n k (dpl ds n k) : Int)) := hb.int hpn
      have ck : wr.cell? ⟨g, k, none⟩ = some (.int .i64 (drw ds n k k : Int)) := hb.int (by omega)
      have hmd := Nat.mod_lt ds[k] (show 0 < n - k by omega)
      generalize ds[k] = d at *
      have e1 : IntKind.i64.wrap ((n : Int) - (k : Int)) = ((n - k : Nat) : Int) := by rw [IntWalk.i64_in _ (by omega)]; omega
      have hX : 0 < n - k := by omega
      have hX2 : n - k ≤ 1000 := by omega
      generalize n - k = X at *
      have e2 : IntKind.u64.wrap (X : Int) = (X : Int) := IntWalk.u64_in _ (by omega)
      have t1 : Int.tmod (d : Int) (X : Int) = ((d % X : Nat) : Int) := by rw [Int.tmod_eq_emod_of_nonneg (by omega)]; rfl
      have t2 : (d : Int) % (X : Int) = ((d % X : Nat) : Int) := rfl
      have hX3 : (X : Int) ≠ 0 := by omega
      have hX4 : ¬ X = 0 := by omega
      generalize hJ : dpl ds n k = j at *
      generalize d % X = y at *
      have e3 : IntKind.u64.wrap (y : Int) = (y : Int) := IntWalk.u64_in _ (by omega)
      have e4 : IntKind.i64.wrap (y : Int) = (y : Int) := IntWalk.i64_in _ (by omega)
      have e5 : IntKind.i64.wrap ((k : Int) + (y : Int)) = (j : Int) := by rw [IntWalk.i64_in _ (by omega)]; omega
      have zk := hb.frozen k
      have zj := hb.frozen j
      have HJ := hide hJ
      have hkn : k < n := by omega
      clear hpl hb hf hbl hdk hJ
      go_upto_region 10 with fail
      have cjk : ((wr.setCell ⟨g, k, none⟩ (.int .i64 (drw ds n k j : Int))).cell? ⟨g, j, none⟩) = some (.int .i64 (upd (drw ds n k) k (drw ds n k j) j : Int)) := (HB.out.setInt k _).int hpn
      have zjk : ((wr.setCell ⟨g, k, none⟩ (.int .i64 (drw ds n k j : Int))).frozen? ⟨g, j, none⟩) = false := (HB.out.setInt k _).frozen j
      go_region
      all_goals
        go_wp2_with fail
        go_roundg (n - (k + 1))
        case measure => have := HK.out; omega
        case rel =>
          refine ⟨k + 1, by omega, by omega, by go_num, ?_, (((HF.out.setCell (p := ⟨g, k, none⟩) (.inr HG.out) _).setCell (p := ⟨g, j, none⟩) (.inr HG.out) _).drew)⟩
          have := ((HB.out.setInt k (drw ds n k j)).setInt j (drw ds n k k)).drew
          show Blk _ g _ (arr n (swp (drw ds n k) k (dpl ds n k)))
          rw [HJ.out]
          exact this
    · obtain rfl : k = n - 1 := by omega
      clear hb hf
      go_wp2_with fail
      go_ret2
      exact ⟨g, rfl, HB.out, HG.out, HF.out⟩
end Go.Proofs.Ytoomcgmbaogjbaa
namespace Go.Proofs.Ytoomcgmbaogjbaa
open Go.RowKit
set_option linter.unusedVariables false

theorem bool_make : (Try.prog.info? 4).map (fun i => (i.zero, i.size, i.bytes)) = some (some (.bool false), 1, 1) := by kernel_rfl

/-- Which elements the first k places have. -/
def seenTo (f : Nat → Nat) (k : Nat) : Nat → Bool := fun x => decide (∃ i, i < k ∧ f i = x)
theorem seenTo_succ (f : Nat → Nat) (k : Nat) : updb (seenTo f k) (f k) true = seenTo f (k + 1) := by
  funext x
  unfold updb seenTo
  by_cases h : x = f k
  · rw [if_pos h]
    exact (decide_eq_true ⟨k, by omega, h.symm⟩).symm
  · rw [if_neg h]
    exact decide_eq_decide.2 ⟨fun ⟨i, hi, e⟩ => ⟨i, by omega, e⟩, fun ⟨i, hi, e⟩ => ⟨i, by
      have : i ≠ k := fun e2 => h (by rw [← e, e2])
      omega, e⟩⟩

set_option maxRecDepth 100000 in
set_option maxHeartbeats 8000000 in
theorem shCheck (w : World) (n c g : Nat) (f : Nat → Nat) (hn : n ≤ 1000) (h : Blk w g 3 (arr n f)) (hp : Prm n f) :
    Calls Try.prog 7 #[.slice (some ⟨g, 0, none⟩) n c] w fun e w' => e = .returned (.int .i64 0) ∧ Below w.heap.size w w' := by
  obtain ⟨i0, hi, hz0, hz1, hz2⟩ := info_parts bool_make
  have hmk := fun W => run_make_bools 45 4 i0 Try.underlying45 hi hz0 hz1 hz2 n (by omega) W
  clear hi hz0 hz1 hz2
  have H := hide h
  have HP := hide hp
  have h2 : (n : Int) ≤ 16384 := by omega
  clear h hp
  go_enter Try.func7, Try.ntmps7
  go_wp2_with fail
  go_loopg [14] n (fun gh s wr => ∃ k : Nat, k + gh = n ∧ s = .int .i64 (k : Int) ∧ Blk wr w.heap.size 4 (arb n (seenTo f k)) ∧ Fr [] w wr)
  case atStart => exact ⟨0, by omega, rfl, by
    have := Blk.new w 4 (arb n fun _ => false)
    rwa [show (fun _ => false : Nat → Bool) = seenTo f 0 by funext j; simp [seenTo]] at this, (Fr.refl [] w).alloc _⟩
  case round =>
    obtain ⟨k, hk, rfl, hb, hf⟩ := hrel
    have HK := hide hk
    have HB := hide hb
    have HF := hide hf
    have hkn : k ≤ n := by omega
    clear hk
    by_cases hlt : k < n
    · have c0 : wr.cell? ⟨g, k, none⟩ = some (.int .i64 (f k : Int)) := ((H.out.fr hf (by simp))).int hlt
      have hfk := HP.out.1 k hlt
      have hsn : seenTo f k (f k) = false := decide_eq_false fun ⟨i, hi, e⟩ => by
        have := HP.out.2 i k (by omega) hlt e
        omega
      have c1 : wr.cell? ⟨w.heap.size, f k, none⟩ = some (.bool false) := by rw [hb.bool hfk, hsn]
      have z1 := hb.frozen (f k)
      have HS := hide (seenTo_succ f k)
      generalize f k = x at *
      clear hb hf hsn
      go_wp2_with fail
      go_roundg (n - (k + 1))
      case measure => have := HK.out; omega
      case rel =>
        refine ⟨k + 1, by omega, by go_num, ?_, HF.out.setCell (p := ⟨w.heap.size, x, none⟩) (.inr (Nat.le_refl _)) _⟩
        rw [← HS.out]
        exact HB.out.setBool x true
    · obtain rfl : k = n := by omega
      clear hb hf
      go_wp2_with fail
      go_ret
      exact ⟨rfl, HF.out.below (by simp) (Nat.le_refl _)⟩
end Go.Proofs.Ytoomcgmbaogjbaa
