/- kruskal: cmp.Compare, cmp.Or, the comparison of two indexes. kruskal: slices.SortFunc on the indexes of the edges. kruskal: Order. -/
import Derived.Test.YtoomcgmbaogjbaaDoorPthL
import Derived.Test.YtoomcgmbaogjbaaDoorLctH
import Derived.Test.YtoomcgmbaogjbaaDoorEdge0
import Derived.Test.YtoomcgmbaogjbaaDoorLayS
import Derived.Shelf.SlSortCmp.NoneTotal
import Derived.Test.YtoomcgmbaogjbaaDoorDsuN
namespace Go.Proofs.YtoomcgmbaogjbaaDoor
open Go.RowKit
set_option linter.unusedVariables false

theorem cmpC64 (w : World) (x y : Int) : Calls Tryd.prog 33 #[.int .i64 x, .int .i64 y] w fun e w' => e = .returned (.int .i64 (cmpI x y)) ∧ w = w' := by
  by_cases h1 : x < y
  · have e : cmpI x y = -1 := by unfold cmpI; rw [if_pos h1]
    rw [e]
    go_enter Tryd.func33, Tryd.ntmps33
    go_wp2
    go_ret
    exact ⟨rfl, rfl⟩
  · by_cases h2 : y < x
    · have e : cmpI x y = 1 := by unfold cmpI; rw [if_neg h1, if_pos h2]
      rw [e]
      go_enter Tryd.func33, Tryd.ntmps33
      go_wp2
      go_ret
      exact ⟨rfl, rfl⟩
    · have e : cmpI x y = 0 := by unfold cmpI; rw [if_neg h1, if_neg h2]
      rw [e]
      go_enter Tryd.func33, Tryd.ntmps33
      go_wp2
      go_ret
      exact ⟨rfl, rfl⟩
theorem cmpCint (w : World) (x y : Int) : Calls Tryd.prog 34 #[.int .i64 x, .int .i64 y] w fun e w' => e = .returned (.int .i64 (cmpI x y)) ∧ w = w' := by
  by_cases h1 : x < y
  · have e : cmpI x y = -1 := by unfold cmpI; rw [if_pos h1]
    rw [e]
    go_enter Tryd.func34, Tryd.ntmps34
    go_wp2
    go_ret
    exact ⟨rfl, rfl⟩
  · by_cases h2 : y < x
    · have e : cmpI x y = 1 := by unfold cmpI; rw [if_neg h1, if_pos h2]
      rw [e]
      go_enter Tryd.func34, Tryd.ntmps34
      go_wp2
      go_ret
      exact ⟨rfl, rfl⟩
    · have e : cmpI x y = 0 := by unfold cmpI; rw [if_neg h1, if_neg h2]
      rw [e]
      go_enter Tryd.func34, Tryd.ntmps34
      go_wp2
      go_ret
      exact ⟨rfl, rfl⟩
/-- The first that is not 0. -/
def orI (a b : Int) : Int := if a = 0 then b else a
set_option maxRecDepth 100000 in
theorem cmpOr (w : World) (g : Nat) (a b : Int) (h0 : w.cell? ⟨g, 0, none⟩ = some (.int .i64 a)) (h1 : w.cell? ⟨g, 1, none⟩ = some (.int .i64 b)) :
    Calls Tryd.prog 32 #[.slice (some ⟨g, 0, none⟩) 2 2] w fun e w' => e = .returned (.int .i64 (orI a b)) ∧ w = w' := by
  have H0 := hide h0
  have H1 := hide h1
  clear h0 h1
  go_enter Tryd.func32, Tryd.ntmps32
  go_wp2_with fail
  go_loopg [8] 2 (fun gh s wr => wr = w ∧ ((gh = 2 ∧ s = .int .i64 0) ∨ (gh = 1 ∧ s = .int .i64 1 ∧ a = 0) ∨ (gh = 0 ∧ s = .int .i64 2 ∧ a = 0 ∧ b = 0)))
  case atStart => exact ⟨rfl, .inl ⟨rfl, rfl⟩⟩
  case round =>
    obtain ⟨rfl, ⟨rfl, rfl⟩ | ⟨rfl, rfl, rfl⟩ | ⟨rfl, rfl, rfl, rfl⟩⟩ := hrel
    · have c0 := H0.out
      by_cases e : a = 0
      · subst e
        go_wp2_with fail
        go_roundg 1
        case measure => omega
        case rel => simp
      · have er : orI a b = a := if_neg e
        have ER := hide er
        clear er
        go_wp2_with fail
        go_ret
        exact ⟨ret_int ER.out.symm, rfl⟩
    · have c1 := H1.out
      by_cases e : b = 0
      · subst e
        go_wp2_with fail
        go_roundg 0
        case measure => omega
        case rel => simp
      · go_wp2_with fail
        go_ret
        exact ⟨rfl, rfl⟩
    · go_wp2_with fail
      go_ret
      exact ⟨rfl, rfl⟩
set_option maxRecDepth 100000 in
/-- Two indexes compared. -/
theorem ordClo (w : World) (bx m c : Nat) (A : Option Addr) (l : List (Int × Int × Int)) (hr : Rd w A m 3 (ecs l)) (ll : l.length = m) (hb : w.cell? ⟨bx, 0, none⟩ = some (.slice A m c)) (hbx : bx < w.heap.size) (i j : Fin l.length) :
    Calls Tryd.prog 31 #[.int .i64 ((i : Nat) : Int), .int .i64 ((j : Nat) : Int), .pointer (some ⟨bx, 0, none⟩)] w fun e w' => e = .returned (.int .i64 (cfE l i j)) ∧ ∃ q o, w' = (w.drewN q).alloc o := by
  obtain ⟨b, o, rfl, hbl, i0, i1, i2⟩ := hr.edge i i.2 ll
  obtain ⟨b', o', he, hbl', j0, j1, j2⟩ := hr.edge j j.2 ll
  injection he with he
  injection he with e1 e2
  subst e1; subst e2
  have ei := eW_get i.2
  have ej := eW_get j.2
  rw [← ei] at i2
  rw [← ej] at j2
  have hi : (i : Nat) < m := Nat.lt_of_lt_of_eq i.2 ll
  have hj : (j : Nat) < m := Nat.lt_of_lt_of_eq j.2 ll
  have er : cfE l i j = orI (cmpI (eW l i) (eW l j)) (cmpI ((i : Nat) : Int) ((j : Nat) : Int)) := rfl
  rw [er]
  have hA : ∀ O : Obj, (w.alloc O).cell? ⟨bx, 0, none⟩ = some (.slice (some ⟨b, o, none⟩) m c) ∧ (w.alloc O).cell? ⟨b, o + i * 3 + 2, none⟩ = some (.int .i64 (eW l i)) ∧ (w.alloc O).cell? ⟨b, o + j * 3 + 2, none⟩ = some (.int .i64 (eW l j)) := fun O =>
    have hbel : Below w.heap.size w (w.alloc O) := (Below.refl _ w).alloc (Nat.le_refl _) O
    ⟨(hbel.cell (p := ⟨bx, 0, none⟩) hbx).trans hb, (hbel.cell (p := ⟨b, o + i * 3 + 2, none⟩) hbl).trans i2, (hbel.cell (p := ⟨b, o + j * 3 + 2, none⟩) hbl).trans j2⟩
  clear ei ej er i0 i1 j0 j1 hr hbl hbl'
  generalize (i : Nat) = x at *
  generalize (j : Nat) = y at *
  generalize eW l x = u at *
  generalize eW l y = v at *
  go_enter Tryd.func31, Tryd.ntmps31
  go_upto_region 1 with fail
  go_region_held3 (fun w' => w'.cell? ⟨bx, 0, none⟩ = some (.slice (some ⟨b, o, none⟩) m c) ∧ w'.cell? ⟨b, o + x * 3 + 2, none⟩ = some (.int .i64 u) ∧ w'.cell? ⟨b, o + y * 3 + 2, none⟩ = some (.int .i64 v))
    (first | exact ⟨hb, i2, j2⟩ | exact hA _)
    (first | (go_at_call 33; refine (cmpC64 _ _ _).mono ?_; rintro e w' ⟨rfl, rfl⟩) | (go_at_call 34; refine (cmpCint _ _ _).mono ?_; rintro e w' ⟨rfl, rfl⟩) | (go_at_call 32; refine (cmpOr _ _ _ _ ((Blk.new _ _ _).cell 0) ((Blk.new _ _ _).cell 1)).mono ?_; rintro e w' ⟨rfl, rfl⟩))
  go_wp2_with fail
  go_ret
  exact ⟨rfl, 1, _, rfl⟩
end Go.Proofs.YtoomcgmbaogjbaaDoor
namespace Go.Proofs.YtoomcgmbaogjbaaDoor
open Go.RowKit Go.Shelf Go.Sort
set_option linter.unusedVariables false

def encF (m : Nat) (x : Fin m) : Value := .int .i64 ((x : Nat) : Int)
theorem sort_fr {α : Type} [Inhabited α] (enc : α → Value) (w : World) (blk off n : Nat) (d : Array α) (os : Array Obj) (h : blk < w.heap.size) : Fr [blk] w (sortWorld enc w blk off n d os) := by
  refine ⟨rfl, rfl, rfl, ?_, fun k hk hn => ?_⟩
  · unfold sortWorld grow putRow mapBlock Sort.ahead
    simp
  · have hne : k ≠ blk := by simpa using hn
    unfold sortWorld grow putRow mapBlock Sort.ahead
    simp only [Array.getElem?_append, Array.size_modify]
    rw [if_pos hk, Array.getElem?_modify, if_neg (fun e => hne e.symm)]
theorem swoE (l : List (Int × Int × Int)) : SWO (ltOf (cfE l)) where
  irrefl x := by unfold ltOf; rw [decide_eq_false_iff_not, cfE_neg]; omega
  trans x y z h1 h2 := by unfold ltOf at *; rw [decide_eq_true_eq, cfE_neg] at *; omega
  ntrans x y z h1 h2 := by unfold ltOf at *; rw [decide_eq_false_iff_not, cfE_neg] at *; omega
theorem totE (l : List (Int × Int × Int)) (x y : Fin l.length) (h1 : ltOf (cfE l) x y = false) (h2 : ltOf (cfE l) y x = false) : x = y := by
  unfold ltOf at *
  rw [decide_eq_false_iff_not, cfE_neg] at *
  apply Fin.ext; omega
theorem nts_ord (l : List (Int × Int × Int)) : nts (ordN l) = (ordF l).map (encF l.length) := by
  unfold nts ordN
  rw [List.map_map]; rfl
/-- The indexes, sorted by the edges. -/
theorem kruSort (w : World) (bx b m c : Nat) (A : Option Addr) (l : List (Int × Int × Int)) (hr : Rd w A m 3 (ecs l)) (ll : l.length = m) (hb : w.cell? ⟨bx, 0, none⟩ = some (.slice A m c)) (hbx : bx < w.heap.size) (hne : bx ≠ b) (hA : 0 < m → ∀ a, A = some a → a.block ≠ b)
    (hbl : Blk w b 3 (arr m fun i => i)) (hm : m ≤ 1000000) :
    Calls Tryd.prog 30 #[.slice (some ⟨b, 0, none⟩) m m, .func (.func 31) #[] #[.pointer (some ⟨bx, 0, none⟩)]] w fun e w' => e = .returned (.tuple #[]) ∧ Rd w' (some ⟨b, 0, none⟩) m 1 (nts (ordN l)) ∧ Fr [b] w w' := by
  have eg : ∀ args w, (callFunc 31 args).run Tryd.prog w = .ok (.enter 31 args) w := enters_of Tryd.func31 (by kernel_rfl) rfl
  have hlt := hbl.lt
  rcases Nat.eq_zero_or_pos m with h0 | h0
  · subst h0
    obtain rfl : l = [] := List.eq_nil_of_length_eq_zero ll
    refine (AnyF.slices_SortFunc_none (ρ := sortRen) { sortLays with } _ _ _ w).mono ?_
    rintro e w' ⟨rfl, rfl⟩
    have e : nts (ordN []) = [] := List.eq_nil_of_length_eq_zero (by simp [nts, ordN_len])
    rw [e]
    exact ⟨rfl, Rd.nil, Fr.refl _ _⟩
  · haveI : Inhabited (Fin l.length) := ⟨⟨0, by omega⟩⟩
    have hsz : ((List.finRange l.length).toArray).size = m := by simp [ll]
    have hget : ∀ j, (hj : j < m) → ((List.finRange l.length).toArray)[j]! = ⟨j, by omega⟩ := fun j hj => by
      rw [getElem!_pos _ j (by simp; omega)]
      simp
    have hH : Holds (encF l.length) w b 0 (List.finRange l.length).toArray := fun j hj => by
      rw [hsz] at hj
      rw [Nat.zero_add, hget j hj]
      exact ⟨hbl.int hj, hbl.frozen j⟩
    have hcmp : CmpLays1 Tryd.prog 31 #[.pointer (some ⟨bx, 0, none⟩)] (encF l.length) (cfE l) b 0 ((List.finRange l.length).toArray).size w := fun q os dk hs x y => by
      have hf := sort_fr (encF l.length) w b 0 q dk os hlt
      have hr' : Rd (sortWorld (encF l.length) w b 0 q dk os) A m 3 (ecs l) := ⟨hr.1, fun hm => by
        obtain ⟨b1, o1, e, h1, h2⟩ := hr.2 hm
        refine ⟨b1, o1, e, Nat.lt_of_lt_of_le h1 hf.size, fun j u hu => ?_⟩
        rw [← h2 j u hu]
        exact World.cell?_of_block (hf.block b1 h1 (by simpa using hA h0 _ e))⟩
      have hb' : (sortWorld (encF l.length) w b 0 q dk os).cell? ⟨bx, 0, none⟩ = some (.slice A m c) := by
        rw [← hb]
        exact World.cell?_of_block (hf.block bx hbx (by simpa using hne))
      refine (ordClo _ bx m c A l hr' ll hb' (Nat.lt_of_lt_of_le hbx hf.size) x y).mono ?_
      rintro e w' ⟨rfl, p, o, rfl⟩
      exact ⟨rfl, p, #[o], by rw [alloc_eq_grow]⟩
    have hcon := Any.slices_SortFunc_total sortLays (encF l.length) (fun _ => rfl) (cfE l) (swoE l) 31 #[.pointer (some ⟨bx, 0, none⟩)] b 0 m (List.finRange l.length).toArray w eg hcmp hH hlt (by rw [hsz]; omega) (totE l)
    rw [hsz] at hcon
    refine hcon.mono ?_
    rintro e w' ⟨rfl, n, os, rfl⟩
    have hml : (List.mergeSort (List.finRange l.length).toArray.toList fun x y => !ltOf (cfE l) y x) = ordF l := rfl
    rw [hml]
    have hf := sort_fr (encF l.length) w b 0 n (ordF l).toArray os hlt
    have hl2 : (ordF l).length = m := by unfold ordF; simp [ll]
    have hh := holds_sortWorld (encF l.length) w b 0 n (List.finRange l.length).toArray (ordF l).toArray os hlt hH (by rw [hsz]; simpa using hl2)
    refine ⟨rfl, ⟨by simp [nts, ordN_len, ll], fun _ => ⟨b, 0, rfl, Nat.lt_of_lt_of_le hlt hf.size, fun j u hu => ?_⟩⟩, hf⟩
    rw [nts_ord] at hu
    have hj : j < m := by
      have := (List.getElem?_eq_some_iff.1 hu).1
      simp [hl2] at this; exact this
    rw [(hh j (by simpa [hl2] using hj)).1, ← hu]
    rw [getElem!_pos _ j (by simpa [hl2] using hj)]
    rw [List.getElem?_map, List.getElem?_eq_getElem (by omega)]
    simp
end Go.Proofs.YtoomcgmbaogjbaaDoor
namespace Go.Proofs.YtoomcgmbaogjbaaDoor
open Go.RowKit
set_option linter.unusedVariables false

set_option maxRecDepth 100000 in
set_option maxHeartbeats 4000000 in
theorem kruOrder (w : World) (m c : Nat) (A : Option Addr) (l : List (Int × Int × Int)) (hr : Rd w A m 3 (ecs l)) (ll : l.length = m) (hm : m ≤ 16384) :
    Calls Tryd.prog 16 #[.slice A m c] w fun e w' => ∃ b : Nat, e = .returned (.slice (some ⟨b, 0, none⟩) m m) ∧ w.heap.size ≤ b ∧ Rd w' (some ⟨b, 0, none⟩) m 1 (nts (ordN l)) ∧ Below w.heap.size w w' := by
  obtain ⟨i0, hi, hz0, hz1, hz2⟩ := info_parts int_info0
  have hmk := fun W => run_make_ints 30 3 i0 Tryd.underlying30 hi hz0 hz1 hz2 m (by omega) W
  have hAlt : ∀ a, A = some a → 0 < m → a.block < w.heap.size := fun a e h0 => by
    obtain ⟨b, o, e2, hlt, -⟩ := hr.2 h0
    rw [e] at e2
    injection e2 with e2
    subst e2; exact hlt
  have z0 : arr m (fun _ => 0) = arr m (fil 0) := arr_congr fun i _ => by simp [fil]
  have hb0 : Blk ((w.alloc (.cells #[.slice A m c] 22)).alloc (.cells (arr m (fun _ => 0)) 3)) (w.heap.size + 1) 3 (arr m (fil 0)) := by
    rw [z0]
    have := Blk.new (w.alloc (.cells #[.slice A m c] 22)) 3 (arr m (fil 0))
    rwa [World.size_alloc] at this
  have hx0 : ((w.alloc (.cells #[.slice A m c] 22)).alloc (.cells (arr m (fun _ => 0)) 3)).cell? ⟨w.heap.size, 0, none⟩ = some (.slice A m c) := ((Blk.new w 22 #[.slice A m c]).alloc _).cell 0
  have hB0 : Below w.heap.size w ((w.alloc (.cells #[.slice A m c] 22)).alloc (.cells (arr m (fun _ => 0)) 3)) := ((Below.refl _ w).alloc (Nat.le_refl _) _).alloc (by simp) _
  have HAL := hide hAlt
  have HLL := hide ll
  have HR := hide hr
  have HB0 := hide hb0
  have HX0 := hide hx0
  have HBB := hide hB0
  clear hi hz0 hz1 hz2 hAlt ll hr hb0 hx0 hB0 z0
  go_enter Tryd.func16, Tryd.ntmps16
  go_wp2_with fail
  go_loopg [10] m (fun q v wr => ∃ k : Nat, k + q = m ∧ v = .int .i64 (k : Int) ∧ Blk wr (w.heap.size + 1) 3 (arr m (fil k)) ∧ wr.cell? ⟨w.heap.size, 0, none⟩ = some (.slice A m c) ∧ Below w.heap.size w wr ∧ w.heap.size + 2 ≤ wr.heap.size)
  case atStart => exact ⟨0, by omega, rfl, HB0.out, HX0.out, HBB.out, by simp⟩
  case round =>
    obtain ⟨k, hk, rfl, hb, hx, hbb, hsz⟩ := hrel
    have HK := hide hk
    have HB := hide hb
    have HX := hide hx
    have HBL := hide hbb
    have HSZ := hide hsz
    have hkm : k ≤ m := by omega
    clear hk HB0 HX0 HBB hb hx hbb hsz
    by_cases hlt : k < m
    · have c0 := HB.out.int hlt
      have z0 := HB.out.frozen k
      have hne : w.heap.size ≠ w.heap.size + 1 := by omega
      have hb1 := HB.out.setInt k k
      rw [fil_succ] at hb1
      have hx1 : (wr.setCell ⟨w.heap.size + 1, k, none⟩ (.int .i64 (k : Int))).cell? ⟨w.heap.size, 0, none⟩ = some (.slice A m c) := (cell_far _ _ hne).trans HX.out
      have HB1 := hide hb1
      have HX1 := hide hx1
      have HBL1 := hide (HBL.out.setCell (p := ⟨w.heap.size + 1, k, none⟩) (by show w.heap.size ≤ w.heap.size + 1; omega) (.int .i64 (k : Int)))
      clear hb1 hx1 hne
      go_wp2_with fail
      go_roundg (m - (k + 1))
      case measure => have := HK.out; omega
      case rel => exact ⟨k + 1, by omega, by go_num, HB1.out, HX1.out, HBL1.out, by have := HSZ.out; simp; omega⟩
    · obtain rfl : k = m := by omega
      have hb2 : Blk wr (w.heap.size + 1) 3 (arr k fun i => i) := by
        have := HB.out
        rwa [arr_congr (f := fil k) (h := fun i => i) fun i hi => by simp [fil, hi]] at this
      have HS := hide (kruSort wr w.heap.size (w.heap.size + 1) k c A l (HR.out.keep (Nat.le_refl _) HBL.out) HLL.out HX.out (by have := HSZ.out; omega) (by omega) (fun h0 a e => by have := HAL.out a e h0; omega) hb2 (by omega))
      clear hb2
      go_wp2_with fail
      refine HS.out.mono ?_
      rintro e w2 ⟨rfl, hr2, hf2⟩
      have HR2 := hide hr2
      have HF2 := hide hf2
      clear hr2 hf2
      go_wp2_with fail
      go_ret
      exact ⟨w.heap.size + 1, rfl, by omega, HR2.out, HBL.out.trans (HF2.out.below (by simp) HBL.out.size)⟩
end Go.Proofs.YtoomcgmbaogjbaaDoor
