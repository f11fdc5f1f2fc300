/- seepagelaw09: same, add, made. -/
import Derived.Test.YtdhmjdlkaoflnaaUndoF
import Derived.Test.YtdhmjdlkaoflnaaOpenU
import Derived.Test.YtdhmjdlkaoflnaaSetsQ
namespace Go.Proofs.Ytdhmjdlkaoflnaa
open Go.RowKit
set_option linter.unusedVariables false

theorem samei_true (A A' : Option Addr) (n c c' : Nat) (xs : List Int) (W : World) (hA : Rd W A n 1 (is xs)) (hB : Rd W A' n 1 (is xs)) (hn : xs.length = n) (bn : n ≤ 1000000000) :
    Calls Try.prog 18 #[.slice A n c, .slice A' n c'] W fun e W' => e = .returned (.bool true) ∧ ∃ k, W' = W.drewN k := by
  have HA := hide hA
  have HB := hide hB
  have HN := hide hn
  clear hA hB hn
  go_enter Try.func18, Try.ntmps18
  go_wp2
  go_loopg [5] n (fun k i wr => ∃ j : Nat, j + k = n ∧ i = .int .i64 j ∧ ∃ d, wr = W.drewN d)
  case atStart => exact ⟨0, by omega, rfl, 0, rfl⟩
  case round =>
    obtain ⟨j, hj, rfl, d, rfl⟩ := hrel
    have HJ := hide hj
    clear hj
    by_cases hlt : j < n
    · obtain ⟨b, o, rfl, hb, c0⟩ := HA.out.int j (by have := HN.out; omega) HN.out
      obtain ⟨b', o', rfl, hb', c0'⟩ := HB.out.int j (by have := HN.out; omega) HN.out
      generalize xs[j]'(by have := HN.out; omega) = x at *
      go_wp2_with fail
      go_quiet (fail)
      go_wp2_with fail
      go_roundg (n - (j + 1))
      case measure => have := HJ.out; omega
      case rel => exact ⟨j + 1, by omega, by go_num, _, rfl⟩
    · go_wp2_with fail
      go_ret
      exact ⟨rfl, _, rfl⟩

/-! ### Many unions -/
structure HS where
  past : List (Nat → Nat)
  L : Nat → Nat
def stepH (n : Nat) (s : HS) (e : Int × Int) : HS := ⟨pastV n s.past s.L e.1 e.2, unionL n s.L e.1 e.2⟩
def foldH (n : Nat) (l : List (Int × Int)) (s : HS) : HS := l.foldl (stepH n) s
theorem foldH_snoc (n : Nat) (l : List (Int × Int)) (e : Int × Int) (s : HS) : foldH n (l ++ [e]) s = stepH n (foldH n l s) e := by simp [foldH]
theorem foldH_L (n : Nat) (l : List (Int × Int)) (s : HS) : (foldH n l s).L = foldU n l s.L := by
  induction l generalizing s with
  | nil => rfl
  | cons e l ih => exact ih (stepH n s e)
theorem union_cases {n : Nat} (past : List (Nat → Nat)) (L : Nat → Nat) {x y : Int} (hx : inB n x = true) (hy : inB n y = true) :
    unionE n x y = 0 ∧ ((unionB n L x y = true ∧ pastV n past L x y = past ++ [L]) ∨ (unionB n L x y = false ∧ pastV n past L x y = past ∧ unionL n L x y = L)) := by
  refine ⟨by simp [unionE, hx, hy], ?_⟩
  by_cases h : L x.toNat = L y.toNat
  · right
    refine ⟨by simp [unionB, hx, hy, h], by simp [pastV, pastU, hx, hy, h], ?_⟩
    simp only [unionL, hx, hy, h, Bool.and_self, if_true, merge_self]
  · left
    exact ⟨by simp [unionB, hx, hy, h], by simp [pastV, pastU, hx, hy, h]⟩
theorem stepH_ext (n : Nat) (s : HS) (e : Int × Int) : ∃ ext, (stepH n s e).past = s.past ++ ext ∧ (ext = [] → (stepH n s e).L = s.L) ∧ (ext ≠ [] → ext[0]? = some s.L) := by
  cases hx : inB n e.1
  · exact ⟨[], by simp [stepH, pastV, hx], fun _ => by simp [stepH, unionL, hx], fun h => absurd rfl h⟩
  · cases hy : inB n e.2
    · exact ⟨[], by simp [stepH, pastV, hy], fun _ => by simp [stepH, unionL, hy], fun h => absurd rfl h⟩
    · rcases (union_cases s.past s.L hx hy).2 with ⟨_, h⟩ | ⟨_, h, h2⟩
      · exact ⟨[s.L], h, fun h => (by cases h), fun _ => rfl⟩
      · exact ⟨[], by simp [stepH, h], fun _ => h2, fun h => absurd rfl h⟩
/-- Undoing what was added behind a mark. -/
theorem foldH_ext (n : Nat) (l : List (Int × Int)) (s : HS) : ∃ ext, (foldH n l s).past = s.past ++ ext ∧ (ext = [] → (foldH n l s).L = s.L) ∧ (ext ≠ [] → ext[0]? = some s.L) := by
  induction l generalizing s with
  | nil => exact ⟨[], by simp [foldH], fun _ => rfl, fun h => absurd rfl h⟩
  | cons e l ih =>
    obtain ⟨x1, a1, b1, c1⟩ := stepH_ext n s e
    obtain ⟨x2, a2, b2, c2⟩ := ih (stepH n s e)
    refine ⟨x1 ++ x2, by show (foldH n l (stepH n s e)).past = _; rw [a2, a1, List.append_assoc], fun h => ?_, fun h => ?_⟩
    · have h1 : x1 = [] := (List.append_eq_nil_iff.1 h).1
      have h2 : x2 = [] := (List.append_eq_nil_iff.1 h).2
      exact (b2 h2).trans (b1 h1)
    · cases x1 with
      | nil =>
        have h2 : x2 ≠ [] := by simpa using h
        rw [List.nil_append, c2 h2, b1 rfl]
      | cons a x1 => have := c1 (by simp); simpa using this
theorem foldH_back (n : Nat) (l : List (Int × Int)) (s : HS) : (foldH n l s).past.take s.past.length = s.past ∧ atL (foldH n l s).past (foldH n l s).L s.past.length = s.L ∧ s.past.length ≤ (foldH n l s).past.length := by
  obtain ⟨ext, h1, h2, h3⟩ := foldH_ext n l s
  refine ⟨by rw [h1]; simp, ?_, by rw [h1]; simp⟩
  unfold atL
  rw [h1, List.getElem?_append_right (Nat.le_refl _), Nat.sub_self]
  by_cases he : ext = []
  · rw [h2 he, he]; rfl
  · rw [h3 he]; rfl
theorem foldH_zero (n : Nat) (l : List (Int × Int)) (s : HS) (hs : s.past = []) : (foldH n l s).past.take 0 = [] ∧ atL (foldH n l s).past (foldH n l s).L 0 = s.L := by
  have := (foldH_back n l s).2.1
  rw [hs] at this
  exact ⟨rfl, this⟩

/-- The pairs that bytes name. -/
def prs (l : List (Nat × Nat)) : List (Int × Int) := l.map fun e => ((e.1 : Int) % 50, (e.2 : Int) % 50)
theorem prs_len (l : List (Nat × Nat)) : (prs l).length = l.length := by simp [prs]
theorem mod50 (x : Nat) : inB 50 ((x : Int) % 50) = true := by simp [inB]; omega

theorem Fr.trans_new {S S' : List Nat} {w w' w2 : World} (h : Fr S w w') (k : Fr S' w' w2) (hS : ∀ b ∈ S', b ∈ S ∨ w.heap.size ≤ b) : Fr S w w2 :=
  ⟨k.os.trans h.os, k.tape.trans h.tape, k.output.trans h.output, Nat.le_trans h.size k.size, fun i hi hn => (k.block i (Nat.lt_of_lt_of_le hi h.size) (fun hm => by
    rcases hS i hm with h1 | h1
    · exact hn h1
    · omega)).trans (h.block i hi hn)⟩

set_option maxRecDepth 100000 in
set_option maxHeartbeats 8000000 in
theorem add_true (w : World) (p : ULoc) (s : HS) (v : Value) (l : List (Nat × Nat)) (B : Nat) (h : Und w p 50 s.past s.L) (hl : IsPairs8 w v l) (hp : p.from_ B) (hB : ∀ A n c, v = .slice A n c → 0 < n → ∀ ad, A = some ad → ad.block < B) :
    Calls Try.prog 16 #[.pointer (some ⟨p.g, 0, none⟩), v] w
      fun e w' => e = .returned (.bool true) ∧ Und1 w w' p 50 (foldH 50 (prs l) s).past (foldH 50 (prs l) s).L := by
  obtain ⟨A, m, c, rfl, hm, hlen, hok, hr⟩ := hl
  have hm' : m ≤ 9223372036854775807 := by unfold maxLen at hm; omega
  have HBB := hide (hB A m c rfl)
  have HR := hide hr
  have HLn := hide hlen
  have HOK := hide hok
  have H := hide h
  have HP := hide hp
  clear hr hok hlen hm h hp hB
  go_enter Try.func16, Try.ntmps16
  go_wp2_with fail
  go_loopg [5] m (fun q v wr => ∃ (k : Nat) (p' : ULoc), k + q = m ∧ v = .int .i64 (k : Int) ∧ Und wr p' 50 (foldH 50 (prs (l.take k)) s).past (foldH 50 (prs (l.take k)) s).L ∧ Moved w p p' ∧ Fr p.bl w wr)
  case atStart => exact ⟨0, p, by omega, rfl, H.out, Moved.refl _ _, Fr.refl _ _⟩
  case round =>
    obtain ⟨k, p', hk, rfl, hd, hmv, hf⟩ := hrel
    have HK := hide hk
    have hkm : k ≤ m := by omega
    have HD := hide hd
    have HMV := hide hmv
    have HF := hide hf
    clear hk hd hmv hf
    have hpg : p'.g = p.g := HMV.out.g
    by_cases hlt : k < m
    · have hkl : k < l.length := by have := HLn.out; omega
      obtain ⟨b, o, rfl, hblt, c0, c1⟩ := HR.out.pair8 k hkl HLn.out
      have hbB : b < B := HBB.out (by omega) _ rfl
      have hbn : b ∉ p.bl := fun hm => by have := HP.out b hm; omega
      have d0 : wr.cell? ⟨b, o + k * 2, none⟩ = some (.int .u8 (l[k].1 : Int)) := (World.cell?_of_block (HF.out.block b hblt hbn)).trans c0
      have d1 : wr.cell? ⟨b, o + k * 2 + 1, none⟩ = some (.int .u8 (l[k].2 : Int)) := (World.cell?_of_block (HF.out.block b hblt hbn)).trans c1
      have hts : prs (l.take (k + 1)) = prs (l.take k) ++ [((l[k].1 : Int) % 50, (l[k].2 : Int) % 50)] := by
        unfold prs
        rw [List.take_succ_eq_append_getElem hkl, List.map_append]; rfl
      have hok := HOK.out _ (List.getElem_mem hkl)
      generalize l[k] = e at *
      obtain ⟨x, y⟩ := e
      obtain ⟨hx, hy⟩ := hok
      simp only at hx hy d0 d1 hts
      have HTS := hide hts
      generalize hs1 : foldH 50 (prs (l.take k)) s = s1 at *
      have HS1 := hide hs1
      clear hs1
      have U := fun W h => undoUnion W ((x : Int) % 50) ((y : Int) % 50) p' 50 s1.past s1.L h
      have hc := union_cases s1.past s1.L (mod50 x) (mod50 y)
      have hcn := HD.out.cnt
      have hst : stepH 50 s1 ((x : Int) % 50, (y : Int) % 50) = ⟨pastV 50 s1.past s1.L ((x : Int) % 50) ((y : Int) % 50), unionL 50 s1.L ((x : Int) % 50) ((y : Int) % 50)⟩ := rfl
      obtain ⟨hc1, hc⟩ := hc
      generalize unionL 50 s1.L ((x : Int) % 50) ((y : Int) % 50) = L2 at *
      generalize pastV 50 s1.past s1.L ((x : Int) % 50) ((y : Int) % 50) = P2 at *
      generalize unionB 50 s1.L ((x : Int) % 50) ((y : Int) % 50) = u at *
      rw [hc1] at U
      rw [hpg] at U
      have hpl : s1.past.length ≤ 50 := by omega
      have M0 := undoMark wr p' 50 s1.past s1.L HD.out
      rw [hpg] at M0
      have HM0 := hide M0
      have HU := hide U
      have HST := hide hst
      have hx0 : (0 : Int) ≤ (x : Int) := by omega
      have hy0 : (0 : Int) ≤ (y : Int) := by omega
      have hx1 : (x : Int) ≤ 255 := by omega
      have hy1 : (y : Int) ≤ 255 := by omega
      have hr1 : (x : Int).tmod 50 = (x : Int) % 50 := Int.tmod_eq_emod_of_nonneg hx0
      have hr2 : (y : Int).tmod 50 = (y : Int) % 50 := Int.tmod_eq_emod_of_nonneg hy0
      have ht1 : IntKind.i64.wrap ((x : Int) % 50) = (x : Int) % 50 := IntWalk.i64_in _ (by omega)
      have ht2 : IntKind.i64.wrap ((y : Int) % 50) = (y : Int) % 50 := IntWalk.i64_in _ (by omega)
      have hbn2 : b ∉ p'.bl := fun hm => by
        rcases HMV.out.bl b hm with h1 | h1
        · exact hbn h1
        · omega
      have hblt2 : b < wr.heap.size := by have := HF.out.size; omega
      have D0 := hide d0
      have D1 := hide d1
      have HHC := hide hc
      clear c0 c1 hts U hc1 hcn hst M0 hc
      rcases HHC.out with ⟨rfl, rfl⟩ | ⟨rfl, rfl, rfl⟩
      · clear HHC
        go_wp2_with (go_at_call 13; refine HM0.out.mono ?_; rintro e w' ⟨rfl, rfl⟩)
        go_region_held3 (fun w' => w'.cell? ⟨b, o + k * 2, none⟩ = some (.int .u8 (x : Int)) ∧ w'.cell? ⟨b, o + k * 2 + 1, none⟩ = some (.int .u8 (y : Int)))
          (first | exact ⟨d0, d1⟩ | exact ⟨k0, k1⟩)
          (first | (go_at_call 25; refine (HU.out _ (HD.out.drewN 1)).mono ?_; rintro e w3 ⟨rfl, p2, hd2, hm2, hf2⟩; have k0 := (World.cell?_of_block (hf2.block b hblt2 hbn2)).trans D0.out; have k1 := (World.cell?_of_block (hf2.block b hblt2 hbn2)).trans D1.out))
        have M1 := fun W h => undoMark W p2 50 (s1.past ++ [s1.L]) L2 h
        rw [List.length_append] at M1
        have hg2 : p2.g = p.g := hm2.g.trans hpg
        rw [hg2] at M1
        have HM1 := hide (M1 _ hd2)
        have HD2 := hide hd2
        have HM2 := hide hm2
        have HF2 := hide hf2
        clear hd2 hm2 hf2 k0 k1 d0 d1 M1
        go_wp2_with (go_at_call 13; refine HM1.out.mono ?_; rintro e w' ⟨rfl, rfl⟩)
        go_roundg (m - (k + 1))
        case measure => have := HK.out; omega
        case rel =>
          have hs1 : w.heap.size ≤ wr.heap.size := HF.out.size
          refine ⟨k + 1, p2, by omega, by go_num, ?_, HMV.out.trans ⟨HM2.out.g, HM2.out.bl⟩ hs1, HF.out.trans_new ((Fr.refl _ _).drewN 1 |>.trans HF2.out) HMV.out.bl⟩
          rw [HTS.out, foldH_snoc, HS1.out, HST.out]; exact HD2.out
      · clear HHC
        go_wp2_with (go_at_call 13; refine HM0.out.mono ?_; rintro e w' ⟨rfl, rfl⟩)
        go_region_held3 (fun w' => w'.cell? ⟨b, o + k * 2, none⟩ = some (.int .u8 (x : Int)) ∧ w'.cell? ⟨b, o + k * 2 + 1, none⟩ = some (.int .u8 (y : Int)))
          (first | exact ⟨d0, d1⟩ | exact ⟨k0, k1⟩)
          (first | (go_at_call 25; refine (HU.out _ (HD.out.drewN 1)).mono ?_; rintro e w3 ⟨rfl, p2, hd2, hm2, hf2⟩; have k0 := (World.cell?_of_block (hf2.block b hblt2 hbn2)).trans D0.out; have k1 := (World.cell?_of_block (hf2.block b hblt2 hbn2)).trans D1.out))
        have M1 := fun W h => undoMark W p2 50 s1.past s1.L h
        have hg2 : p2.g = p.g := hm2.g.trans hpg
        rw [hg2] at M1
        have HM1 := hide (M1 _ hd2)
        have HD2 := hide hd2
        have HM2 := hide hm2
        have HF2 := hide hf2
        clear hd2 hm2 hf2 k0 k1 d0 d1 M1
        go_wp2_with (go_at_call 13; refine HM1.out.mono ?_; rintro e w' ⟨rfl, rfl⟩)
        go_roundg (m - (k + 1))
        case measure => have := HK.out; omega
        case rel =>
          have hs1 : w.heap.size ≤ wr.heap.size := HF.out.size
          refine ⟨k + 1, p2, by omega, by go_num, ?_, HMV.out.trans ⟨HM2.out.g, HM2.out.bl⟩ hs1, HF.out.trans_new ((Fr.refl _ _).drewN 1 |>.trans HF2.out) HMV.out.bl⟩
          rw [HTS.out, foldH_snoc, HS1.out, HST.out]; exact HD2.out
    · have hkm' : k = m := by omega
      subst hkm'
      go_wp2_with fail
      go_ret
      have e1 : l.take k = l := List.take_of_length_le (by have := HLn.out; omega)
      have hd := HD.out
      rw [e1] at hd
      exact ⟨rfl, p', hd, HMV.out, HF.out⟩
end Go.Proofs.Ytdhmjdlkaoflnaa
