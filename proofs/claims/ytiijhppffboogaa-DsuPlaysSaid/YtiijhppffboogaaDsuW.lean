/- seepagelaw08: united, works, same, small. -/
import Derived.Test.YtiijhppffboogaaDsuC
import Derived.Test.YtiijhppffboogaaDsuK
import Derived.Test.YtiijhppffboogaaOpen
namespace Go.Proofs.Ytiijhppffboogaa
open Go.RowKit
set_option linter.unusedVariables false

def foldU (n : Nat) (l : List (Int × Int)) (L : Nat → Nat) : Nat → Nat := l.foldl (fun L e => unionL n L e.1 e.2) L
theorem foldU_snoc (n : Nat) (l : List (Int × Int)) (e : Int × Int) (L : Nat → Nat) : foldU n (l ++ [e]) L = unionL n (foldU n l L) e.1 e.2 := by simp [foldU]

theorem Loc.notin {p : Loc} {w : World} {n : Nat} {L : Nat → Nat} (h : Dsu w p n L) {B : Nat} (hp : p.from_ B) : ∀ k ∈ [p.g, p.bu, p.bl, p.bz], B ≤ k := by
  intro k hk
  simp at hk
  rcases hk with rfl | rfl | rfl | rfl
  · exact hp.1
  · exact hp.2.1
  · exact hp.2.2.1
  · exact hp.2.2.2

theorem united_ok (w : World) (n : Nat) (hn : n ≤ 65536) (v : Value) (l : List (Int × Int)) (hl : IsPairs w v l) :
    Calls Try.prog 12 #[.int .i64 (n : Int), v] w fun e w' => ∃ p : Loc, e = .returned (.pointer (some ⟨p.g, 0, none⟩)) ∧ Dsu w' p n (foldU n l (fun i => i)) ∧ Below w.heap.size w w' ∧ p.from_ w.heap.size := by
  obtain ⟨A, m, c, rfl, hm, hlen, hok, hr⟩ := hl
  have hm' : m ≤ 9223372036854775807 := by unfold maxLen at hm; omega
  have HR := hide hr
  have HL := hide hlen
  clear hr hm hlen hok
  go_enter Try.func12, Try.ntmps12
  go_wp2_with fail
  refine (dsuNew_ok w n hn).mono ?_
  rintro e w1 ⟨p, rfl, hd1, hb1, hp1⟩
  go_wp2_with fail
  go_loopg [7] m (fun q v wr => ∃ k : Nat, k + q = m ∧ v = .int .i64 (k : Int) ∧ Dsu wr p n (foldU n (l.take k) (fun i => i)) ∧ Below w.heap.size w wr)
  case atStart => exact ⟨0, by omega, rfl, by simpa [foldU] using hd1, hb1⟩
  case round =>
    obtain ⟨k, hk, rfl, hd, hb⟩ := hrel
    have HK := hide hk
    have hkm : k ≤ m := by omega
    clear hk hd1 hb1
    by_cases hlt : k < m
    · obtain ⟨b, o, rfl, hblt, c0, c1⟩ := HR.out.pair k (by have := HL.out; omega) HL.out
      have hts : l.take (k + 1) = l.take k ++ [l[k]'(by have := HL.out; omega)] := List.take_succ_eq_append_getElem (by have := HL.out; omega)
      generalize l[k]'(by have := HL.out; omega) = e at *
      obtain ⟨x, y⟩ := e
      have d0 : wr.cell? ⟨b, o + k * 2, none⟩ = some (.int .i64 x) := (hb.cell (p := ⟨b, o + k * 2, none⟩) hblt).trans c0
      have d1 : wr.cell? ⟨b, o + k * 2 + 1, none⟩ = some (.int .i64 y) := (hb.cell (p := ⟨b, o + k * 2 + 1, none⟩) hblt).trans c1
      have HT := hide hts
      have HD := hide hd
      have HB := hide hb
      have HC0 := hide c0
      have HC1 := hide c1
      clear c0 c1 hts hd hb
      go_wp2_with fail
      go_region_held3 (fun w' => w'.cell? ⟨b, o + k * 2, none⟩ = some (.int .i64 x) ∧ w'.cell? ⟨b, o + k * 2 + 1, none⟩ = some (.int .i64 y))
        (first
          | exact ⟨d0, d1⟩
          | exact ⟨(hb2.cell (p := ⟨b, o + k * 2, none⟩) hblt).trans HC0.out, (hb2.cell (p := ⟨b, o + k * 2 + 1, none⟩) hblt).trans HC1.out⟩)
        (first
          | (go_at_call 20; refine (dsuUnion _ _ _ _ _ _ (HD.out.drewN 1)).mono ?_; rintro e w2 ⟨rfl, hd2, hfr2⟩; have hb2 : Below w.heap.size w w2 := (HB.out.drewN 1).trans (hfr2.below (Loc.notin (HD.out.drewN 1) hp1) HB.out.size)))
      go_wp2_with fail
      go_roundg (m - (k + 1))
      case measure => have := HK.out; omega
      case rel => exact ⟨k + 1, by omega, by go_num, by rw [HT.out, foldU_snoc]; exact hd2, hb2⟩
    · have hkm' : k = m := by omega
      subst hkm'
      go_wp2_with fail
      go_ret
      rw [List.take_of_length_le (by have := HL.out; omega)] at hd
      exact ⟨p, rfl, hd, hb, hp1⟩

theorem united_no (w : World) (n : Int) (hn : newOk n = false) (v : Value) :
    Calls Try.prog 12 #[.int .i64 n, v] w fun e w' => e = .returned (.pointer none) ∧ w = w' := by
  have HN := hide hn
  clear hn
  go_enter Try.func12, Try.ntmps12
  go_wp2_with fail
  refine (dsuNew_no w n HN.out).mono ?_
  rintro e w1 ⟨rfl, rfl⟩
  go_wp2_with fail
  go_ret
  exact ⟨rfl, rfl⟩

theorem ex_works : unionB 5 (fun i => i) 3 1 = true ∧ unionE 5 3 1 = 0 ∧ unionB 5 (unionL 5 (fun i => i) 3 1) 1 3 = false ∧ unionE 5 1 3 = 0 ∧
    leastV 5 (unionL 5 (unionL 5 (fun i => i) 3 1) 1 3) 3 = 1 ∧ leastE 5 3 = 0 ∧ sets 5 (unionL 5 (unionL 5 (fun i => i) 3 1) 1 3) = 4 ∧ sizeV 5 (unionL 5 (unionL 5 (fun i => i) 3 1) 1 3) 1 = 2 := by decide +kernel

theorem works8 (w : World) : Calls Try.prog 11 #[] w fun e w' => e = .returned (.bool true) ∧ Below w.heap.size w w' := by
  obtain ⟨e1, e2, e3, e4, e5, e6, e7, e8⟩ := ex_works
  have U1 := fun w p h => dsuUnion w 3 1 p 5 (fun i => i) h
  have U2 := fun w p h => dsuUnion w 1 3 p 5 (unionL 5 (fun i => i) 3 1) h
  have K := fun w p h => dsuLeast w 3 p 5 (unionL 5 (unionL 5 (fun i => i) 3 1) 1 3) h
  have C := fun w p h => dsuCount w p 5 (unionL 5 (unionL 5 (fun i => i) 3 1) 1 3) h
  have Z := fun w p h => dsuSize w 1 p 5 (unionL 5 (unionL 5 (fun i => i) 3 1) 1 3) h
  rw [e1, e2] at U1
  rw [e3, e4] at U2
  rw [e5, e6] at K
  rw [e7] at C
  rw [e8] at Z
  generalize unionL 5 (unionL 5 (fun i => i) 3 1) 1 3 = L2 at *
  generalize unionL 5 (fun i => i) 3 1 = L1 at *
  have HU1 := hide U1
  have HU2 := hide U2
  have HK := hide K
  have HC := hide C
  have HZ := hide Z
  clear e1 e2 e3 e4 e5 e6 e7 e8 U1 U2 K C Z
  go_enter Try.func11, Try.ntmps11
  go_wp2_with fail
  refine (dsuNew_ok w 5 (by decide)).mono ?_
  rintro e w1 ⟨p, rfl, hd1, hb1, hp1⟩
  go_wp2_with fail
  refine (HU1.out _ p hd1).mono ?_
  rintro e w2 ⟨rfl, hd2, hf2⟩
  have hb2 := hf2.lift hb1 (Loc.notin hd1 hp1) hb1.size
  go_wp2_with fail
  refine (HU2.out _ p hd2).mono ?_
  rintro e w3 ⟨rfl, hd3, hf3⟩
  have hb3 := hf3.lift hb2 (Loc.notin hd1 hp1) hb2.size
  go_wp2_with fail
  refine (HK.out _ p hd3).mono ?_
  rintro e w4 ⟨rfl, hd4, hf4⟩
  have hb4 := hf4.lift hb3 (by simpa using hp1.2.1) hb3.size
  go_wp2_with fail
  refine (HC.out _ p hd4).mono ?_
  rintro e w5 ⟨rfl, rfl⟩
  go_wp2_with fail
  refine (HZ.out _ p hd4).mono ?_
  rintro e w6 ⟨rfl, hd6, hf6⟩
  have hb6 := hf6.lift hb4 (by simpa using hp1.2.1) hb4.size
  go_wp2_with fail
  go_ret
  exact ⟨rfl, hb6⟩
end Go.Proofs.Ytiijhppffboogaa
