/- graph: valid, N, parts. -/
import Derived.Test.YtoomcgmbaogjbaaGraB
import Derived.Test.YtoomcgmbaogjbaaDsuC
import Derived.Test.YtoomcgmbaogjbaaDsuN
namespace Go.Proofs.Ytoomcgmbaogjbaa
open Go.RowKit
set_option linter.unusedVariables false

theorem gra_info : ∃ i, Try.prog.info? 59 = some i ∧ i.size = 4 := by
  have h : (Try.prog.info? 59).map (·.size) = some 4 := by kernel_rfl
  obtain ⟨i, hi, hz⟩ := Option.map_eq_some_iff.1 h
  exact ⟨i, hi, hz⟩
section
variable {w w' : World} {p : GLoc} {n B : Nat} {l : List (Int × Int × Int)}
theorem Gr.cells (h : Gr w p n B l) : w.cell? ⟨p.g, 0, none⟩ = some (.pointer (some ⟨p.g, 0, none⟩)) ∧ w.cell? ⟨p.g, 1, none⟩ = some (.slice p.A l.length p.c) ∧ w.cell? ⟨p.g, 2, none⟩ = some (.slice (some ⟨p.bs, 0, none⟩) (n + 1) (n + 1)) ∧ w.cell? ⟨p.g, 3, none⟩ = some (.slice (some ⟨p.bl, 0, none⟩) (2 * l.length) (2 * l.length)) := by
  obtain ⟨h1, h2, h3, h4, h5, h6, lst, h7, h8⟩ := h
  exact h8.cells
theorem Gr.ok (h : Gr w p n B l) : GOk n l ∧ n ≤ 4096 ∧ l.length ≤ 16384 := ⟨h.1, h.2.1, h.2.2.1⟩
theorem Gr.rd (h : Gr w p n B l) : Rd w p.A l.length 3 (ecs l) := by
  obtain ⟨h1, h2, h3, h4, h5, h6, lst, h7, h8⟩ := h
  exact h8.rd
theorem Gr.lt (h : Gr w p n B l) : p.g < w.heap.size := by
  obtain ⟨h1, h2, h3, h4, h5, h6, lst, h7, h8⟩ := h
  exact h8.hg.lt
end
theorem graValid (w : World) (p : GLoc) (n B : Nat) (l : List (Int × Int × Int)) (h : Gr w p n B l) :
    Calls Try.prog 31 #[.pointer (some ⟨p.g, 0, none⟩)] w fun e w' => e = .returned (.bool true) ∧ w = w' := by
  obtain ⟨c0, _⟩ := h.cells
  obtain ⟨i, hi, _⟩ := gra_info
  have he := fun W => run_eql_ptr_same (P := Try.prog) W ⟨p.g, 0, none⟩ Try.underlying33 hi
  clear h
  go_enter Try.func31, Try.ntmps31
  go_wp2
  go_ret
  exact ⟨rfl, rfl⟩
theorem graN (w : World) (p : GLoc) (n B : Nat) (l : List (Int × Int × Int)) (h : Gr w p n B l) :
    Calls Try.prog 33 #[.pointer (some ⟨p.g, 0, none⟩)] w fun e w' => e = .returned (.int .i64 (n : Int)) ∧ w = w' := by
  have V := hide (graValid w p n B l h)
  obtain ⟨_, _, c2, _⟩ := h.cells
  have nb := h.ok.2.1
  clear h
  go_enter Try.func33, Try.ntmps33
  go_wp2_with (go_at_call 31; refine V.out.mono ?_; rintro e w' ⟨rfl, rfl⟩)
  go_ret
  exact ⟨ret_int (by omega), rfl⟩
set_option maxRecDepth 100000 in
set_option maxHeartbeats 8000000 in
theorem graParts (w : World) (p : GLoc) (n B : Nat) (l : List (Int × Int × Int)) (h : Gr w p n B l) :
    Calls Try.prog 23 #[.pointer (some ⟨p.g, 0, none⟩)] w
      fun e w' => ∃ q : Loc, e = .returned (.pointer (some ⟨q.g, 0, none⟩)) ∧ Dsu w' q n (gLb n l) ∧ Below w.heap.size w w' ∧ q.from_ w.heap.size := by
  have V := hide (graValid w p n B l h)
  have VN := hide (graN w p n B l h)
  obtain ⟨hok, hn, hm⟩ := h.ok
  have HOK := hide hok
  have HR := hide h.rd
  obtain ⟨_, c1, _⟩ := h.cells
  have hlt := h.lt
  clear h hok
  generalize p.A = A at *
  go_enter Try.func23, Try.ntmps23
  go_wp2_with (go_at_call 31; refine V.out.mono ?_; rintro e w' ⟨rfl, rfl⟩)
  refine VN.out.mono ?_
  rintro e w' ⟨rfl, rfl⟩
  go_wp2_with fail
  refine (dsuNew_ok _ n (by omega)).mono ?_
  rintro e w1 ⟨q, rfl, hD, hB, hq⟩
  have c1' : w1.cell? ⟨p.g, 1, none⟩ = some (.slice A l.length p.c) := (hB.cell (p := ⟨p.g, 1, none⟩) hlt).trans c1
  have HD := hide hD
  have HB := hide hB
  have HQ := hide hq
  clear hD hB hq c1
  go_wp2_with fail
  have c1 := c1'
  generalize hmm : l.length = m at *
  have HM := hide hmm
  clear hmm c1 c1'
  go_loopg [21] m (fun g s wr => ∃ k : Nat, k + g = m ∧ s = .int .i64 (k : Int) ∧ Dsu wr q n (gLb n (l.take k)) ∧ Below w.heap.size w wr)
  case atStart => exact ⟨0, by omega, rfl, HD.out, HB.out⟩
  case round =>
    obtain ⟨k, hk, rfl, hd, hb⟩ := hrel
    have HK := hide hk
    have hkm : k ≤ m := by omega
    have HD2 := hide hd
    have HB2 := hide hb
    clear hk hd hb HD HB
    by_cases hlt2 : k < m
    · have hkl : k < l.length := by rw [HM.out]; exact hlt2
      obtain ⟨b, o, rfl, hbl, e0, e1, e2⟩ := (HR.out.keep (Nat.le_refl _) HB2.out).edge k hkl HM.out
      have htk : l.take (k + 1) = l.take k ++ [l[k]] := List.take_succ_eq_append_getElem hkl
      have HTK : Hid (gLb n (l.take (k + 1)) = unionL n (gLb n (l.take k)) l[k].1 l[k].2.1) := by show _ = _; rw [htk, gLb_snoc]
      generalize l[k] = ed at *
      obtain ⟨u, v, t⟩ := ed
      simp only at e0 e1 e2 HTK
      clear htk
      obtain ⟨wo, rfl⟩ : ∃ wo : World, wo = wr := ⟨_, rfl⟩
      go_wp2_with fail
      have hX := Blk.new wo 40 #[.int .i64 u, .int .i64 v, .int .i64 t]
      have hd1 := HD2.out.fresh ((Below.refl _ _).alloc (Nat.le_refl _) (.cells #[.int .i64 u, .int .i64 v, .int .i64 t] 40))
      have hb1 := HB2.out.alloc HB2.out.size (.cells #[.int .i64 u, .int .i64 v, .int .i64 t] 40)
      have HD3 := hide hd1
      have HB3 := hide hb1
      clear hX hd1 hb1
      refine (dsuUnion _ u v q n _ HD3.out).mono ?_
      rintro e w3 ⟨rfl, hd3, hf3⟩
      have hQ := HQ.out
      have HB4 := hide (hf3.lift HB3.out (by intro k hk; simp at hk; unfold Loc.from_ at hQ; omega) HB3.out.size)
      have HD4 := hide hd3
      clear hd3 hf3 hQ
      go_wp2_with fail
      go_roundg (m - (k + 1))
      case measure => have := HK.out; omega
      case rel => exact ⟨k + 1, by omega, by go_num, by rw [HTK.out]; exact HD4.out, HB4.out⟩
    · go_wp2_with fail
      go_ret
      have e : l.take k = l := List.take_of_length_le (by rw [HM.out]; omega)
      have h5 := HD2.out
      rw [e] at h5
      exact ⟨q, rfl, h5, HB2.out, HQ.out⟩
end Go.Proofs.Ytoomcgmbaogjbaa
