/- dsu.Sets in memory; valid, has, root. -/
import Derived.Test.YtoomcgmbaogjbaaDoorRows
import Derived.Test.YtoomcgmbaogjbaaDoorForest
import Derived.LaidEqlPtr
import Derived.Laws.Pointers
namespace Go.Proofs.YtoomcgmbaogjbaaDoor
open Go.RowKit
set_option linter.unusedVariables false

/-- Where sets lie: the struct, its three lists, their capacities and what lies behind their elements. -/
structure Loc where
  g : Nat
  bu : Nat
  bl : Nat
  bz : Nat
  cu : Nat
  cl : Nat
  cz : Nat
  ru : Array Value
  rl : Array Value
  rz : Array Value

def dsHead (p : Loc) (n cnt : Nat) : Array Value :=
  #[.pointer (some ⟨p.g, 0, none⟩), .slice (some ⟨p.bu, 0, none⟩) n p.cu, .slice (some ⟨p.bl, 0, none⟩) n p.cl, .slice (some ⟨p.bz, 0, none⟩) n p.cz, .int .i64 (cnt : Int)]

/-- The sets in memory: the struct, and its three lists. -/
structure DS (w : World) (p : Loc) (n : Nat) (up least size : Nat → Nat) (cnt : Nat) : Prop where
  hg : Blk w p.g 91 (dsHead p n cnt)
  hu : Blk w p.bu 3 (arx n up p.ru)
  hl : Blk w p.bl 3 (arx n least p.rl)
  hz : Blk w p.bz 3 (arx n size p.rz)
  ul : p.bu ≠ p.bl
  uz : p.bu ≠ p.bz
  lz : p.bl ≠ p.bz
  nb : n ≤ 65536

section
variable {w w' : World} {p : Loc} {n cnt : Nat} {up least size : Nat → Nat}
theorem DS.gu (h : DS w p n up least size cnt) : p.g ≠ p.bu := h.hg.ne_ h.hu (by decide)
theorem DS.gl (h : DS w p n up least size cnt) : p.g ≠ p.bl := h.hg.ne_ h.hl (by decide)
theorem DS.gz (h : DS w p n up least size cnt) : p.g ≠ p.bz := h.hg.ne_ h.hz (by decide)
theorem DS.c0 (h : DS w p n up least size cnt) : w.cell? ⟨p.g, 0, none⟩ = some (.pointer (some ⟨p.g, 0, none⟩)) := by rw [h.hg.cell]; rfl
theorem DS.c1 (h : DS w p n up least size cnt) : w.cell? ⟨p.g, 1, none⟩ = some (.slice (some ⟨p.bu, 0, none⟩) n p.cu) := by rw [h.hg.cell]; rfl
theorem DS.c2 (h : DS w p n up least size cnt) : w.cell? ⟨p.g, 2, none⟩ = some (.slice (some ⟨p.bl, 0, none⟩) n p.cl) := by rw [h.hg.cell]; rfl
theorem DS.c3 (h : DS w p n up least size cnt) : w.cell? ⟨p.g, 3, none⟩ = some (.slice (some ⟨p.bz, 0, none⟩) n p.cz) := by rw [h.hg.cell]; rfl
theorem DS.c4 (h : DS w p n up least size cnt) : w.cell? ⟨p.g, 4, none⟩ = some (.int .i64 (cnt : Int)) := by rw [h.hg.cell]; rfl
theorem DS.drewN (h : DS w p n up least size cnt) (k : Nat) : DS (w.drewN k) p n up least size cnt := ⟨h.hg, h.hu, h.hl, h.hz, h.ul, h.uz, h.lz, h.nb⟩
theorem DS.drew (h : DS w p n up least size cnt) : DS w.drew p n up least size cnt := ⟨h.hg, h.hu, h.hl, h.hz, h.ul, h.uz, h.lz, h.nb⟩
theorem DS.fr {S : List Nat} (h : DS w p n up least size cnt) (k : Fr S w w') (hS : p.g ∉ S ∧ p.bu ∉ S ∧ p.bl ∉ S ∧ p.bz ∉ S) : DS w' p n up least size cnt :=
  ⟨h.hg.fr k hS.1, h.hu.fr k hS.2.1, h.hl.fr k hS.2.2.1, h.hz.fr k hS.2.2.2, h.ul, h.uz, h.lz, h.nb⟩
theorem DS.setUp (h : DS w p n up least size cnt) {i : Nat} (v : Nat) (hi : i < n) : DS (w.setCell ⟨p.bu, i, none⟩ (.int .i64 (v : Int))) p n (upd up i v) least size cnt :=
  ⟨h.hg.far (p := ⟨p.bu, i, none⟩) h.gu _, h.hu.setIntx v hi, h.hl.far (p := ⟨p.bu, i, none⟩) h.ul.symm _, h.hz.far (p := ⟨p.bu, i, none⟩) h.uz.symm _, h.ul, h.uz, h.lz, h.nb⟩
theorem DS.setLeast (h : DS w p n up least size cnt) {i : Nat} (v : Nat) (hi : i < n) : DS (w.setCell ⟨p.bl, i, none⟩ (.int .i64 (v : Int))) p n up (upd least i v) size cnt :=
  ⟨h.hg.far (p := ⟨p.bl, i, none⟩) h.gl _, h.hu.far (p := ⟨p.bl, i, none⟩) h.ul _, h.hl.setIntx v hi, h.hz.far (p := ⟨p.bl, i, none⟩) h.lz.symm _, h.ul, h.uz, h.lz, h.nb⟩
theorem DS.setSize (h : DS w p n up least size cnt) {i : Nat} (v : Nat) (hi : i < n) : DS (w.setCell ⟨p.bz, i, none⟩ (.int .i64 (v : Int))) p n up least (upd size i v) cnt :=
  ⟨h.hg.far (p := ⟨p.bz, i, none⟩) h.gz _, h.hu.far (p := ⟨p.bz, i, none⟩) h.uz _, h.hl.far (p := ⟨p.bz, i, none⟩) h.lz _, h.hz.setIntx v hi, h.ul, h.uz, h.lz, h.nb⟩
theorem DS.setCnt (h : DS w p n up least size cnt) (v : Nat) : DS (w.setCell ⟨p.g, 4, none⟩ (.int .i64 (v : Int))) p n up least size v :=
  ⟨by have := h.hg.set_ 4 (.int .i64 (v : Int)); exact this, h.hu.far (p := ⟨p.g, 4, none⟩) h.gu.symm _, h.hl.far (p := ⟨p.g, 4, none⟩) h.gl.symm _, h.hz.far (p := ⟨p.g, 4, none⟩) h.gz.symm _, h.ul, h.uz, h.lz, h.nb⟩
end

theorem dsu_info : ∃ i, Tryd.prog.info? 91 = some i ∧ i.size = 5 := by
  have h : (Tryd.prog.info? 91).map (·.size) = some 5 := by kernel_rfl
  obtain ⟨i, hi, hz⟩ := Option.map_eq_some_iff.1 h
  exact ⟨i, hi, hz⟩

theorem dsuValid0 (w : World) (p : Loc) (n cnt : Nat) (up least size : Nat → Nat) (h : DS w p n up least size cnt) :
    Calls Tryd.prog 35 #[.pointer (some ⟨p.g, 0, none⟩)] w fun e w' => e = .returned (.bool true) ∧ w = w' := by
  have c0 := h.c0
  obtain ⟨i, hi, _⟩ := dsu_info
  have he := fun W => run_eql_ptr_same (P := Tryd.prog) W ⟨p.g, 0, none⟩ Tryd.underlying63 hi
  go_enter Tryd.func35, Tryd.ntmps35
  go_wp2
  go_ret
  exact ⟨rfl, rfl⟩

theorem dsuHas0 (w : World) (a : Int) (p : Loc) (n cnt : Nat) (up least size : Nat → Nat) (h : DS w p n up least size cnt) :
    Calls Tryd.prog 36 #[.pointer (some ⟨p.g, 0, none⟩), .int .i64 a] w fun e w' => e = .returned (.bool (decide (0 ≤ a ∧ a < n))) ∧ w = w' := by
  have c1 := h.c1
  have nb := h.nb
  have HD := hide h
  clear h
  by_cases h0 : 0 ≤ a
  · go_enter Tryd.func36, Tryd.ntmps36
    go_wp2_with (go_at_call 35; refine (dsuValid0 _ _ _ _ _ _ _ HD.out).mono ?_; rintro e w' ⟨rfl, rfl⟩)
    go_ret
    exact ⟨ret_bool (by simp [h0]), rfl⟩
  · go_enter Tryd.func36, Tryd.ntmps36
    go_wp2_with (go_at_call 35; refine (dsuValid0 _ _ _ _ _ _ _ HD.out).mono ?_; rintro e w' ⟨rfl, rfl⟩)
    go_ret
    exact ⟨ret_bool (by symm; simp; omega), rfl⟩

theorem dsuRoot (w : World) (a : Nat) (p : Loc) (n cnt M : Nat) (up least size rep ρ : Nat → Nat) (h : DS w p n up least size cnt) (hf : Forest n up rep ρ M) (ha : a < n) :
    Calls Tryd.prog 37 #[.pointer (some ⟨p.g, 0, none⟩), .int .i64 (a : Int)] w fun e w' => e = .returned (.int .i64 (rep a : Int)) ∧ ∃ up', DS w' p n up' least size cnt ∧ Forest n up' rep ρ M ∧ Fr [p.bu] w w' := by
  have nb := h.nb
  have gu := h.gu
  have gu' := gu.symm
  have H := hide h
  have HF := hide hf
  clear h hf
  go_enter Tryd.func37, Tryd.ntmps37
  go_wp2_with fail
  go_step3
  go_wp2_with fail
  go_step3
  go_wp2_with fail
  go_loopg [1] (M - ρ a) (fun k v wr => ∃ (x : Nat) (up' : Nat → Nat), x < n ∧ v = .int .i64 (x : Int) ∧ rep x = rep a ∧ M - ρ x ≤ k ∧ DS wr p n up' least size cnt ∧ Forest n up' rep ρ M ∧ Fr [p.bu] w wr)
  case atStart => exact ⟨a, up, ha, rfl, rfl, Nat.le_refl _, H.out, HF.out, Fr.refl _ _⟩
  case round =>
    obtain ⟨x, up', hx, rfl, hrep, hk, hd, hf, hfr⟩ := hrel
    have HR := hide hrep
    have hp := hf.up_lt x hx
    have hpp := hf.up_lt _ hp
    have c1 := hd.c1
    have cx := hd.hu.intx hx
    have cp := hd.hu.intx hp
    have fz := hd.hu.frozen x
    have HD := hide hd
    have HF2 := hide hf
    have HFR := hide hfr
    clear hrep hd hf hfr ha
    by_cases he : up' x = x
    · have he' : ((up' x : Int) == (x : Int)) = true := by simp [he]
      have HE := hide he
      clear he
      go_wp2_with fail
      rw [Exit.noGoto_ret]
      go_ret
      exact ⟨ret_int (by rw [← HR.out, HF2.out.root x hx HE.out]), up', HD.out, HF2.out, HFR.out⟩
    · have he' : ((up' x : Int) == (x : Int)) = false := by simpa using fun e : (up' x : Int) = (x : Int) => he (by omega)
      have HE := hide he
      clear he
      go_wp2_with fail
      go_region
      all_goals go_wp2_with fail
      go_roundg (M - ρ (up' (up' x)))
      case measure =>
        have r1 := HF2.out.rank x hx
        have r2 := HF2.out.rank _ hp
        have r3 := HF2.out.rank _ hpp
        have h1 := r1.2 HE.out
        by_cases e : up' (up' x) = up' x
        · rw [e]; omega
        · have h2 := r2.2 e; omega
      case rel =>
        refine ⟨up' (up' x), upd up' x (up' (up' x)), hpp, rfl, ?_, Nat.le_refl _, (HD.out.setUp (up' (up' x)) hx).drew, HF2.out.halve hx HE.out, ((HFR.out.setCell (p := ⟨p.bu, x, none⟩) (.inl (by simp)) _).drew)⟩
        rw [HF2.out.rep_up _ hp, HF2.out.rep_up x hx]; exact HR.out
end Go.Proofs.YtoomcgmbaogjbaaDoor
