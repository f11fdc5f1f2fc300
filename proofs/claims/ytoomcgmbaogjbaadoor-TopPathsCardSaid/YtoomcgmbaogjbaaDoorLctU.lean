/- lct: lead, path, valid, has, check, Connected. lct: path, Min, Set, Link. lct: Link, New. lct: New. -/
import Derived.Test.YtoomcgmbaogjbaaDoorLctK
import Derived.LaidEqlPtr
import Derived.Laws.Pointers
import Derived.Laws.MakeOwn
namespace Go.Proofs.YtoomcgmbaogjbaaDoor
open Go.RowKit
set_option linter.unusedVariables false

/-- A forest with the edges E. -/
def LfE (w : World) (l : LLoc) (N : Nat) (M : LM) (E : Nat → Nat → Prop) : Prop := Lf w l N M ∧ ∃ par sq, Lct N M par sq ∧ ∀ x y, Adj par x y ↔ E x y
/-- A label that is constant along the edges. -/
def ELab (E : Nat → Nat → Prop) (lab : Nat → Nat) : Prop := ∀ x y, E x y → lab x = lab y
theorem cst_of {par lab : Nat → Nat} {E : Nat → Nat → Prop} (h0 : par 0 = 0) (hE : ∀ x y, Adj par x y ↔ E x y) : Cst par lab ↔ ELab E lab := by
  rw [cst_adj h0]
  exact ⟨fun h x y e => h x y ((hE x y).2 e), fun h x y e => h x y ((hE x y).1 e)⟩

set_option maxRecDepth 100000 in
theorem lctLead (w : World) (l : LLoc) (N : Nat) (M : LM) (sq : Nat → List Nat) (par : Nat → Nat) (i : Nat) (h : Lf w l N M) (hq : Lct N M par sq) (i1 : 1 ≤ i) (i2 : i ≤ N) :
    Calls Tryd.prog 22 #[.pointer (some ⟨l.g, 0, none⟩), .int .i64 (i : Int)] w fun e w' => e = .returned (.tuple #[]) ∧ ∃ M' par' sq', Lf w' l N M' ∧ Lct N M' par' sq' ∧ M'.key = M.key ∧ M'.up i = 0 ∧ (∃ T, sq' i = i :: T) ∧ par' i = 0 ∧ (∀ x y, Adj par' x y ↔ Adj par x y) ∧ Fr [l.b] w w' := by
  have HE := hide (lctExpose w l N M sq par i h hq i1 i2)
  have bi : (i : Int) < ((N + 1 : Nat) : Int) := by omega
  clear h hq
  go_enter Tryd.func22, Tryd.ntmps22
  go_wp2_with fail
  refine HE.out.mono ?_
  rintro e w1 ⟨b, rfl, M1, sq1, hl1, hx, hf1⟩
  have c1 := hl1.c1
  have c3 := hl1.fl i2
  have z3 := hl1.frz (i * 9 + 3)
  have H2 := hide (hl1.setFl i2 true)
  have HF2 := hide (hf1.setCell (p := ⟨l.b, i * 9 + 3, none⟩) (.inl (by simp)) (.bool true))
  obtain ⟨A, hA⟩ := hx.en
  have HL := hide (lead_law (M' := M1.setFl i true) hx.l i1 i2 hx.nk hx.u0 hx.fl hA ⟨fun _ _ _ => rfl, rfl, fun _ => rfl, rfl, rfl⟩)
  have HKEY := hide hx.key
  clear hl1 hx hf1 hA
  go_wp2_with fail
  go_end0
  obtain ⟨l1, -, l3, l4, l5, l6⟩ := HL.out
  exact ⟨rfl, _, _, _, H2.out, l1, HKEY.out, l3, ⟨_, l4⟩, l5, l6, HF2.out⟩

theorem lf_info : ∃ i, Tryd.prog.info? 71 = some i ∧ i.size = 3 := by
  have h : (Tryd.prog.info? 71).map (·.size) = some 3 := by kernel_rfl
  obtain ⟨i, hi, hz⟩ := Option.map_eq_some_iff.1 h
  exact ⟨i, hi, hz⟩
set_option maxRecDepth 100000 in
theorem lctValid (w : World) (l : LLoc) (N : Nat) (M : LM) (h : Lf w l N M) : Calls Tryd.prog 39 #[.pointer (some ⟨l.g, 0, none⟩)] w fun e w' => e = .returned (.bool true) ∧ w = w' := by
  have c0 := h.c0
  obtain ⟨i, hi, _⟩ := lf_info
  have he := fun W => run_eql_ptr_same (P := Tryd.prog) W ⟨l.g, 0, none⟩ Tryd.underlying33 hi
  clear h
  go_enter Tryd.func39, Tryd.ntmps39
  go_wp2_with fail
  go_ret
  exact ⟨rfl, rfl⟩
set_option maxRecDepth 100000 in
theorem lctHas (w : World) (l : LLoc) (N : Nat) (M : LM) (v : Nat) (h : Lf w l N M) (hv : v < N) : Calls Tryd.prog 40 #[.pointer (some ⟨l.g, 0, none⟩), .int .i64 (v : Int)] w fun e w' => e = .returned (.bool true) ∧ w = w' := by
  have HV := hide (lctValid w l N M h)
  have c1 := h.c1
  have hN := h.nb
  have b1 : (v : Int) < (N : Int) := by omega
  have b0 : (0 : Int) ≤ (v : Int) := by omega
  have e1 : IntKind.i64.wrap (((N + 1 : Nat) : Int) - 1) = (N : Int) := by rw [IntWalk.i64_in _ (by omega)]; omega
  have e2 : IntKind.i64.wrap ((N : Int) + 1 - 1) = (N : Int) := by rw [IntWalk.i64_in _ (by omega)]; omega
  clear h
  go_enter Tryd.func40, Tryd.ntmps40
  go_wp2_with fail
  refine HV.out.mono ?_
  rintro e w1 ⟨rfl, rfl⟩
  go_wp2_with fail
  go_ret
  exact ⟨rfl, rfl⟩
set_option maxRecDepth 100000 in
theorem lctCheck (w : World) (l : LLoc) (N : Nat) (M : LM) (vs : List Nat) (A : Option Addr) (m c : Nat) (h : Lf w l N M) (hm : vs.length = m) (hm2 : m ≤ 100) (hA : Rd w A m 1 (nts vs)) (hv : ∀ v ∈ vs, v < N) :
    Calls Tryd.prog 19 #[.pointer (some ⟨l.g, 0, none⟩), .slice A m c] w fun e w' => e = .returned (.int .i64 0) ∧ w = w' := by
  have HV := hide (lctValid w l N M h)
  have HH := hide fun v hv => lctHas w l N M v h hv
  have HM := hide hm
  have HA := hide hA
  have HVS := hide hv
  clear h hm hA hv
  go_enter Tryd.func19, Tryd.ntmps19
  go_wp2_with fail
  refine HV.out.mono ?_
  rintro e w1 ⟨rfl, rfl⟩
  go_wp2_with fail
  go_loopg [12] m (fun gh s wr => ∃ k : Nat, k + gh = m ∧ s = .int .i64 (k : Int) ∧ wr = w)
  case atStart => exact ⟨0, by omega, rfl, rfl⟩
  case round =>
    obtain ⟨k, hk, rfl, rfl⟩ := hrel
    have HK := hide hk
    have hkm : k ≤ m := by omega
    clear hk
    by_cases hlt : k < m
    · have hkl : k < vs.length := by rw [HM.out]; exact hlt
      obtain ⟨b, o, rfl, hbl, hc⟩ : ∃ b o, A = some ⟨b, o, none⟩ ∧ b < wr.heap.size ∧ wr.cell? ⟨b, o + k, none⟩ = some (.int .i64 (vs[k] : Int)) := by
        obtain ⟨b, o, h1, h2, h3⟩ := HA.out.2 (by omega)
        exact ⟨b, o, h1, h2, h3 k _ (by simp [nts, hkl])⟩
      have HC := hide (HH.out _ (HVS.out _ (List.getElem_mem hkl)))
      generalize vs[k] = x at *
      go_wp2_with fail
      refine HC.out.mono ?_
      rintro e w1 ⟨rfl, rfl⟩
      go_wp2_with fail
      go_roundg (m - (k + 1))
      case measure => have := HK.out; omega
      case rel => exact ⟨k + 1, by omega, by go_num, rfl⟩
    · obtain rfl : k = m := by omega
      go_wp2_with fail
      go_ret
      exact ⟨rfl, rfl⟩
/-- Two exposed one behind the other: what Connected looks at. -/
theorem lctConn {b : Bool} (w : World) (l : LLoc) (N : Nat) (M : LM) (E : Nat → Nat → Prop) (u v : Nat) (h : LfE w l N M E) (hu : u < N) (hv : v < N) (huv : u ≠ v)
    (hb : (b = false ∧ ∃ lab, ELab E lab ∧ lab (u + 1) ≠ lab (v + 1)) ∨ (b = true ∧ ∀ lab, ELab E lab → lab (u + 1) = lab (v + 1))) :
    Calls Tryd.prog 21 #[.pointer (some ⟨l.g, 0, none⟩), .int .i64 (u : Int), .int .i64 (v : Int)] w fun e w' => e = .returned (.bool b) ∧ ∃ M', LfE w' l N M' E ∧ M'.key = M.key ∧ Fr [l.b] w w' := by
  obtain ⟨hl, par, sq, hq, hE⟩ := h
  have hN := hl.nb
  have HH1 := hide (lctHas w l N M u hl hu)
  have HH2 := hide (lctHas w l N M v hl hv)
  have HX := hide (lctExpose w l N M sq par (u + 1) hl hq (by omega) (by omega))
  have HB := hide hb
  have HE := hide hE
  have e1 : IntKind.i64.wrap ((u : Int) + 1) = ((u + 1 : Nat) : Int) := by rw [IntWalk.i64_in _ (by omega)]; omega
  have e2 : IntKind.i64.wrap ((v : Int) + 1) = ((v + 1 : Nat) : Int) := by rw [IntWalk.i64_in _ (by omega)]; omega
  have huv' : ¬ (u : Int) = (v : Int) := by omega
  have bu : ((u + 1 : Nat) : Int) < ((N + 1 : Nat) : Int) := by omega
  have bu2 : (u : Int) + 1 < (N : Int) + 1 := by omega
  have h00 : par 0 = 0 := hq.ac.1
  clear hl hq hE hb
  go_enter Tryd.func21, Tryd.ntmps21
  go_wp2_with fail
  refine HH1.out.mono ?_
  rintro e wx ⟨rfl, rfl⟩
  go_wp2_with fail
  refine HH2.out.mono ?_
  rintro e wx ⟨rfl, rfl⟩
  go_wp2_with fail
  refine HX.out.mono ?_
  rintro e w1 ⟨b1, rfl, M1, sq1, hl1, hx1, hf1⟩
  have HX2 := hide (lctExpose w1 l N M1 sq1 par (v + 1) hl1 hx1.l (by omega) (by omega))
  have HX1 := hide hx1
  have HF1 := hide hf1
  clear hl1 hx1 hf1
  go_wp2_with fail
  refine HX2.out.mono ?_
  rintro e w2 ⟨b2, rfl, M2, sq2, hl2, hx2, hf2⟩
  have c1 := hl2.c1
  have cu := hl2.up (i := u + 1) (by omega)
  have hup : (M2.up (u + 1) ≠ 0 ∧ b = true) ∨ (M2.up (u + 1) = 0 ∧ b = false) := by
    rcases HB.out with ⟨rfl, lab, hlab, hne⟩ | ⟨rfl, hc⟩
    · refine .inr ⟨?_, rfl⟩
      have := (hx2.fr lab ((cst_of h00 HE.out).2 hlab) (u + 1) hne).up
      rw [this, HX1.out.u0]
    · exact .inl ⟨conn_up hx2.l (by omega) (by omega) (by omega) (by omega) (by omega) hx2.nk hx2.u0 (fun lab hl => hc lab ((cst_of h00 HE.out).1 hl)), rfl⟩
  have HL2 := hide hl2
  have HX3 := hide hx2
  have HF2 := hide (HF1.out.trans hf2)
  clear hl2 hx2 hf2
  generalize M2.up (u + 1) = x at *
  rcases hup with ⟨hx, rfl⟩ | ⟨rfl, rfl⟩
  · have hx' : ¬ (x : Int) = 0 := by omega
    go_wp2_with fail
    go_ret
    refine ⟨?_, M2, ⟨HL2.out, par, sq2, HX3.out.l, HE.out⟩, by rw [HX3.out.key, HX1.out.key], HF2.out⟩
    simpa using hx
  · go_wp2_with fail
    go_ret
    exact ⟨rfl, M2, ⟨HL2.out, par, sq2, HX3.out.l, HE.out⟩, by rw [HX3.out.key, HX1.out.key], HF2.out⟩
end Go.Proofs.YtoomcgmbaogjbaaDoor
namespace Go.Proofs.YtoomcgmbaogjbaaDoor
open Go.RowKit
set_option linter.unusedVariables false

/-- What Min finds: the first one of a path. -/
def MinAt (E : Nat → Nat → Prop) (key : Nat → Int) (a b x : Nat) : Prop := ∃ P : List Nat, (∃ T, P = a :: T) ∧ (∃ A, P = A ++ [b]) ∧ P.Nodup ∧ (∀ x y, Cns P x y → E x y) ∧ Fst key x P
set_option maxRecDepth 100000 in
theorem lctMin_no (w : World) (l : LLoc) (N : Nat) (M : LM) (E : Nat → Nat → Prop) (u v : Nat) (h : LfE w l N M E) (hu : u < N) (hv : v < N) (huv : u ≠ v) (hb : ∃ lab, ELab E lab ∧ lab (u + 1) ≠ lab (v + 1)) :
    Calls Tryd.prog 11 #[.pointer (some ⟨l.g, 0, none⟩), .int .i64 (u : Int), .int .i64 (v : Int)] w fun e w' => e = .returned (.tuple #[.int .i64 0, .bool false]) ∧ Fr [l.b] w w' := by
  have HC := hide (lctConn (b := false) w l N M E u v h hu hv huv (.inl ⟨rfl, hb⟩))
  clear h hb
  go_enter Tryd.func11, Tryd.ntmps11
  go_wp2_with fail
  refine HC.out.mono ?_
  rintro e w1 ⟨rfl, M1, -, -, hf⟩
  have HF := hide hf
  clear hf
  go_wp2_with fail
  go_ret2
  exact ⟨rfl, HF.out⟩
set_option maxRecDepth 100000 in
theorem lctPath (w : World) (l : LLoc) (N : Nat) (M : LM) (E : Nat → Nat → Prop) (a b : Nat) (h : LfE w l N M E) (a1 : 1 ≤ a) (a2 : a ≤ N) (b1 : 1 ≤ b) (b2 : b ≤ N) (hc : ∀ lab, ELab E lab → lab a = lab b) :
    Calls Tryd.prog 25 #[.pointer (some ⟨l.g, 0, none⟩), .int .i64 (a : Int), .int .i64 (b : Int)] w fun e w' => e = .returned (.tuple #[]) ∧ ∃ M', Lf w' l N M' ∧ MinAt E M.key a b (M'.fi b) ∧ 1 ≤ M'.fi b ∧ M'.fi b ≤ N ∧ Fr [l.b] w w' := by
  obtain ⟨hl, par, sq, hq, hE⟩ := h
  have HL := hide (lctLead w l N M sq par a hl hq a1 a2)
  have HE := hide hE
  have HC := hide hc
  clear hl hq hE hc
  go_enter Tryd.func25, Tryd.ntmps25
  go_wp2_with fail
  refine HL.out.mono ?_
  rintro e w1 ⟨rfl, M1, par1, sq1, hl1, hq1, hk1, hu1, ht1, hp1, he1, hf1⟩
  have HX := hide (lctExpose w1 l N M1 sq1 par1 b hl1 hq1 b1 b2)
  have HF1 := hide hf1
  have HE1 := hide he1
  have HK1 := hide hk1
  have HP1 := hide hp1
  clear hl1 hq1 hk1 hu1 ht1 hp1 he1 hf1
  go_wp2_with fail
  refine HX.out.mono ?_
  rintro e w2 ⟨b0, rfl, M2, sq2, hl2, hx2, hf2⟩
  have HL2 := hide hl2
  have HX2 := hide hx2
  have HF2 := hide (HF1.out.trans hf2)
  clear hl2 hx2 hf2
  go_wp2_with fail
  go_end0
  obtain ⟨A, hA⟩ := HX2.out.en
  have hEE : ∀ x y, Adj par1 x y ↔ E x y := fun x y => (HE1.out x y).trans (HE.out x y)
  obtain ⟨p1, p2, p3, p4⟩ := path_law HX2.out.l a1 b1 b2 HP1.out HX2.out.nk HX2.out.u0 hA (fun lab hl => HC.out lab ((cst_of HX2.out.l.ac.1 hEE).1 hl))
  have hkey : M2.key = M.key := by rw [HX2.out.key, HK1.out]
  have hrng := HX2.out.l.q.rng b b1 b2 _ p4.1
  refine ⟨rfl, M2, HL2.out, ⟨sq2 b, p1, ⟨A, hA⟩, p2, fun x y hc => (hEE x y).1 (p3 x y hc), ?_⟩, hrng.1, hrng.2, HF2.out⟩
  rw [← hkey]; exact p4
set_option maxRecDepth 100000 in
theorem lctMin (w : World) (l : LLoc) (N : Nat) (M : LM) (E : Nat → Nat → Prop) (u v : Nat) (h : LfE w l N M E) (hu : u < N) (hv : v < N) (huv : u ≠ v) (hc : ∀ lab, ELab E lab → lab (u + 1) = lab (v + 1)) :
    Calls Tryd.prog 11 #[.pointer (some ⟨l.g, 0, none⟩), .int .i64 (u : Int), .int .i64 (v : Int)] w fun e w' => ∃ x : Nat, e = .returned (.tuple #[.int .i64 (x : Int), .bool true]) ∧ x < N ∧ MinAt E M.key (u + 1) (v + 1) (x + 1) ∧ Fr [l.b] w w' := by
  have hN := h.1.nb
  have HC := hide (lctConn (b := true) w l N M E u v h hu hv huv (.inr ⟨rfl, hc⟩))
  have HCC := hide hc
  have e1 : IntKind.i64.wrap ((u : Int) + 1) = ((u + 1 : Nat) : Int) := by rw [IntWalk.i64_in _ (by omega)]; omega
  have e2 : IntKind.i64.wrap ((v : Int) + 1) = ((v + 1 : Nat) : Int) := by rw [IntWalk.i64_in _ (by omega)]; omega
  have bu : ((v + 1 : Nat) : Int) < ((N + 1 : Nat) : Int) := by omega
  have bu2 : (v : Int) + 1 < (N : Int) + 1 := by omega
  clear h hc
  go_enter Tryd.func11, Tryd.ntmps11
  go_wp2_with fail
  refine HC.out.mono ?_
  rintro e w1 ⟨rfl, M1, hl1, hk1, hf⟩
  have HP := hide (lctPath w1 l N M1 E (u + 1) (v + 1) hl1 (by omega) (by omega) (by omega) (by omega) HCC.out)
  have HF := hide hf
  have HK := hide hk1
  clear hf hl1 hk1
  go_wp2_with fail
  refine HP.out.mono ?_
  rintro e w2 ⟨rfl, M2, hl2, hm, hx1, hxN, hf2⟩
  have c1 := hl2.c1
  have cf := hl2.fi (i := v + 1) (by omega)
  rw [HK.out] at hm
  have HM := hide hm
  have HF2 := hide (HF.out.trans hf2)
  obtain ⟨x, hx⟩ : ∃ x, M2.fi (v + 1) = x + 1 := ⟨M2.fi (v + 1) - 1, by omega⟩
  rw [hx] at cf HM
  have e3 : IntKind.i64.wrap (((x + 1 : Nat) : Int) - 1) = (x : Int) := by rw [IntWalk.i64_in _ (by omega)]; omega
  have e4 : IntKind.i64.wrap ((x : Int) + 1 - 1) = (x : Int) := by rw [IntWalk.i64_in _ (by omega)]; omega
  have hxN2 : x < N := by omega
  clear hl2 hm hf2 hx hx1 hxN
  go_wp2_with fail
  go_ret2
  exact ⟨x, rfl, hxN2, HM.out, HF2.out⟩
/-- i has another key. -/
def keyM (M : LM) (i : Nat) (κ : Int) : LM := (M.setKey i κ).setFi i (rfr (M.setKey i κ) i)
theorem Fst.congr {key key' : Nat → Int} {a : Nat} {l : List Nat} (h : Fst key a l) (e : ∀ x ∈ l, key' x = key x) : Fst key' a l :=
  ⟨h.1, fun y hy => by
    have := h.2 y hy
    unfold bef at this ⊢
    rw [e y hy, e a h.1]; exact this⟩
theorem key_law {N : Nat} {M : LM} {par : Nat → Nat} {sq : Nat → List Nat} {i : Nat} (κ : Int) (h : Lct N M par sq) (i1 : 1 ≤ i) (i2 : i ≤ N) (hk : ¬ Kid M i) : Lct N (keyM M i κ) par sq ∧ RK (M.setKey i κ) N i := by
  have hq := h.q
  have fN : ∀ x, x ≠ 0 → x ≤ N → M.fi x ≤ N := fun x x0 xN => (hq.rng x (by omega) xN _ (hq.fi_ x (by omega) xN).1).2
  have nin : ∀ x, 1 ≤ x → x ≤ N → x ≠ i → i ∉ sq x := fun x x1 x2 hx hm => by
    rcases hq.gen x x1 x2 i hm with e | ⟨e, -⟩
    · exact hx e.symm
    · exact hk e
  have kc : ∀ x, 1 ≤ x → x ≤ N → x ≠ i → Fst (M.setKey i κ).key (M.fi x) (sq x) := fun x x1 x2 hx => (hq.fi_ x x1 x2).congr fun y hy => if_neg fun (e : y = i) => nin x x1 x2 hx (e ▸ hy)
  have kne : ∀ s, s < 2 → M.k s i ≠ i := fun s hs => hq.kid_ne i1 i2 hs
  refine ⟨⟨⟨hq.s0, hq.sx, hq.up_, hq.kN, hq.uN, fun x x1 x2 => ?_, hq.nd⟩, h.ch, h.ac⟩, fun s hs => ⟨hq.kN i s i1 i2 hs, fun h0 => ⟨kne s hs, fN _ h0 (hq.kN i s i1 i2 hs)⟩⟩⟩
  by_cases e : x = i
  · subst e
    have e1 : (keyM M x κ).fi x = rfr (M.setKey x κ) x := if_pos rfl
    rw [e1]
    exact rfr_fst (M := M.setKey x κ) (i := x) (L := fun s => sq (M.k s x))
      (fun s hs h0 => by change M.k s x = 0 at h0; simp only [h0]; exact hq.s0)
      (fun s hs h0 => kc _ (by change M.k s x ≠ 0 at h0; show 1 ≤ M.k s x; omega) (hq.kN x s x1 x2 hs) (kne s hs))
      (fun y => hq.mem_iff x1 x2 y)
  · have e1 : (keyM M i κ).fi x = M.fi x := if_neg e
    rw [e1]
    exact kc x x1 x2 e
set_option maxRecDepth 100000 in
theorem lctSet (w : World) (l : LLoc) (N : Nat) (M : LM) (E : Nat → Nat → Prop) (v : Nat) (κ : Int) (h : LfE w l N M E) (hv : v < N) :
    Calls Tryd.prog 8 #[.pointer (some ⟨l.g, 0, none⟩), .int .i64 (v : Int), .int .i64 κ] w fun e w' => e = .returned (.int .i64 0) ∧ ∃ M', LfE w' l N M' E ∧ M'.key = (fun x => if x = v + 1 then κ else M.key x) ∧ Fr [l.b] w w' := by
  obtain ⟨hl, par, sq, hq, hE⟩ := h
  have hN := hl.nb
  have ha : Fr [] w (w.alloc (.cells #[.int .i64 (v : Int)] 3)) := (Fr.refl [] w).alloc _
  have hl0 := hl.fr ha (by simp) (by simp)
  have HC := hide (lctCheck _ l N M [v] (some ⟨w.heap.size, 0, none⟩) 1 1 hl0 rfl (by omega) ((Blk.new w 3 #[.int .i64 (v : Int)]).rd 1 1 rfl) (by simpa using hv))
  have HX := hide (lctExpose _ l N M sq par (v + 1) hl0 hq (by omega) (by omega))
  have HE := hide hE
  have HA := hide ha
  have e1 : IntKind.i64.wrap ((v : Int) + 1) = ((v + 1 : Nat) : Int) := by rw [IntWalk.i64_in _ (by omega)]; omega
  have bu : ((v + 1 : Nat) : Int) < ((N + 1 : Nat) : Int) := by omega
  have bu2 : (v : Int) + 1 < (N : Int) + 1 := by omega
  clear hl hq hE ha hl0
  go_enter Tryd.func8, Tryd.ntmps8
  go_wp2_with fail
  refine HC.out.mono ?_
  rintro e wx ⟨rfl, rfl⟩
  go_wp2_with fail
  refine HX.out.mono ?_
  rintro e w1 ⟨b0, rfl, M1, sq1, hl1, hx1, hf1⟩
  have c1 := hl1.c1
  have ck := hl1.ky (i := v + 1) (by omega)
  have zk := hl1.frz ((v + 1) * 9 + 4)
  obtain ⟨hlaw, hrk⟩ := key_law κ hx1.l (by omega) (by omega) hx1.nk
  have hr := lctRefresh _ l N (M1.setKey (v + 1) κ) (v + 1) (hl1.setKey (by omega) κ) (by omega) hrk
  have HR := hide hr
  have HLAW := hide hlaw
  have HKEY := hide hx1.key
  have HF1 := hide (((HA.out.mono (S' := [l.b]) (by simp)).trans hf1).setCell (p := ⟨l.b, (v + 1) * 9 + 4, none⟩) (.inl (by simp)) (.int .i64 κ))
  clear hl1 hx1 hf1 hlaw hrk hr
  go_wp2_with fail
  refine HR.out.mono ?_
  rintro e w2 ⟨rfl, hl2, hf2⟩
  have HL2 := hide hl2
  have HF2 := hide (HF1.out.trans hf2)
  clear hl2 hf2
  go_wp2_with fail
  go_ret
  refine ⟨rfl, _, ⟨HL2.out, par, sq1, HLAW.out, HE.out⟩, ?_, HF2.out⟩
  funext x
  show (if x = v + 1 then κ else M1.key x) = _
  rw [HKEY.out]
end Go.Proofs.YtoomcgmbaogjbaaDoor
namespace Go.Proofs.YtoomcgmbaogjbaaDoor
open Go.RowKit
set_option linter.unusedVariables false

/-- The edges, and one more. -/
def addE (E : Nat → Nat → Prop) (a b : Nat) : Nat → Nat → Prop := fun x y => E x y ∨ (x = a ∧ y = b) ∨ (x = b ∧ y = a)
def lnkM (M : LM) (a b : Nat) : LM := (M.setUp a b).setFi b (rfr (M.setUp a b) b)
theorem Lf.edges {w : World} {l : LLoc} {N : Nat} {M : LM} (h : Lf w l N M) : ∃ e : Int, w.cell? ⟨l.g, 2, none⟩ = some (.int .i64 e) := by
  obtain ⟨⟨e, h1⟩, -, -⟩ := h
  exact ⟨e, (h1.cell 2).trans rfl⟩
theorem Lf.frg {w : World} {l : LLoc} {N : Nat} {M : LM} (h : Lf w l N M) (j : Nat) : w.frozen? ⟨l.g, j, none⟩ = false := by
  obtain ⟨⟨e, h1⟩, -, -⟩ := h
  exact h1.frozen j
theorem Lf.setE {w : World} {l : LLoc} {N : Nat} {M : LM} (h : Lf w l N M) (v : Int) : Lf (w.setCell ⟨l.g, 2, none⟩ (.int .i64 v)) l N M := by
  have hgb := h.gb
  obtain ⟨⟨e, h1⟩, ⟨J, h2⟩, h3⟩ := h
  exact ⟨⟨v, h1.set_ 2 (.int .i64 v)⟩, ⟨J, h2.far (p := ⟨l.g, 2, none⟩) (fun e => hgb e.symm) _⟩, h3⟩
set_option maxRecDepth 100000 in
set_option maxHeartbeats 4000000 in
theorem lctLink (w : World) (l : LLoc) (N : Nat) (M : LM) (E : Nat → Nat → Prop) (u v : Nat) (h : LfE w l N M E) (hu : u < N) (hv : v < N) (huv : u ≠ v) (hb : ∃ lab, ELab E lab ∧ lab (u + 1) ≠ lab (v + 1)) :
    Calls Tryd.prog 9 #[.pointer (some ⟨l.g, 0, none⟩), .int .i64 (u : Int), .int .i64 (v : Int)] w fun e w' => e = .returned (.int .i64 0) ∧ ∃ M', LfE w' l N M' (addE E (u + 1) (v + 1)) ∧ M'.key = M.key ∧ Fr [l.g, l.b] w w' := by
  have hN := h.1.nb
  have ha : Fr [] w (w.alloc (.cells #[.int .i64 (u : Int), .int .i64 (v : Int)] 3)) := (Fr.refl [] w).alloc _
  have hl0 := h.1.fr ha (by simp) (by simp)
  have HCK := hide (lctCheck _ l N M [u, v] (some ⟨w.heap.size, 0, none⟩) 2 2 hl0 rfl (by omega) ((Blk.new w 3 #[.int .i64 (u : Int), .int .i64 (v : Int)]).rd 2 1 rfl) (fun x hx => by
    simp at hx
    rcases hx with rfl | rfl <;> assumption))
  have HCN := hide (lctConn (b := false) _ l N M E u v ⟨hl0, h.2⟩ hu hv huv (.inl ⟨rfl, hb⟩))
  have HB := hide hb
  have HA := hide ha
  have e1 : IntKind.i64.wrap ((u : Int) + 1) = ((u + 1 : Nat) : Int) := by rw [IntWalk.i64_in _ (by omega)]; omega
  have e2 : IntKind.i64.wrap ((v : Int) + 1) = ((v + 1 : Nat) : Int) := by rw [IntWalk.i64_in _ (by omega)]; omega
  have bu : ((u + 1 : Nat) : Int) < ((N + 1 : Nat) : Int) := by omega
  have bu2 : (u : Int) + 1 < (N : Int) + 1 := by omega
  have bu3 : (0 : Int) ≤ (u : Int) + 1 := by omega
  have bv : ((v + 1 : Nat) : Int) < ((N + 1 : Nat) : Int) := by omega
  have bv2 : (v : Int) + 1 < (N : Int) + 1 := by omega
  have bv3 : (0 : Int) ≤ (v : Int) + 1 := by omega
  have huv' : ¬ (u : Int) = (v : Int) := by omega
  clear h ha hl0 hb
  go_enter Tryd.func9, Tryd.ntmps9
  go_wp2_with fail
  refine HCK.out.mono ?_
  rintro e wx ⟨rfl, rfl⟩
  go_wp2_with fail
  refine HCN.out.mono ?_
  rintro e w1 ⟨rfl, M1, ⟨hl1, par1, sq1, hq1, hE1⟩, hk1, hf1⟩
  have HL := hide (lctLead w1 l N M1 sq1 par1 (u + 1) hl1 hq1 (by omega) (by omega))
  have HE1 := hide hE1
  have HK1 := hide hk1
  have HF1 := hide ((HA.out.mono (S' := [l.g, l.b]) (by simp)).trans (hf1.mono (S' := [l.g, l.b]) (by simp)))
  clear hl1 hq1 hE1 hk1 hf1
  go_wp2_with fail
  refine HL.out.mono ?_
  rintro e w2 ⟨rfl, M2, par2, sq2, hl2, hq2, hk2, hu2, ht2, hp2, he2, hf2⟩
  have HX := hide (lctExpose w2 l N M2 sq2 par2 (v + 1) hl2 hq2 (by omega) (by omega))
  have HU2 := hide hu2
  have HT2 := hide ht2
  have HP2 := hide hp2
  have HE2 := hide he2
  have HK2 := hide hk2
  have HQ2 := hide hq2
  have HF2 := hide (HF1.out.trans (hf2.mono (S' := [l.g, l.b]) (by simp)))
  clear hl2 hq2 hk2 hu2 ht2 hp2 he2 hf2
  go_wp2_with fail
  refine HX.out.mono ?_
  rintro e w3 ⟨b0, rfl, M3, sq3, hl3, hx3, hf3⟩
  have hEE : ∀ x y, Adj par2 x y ↔ E x y := fun x y => (HE2.out x y).trans (HE1.out x y)
  obtain ⟨lab, hlab, hne⟩ := HB.out
  have hcst : Cst par2 lab := (cst_of HQ2.out.ac.1 hEE).2 hlab
  have hsame := hx3.fr lab hcst (u + 1) hne
  obtain ⟨T, hT⟩ := HT2.out
  have hq3 := hx3.l.q
  have hrk : RK (M3.setUp (u + 1) (v + 1)) N (v + 1) := fun s hs => ⟨hq3.kN (v + 1) s (by omega) (by omega) hs, fun h0 => ⟨hq3.kid_ne (by omega) (by omega) hs, (hq3.rng _ (by change M3.k s (v + 1) ≠ 0 at h0; show 1 ≤ M3.k s (v + 1); omega) (hq3.kN (v + 1) s (by omega) (by omega) hs) _ (hq3.fi_ _ (by change M3.k s (v + 1) ≠ 0 at h0; show 1 ≤ M3.k s (v + 1); omega) (hq3.kN (v + 1) s (by omega) (by omega) hs)).1).2⟩⟩
  have hfst : Fst M3.key ((lnkM M3 (u + 1) (v + 1)).fi (v + 1)) (sq3 (v + 1)) := by
    have e3 : (lnkM M3 (u + 1) (v + 1)).fi (v + 1) = rfr (M3.setUp (u + 1) (v + 1)) (v + 1) := if_pos rfl
    rw [e3]
    exact rfr_fst (M := M3.setUp (u + 1) (v + 1)) (i := v + 1) (L := fun s => sq3 (M3.k s (v + 1)))
      (fun s hs h0 => by change M3.k s (v + 1) = 0 at h0; simp only [h0]; exact hq3.s0)
      (fun s hs h0 => hq3.fi_ _ (by change M3.k s (v + 1) ≠ 0 at h0; show 1 ≤ M3.k s (v + 1); omega) (hq3.kN (v + 1) s (by omega) (by omega) hs))
      (fun y => hq3.mem_iff (by omega) (by omega) y)
  have hlaw := link_law (M' := lnkM M3 (u + 1) (v + 1)) (b := v + 1) hx3.l (by omega) (by omega) (by omega) (by omega) HP2.out (hsame.up.trans HU2.out) (hsame.sq.trans hT) hcst hne ⟨fun _ _ _ => rfl, fun _ => rfl, rfl, rfl, fun x hx => if_neg hx⟩ hfst
  have HLAW := hide hlaw
  have HRK := hide hrk
  have HKEY := hide hx3.key
  have c1 := hl3.c1
  have cu := hl3.up (i := u + 1) (by omega)
  have zu := hl3.frz ((u + 1) * 9 + 2)
  have h4 := hl3.setUp (i := u + 1) (by omega) (v + 1)
  have ecast : ((v + 1 : Nat) : Int) = (v : Int) + 1 := by push_cast; rfl
  rw [ecast] at h4
  have HF4 := hide ((HF2.out.trans (hf3.mono (S' := [l.g, l.b]) (by simp))).setCell (p := ⟨l.b, (u + 1) * 9 + 2, none⟩) (.inl (by simp)) (.int .i64 ((v : Int) + 1)))
  have H4 := hide h4
  clear hl3 hx3 hf3 hEE hlab hne hcst hsame hT hq3 hrk hfst hlaw h4 HX HL HCN HCK HB ecast
  go_upto_region 11 with fail
  generalize w3.setCell ⟨l.b, (u + 1) * 9 + 2, none⟩ (.int .i64 ((v : Int) + 1)) = w4 at *
  clear c1 cu zu
  have c1 := H4.out.c1
  obtain ⟨l7, c7⟩ := H4.out.ji (i := v + 1) (c := 7) (by omega) (by omega)
  obtain ⟨l8, c8⟩ := H4.out.ji (i := u + 1) (c := 8) (by omega) (by omega)
  go_still_tail 21, (by kernel_rfl)
  change wpList _ _ _ _ _ (w4.drewN 1)
  have h5 := H4.out.drew1
  have hf5 := HF4.out.drewN 1
  have c1' := h5.c1
  have c7' : (w4.drewN 1).cell? ⟨l.b, (v + 1) * 9 + 7, none⟩ = some (.int .i64 l7) := c7
  have c8' : (w4.drewN 1).cell? ⟨l.b, (u + 1) * 9 + 8, none⟩ = some (.int .i64 l8) := c8
  clear c1 c7 c8
  generalize w4.drewN 1 = w5 at *
  have z7 := h5.frz ((v + 1) * 9 + 7)
  have h6 := h5.setJ (i := v + 1) (c := 7) (by omega) (by omega) (wrap64 (l7 + l8))
  have hf6 := hf5.setCell (p := ⟨l.b, (v + 1) * 9 + 7, none⟩) (.inl (by simp)) (.int .i64 (wrap64 (l7 + l8)))
  have H6 := hide h6
  have HF6 := hide hf6
  clear h5 hf5 h6 hf6
  go_wp2_with fail
  refine (lctRefresh _ l N (M3.setUp (u + 1) (v + 1)) (v + 1) H6.out (by omega) HRK.out).mono ?_
  rintro e w7 ⟨rfl, h7, hf7⟩
  obtain ⟨ed, ce⟩ := h7.edges
  have ze := h7.frg 2
  have h8 := h7.setE (wrap64 (ed + 1))
  have hf8 := (HF6.out.trans (hf7.mono (S' := [l.g, l.b]) (by simp))).setCell (p := ⟨l.g, 2, none⟩) (.inl (by simp)) (.int .i64 (wrap64 (ed + 1)))
  have H8 := hide h8
  have HF8 := hide hf8
  clear h7 hf7 h8 hf8 c1' c7' c8' z7
  go_wp2_with fail
  go_ret
  refine ⟨rfl, lnkM M3 (u + 1) (v + 1), ⟨H8.out, _, sq3, HLAW.out.1, fun x y => ?_⟩, ?_, HF8.out⟩
  · rw [HLAW.out.2, HE2.out, HE1.out]; rfl
  · show M3.key = M.key
    rw [HKEY.out, HK2.out, HK1.out]
end Go.Proofs.YtoomcgmbaogjbaaDoor
namespace Go.Proofs.YtoomcgmbaogjbaaDoor
open Go.RowKit
set_option linter.unusedVariables false

theorem node_info : (Tryd.prog.info? 77).map (fun i => (i.zero, i.size, i.bytes)) = some (some (.agg #[.int .i64 0, .int .i64 0, .int .i64 0, .bool false, .int .i64 0, .int .i64 0, .int .i64 0, .int .i64 0, .int .i64 0]), 9, 72) := by kernel_rfl
/-- New nodes, of which the first k are refreshed. -/
def newM (k : Nat) : LM := ⟨fun _ _ => 0, fun _ => 0, fun _ => false, fun _ => 0, fun x => if 1 ≤ x ∧ x ≤ k then x else 0⟩
theorem newM_succ (k : Nat) : (newM k).setFi (k + 1) (k + 1) = newM (k + 1) := by
  unfold LM.setFi newM
  congr 1
  funext x
  by_cases e : x = k + 1
  · rw [if_pos e, if_pos (by omega), e]
  · rw [if_neg e]
    show (if 1 ≤ x ∧ x ≤ k then x else 0) = if 1 ≤ x ∧ x ≤ k + 1 then x else 0
    by_cases e2 : 1 ≤ x ∧ x ≤ k
    · rw [if_pos e2, if_pos (by omega)]
    · rw [if_neg e2, if_neg (by omega)]
theorem lar_new (N : Nat) : madeCells #[.int .i64 0, .int .i64 0, .int .i64 0, .bool false, .int .i64 0, .int .i64 0, .int .i64 0, .int .i64 0, .int .i64 0] ((N + 1) * 9) = lar N (newM 0) fun _ _ => 0 := by
  apply Array.ext_getElem?
  intro j
  by_cases hj : j < (N + 1) * 9
  · rw [lar_at hj]
    have e : (madeCells #[.int .i64 0, .int .i64 0, .int .i64 0, .bool false, .int .i64 0, .int .i64 0, .int .i64 0, .int .i64 0, .int .i64 0] ((N + 1) * 9))[j]? = some (#[Value.int .i64 0, .int .i64 0, .int .i64 0, .bool false, .int .i64 0, .int .i64 0, .int .i64 0, .int .i64 0, .int .i64 0][j % 9]!) := by
      simp [madeCells, hj]
    rw [e]
    have h9 : j % 9 < 9 := Nat.mod_lt _ (by decide)
    have hc : ∀ c, c < 9 → (#[Value.int .i64 0, .int .i64 0, .int .i64 0, .bool false, .int .i64 0, .int .i64 0, .int .i64 0, .int .i64 0, .int .i64 0][c]!) = (newM 0).cell (fun _ _ => 0) (j / 9) c := fun c hc => by
      have hz : (newM 0).fi (j / 9) = 0 := if_neg (by omega)
      rcases (show c = 0 ∨ c = 1 ∨ c = 2 ∨ c = 3 ∨ c = 4 ∨ c = 5 ∨ c = 6 ∨ c = 7 ∨ c = 8 by omega) with rfl | rfl | rfl | rfl | rfl | rfl | rfl | rfl | rfl
      all_goals first | rfl | (unfold LM.cell; rw [hz]; rfl)
    rw [hc _ h9]
  · have e1 : (lar N (newM 0) fun _ _ => 0)[j]? = none := by simp [lar]; omega
    have e2 : (madeCells #[.int .i64 0, .int .i64 0, .int .i64 0, .bool false, .int .i64 0, .int .i64 0, .int .i64 0, .int .i64 0, .int .i64 0] ((N + 1) * 9))[j]? = none := by simp [madeCells]; omega
    rw [e1, e2]
def nsq (N : Nat) : Nat → List Nat := fun x => if 1 ≤ x ∧ x ≤ N then [x] else []
theorem newM_lct (N : Nat) : Lct N (newM N) (fun _ => 0) (nsq N) := by
  have hs : ∀ x, 1 ≤ x → x ≤ N → nsq N x = [x] := fun x x1 x2 => if_pos ⟨x1, x2⟩
  have h0 : nsq N 0 = [] := if_neg (by omega)
  refine ⟨⟨h0, fun x x1 x2 => ?_, fun x s _ _ _ h => absurd rfl h, fun x s _ _ _ => Nat.zero_le _, fun x _ _ => Nat.zero_le _, fun x x1 x2 => ?_, fun x x1 x2 => ?_⟩, fun r r1 r2 _ => ?_, rfl, fun x => ⟨1, rfl⟩⟩
  · rw [hs x x1 x2]
    show [x] = rv false (nsq N 0 ++ x :: nsq N 0)
    rw [h0]; rfl
  · rw [hs x x1 x2]
    have e : (newM N).fi x = x := if_pos ⟨x1, x2⟩
    rw [e]
    refine ⟨by simp, fun y hy => ?_⟩
    obtain rfl : y = x := by simpa using hy
    rw [bef_niff]; omega
  · rw [hs x x1 x2]; simp
  · rw [hs r r1 r2]; exact ⟨rfl, trivial⟩
set_option maxRecDepth 100000 in
set_option maxHeartbeats 4000000 in
theorem lctNew (w : World) (N : Nat) (hN : N ≤ 1000) :
    Calls Tryd.prog 7 #[.int .i64 (N : Int)] w fun e w' => ∃ l : LLoc, e = .returned (.tuple #[.pointer (some ⟨l.g, 0, none⟩), .int .i64 0]) ∧ w.heap.size ≤ l.g ∧ w.heap.size ≤ l.b ∧ LfE w' l N (newM N) (fun _ _ => False) ∧ Fr [] w w' := by
  obtain ⟨i0, hi, hz0, hz1, hz2⟩ := info_parts node_info
  have hmk := fun W : World => run_make (P := Tryd.prog) W 69 77 i0 _ Tryd.underlying69 hi hz0 .i64 .i64 ((N : Int) + 1) ((N : Int) + 1) (by omega) (by omega) (by rw [hz2]; omega) (by omega)
  rw [hz1] at hmk
  have e0 : ((N : Int) + 1).toNat = N + 1 := by omega
  simp only [e0] at hmk
  have hmk2 : ∀ W : World, (Instr.makeSlice 69 (.int .i64 ((N : Int) + 1)) (.int .i64 ((N : Int) + 1))).run Tryd.prog W = .ok (.slice (some ⟨W.heap.size, 0, none⟩) (N + 1) (N + 1)) (W.alloc (.cells (lar N (newM 0) fun _ _ => 0) 77)) := fun W => by
    rw [hmk W, ← lar_new N]; rfl
  clear hmk hi hz0 hz1 hz2 e0
  have e1 : IntKind.i64.wrap ((N : Int) + 1) = (N : Int) + 1 := IntWalk.i64_in _ (by omega)
  have h1 : ¬ (N : Int) < 0 := by omega
  have h2 : (N : Int) ≤ 65536 := by omega
  have b0 : Blk (w.alloc (.cells (lar N (newM 0) fun _ _ => 0) 77)) w.heap.size 77 (lar N (newM 0) fun _ _ => 0) := Blk.new _ _ _
  go_enter Tryd.func7, Tryd.ntmps7
  go_wp2_with fail
  have hl0 : Lf ((w.alloc (.cells (lar N (newM 0) fun _ _ => 0) 77)).alloc (.cells #[.pointer (some ⟨w.heap.size + 1, 0, none⟩), .slice (some ⟨w.heap.size, 0, none⟩) (N + 1) (N + 1), .int .i64 0] 71)) ⟨w.heap.size + 1, w.heap.size⟩ N (newM 0) := by
    refine ⟨⟨0, ?_⟩, ⟨_, b0.alloc _⟩, hN⟩
    have := Blk.new (w.alloc (.cells (lar N (newM 0) fun _ _ => 0) 77)) 71 #[.pointer (some ⟨w.heap.size + 1, 0, none⟩), .slice (some ⟨w.heap.size, 0, none⟩) (N + 1) (N + 1), .int .i64 0]
    rwa [World.size_alloc] at this
  have HL0 := hide hl0
  have HF0 := hide (((Fr.refl [] w).alloc (.cells (lar N (newM 0) fun _ _ => 0) 77)).alloc (.cells #[.pointer (some ⟨w.heap.size + 1, 0, none⟩), .slice (some ⟨w.heap.size, 0, none⟩) (N + 1) (N + 1), .int .i64 0] 71))
  clear hl0 b0 hmk2
  go_loopg [22] N (fun gh s wr => ∃ k : Nat, k + gh = N ∧ s = .int .i64 (k : Int) ∧ Lf wr ⟨w.heap.size + 1, w.heap.size⟩ N (newM k) ∧ Fr [] w wr)
  case atStart => exact ⟨0, by omega, rfl, HL0.out, HF0.out⟩
  case round =>
    obtain ⟨k, hk, rfl, hl, hf⟩ := hrel
    have HK := hide hk
    have HL := hide hl
    have HF := hide hf
    have hkn : k ≤ N := by omega
    clear hk HL0 HF0 hl hf
    by_cases hlt : k < N
    · have e2 : IntKind.i64.wrap ((k : Int) + 1) = ((k + 1 : Nat) : Int) := by rw [IntWalk.i64_in _ (by omega)]; omega
      have hr : rfr (newM k) (k + 1) = k + 1 := by
        show stp (newM k) (stp (newM k) (k + 1) 0) 0 = k + 1
        unfold stp
        rw [if_neg (fun e => e.1 rfl), if_neg (fun e => e.1 rfl)]
      have HR := hide (lctRefresh wr ⟨w.heap.size + 1, w.heap.size⟩ N (newM k) (k + 1) HL.out (by omega) (fun s hs => ⟨Nat.zero_le _, fun h => absurd rfl h⟩))
      rw [hr, newM_succ] at HR
      clear hr
      go_wp2_with fail
      refine HR.out.mono ?_
      rintro e w2 ⟨rfl, hl2, hf2⟩
      have HL2 := hide hl2
      have hf3 : Fr [] w w2 := ⟨hf2.os.trans HF.out.os, hf2.tape.trans HF.out.tape, hf2.output.trans HF.out.output, Nat.le_trans HF.out.size hf2.size, fun j hj _ => (hf2.block j (Nat.lt_of_lt_of_le hj HF.out.size) (by simp; omega)).trans (HF.out.block j hj (by simp))⟩
      have HF2 := hide hf3
      clear hl2 hf2 hf3
      go_wp2_with fail
      go_roundg (N - (k + 1))
      case measure => have := HK.out; omega
      case rel => exact ⟨k + 1, by omega, by go_num, HL2.out, HF2.out⟩
    · obtain rfl : k = N := by omega
      go_wp2_with fail
      go_ret2
      refine ⟨⟨w.heap.size + 1, w.heap.size⟩, rfl, by simp, Nat.le_refl _, ⟨HL.out, _, _, newM_lct k, fun x y => ?_⟩, HF.out⟩
      unfold Adj
      refine ⟨fun ⟨x0, y0, e⟩ => ?_, fun e => e.elim⟩
      rcases e with e | e
      · exact y0 e.symm
      · exact x0 e.symm
end Go.Proofs.YtoomcgmbaogjbaaDoor
