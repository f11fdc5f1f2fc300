/- seepagelaw13: links, Built, made. -/
import Derived.Test.YtpgkhmjlbaoagaaGraB
import Derived.Test.YtpgkhmjlbaoagaaGraSt
import Derived.Test.YtpgkhmjlbaoagaaOpenE0
namespace Go.Proofs.Ytpgkhmjlbaoagaa
open Go.RowKit Go.ChangeShapes Go.WideShapes Go.Deep
set_option linter.unusedVariables false

/-- A link: three cells. -/
def lc (e : Int × Int × Int) : List Value := [.int .u8 e.1, .int .u8 e.2.1, .int .i8 e.2.2]
def lcs (l : List (Int × Int × Int)) : List Value := l.flatMap lc
def LinkOk (e : Int × Int × Int) : Prop := (0 ≤ e.1 ∧ e.1 < 256) ∧ (0 ≤ e.2.1 ∧ e.2.1 < 256) ∧ (-128 ≤ e.2.2 ∧ e.2.2 < 128)
theorem u8_bd13 {a : Int} (h : (Lit.int .u8 a).wf = true) : 0 ≤ a ∧ a < 256 := by
  have e1 : IntKind.u8.max = 255 := rfl
  have e2 : IntKind.u8.min = 0 := rfl
  simp [Lit.wf] at h; omega
theorem i8_bd13 {a : Int} (h : (Lit.int .i8 a).wf = true) : -128 ≤ a ∧ a < 128 := by
  have e1 : IntKind.i8.max = 127 := rfl
  have e2 : IntKind.i8.min = -128 := rfl
  simp [Lit.wf] at h; omega
def IsLinks (W : World) (v : Value) (l : List (Int × Int × Int)) : Prop := ∃ (A : Option Addr) (n c : Nat), v = .slice A n c ∧ n ≤ maxLen ∧ l.length = n ∧ (∀ a ∈ l, LinkOk a) ∧ Rd W A n 3 (lcs l)
theorem open_links {H : Type} {enc : TypeId × Value → H} {P : Program} {W : World} {base b0 : Nat} {r : Reach} {spare : Nat → Bool} {held : Bool} {t e : TypeId} {f0 f1 f2 : Field} {v : Value} {d : DataW H} {p : List MemPlace}
    (ht : P.underlying t = some (.slice e)) (he : P.underlying e = some (.struct #[f0, f1, f2])) (h0 : P.underlying f0.type = some (.int .u8)) (h1 : P.underlying f1.type = some (.int .u8)) (h2 : P.underlying f2.type = some (.int .i8))
    (hc : P.cellsOf e = 3) (hc0 : P.cellsOf f0.type = 1) (hc1 : P.cellsOf f1.type = 1) (hc2 : P.cellsOf f2.type = 1) (o0 : f0.offset = 0) (o1 : f1.offset = 1) (o2 : f2.offset = 2)
    (hv : Value.okWide P W r b0 t v) (h : DataW.Trod enc P W base spare held t v d p) : ∃ l, IsLinks W v l := by
  obtain ⟨A, n, c, l, a1, a2, a3, a4, a5⟩ := open_list lc LinkOk 3 (fun _ => rfl) (by decide) ht hc (fun n cs y hy => by
    obtain ⟨y0, y1, y2, m, hx, hcl, g0, g1, g2⟩ := trod_struct3 he hy
    rw [hc] at hcl
    match cs, hcl with
    | [c0, c1, c2], _ =>
      rw [hc0, o0] at g0
      rw [hc1, o1] at g1
      rw [hc2, o2] at g2
      simp at g0 g1 g2
      obtain ⟨x0, e0, _, w0⟩ := DataW.trod_int h0 g0
      obtain ⟨x1, e1, _, w1⟩ := DataW.trod_int h1 g1
      obtain ⟨x2, e2, _, w2⟩ := DataW.trod_int h2 g2
      simp at e0 e1 e2
      subst e0; subst e1; subst e2
      exact ⟨(x0, x1, x2), rfl, u8_bd13 w0, u8_bd13 w1, i8_bd13 w2⟩) (okWide_slice ht hv) h
  exact ⟨l, A, n, c, a1, a2, a3, a4, a5⟩
theorem lcs_get (l : List (Int × Int × Int)) (i : Nat) (h : i < l.length) :
    (lcs l)[i * 3]? = some (.int .u8 l[i].1) ∧ (lcs l)[i * 3 + 1]? = some (.int .u8 l[i].2.1) ∧ (lcs l)[i * 3 + 2]? = some (.int .i8 l[i].2.2) := by
  induction l generalizing i with
  | nil => simp at h
  | cons e l ih =>
    have e1 : lcs (e :: l) = [.int .u8 e.1, .int .u8 e.2.1, .int .i8 e.2.2] ++ lcs l := rfl
    cases i with
    | zero => simp [e1]
    | succ i =>
      have h' : i < l.length := by simpa using h
      obtain ⟨a, b, c⟩ := ih i h'
      rw [e1]
      refine ⟨?_, ?_, ?_⟩
      · rw [List.getElem?_append_right (by simp; omega)]; simpa [show (i + 1) * 3 - 3 = i * 3 by omega] using a
      · rw [List.getElem?_append_right (by simp; omega)]; simpa [show (i + 1) * 3 + 1 - 3 = i * 3 + 1 by omega] using b
      · rw [List.getElem?_append_right (by simp; omega)]; simpa [show (i + 1) * 3 + 2 - 3 = i * 3 + 2 by omega] using c
theorem Rd.link {w : World} {A : Option Addr} {n : Nat} {l : List (Int × Int × Int)} (h : Rd w A n 3 (lcs l)) (j : Nat) (hj : j < l.length) (hn : l.length = n) :
    ∃ b o, A = some ⟨b, o, none⟩ ∧ b < w.heap.size ∧ w.cell? ⟨b, o + j * 3, none⟩ = some (.int .u8 l[j].1) ∧ w.cell? ⟨b, o + j * 3 + 1, none⟩ = some (.int .u8 l[j].2.1) ∧ w.cell? ⟨b, o + j * 3 + 2, none⟩ = some (.int .i8 l[j].2.2) := by
  obtain ⟨b, o, e, hb, hc⟩ := h.2 (by omega)
  obtain ⟨x, y, z⟩ := lcs_get l j hj
  exact ⟨b, o, e, hb, hc _ _ x, by have := hc _ _ y; rwa [← Nat.add_assoc] at this, by have := hc _ _ z; rwa [← Nat.add_assoc] at this⟩
/-- The edges of links between 40 vertices. -/
def bltL (l : List (Int × Int × Int)) : List (Int × Int × Int) := l.flatMap fun e => if e.1 % 40 = e.2.1 % 40 then [] else [(e.1 % 40, e.2.1 % 40, e.2.2)]
theorem bltL_snoc (l : List (Int × Int × Int)) (e : Int × Int × Int) : bltL (l ++ [e]) = bltL l ++ (if e.1 % 40 = e.2.1 % 40 then [] else [(e.1 % 40, e.2.1 % 40, e.2.2)]) := by simp [bltL]
theorem bltL_len (l : List (Int × Int × Int)) : (bltL l).length ≤ l.length := by
  induction l with
  | nil => simp [bltL]
  | cons e l ih =>
    have : bltL (e :: l) = (if e.1 % 40 = e.2.1 % 40 then [] else [(e.1 % 40, e.2.1 % 40, e.2.2)]) ++ bltL l := rfl
    rw [this, List.length_append, List.length_cons]
    split <;> simp <;> omega
theorem bltL_mem {l : List (Int × Int × Int)} {x : Int × Int × Int} (h : x ∈ bltL l) : ∃ e ∈ l, e.1 % 40 ≠ e.2.1 % 40 ∧ x = (e.1 % 40, e.2.1 % 40, e.2.2) := by
  unfold bltL at h
  obtain ⟨e, he, hx⟩ := List.mem_flatMap.1 h
  split at hx
  · simp at hx
  · exact ⟨e, he, by assumption, by simpa using hx⟩
theorem bltL_ok {l : List (Int × Int × Int)} (h : ∀ a ∈ l, LinkOk a) : GOk 40 (bltL l) := fun x hx => by
  obtain ⟨e, he, hne, rfl⟩ := bltL_mem hx
  have := h e he
  refine ⟨?_, ?_, ?_, ?_, hne⟩
  · show 0 ≤ e.1 % 40; omega
  · show e.1 % 40 < ((40 : Nat) : Int); omega
  · show 0 ≤ e.2.1 % 40; omega
  · show e.2.1 % 40 < ((40 : Nat) : Int); omega
theorem bltL_w {l : List (Int × Int × Int)} (h : ∀ a ∈ l, LinkOk a) : WOk (bltL l) := fun x hx => by
  obtain ⟨e, he, hne, rfl⟩ := bltL_mem hx
  have := (h e he).2.2
  show -9223372036854775808 ≤ e.2.2 ∧ e.2.2 ≤ 9223372036854775807
  omega
theorem bltL_E {l : List (Int × Int × Int)} (h : ∀ a ∈ l, LinkOk a) (hl : l.length ≤ 150) : newE ((40 : Nat) : Int) (bltL l) = 0 := by
  have hlen := bltL_len l
  unfold newE
  rw [if_neg (by omega)]
  exact gErr_ok.2 (bltL_ok h)
set_option maxRecDepth 100000 in
set_option maxHeartbeats 4000000 in
theorem built40 (w : World) (A : Option Addr) (m c : Nat) (l : List (Int × Int × Int)) (hr : Rd w A m 3 (lcs l)) (hl : l.length = m) (hok : ∀ a ∈ l, LinkOk a) (hm : m ≤ 150) :
    Calls Try.prog 33 #[.int .i64 40, .slice A m c] w
      fun e w' => ∃ A' c', e = .returned (.slice A' (bltL l).length c') ∧ OwnE w' w.heap.size (.slice A' (bltL l).length c') (bltL l) ∧ Below w.heap.size w w' := by
  have HR := hide hr
  have HL := hide hl
  have HOK := hide hok
  clear hr hl hok
  go_enter Try.func33, Try.ntmps33
  go_wp2_with fail
  go_loopg [6, 5] m (fun q v V wr => ∃ k : Nat, k + q = m ∧ v = .int .i64 (k : Int) ∧ OwnE wr w.heap.size V (bltL (l.take k)) ∧ Below w.heap.size w wr)
  case atStart => exact ⟨0, by omega, rfl, OwnE.nil _ _, Below.refl _ _⟩
  case round =>
    obtain ⟨k, hk, rfl, ho, hb⟩ := hrel
    have HK := hide hk
    have hkm : k ≤ m := by omega
    have HO := hide ho
    have HB := hide hb
    have hsz : w.heap.size ≤ wr.heap.size := hb.size
    clear hk ho hb
    by_cases hlt : k < m
    · have hkl : k < l.length := by rw [HL.out]; exact hlt
      obtain ⟨b, o, rfl, hbl, e0, e1, e2⟩ := (HR.out.keep (Nat.le_refl _) HB.out).link k hkl HL.out
      have hlk := HOK.out l[k] (List.getElem_mem hkl)
      have HSN := hide (show bltL (l.take (k + 1)) = _ from by rw [List.take_succ_eq_append_getElem hkl, bltL_snoc])
      have hbl2 : (bltL (l.take k)).length ≤ 1000000 := by
        have := bltL_len (l.take k)
        have : (l.take k).length ≤ k := List.length_take_le _ _
        omega
      generalize l[k] = e at *
      obtain ⟨u, v, t⟩ := e
      obtain ⟨⟨u0, u1⟩, ⟨v0, v1⟩, ⟨t0, t1⟩⟩ := hlk
      simp only at e0 e1 e2 u0 u1 v0 v1 t0 t1
      have q1 : u.tmod 40 = u % 40 := Int.tmod_eq_emod_of_nonneg u0
      have q2 : v.tmod 40 = v % 40 := Int.tmod_eq_emod_of_nonneg v0
      have q3 : IntKind.i64.wrap (u % 40) = u % 40 := IntWalk.i64_in _ (by omega)
      have q4 : IntKind.i64.wrap (v % 40) = v % 40 := IntWalk.i64_in _ (by omega)
      have q5 : IntKind.i64.wrap u = u := IntWalk.i64_in _ (by omega)
      have q6 : IntKind.i64.wrap v = v := IntWalk.i64_in _ (by omega)
      have q7 : IntKind.i64.wrap t = t := IntWalk.i64_in _ (by omega)
      clear hbl
      go_wp2_with fail
      go_quiet (fail)
      have e2' : (wr.drewN nq).cell? ⟨b, o + k * 3 + 2, none⟩ = some (.int .i8 t) := e2
      have HO2 := hide (HO.out.kept ((Below.refl _ wr).drewN nq))
      have HB2 := hide (HB.out.drewN nq)
      have hsz2 : w.heap.size ≤ (wr.drewN nq).heap.size := hsz
      clear e0 e1 e2 HO HB hsz
      generalize wr.drewN nq = w2 at *
      by_cases huv : u % 40 = v % 40
      · have hne : ((u % 40) == (v % 40)) = true := by simpa using huv
        have HS2 : Hid (bltL (l.take (k + 1)) = bltL (l.take k)) := by
          show _ = _
          rw [HSN.out, if_pos huv, List.append_nil]
        clear huv HSN
        generalize u % 40 = x at *
        generalize v % 40 = y at *
        go_wp2_with fail
        go_roundg (m - (k + 1))
        case measure => have := HK.out; omega
        case rel => exact ⟨k + 1, by omega, by go_num, by rw [HS2.out]; exact HO2.out, HB2.out⟩
      · have hne : ((u % 40) == (v % 40)) = false := by simpa using huv
        have HS2 : Hid (bltL (l.take (k + 1)) = bltL (l.take k) ++ [(u % 40, v % 40, t)]) := by
          show _ = _
          rw [HSN.out, if_neg huv]
        clear huv HSN
        generalize u % 40 = x at *
        generalize v % 40 = y at *
        go_wp2_with (first | (at_builtin; (refine app_edge w2 x y t rfl _ _ rfl w.heap.size _ _ rfl HO2.out rfl hbl2 hsz2 ?_; intro v5 w5 ho5 hg5 hb5; have HO5 := hide ho5; have HB5 := hide hb5; clear ho5 hg5 hb5)))
        go_roundg (m - (k + 1))
        case measure => have := HK.out; omega
        case rel => exact ⟨k + 1, by omega, by go_num, by rw [HS2.out]; exact HO5.out, HB2.out.trans HB5.out⟩
    · obtain rfl : m = k := by omega
      have htk : l.take m = l := List.take_of_length_le (by rw [HL.out]; exact Nat.le_refl _)
      have ho := HO.out
      rw [htk] at ho
      have HO3 := hide ho
      obtain ⟨A5, c5, rfl, -⟩ := ho.form
      clear ho htk
      go_wp2_with fail
      go_ret
      exact ⟨A5, c5, rfl, HO3.out, HB.out⟩
set_option maxHeartbeats 4000000 in
theorem made40 (w : World) (A : Option Addr) (m c : Nat) (l : List (Int × Int × Int)) (hr : Rd w A m 3 (lcs l)) (hl : l.length = m) (hok : ∀ a ∈ l, LinkOk a) (hm : m ≤ 150) :
    Calls Try.prog 22 #[.slice A m c] w
      fun e w' => ∃ (p : GLoc) (B : Nat), e = .returned (.pointer (some ⟨p.g, 0, none⟩)) ∧ Gr w' p 40 B (bltL l) ∧ w.heap.size ≤ B ∧ Below w.heap.size w w' := by
  have HBu := hide (built40 w A m c l hr hl hok hm)
  have HE := hide (bltL_E hok (by omega))
  clear hr hl hok
  go_enter Try.func22, Try.ntmps22
  go_wp2_with fail
  refine HBu.out.mono ?_
  rintro e w1 ⟨A1, c1, rfl, ho, hb1⟩
  obtain ⟨A', c', e1, hrd⟩ := ho.form
  injection e1 with e1 _ e3
  subst e1; subst e3
  have HN := hide (graNew_ok w1 40 _ c1 A1 (bltL l) hrd rfl HE.out)
  have HB1 := hide hb1
  clear ho hb1 hrd
  go_wp2_with fail
  refine HN.out.mono ?_
  rintro e w2 ⟨p, rfl, hG, hb2⟩
  have HG := hide hG
  have HB2 := hide (HB1.out.trans (hb2.mono HB1.out.size))
  clear hG hb2
  go_wp2_with fail
  go_ret
  exact ⟨p, w1.heap.size, rfl, HG.out, HB1.out.size, HB2.out⟩
end Go.Proofs.Ytpgkhmjlbaoagaa
