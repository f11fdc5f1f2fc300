/- seepagelaw08: groups of equal lists of lists; labels are told by their classes. -/
import Derived.Test.YtiijhppffboogaaDsuGW
namespace Go.Proofs.Ytiijhppffboogaa
open Go.RowKit
set_option linter.unusedVariables false

theorem quiet_eq {P : Program} {f : FuncId} {args : Array Value} {w : World} {v : Value} (h : Calls P f args w fun e w' => e = .returned v ∧ w = w') :
    Calls P f args w fun e w' => e = .returned v ∧ ∃ k, w' = w.drewN k := h.mono fun _ _ ⟨he, h⟩ => ⟨he, 0, h.symm⟩
theorem quiet_any1 {P : Program} {f : FuncId} {args : Array Value} {w : World} {n : Nat} {v : Value}
    (h : Calls P f args (w.drewN n) fun e w' => e = .returned v ∧ ∃ k, w' = (w.drewN n).drewN k) :
    Calls P f args (w.drewN n) fun e w'' => e = .returned v ∧ ∃ m, w'' = w.drewN m :=
  h.mono fun _ _ ⟨he, k, hk⟩ => ⟨he, n + k, by rw [hk, World.drewN_drewN]⟩
theorem quiet_any2 {P : Program} {f : FuncId} {args : Array Value} {w : World} {a n : Nat} {v : Value}
    (h : Calls P f args (w.drewN (a + n)) fun e w' => e = .returned v ∧ ∃ k, w' = (w.drewN (a + n)).drewN k) :
    Calls P f args (w.drewN (a + n)) fun e w'' => e = .returned v ∧ ∃ m, w'' = w.drewN (a + m) :=
  h.mono fun _ _ ⟨he, k, hk⟩ => ⟨he, n + k, by rw [hk, World.drewN_drewN, Nat.add_assoc]⟩

theorem IsGrp.at {w : World} {B0 : Nat} {A : Option Addr} {m c : Nat} {G : List (List Int)} (h : IsGrp w B0 (.slice A m c) G) (j : Nat) (hj : j < G.length) :
    m = G.length ∧ ∃ b o B c', A = some ⟨b, o, none⟩ ∧ b < w.heap.size ∧ w.cell? ⟨b, o + j, none⟩ = some (.slice B G[j].length c') ∧ Rd w B G[j].length 1 (is G[j]) := by
  obtain ⟨A', c2, vs, e, _, hr, hg⟩ := h
  injection e with e1 e2 e3
  subst e1; subst e2; subst e3
  obtain ⟨b, o, rfl, hb, hc⟩ := hr.2 (by omega)
  obtain ⟨B, c', h1, _, h2⟩ := hg j hj
  exact ⟨rfl, b, o, B, c', rfl, hb, hc _ _ h1, h2⟩
theorem IsGrp.form {w : World} {B0 : Nat} {v : Value} {G : List (List Int)} (h : IsGrp w B0 v G) : ∃ A c, v = .slice A G.length c := by
  obtain ⟨A', c2, vs, e, _, hr, hg⟩ := h
  exact ⟨A', c2, e⟩

set_option maxHeartbeats 2000000 in
theorem groups_true (w : World) (v v' : Value) (G : List (List Int)) {B1 B2 : Nat} (h : IsGrp w B1 v G) (h' : IsGrp w B2 v' G) (hb : G.length ≤ 1000000) (hl : ∀ g ∈ G, g.length ≤ 1000000) :
    Calls Try.prog 25 #[v, v'] w fun e w' => e = .returned (.bool true) ∧ ∃ k, w' = w.drewN k := by
  obtain ⟨A, c, rfl⟩ := h.form
  obtain ⟨A', c', rfl⟩ := h'.form
  have HA := hide h
  have HB := hide h'
  have HL := hide hl
  clear h h' hl
  generalize hm : G.length = m at *
  have HM := hide hm
  clear hm
  go_enter Try.func25, Try.ntmps25
  go_wp2_with fail
  go_loopg [5] m (fun k i wr => ∃ j : Nat, j + k = m ∧ i = .int .i64 j ∧ ∃ d, wr = w.drewN d)
  case atStart => exact ⟨0, by omega, rfl, 0, rfl⟩
  case round =>
    obtain ⟨j, hj, rfl, d, rfl⟩ := hrel
    have HJ := hide hj
    clear hj
    by_cases hlt : j < m
    · have hjG : j < G.length := by have := HM.out; omega
      obtain ⟨_, b, o, B, q, rfl, hbl, c0, r0⟩ := HA.out.at j hjG
      obtain ⟨_, b', o', B', q', rfl, hbl', c0', r0'⟩ := HB.out.at j hjG
      have hgl := HL.out _ (List.getElem_mem hjG)
      generalize G[j]'hjG = g at *
      have HR := hide r0
      have HR' := hide r0'
      clear r0 r0'
      generalize hgn : g.length = z at *
      have HG := hide hgn
      clear hgn
      go_wp2_with fail
      go_quiet (first | (go_at_call 19; first | exact quiet_any2 (samei_true _ _ _ _ _ _ _ (HR.out.drewN _) (HR'.out.drewN _) HG.out (by omega)) | exact quiet_any1 (samei_true _ _ _ _ _ _ _ (HR.out.drewN _) (HR'.out.drewN _) HG.out (by omega))))
      go_wp2_with fail
      go_roundg (m - (j + 1))
      case measure => have := HJ.out; omega
      case rel => exact ⟨j + 1, by omega, by go_num, _, rfl⟩
    · go_wp2_with fail
      go_ret
      exact ⟨rfl, _, rfl⟩

theorem grp_bound {n : Nat} {L : Nat → Nat} : ∀ g ∈ grp n L, g.length ≤ n := by
  intro g hg
  simp only [grp, List.mem_map] at hg
  obtain ⟨r, _, rfl⟩ := hg
  rw [List.length_map, mem_len]
  exact cnt_le _ _

/-! ### Labels are told by their classes -/
theorem lab_unique {n : Nat} {L L' : Nat → Nat} (h : Lab n L) (h' : Lab n L') (hs : ∀ i j, i < n → j < n → (L i = L j ↔ L' i = L' j)) : ∀ i, i < n → L i = L' i := by
  intro i hi
  have a1 := h.le i hi
  have a2 := h'.le i hi
  have b1 : L' (L i) = L' i := (hs _ _ (by omega) hi).1 (h.idem i hi)
  have b2 : L (L' i) = L i := (hs _ _ (by omega) hi).2 (h'.idem i hi)
  have c1 := h'.le (L i) (by omega)
  have c2 := h.le (L' i) (by omega)
  omega
theorem grp_congr {n : Nat} {L L' : Nat → Nat} (h : ∀ i, i < n → L i = L' i) : grp n L = grp n L' := by
  have e1 : rts L n = rts L' n := List.filter_congr fun i hi => by rw [h i (by simpa using hi)]
  have e2 : ∀ r, mem n L r = mem n L' r := fun r => List.filter_congr fun i hi => by rw [h i (by simpa using hi)]
  unfold grp
  rw [e1]
  congr 1
  funext r
  rw [e2]
theorem foldU_lab (n : Nat) (l : List (Int × Int)) {L : Nat → Nat} (h : Lab n L) : Lab n (foldU n l L) := by
  induction l generalizing L with
  | nil => exact h
  | cons e l ih =>
    refine ih (L := unionL n L e.1 e.2) ?_
    unfold unionL; split
    · rename_i hv
      simp only [Bool.and_eq_true] at hv
      exact h.merge_ (inB_lt hv.1) (inB_lt hv.2)
    · exact h
theorem foldU_coarse {n : Nat} {l m : List (Int × Int)} (h : ∀ e ∈ l, ∃ x ∈ m, (x = e ∨ x = (e.2, e.1))) :
    ∀ i j, i < n → j < n → foldU n l (fun i => i) i = foldU n l (fun i => i) j → foldU n m (fun i => i) i = foldU n m (fun i => i) j := by
  intro i j hi hj he
  have hc : Closed n l (fun k => foldU n m (fun i => i) k == foldU n m (fun i => i) i) := fun e he h1 h2 => by
    obtain ⟨x, hx, hxe⟩ := h e he
    have : foldU n m (fun i => i) e.1.toNat = foldU n m (fun i => i) e.2.toNat := by
      rcases hxe with rfl | rfl
      · exact foldU_joins _ hx h1 h2
      · exact (foldU_joins (e := (e.2, e.1)) _ hx h2 h1).symm
    simp only [this]
  have := foldU_closed hc (fun i j _ _ h => by have h' : i = j := h; rw [h']) i j hi hj he
  exact Eq.symm (by simpa using this.symm)
def back (l : List (Int × Int)) : List (Int × Int) := (l.map fun e => (e.2, e.1)).reverse
theorem back_law (n : Nat) (l : List (Int × Int)) : ∀ i, i < n → foldU n l (fun i => i) i = foldU n (back l) (fun i => i) i := by
  refine lab_unique (foldU_lab n l (Lab.id_ n)) (foldU_lab n (back l) (Lab.id_ n)) fun i j hi hj => ⟨fun h => ?_, fun h => ?_⟩
  · exact foldU_coarse (fun e he => ⟨(e.2, e.1), by simp [back]; exact ⟨e.1, e.2, he, rfl, rfl⟩, .inr rfl⟩) i j hi hj h
  · exact foldU_coarse (fun e he => by
      simp [back] at he
      obtain ⟨a, b, hab, rfl⟩ := he
      exact ⟨(a, b), hab, .inr rfl⟩) i j hi hj h
end Go.Proofs.Ytiijhppffboogaa
