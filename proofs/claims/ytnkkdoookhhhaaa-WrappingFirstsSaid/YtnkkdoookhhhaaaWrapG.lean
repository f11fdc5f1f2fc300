/- wrapping: First. -/
import Derived.Test.YtnkkdoookhhhaaaWrapN
namespace Go.Proofs.Ytnkkdoookhhhaaa
open Go.RowKit
set_option linter.unusedVariables false

theorem bool_info0 : (Try.prog.info? 4).map (fun i => (i.zero, i.size, i.bytes)) = some (some (.bool false), 1, 1) := by kernel_rfl
/-- Every number of an order is below m, and occurs once. -/
def ordOk (m : Nat) (l : List Int) : Bool := decide (l.Nodup) && l.all fun i => decide (0 ≤ i ∧ i < m)
theorem ordOk_iff {m : Nat} {l : List Int} : ordOk m l = true ↔ l.Nodup ∧ ∀ i ∈ l, 0 ≤ i ∧ i < m := by simp [ordOk]
theorem nodup_len {m : Nat} : ∀ {l : List Int}, l.Nodup → (∀ i ∈ l, 0 ≤ i ∧ i < m) → l.length ≤ m := by
  intro l hn hb
  have h1 : ∀ (l : List Int), l.Nodup → (∀ i ∈ l, 0 ≤ i ∧ i < m) → l.length ≤ cnt (fun c => l.contains (c : Int)) m := by
    intro l
    induction l with
    | nil => intro _ _; simp
    | cons x l ih =>
      intro hn hb
      have hx := hb x (by simp)
      have hnd := List.nodup_cons.1 hn
      have ih := ih hnd.2 fun i hi => hb i (by simp [hi])
      have hlt := cnt_lt (p := fun c => l.contains (c : Int)) (q := fun c => (x :: l).contains (c : Int)) (n := m) (m := x.toNat) (fun i _ h => by simp at h ⊢; exact .inr h) (by omega)
        (by rw [show ((x.toNat : Nat) : Int) = x by omega]; simpa using hnd.1) (by rw [show ((x.toNat : Nat) : Int) = x by omega]; simp)
      simp only [List.length_cons]; omega
  exact Nat.le_trans (h1 l hn hb) (cnt_le _ _)
/-- The numbers of an order, as edges. -/
def ordE (l : List Int) : List Nat := l.map Int.toNat
theorem ordOk_take {m : Nat} {l : List Int} {k : Nat} (hk : k < l.length) (h : ordOk m (l.take k) = true) :
    ordOk m (l.take (k + 1)) = true ↔ (0 ≤ l[k] ∧ l[k] < m) ∧ l[k] ∉ l.take k := by
  rw [ordOk_iff] at h ⊢
  rw [List.take_succ_eq_append_getElem hk, List.nodup_append]
  constructor
  · rintro ⟨⟨_, _, h3⟩, h4⟩
    exact ⟨h4 l[k] (List.mem_append_right _ (List.mem_singleton.2 rfl)), fun hm => h3 _ hm _ (List.mem_singleton.2 rfl) rfl⟩
  · rintro ⟨h3, h4⟩
    refine ⟨⟨h.1, by simp, fun a ha b hb e => ?_⟩, fun i hi => ?_⟩
    · rw [List.mem_singleton.1 hb] at e; subst e; exact h4 ha
    · rcases List.mem_append.1 hi with hi | hi
      · exact h.2 i hi
      · rw [List.mem_singleton.1 hi]; exact h3
theorem ordOk_prefix {m : Nat} {l : List Int} {k : Nat} (h : ordOk m l = true) : ordOk m (l.take k) = true := by
  rw [ordOk_iff] at h ⊢
  exact ⟨h.1.sublist (List.take_sublist _ _), fun i hi => h.2 i (List.mem_of_mem_take hi)⟩
theorem ordE_in {W H : Nat} {l : List Int} (h : ordOk (2 * (W * H)) l = true) : InE (W * H) tS (tT W H) (ordE l) := fun e he => by
  obtain ⟨i, hi, rfl⟩ := List.mem_map.1 he
  have := (ordOk_iff.1 h).2 i hi
  exact tE_in (by omega)
theorem contains_snoc (l : List Int) (k : Nat) (hk : k < l.length) (x : Nat) (hx : l[k] = (x : Int)) : updb (fun (c : Nat) => (l.take k).contains (c : Int)) x true = fun (c : Nat) => (l.take (k + 1)).contains (c : Int) := by
  funext c
  rw [List.take_succ_eq_append_getElem hk, hx]
  unfold updb
  split
  · subst_vars; simp
  · rename_i hne
    rw [Bool.eq_iff_iff]
    simp
    omega

theorem torFirst_no (w : World) (a b : Int) (v : Value) (h : torB a b = false) :
    Calls Try.prog 16 #[.int .i64 a, .int .i64 b, v] w fun e w' => e = .returned (.tuple #[.int .i64 0, .bool false, .int .i64 2]) ∧ w = w' := by
  have HN := hide (torNew_no w a b h)
  clear h
  go_enter Try.func16, Try.ntmps16
  go_wp2_with fail
  refine HN.out.mono ?_
  rintro e w' ⟨rfl, rfl⟩
  go_wp2_with fail
  go_ret3
  exact ⟨rfl, rfl⟩

set_option maxRecDepth 100000 in
set_option maxHeartbeats 8000000 in
theorem torFirst_long (w : World) (W H : Nat) (A : Option Addr) (m c : Nat) (h : torB (W : Int) (H : Int) = true) (hm : m ≤ 9223372036854775807) (hb : 2 * (W * H) < m) :
    Calls Try.prog 16 #[.int .i64 (W : Int), .int .i64 (H : Int), .slice A m c] w
      fun e w' => e = .returned (.tuple #[.int .i64 0, .bool false, .int .i64 2]) ∧ Below w.heap.size w w' := by
  have HN := hide (torNew_ok w W H h)
  obtain ⟨h1, h2, h3, h4, h5⟩ : 1 ≤ (W : Int) ∧ 1 ≤ (H : Int) ∧ (W : Int) ≤ 4096 ∧ (H : Int) ≤ 4096 ∧ (W : Int) * (H : Int) ≤ 4096 := by unfold torB at h; exact of_decide_eq_true h
  have hb2 : 2 * ((W : Int) * (H : Int)) < (m : Int) := by
    have : ((2 * (W * H) : Nat) : Int) < (m : Int) := by omega
    push_cast at this; exact this
  have hb3 : 2 * (W : Int) * (H : Int) < (m : Int) := by rw [Int.mul_assoc]; exact hb2
  have hp : 0 ≤ 2 * (W : Int) * (H : Int) := by rw [Int.mul_assoc]; have := Int.mul_nonneg (show (0 : Int) ≤ W by omega) (show (0 : Int) ≤ H by omega); omega
  have hp2 : 2 * (W : Int) * (H : Int) ≤ 8192 := by rw [Int.mul_assoc]; omega
  clear h h5 hb2 hb
  go_enter Try.func16, Try.ntmps16
  go_wp2_with fail
  refine HN.out.mono ?_
  rintro e w' ⟨p, rfl, hT, hB, hp⟩
  have HB := hide hB
  clear hT hB hp
  go_wp2_with fail
  go_ret3
  exact ⟨rfl, HB.out⟩
end Go.Proofs.Ytnkkdoookhhhaaa
