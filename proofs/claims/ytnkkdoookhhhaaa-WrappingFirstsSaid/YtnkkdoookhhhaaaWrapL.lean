/- seepagelaw30: sizes, edges, put. -/
import Derived.Test.YtnkkdoookhhhaaaWrapH
import Derived.Test.YtnkkdoookhhhaaaWrapX
import Derived.Test.YtnkkdoookhhhaaaOpen
namespace Go.Proofs.Ytnkkdoookhhhaaa
open Go.RowKit
set_option linter.unusedVariables false

def natv (l : List Nat) : List Value := is (l.map fun (i : Nat) => (i : Int))
theorem natv_snoc (l : List Nat) (e : Nat) : natv (l ++ [e]) = natv l ++ (#[Value.int .i64 (e : Int)] : Array Value).toList := by simp [natv, is]
theorem natv_one (l : List Nat) : ∀ u ∈ natv l, u.oneCell' = true := by
  intro u hu
  simp only [natv, is, List.mem_map] at hu
  obtain ⟨_, _, rfl⟩ := hu
  rfl
theorem Rd.nat {w : World} {A : Option Addr} {n : Nat} {l : List Nat} (h : Rd w A n 1 (natv l)) (j : Nat) (hj : j < l.length) (hn : l.length = n) :
    ∃ b o, A = some ⟨b, o, none⟩ ∧ b < w.heap.size ∧ w.cell? ⟨b, o + j, none⟩ = some (.int .i64 (l[j] : Int)) := by
  obtain ⟨b, o, e, hb, hc⟩ := h.int j (by simpa using hj) (by simpa using hn)
  refine ⟨b, o, e, hb, ?_⟩
  rw [hc]; simp
set_option maxRecDepth 100000 in
theorem sizes_any (a b : Int) (W : World) (ha : 0 ≤ a ∧ a < 256) (hb : 0 ≤ b ∧ b < 256) :
    Calls Try.prog 18 #[.int .u8 a, .int .u8 b] W fun e W' => e = .returned (.tuple #[.int .i64 (1 + a % 12), .int .i64 (1 + b % 12)]) ∧ W = W' := by
  obtain ⟨a1, a2⟩ := ha
  obtain ⟨b1, b2⟩ := hb
  have m1 : 0 ≤ a % 12 ∧ a % 12 < 12 := by omega
  have m2 : 0 ≤ b % 12 ∧ b % 12 < 12 := by omega
  obtain ⟨m1, m1'⟩ := m1
  obtain ⟨m2, m2'⟩ := m2
  go_enter Try.func18, Try.ntmps18
  go_wp2
  go_ret2
  exact ⟨rfl, rfl⟩
theorem setCell_size (w : World) (p : Addr) (u : Value) : (w.setCell p u).heap.size = w.heap.size := by simp [World.setCell]
/-- What a walk is told of the numbers that choose edges. -/
def IsU16 (W : World) (v : Value) (l : List Nat) : Prop := ∃ (A : Option Addr) (n c : Nat), v = .slice A n c ∧ n ≤ maxLen ∧ l.length = n ∧ (∀ a ∈ l, a < 65536) ∧ Rd W A n 1 (l.map fun (i : Nat) => Value.int .u16 (i : Int))
theorem ints_u16 {W : World} {v : Value} {l : List Int} (h : IsInts .u16 W v l) : ∃ l' : List Nat, IsU16 W v l' := by
  obtain ⟨A, n, c, hv, hn, hl, ha, hr⟩ := h
  have hb : ∀ a ∈ l, 0 ≤ a ∧ a < 65536 := fun a h => by have := ha a h; have e1 : IntKind.u16.max = 65535 := rfl; have e2 : IntKind.u16.min = 0 := rfl; simp [Lit.wf] at this; omega
  refine ⟨l.map Int.toNat, A, n, c, hv, hn, by simpa using hl, fun a h => ?_, ?_⟩
  · obtain ⟨x, hx, rfl⟩ := List.mem_map.1 h
    have := hb x hx
    omega
  · have : (l.map Int.toNat).map (fun (i : Nat) => Value.int .u16 (i : Int)) = l.map (Value.int .u16) := by
      rw [List.map_map]
      refine List.map_congr_left fun a h => ?_
      have := hb a h
      show Value.int .u16 ((a.toNat : Nat) : Int) = _
      rw [show ((a.toNat : Nat) : Int) = a by omega]
    rw [this]; exact hr
theorem IsU16.fresh {w w' : World} {v : Value} {l : List Nat} (h : IsU16 w v l) (k : Below w.heap.size w w') : IsU16 w' v l := by
  obtain ⟨A, n, c, h1, h2, h3, h4, h5⟩ := h
  exact ⟨A, n, c, h1, h2, h3, h4, h5.below k⟩

set_option maxRecDepth 100000 in
set_option maxHeartbeats 8000000 in
theorem edges_any (w : World) (n : Nat) (v : Value) (l : List Nat) (once : Bool) (hl : IsU16 w v l) (hn1 : 1 ≤ n) (hn : n ≤ 4096) :
    Calls Try.prog 20 #[.int .i64 (n : Int), v, .bool once] w
      fun e w' => ∃ A c, e = .returned (.slice A (edg (2 * n) once l).length c) ∧ w'.ownsRow w.heap.size 3 1 (.slice A (edg (2 * n) once l).length c) (edg (2 * n) once l).length (natv (edg (2 * n) once l)) ∧ Below w.heap.size w w' := by
  obtain ⟨A, m, c, rfl, hm, hlen, hok, hr⟩ := hl
  have hm' : m ≤ 9223372036854775807 := by unfold maxLen at hm; omega
  obtain ⟨N, hN⟩ : ∃ N, N = 2 * n := ⟨_, rfl⟩
  have hn2 : 2 * (n : Int) = (N : Int) := by rw [hN]; push_cast; rfl
  have hN1 : 1 ≤ N := by omega
  have hN2 : N ≤ 8192 := by omega
  rw [← hN]
  obtain ⟨i0, hi, hz0, hz1, hz2⟩ := info_parts bool_info0
  have hmk := fun W => run_make_bools 65 4 i0 Try.underlying65 hi hz0 hz1 hz2 N (by omega) W
  clear hi hz0 hz1 hz2
  obtain ⟨i1, hi, hz0, hz1, hz2⟩ := info_parts int_info0
  have hi' := hide hi
  have hz0' := hide hz0
  have hz1' := hide hz1
  have hz2' := hide hz2
  have HR := hide hr
  have HLn := hide hlen
  have HOK := hide hok
  clear hi hz0 hz1 hz2 hr hlen hok hm hN
  cases once
  · go_enter Try.func20, Try.ntmps20
    go_wp2_with fail
    have hS0 := Blk.new w 4 (arb N fun _ => false)
    have hB0 : Below w.heap.size w (w.alloc (.cells (arb N fun _ => false) 4)) := (Below.refl _ _).alloc (Nat.le_refl _) _
    generalize w.alloc (.cells (arb N fun _ => false) 4) = w1 at *
    generalize hSS : w.heap.size = S at *
    have HSS := hide hSS
    have HS0 := hide hS0
    have HB0 := hide hB0
    clear hS0 hB0 hSS hmk
    go_loopg [7, 9] m (fun q V v wr => ∃ (k : Nat) (acc : List Nat), k + q = m ∧ k ≤ 300 ∧ v = .int .i64 (k : Int) ∧ acc = edgK N false l k ∧ Blk wr S 4 (arb N fun (c : Nat) => acc.contains c) ∧ wr.ownsRow S 3 1 V acc.length (natv acc) ∧ Below S w wr)
    case atStart => exact ⟨0, [], by omega, by omega, rfl, by simp [edgK], by simpa using HS0.out, own_nil _ _ _ _, HB0.out⟩
    case round =>
      obtain ⟨k, acc, hk, hk3, rfl, hacc, hS, ho, hb⟩ := hrel
      have HK := hide hk
      have hkm : k ≤ m := by omega
      have HS := hide hS
      have HO := hide ho
      have HB := hide hb
      have HACC := hide hacc
      have hsz : S ≤ wr.heap.size := by have := hb.size; rw [HSS.out] at this; exact this
      clear hk hS ho hb hacc
      by_cases hlt : k < m ∧ k < 300
      · obtain ⟨hlt, hlt3⟩ := hlt
        have hkl : k < l.length := by rw [HLn.out]; exact hlt
        obtain ⟨b, o, rfl, hblt, cl⟩ : ∃ b o, A = some ⟨b, o, none⟩ ∧ b < S ∧ wr.cell? ⟨b, o + k, none⟩ = some (.int .u16 (l[k] : Int)) := by
          obtain ⟨b, o, e, hb, hc⟩ := HR.out.2 (by omega)
          exact ⟨b, o, e, by rw [← HSS.out]; exact hb, (HB.out.cell (p := ⟨b, o + k, none⟩) (by rw [← HSS.out]; exact hb)).trans (hc k _ (by simp [hkl]))⟩
        have hxb := HOK.out l[k] (List.getElem_mem hkl)
        have hsucc := edgK_succ (N := N) (once := false) hkl
        have hlen2 := (edgK_lt (N := N) (by omega) (once := false) (l := l) k (by omega)).2.1
        rw [← HACC.out] at hsucc hlen2
        generalize l[k] = x at *
        obtain ⟨e, he⟩ : ∃ e, e = x % N := ⟨_, rfl⟩
        have heN : e < N := by rw [he]; exact Nat.mod_lt _ (by omega)
        have hxe : (x : Int) % (N : Int) = (e : Int) := by rw [he]; push_cast; rfl
        rw [← he] at hsucc
        have HSU := hide hsucc
        clear hsucc he
        have cs := HS.out.bool heN
        have fz := HS.out.frozen e
        cases hc : (false && acc.contains e)
        · have hacc : acc ++ [e] = edgK N false l (k + 1) := by rw [HSU.out]; unfold edgS; rw [hc]; rfl
          have hup : updb (fun (c : Nat) => acc.contains c) e true = fun (c : Nat) => (acc ++ [e]).contains c := by
            funext c; unfold updb; split
            · subst_vars; simp
            · rename_i hne; rw [Bool.eq_iff_iff]; simp; omega
          have HACC2 := hide hacc
          have HUP := hide hup
          have hnb := own_notBlk HO.out HS.out (by decide)
          have HNB := hide hnb
          try (have hct : acc.contains e = false := (by simpa using hc); rw [hct] at cs)
          have ho2 := own_fr HO.out ((Fr.refl [S] wr).setCell (p := ⟨S, e, none⟩) (.inl (by simp)) (.bool true)) (fun b hb hm => by rw [List.mem_singleton.1 hm] at hb; exact HNB.out hb)
          have hs2 := HS.out.setBool e true
          rw [HUP.out] at hs2
          have hb2 : Below S w (wr.setCell ⟨S, e, none⟩ (.bool true)) := HB.out.setCell (p := ⟨S, e, none⟩) (Nat.le_refl S) _
          have HO2 := hide ho2
          have HS2 := hide hs2
          have HB2 := hide hb2
          have hsz2 : S ≤ (wr.setCell ⟨S, e, none⟩ (.bool true)).heap.size := by simpa [World.setCell] using hsz
          clear ho2 hs2 hb2 hacc hup hnb hc
          go_wp2_with (first | (at_builtin; go_loud (refine app_one 22 3 Try.underlying22 hi'.out hz0'.out hz1'.out hz2'.out rfl (by decide) (wr.setCell ⟨S, e, none⟩ (.bool true)) #[.int .i64 (e : Int)] rfl (by intro u hu; simp at hu; subst hu; rfl) rfl (.tmp 42) (.tmp 44) rfl S _ acc.length _ rfl HO2.out (by rw [setCell_size]; rfl) (by unfold maxLen; omega) (by omega) hsz2 ?_; intro vo' w5 ho5 hg5 hat5 hb5; have HO5 := hide ho5; have HB5 := hide hb5; have HS5 := hide (HS2.out.grown hg5 HNB.out); clear ho5 hg5 hat5 hb5)))
          go_roundg (m - (k + 1))
          case measure => have := HK.out; omega
          case rel =>
            refine ⟨k + 1, acc ++ [e], by omega, by omega, by go_num, HACC2.out, HS5.out, ?_, HB2.out.trans HB5.out⟩
            rw [natv_snoc, List.length_append, List.length_singleton]; exact HO5.out
        · simp at hc
      · have hend : acc = edg N false l := by
          rw [edg_K, HACC.out]
          have : min l.length 300 = k := by rw [HLn.out]; omega
          rw [this]
        obtain ⟨A5, c5, rfl, _⟩ := own_form HO.out
        have HEND := hide hend
        clear hend
        by_cases hkm2 : k < m
        · have h300 : ¬ k < 300 := fun h => hlt ⟨hkm2, h⟩
          clear hlt
          go_wp2_with fail
          go_ret
          rw [HSS.out, ← HEND.out]
          exact ⟨A5, c5, rfl, HO.out, HB.out⟩
        · clear hlt
          go_wp2_with fail
          go_ret
          rw [HSS.out, ← HEND.out]
          exact ⟨A5, c5, rfl, HO.out, HB.out⟩
  · go_enter Try.func20, Try.ntmps20
    go_wp2_with fail
    have hS0 := Blk.new w 4 (arb N fun _ => false)
    have hB0 : Below w.heap.size w (w.alloc (.cells (arb N fun _ => false) 4)) := (Below.refl _ _).alloc (Nat.le_refl _) _
    generalize w.alloc (.cells (arb N fun _ => false) 4) = w1 at *
    generalize hSS : w.heap.size = S at *
    have HSS := hide hSS
    have HS0 := hide hS0
    have HB0 := hide hB0
    clear hS0 hB0 hSS hmk
    go_loopg [7, 9] m (fun q V v wr => ∃ (k : Nat) (acc : List Nat), k + q = m ∧ k ≤ 300 ∧ v = .int .i64 (k : Int) ∧ acc = edgK N true l k ∧ Blk wr S 4 (arb N fun (c : Nat) => acc.contains c) ∧ wr.ownsRow S 3 1 V acc.length (natv acc) ∧ Below S w wr)
    case atStart => exact ⟨0, [], by omega, by omega, rfl, by simp [edgK], by simpa using HS0.out, own_nil _ _ _ _, HB0.out⟩
    case round =>
      obtain ⟨k, acc, hk, hk3, rfl, hacc, hS, ho, hb⟩ := hrel
      have HK := hide hk
      have hkm : k ≤ m := by omega
      have HS := hide hS
      have HO := hide ho
      have HB := hide hb
      have HACC := hide hacc
      have hsz : S ≤ wr.heap.size := by have := hb.size; rw [HSS.out] at this; exact this
      clear hk hS ho hb hacc
      by_cases hlt : k < m ∧ k < 300
      · obtain ⟨hlt, hlt3⟩ := hlt
        have hkl : k < l.length := by rw [HLn.out]; exact hlt
        obtain ⟨b, o, rfl, hblt, cl⟩ : ∃ b o, A = some ⟨b, o, none⟩ ∧ b < S ∧ wr.cell? ⟨b, o + k, none⟩ = some (.int .u16 (l[k] : Int)) := by
          obtain ⟨b, o, e, hb, hc⟩ := HR.out.2 (by omega)
          exact ⟨b, o, e, by rw [← HSS.out]; exact hb, (HB.out.cell (p := ⟨b, o + k, none⟩) (by rw [← HSS.out]; exact hb)).trans (hc k _ (by simp [hkl]))⟩
        have hxb := HOK.out l[k] (List.getElem_mem hkl)
        have hsucc := edgK_succ (N := N) (once := true) hkl
        have hlen2 := (edgK_lt (N := N) (by omega) (once := true) (l := l) k (by omega)).2.1
        rw [← HACC.out] at hsucc hlen2
        generalize l[k] = x at *
        obtain ⟨e, he⟩ : ∃ e, e = x % N := ⟨_, rfl⟩
        have heN : e < N := by rw [he]; exact Nat.mod_lt _ (by omega)
        have hxe : (x : Int) % (N : Int) = (e : Int) := by rw [he]; push_cast; rfl
        rw [← he] at hsucc
        have HSU := hide hsucc
        clear hsucc he
        have cs := HS.out.bool heN
        have fz := HS.out.frozen e
        cases hc : (true && acc.contains e)
        · have hacc : acc ++ [e] = edgK N true l (k + 1) := by rw [HSU.out]; unfold edgS; rw [hc]; rfl
          have hup : updb (fun (c : Nat) => acc.contains c) e true = fun (c : Nat) => (acc ++ [e]).contains c := by
            funext c; unfold updb; split
            · subst_vars; simp
            · rename_i hne; rw [Bool.eq_iff_iff]; simp; omega
          have HACC2 := hide hacc
          have HUP := hide hup
          have hnb := own_notBlk HO.out HS.out (by decide)
          have HNB := hide hnb
          try (have hct : acc.contains e = false := (by simpa using hc); rw [hct] at cs)
          have ho2 := own_fr HO.out ((Fr.refl [S] wr).setCell (p := ⟨S, e, none⟩) (.inl (by simp)) (.bool true)) (fun b hb hm => by rw [List.mem_singleton.1 hm] at hb; exact HNB.out hb)
          have hs2 := HS.out.setBool e true
          rw [HUP.out] at hs2
          have hb2 : Below S w (wr.setCell ⟨S, e, none⟩ (.bool true)) := HB.out.setCell (p := ⟨S, e, none⟩) (Nat.le_refl S) _
          have HO2 := hide ho2
          have HS2 := hide hs2
          have HB2 := hide hb2
          have hsz2 : S ≤ (wr.setCell ⟨S, e, none⟩ (.bool true)).heap.size := by simpa [World.setCell] using hsz
          clear ho2 hs2 hb2 hacc hup hnb hc
          go_wp2_with (first | (at_builtin; go_loud (refine app_one 22 3 Try.underlying22 hi'.out hz0'.out hz1'.out hz2'.out rfl (by decide) (wr.setCell ⟨S, e, none⟩ (.bool true)) #[.int .i64 (e : Int)] rfl (by intro u hu; simp at hu; subst hu; rfl) rfl (.tmp 42) (.tmp 44) rfl S _ acc.length _ rfl HO2.out (by rw [setCell_size]; rfl) (by unfold maxLen; omega) (by omega) hsz2 ?_; intro vo' w5 ho5 hg5 hat5 hb5; have HO5 := hide ho5; have HB5 := hide hb5; have HS5 := hide (HS2.out.grown hg5 HNB.out); clear ho5 hg5 hat5 hb5)))
          go_roundg (m - (k + 1))
          case measure => have := HK.out; omega
          case rel =>
            refine ⟨k + 1, acc ++ [e], by omega, by omega, by go_num, HACC2.out, HS5.out, ?_, HB2.out.trans HB5.out⟩
            rw [natv_snoc, List.length_append, List.length_singleton]; exact HO5.out
        · have hct : acc.contains e = true := by simpa using hc
          have hacc : acc = edgK N true l (k + 1) := by rw [HSU.out]; unfold edgS; rw [hc]; rfl
          have HACC2 := hide hacc
          rw [hct] at cs
          clear hc hct hacc
          go_wp2_with fail
          go_roundg (m - (k + 1))
          case measure => have := HK.out; omega
          case rel => exact ⟨k + 1, acc, by omega, by omega, by go_num, HACC2.out, HS.out, HO.out, HB.out⟩
      · have hend : acc = edg N true l := by
          rw [edg_K, HACC.out]
          have : min l.length 300 = k := by rw [HLn.out]; omega
          rw [this]
        obtain ⟨A5, c5, rfl, _⟩ := own_form HO.out
        have HEND := hide hend
        clear hend
        by_cases hkm2 : k < m
        · have h300 : ¬ k < 300 := fun h => hlt ⟨hkm2, h⟩
          clear hlt
          go_wp2_with fail
          go_ret
          rw [HSS.out, ← HEND.out]
          exact ⟨A5, c5, rfl, HO.out, HB.out⟩
        · clear hlt
          go_wp2_with fail
          go_ret
          rw [HSS.out, ← HEND.out]
          exact ⟨A5, c5, rfl, HO.out, HB.out⟩
end Go.Proofs.Ytnkkdoookhhhaaa
