/- graph: Strength. -/
import Derived.Test.YtpgkhmjlbaoagaaSumC
import Derived.Test.YtpgkhmjlbaoagaaGraCr
namespace Go.Proofs.Ytpgkhmjlbaoagaa
open Go.RowKit
set_option linter.unusedVariables false

/-- The weights are numbers of 64 bits. -/
def WOk (l : List (Int × Int × Int)) : Prop := ∀ e ∈ l, -9223372036854775808 ≤ e.2.2 ∧ e.2.2 ≤ 9223372036854775807
theorem WOk.at_ {l : List (Int × Int × Int)} (h : WOk l) (i : Nat) : -9223372036854775808 ≤ eW l i ∧ eW l i ≤ 9223372036854775807 := by
  by_cases hi : i < l.length
  · rw [eW_get hi]; exact h _ (List.getElem_mem hi)
  · have : eW l i = 0 := by simp [eW, hi]
    omega
/-- The weights around a vertex. -/
def wts (l : List (Int × Int × Int)) (u : Nat) : List Int := (inc l u).map fun j => eW l (j / 2)
theorem wts_len (l : List (Int × Int × Int)) (u : Nat) : (wts l u).length = (inc l u).length := by simp [wts]
theorem wts_bd {l : List (Int × Int × Int)} (h : WOk l) (u : Nat) : ∀ x ∈ wts l u, -9223372036854775808 ≤ x ∧ x ≤ 9223372036854775807 := by
  intro x hx
  obtain ⟨j, _, rfl⟩ := List.mem_map.1 hx
  exact h.at_ _
def strV (n : Nat) (l : List (Int × Int × Int)) (v : Int) : Int := if inB n v then sumV (sumI (wts l v.toNat)) else 0
def strE (n : Nat) (l : List (Int × Int × Int)) (v : Int) : Int := if inB n v then sumE (sumI (wts l v.toNat)) else 3
theorem int64_info : (Try.prog.info? 2).map (fun i => (i.zero, i.size, i.bytes)) = some (some (.int .i64 0), 1, 8) := by kernel_rfl

set_option maxRecDepth 100000 in
set_option maxHeartbeats 4000000 in
theorem graStrength_ok (w : World) (v : Nat) (p : GLoc) (n B : Nat) (l : List (Int × Int × Int)) (h : Gr w p n B l) (hw : WOk l) (hv : v < n) :
    Calls Try.prog 15 #[.pointer (some ⟨p.g, 0, none⟩), .int .i64 (v : Int)] w
      fun e w' => e = .returned (.tuple #[.int .i64 (sumV (sumI (wts l v))), .int .i64 (sumE (sumI (wts l v)))]) ∧ Below w.heap.size w w' := by
  have VV := hide (graValid w p n B l h)
  have HH := graHas w (v : Int) p n B l h
  rw [inB_nat hv] at HH
  have HH2 := hide HH
  have HA := hide (graAt w v p n B l h hv)
  have HG := hide h
  have HW := hide (wts_bd hw v)
  have hd : (inc l v).length ≤ 32768 := by
    have := stt_end (l := l) v
    have := stt_le2 (l := l) (v + 1)
    have := h.ok.2.2
    omega
  have HWT := hide hw
  obtain ⟨i0, hi, hz0, hz1, hz2⟩ := info_parts int64_info
  have hi' := hide hi
  have hz0' := hide hz0
  have hz1' := hide hz1
  have hz2' := hide hz2
  clear h hw HH hi hz0 hz1 hz2
  go_enter Try.func15, Try.ntmps15
  go_wp2_with (first | (go_at_call 43; refine VV.out.mono ?_; rintro e w' ⟨rfl, rfl⟩) | (go_at_call 44; refine HH2.out.mono ?_; rintro e w' ⟨rfl, rfl⟩))
  refine HA.out.mono ?_
  rintro e w1 ⟨⟨o, c, rfl, ho⟩, kd, rfl⟩
  obtain ⟨d, hdd⟩ : ∃ d, d = (inc l v).length := ⟨_, rfl⟩
  rw [← hdd] at ho hd ⊢
  have HO := hide ho
  have HDD := hide hdd
  clear ho hdd HA
  go_wp2_with fail
  go_loopg [20, 6] d (fun q v_ wt wr => ∃ k : Nat, k + q = d ∧ v_ = .int .i64 (k : Int) ∧ wr.ownsRow w.heap.size 2 1 wt k (((wts l v).take k).map (Value.int .i64)) ∧ Below w.heap.size w wr)
  case atStart => exact ⟨0, by omega, rfl, own_nil _ _ _ _, (Below.refl _ _).drewN kd⟩
  case round =>
    obtain ⟨k, hk, rfl, hr, hb⟩ := hrel
    have HK := hide hk
    have hkd : k ≤ d := by omega
    have HR := hide hr
    have HB := hide hb
    have hsz : w.heap.size ≤ wr.heap.size := hb.size
    have hG := HG.out.fresh hb
    clear hk hr hb
    by_cases hlt : k < d
    · obtain ⟨j, hj⟩ : ∃ j, (inc l v)[k]? = some j := ⟨_, List.getElem?_eq_getElem (by rw [← HDD.out]; exact hlt)⟩
      obtain ⟨hj1, hj2⟩ := inc_get hj
      have hjm : j / 2 < l.length := by omega
      obtain ⟨b, q, e1, hbl, e0, e1', e2⟩ := hG.rd.edge (j / 2) hjm rfl
      rw [show (l[j / 2]'hjm).2.2 = eW l (j / 2) from (eW_get hjm).symm] at e2
      have c1 := hG.cells.2.1
      rw [e1] at c1
      have cl : wr.cell? ⟨p.bl, o + k, none⟩ = some (.int .i64 ((j / 2 : Nat) : Int)) := by
        rw [HO.out (by omega)]
        obtain ⟨h1, h2, h3, h4, h5, h6, lst, h7, h8⟩ := hG
        have := h8.hl.int (i := stt (2 * l.length) (eP l) v + k) (by
          have := stt_end (l := l) v
          have := stt_le2 (l := l) (v + 1)
          have := HDD.out
          omega)
        rw [h7.row hj] at this
        exact this
      have htk : (wts l v).take (k + 1) = (wts l v).take k ++ [eW l (j / 2)] := by
        have hg : (wts l v)[k]? = some (eW l (j / 2)) := by unfold wts; rw [List.getElem?_map, hj]; rfl
        rw [List.take_add_one, hg]; rfl
      have HTK := hide htk
      have hl16 := hG.ok.2.2
      obtain ⟨m, hm⟩ : ∃ m, m = l.length := ⟨_, rfl⟩
      obtain ⟨i, hii⟩ : ∃ i, i = j / 2 := ⟨_, rfl⟩
      obtain ⟨t, ht⟩ : ∃ t, t = eW l (j / 2) := ⟨_, rfl⟩
      rw [← hm] at c1 hl16
      rw [← ht] at e2
      rw [← hii] at e2 cl
      have him : i < m := by omega
      have HT := hide ht
      clear htk hj hj1 hj2 hjm e0 e1 e1' hm hii ht hG hbl
      go_wp2_with (first | (at_builtin; go_loud (refine app_one 75 2 Try.underlying75 hi'.out hz0'.out hz1'.out hz2'.out rfl (by decide) wr #[.int .i64 t] rfl (by intro u hu; simp at hu; subst hu; rfl) rfl (.tmp 24) (.tmp 33) rfl w.heap.size _ k _ rfl HR.out rfl (by unfold maxLen; omega) (by omega) hsz ?_; intro vo' w5 ho5 hg5 hat5 hb5; have HO5 := hide ho5; have HB5 := hide hb5; clear ho5 hg5 hat5 hb5)))
      go_roundg (d - (k + 1))
      case measure => have := HK.out; omega
      case rel => exact ⟨k + 1, by omega, by go_num, by rw [HTK.out, List.map_append, ← HT.out]; exact HO5.out, HB.out.trans HB5.out⟩
    · obtain rfl : d = k := by omega
      have htk : (wts l v).take d = wts l v := List.take_of_length_le (by rw [wts_len, HDD.out]; exact Nat.le_refl _)
      have hr := HR.out
      rw [htk] at hr
      obtain ⟨A5, c5, rfl, hrd, -⟩ := own_form hr
      have HS := hide (chkSum wr A5 d c5 (wts l v) hrd (by rw [wts_len, HDD.out]) (by omega) HW.out)
      clear htk hr hrd hlt HK HR
      go_wp2_with fail
      refine HS.out.mono ?_
      rintro e w6 ⟨rfl, k6, rfl⟩
      go_wp2_with fail
      go_ret2
      exact ⟨rfl, HB.out.drewN _⟩
theorem graStrength_no (w : World) (v : Int) (p : GLoc) (n B : Nat) (l : List (Int × Int × Int)) (h : Gr w p n B l) (hv : inB n v = false) :
    Calls Try.prog 15 #[.pointer (some ⟨p.g, 0, none⟩), .int .i64 v] w fun e w' => e = .returned (.tuple #[.int .i64 0, .int .i64 3]) ∧ w = w' := by
  have VV := hide (graValid w p n B l h)
  have HH := graHas w v p n B l h
  rw [hv] at HH
  have HH2 := hide HH
  clear h HH hv
  go_enter Try.func15, Try.ntmps15
  go_wp2_with (first | (go_at_call 43; refine VV.out.mono ?_; rintro e w' ⟨rfl, rfl⟩) | (go_at_call 44; refine HH2.out.mono ?_; rintro e w' ⟨rfl, rfl⟩))
  go_ret2
  exact ⟨rfl, rfl⟩
theorem graStrength (w : World) (v : Int) (p : GLoc) (n B : Nat) (l : List (Int × Int × Int)) (h : Gr w p n B l) (hw : WOk l) :
    Calls Try.prog 15 #[.pointer (some ⟨p.g, 0, none⟩), .int .i64 v] w fun e w' => e = .returned (.tuple #[.int .i64 (strV n l v), .int .i64 (strE n l v)]) ∧ Below w.heap.size w w' := by
  cases hv : inB n v
  · have e1 : strV n l v = 0 := by unfold strV; rw [hv]; rfl
    have e2 : strE n l v = 3 := by unfold strE; rw [hv]; rfl
    rw [e1, e2]
    exact (graStrength_no w v p n B l h hv).mono fun e w' ⟨he, hk⟩ => ⟨he, hk ▸ Below.refl _ _⟩
  · obtain ⟨u, rfl⟩ := Int.eq_ofNat_of_zero_le (show 0 ≤ v by simp [inB] at hv; omega)
    have e1 : strV n l (u : Int) = sumV (sumI (wts l u)) := by unfold strV; rw [hv]; rfl
    have e2 : strE n l (u : Int) = sumE (sumI (wts l u)) := by unfold strE; rw [hv]; rfl
    rw [e1, e2]
    exact graStrength_ok w u p n B l h hw (inB_lt hv)
end Go.Proofs.Ytpgkhmjlbaoagaa
