/- seepageref13: Around (any vertex), Degree, Strength. -/
import Derived.Test.YtpgkhmjlbaoagaaR13O
import Derived.Test.YtpgkhmjlbaoagaaR01E
import Derived.Test.YtpgkhmjlbaoagaaGraSt
import Derived.Test.YtpgkhmjlbaoagaaGraEq
namespace Go.Proofs.Ytpgkhmjlbaoagaa
open Go.RowKit
set_option linter.unusedVariables false

theorem r13Around_no (w : World) (v : Int) (g : Nat) (A : Option Addr) (c n B : Nat) (l : List (Int × Int × Int)) (h : RG w g A c n B l) (hv : inB n v = false) :
    Calls Try.prog 17 #[.pointer (some ⟨g, 0, none⟩), .int .i64 v] w fun e w' => e = .returned (.slice none 0 0) ∧ w = w' := by
  have HH0 := r13Has w v g A c n B l h
  rw [hv] at HH0
  have HH := hide HH0
  clear h HH0 hv
  go_enter Try.func17, Try.ntmps17
  go_wp2_with (go_at_call 48; refine HH.out.mono ?_; rintro e w' ⟨rfl, rfl⟩)
  go_ret
  exact ⟨rfl, rfl⟩
theorem r13Around (w : World) (v : Int) (g : Nat) (A : Option Addr) (c n B : Nat) (l : List (Int × Int × Int)) (h : RG w g A c n B l) :
    Calls Try.prog 17 #[.pointer (some ⟨g, 0, none⟩), .int .i64 v] w
      fun e w' => ∃ V, e = .returned V ∧ w'.ownsRow w.heap.size 71 2 V (arnd n l v).length (pcn (arnd n l v)) ∧ Below w.heap.size w w' := by
  cases hv : inB n v
  · have e1 : arnd n l v = [] := by unfold arnd; rw [hv]; rfl
    rw [e1]
    exact (r13Around_no w v g A c n B l h hv).mono fun e w' ⟨he, hw⟩ => ⟨_, he, own_nil _ _ _ _, hw ▸ Below.refl _ _⟩
  · obtain ⟨u, rfl⟩ := Int.eq_ofNat_of_zero_le (show 0 ≤ v by simp [inB] at hv; omega)
    exact r13Around_ok w u g A c n B l h (inB_lt hv)
theorem arnd_le {n : Nat} {l : List (Int × Int × Int)} (v : Int) : (arnd n l v).length ≤ 2 * l.length := by
  rw [arnd_len]
  unfold gdeg
  split
  · have := stt_end (l := l) v.toNat
    have := stt_le2 (l := l) (v.toNat + 1)
    omega
  · exact Nat.zero_le _
theorem r13Degree (w : World) (v : Int) (g : Nat) (A : Option Addr) (c n B : Nat) (l : List (Int × Int × Int)) (h : RG w g A c n B l) :
    Calls Try.prog 19 #[.pointer (some ⟨g, 0, none⟩), .int .i64 v] w fun e w' => e = .returned (.int .i64 (gdeg n l v : Int)) ∧ Below w.heap.size w w' := by
  have hA := r13Around w v g A c n B l h
  have hle := arnd_le (n := n) (l := l) v
  have hl16 := h.lb
  rw [← arnd_len]
  generalize (arnd n l v).length = d at *
  have HA := hide hA
  clear hA h
  go_enter Try.func19, Try.ntmps19
  go_wp2_with fail
  refine HA.out.mono ?_
  rintro e w1 ⟨V, rfl, ho, hb⟩
  obtain ⟨A1, c1, rfl, -⟩ := own_form ho
  have HB := hide hb
  clear ho hb
  go_wp2_with fail
  go_ret
  exact ⟨rfl, HB.out⟩
theorem r13N_Degree (w : World) (a : Int) : Calls Try.prog 19 #[.pointer none, .int .i64 a] w fun e w' => e = .returned (.int .i64 0) ∧ w = w' := by
  go_enter Try.func19, Try.ntmps19
  go_wp2_with (go_at_call 17; refine (r13N_Around _ _).mono ?_; rintro e w' ⟨rfl, rfl⟩)
  go_ret
  exact ⟨rfl, rfl⟩
theorem wts_arnd {n : Nat} {l : List (Int × Int × Int)} {u : Nat} (h : u < n) : wts l u = (arnd n l (u : Int)).map fun x => eW l x.1 := by
  rw [arnd_hep, hes_nat h]
  unfold wts
  rw [List.map_map]
  rfl
theorem arnd_fst {n : Nat} {l : List (Int × Int × Int)} {v : Int} : ∀ x ∈ arnd n l v, x.1 < l.length := by
  intro x hx
  unfold arnd at hx
  split at hx
  · obtain ⟨j, hj, rfl⟩ := List.mem_map.1 hx
    have := (inc_mem.1 hj).1
    show j / 2 < _
    omega
  · cases hx

set_option maxRecDepth 100000 in
set_option maxHeartbeats 8000000 in
theorem r13Strength_ok (w : World) (v : Nat) (g : Nat) (A : Option Addr) (c n B : Nat) (l : List (Int × Int × Int)) (h : RG w g A c n B l) (hw : WOk l) (hv : v < n) :
    Calls Try.prog 16 #[.pointer (some ⟨g, 0, none⟩), .int .i64 (v : Int)] w
      fun e w' => e = .returned (.tuple #[.int .i64 (sumV (sumI (wts l v))), .int .i64 (sumE (sumI (wts l v)))]) ∧ Below w.heap.size w w' := by
  have VV := hide (r13Valid w g A c n B l h)
  have HH0 := r13Has w (v : Int) g A c n B l h
  rw [inB_nat hv] at HH0
  have HH := hide HH0
  have hA := r13Around_ok w v g A c n B l h hv
  have hle := arnd_le (n := n) (l := l) (v : Int)
  have hwt := wts_arnd (l := l) hv
  have HFS := hide (arnd_fst (n := n) (l := l) (v := (v : Int)))
  have HBD := hide (wts_bd hw v)
  have hwl : (wts l v).length = (arnd n l (v : Int)).length := by rw [hwt, List.length_map]
  have HG := hide h
  have hl16 := h.lb
  generalize arnd n l (v : Int) = R at *
  generalize hd : R.length = d at *
  have HD := hide hd
  have HWT := hide hwt
  have HWL := hide hwl
  have HA := hide hA
  obtain ⟨i0, hi, hz0, hz1, hz2⟩ := info_parts int64_info
  have HI := hide hi
  have HZ0 := hide hz0
  have HZ1 := hide hz1
  have HZ2 := hide hz2
  clear h hw HH0 hA hwt hwl hd hi hz0 hz1 hz2
  go_enter Try.func16, Try.ntmps16
  go_wp2_with (first | (go_at_call 47; refine VV.out.mono ?_; rintro e w' ⟨rfl, rfl⟩) | (go_at_call 48; refine HH.out.mono ?_; rintro e w' ⟨rfl, rfl⟩))
  refine HA.out.mono ?_
  rintro e w1 ⟨V, rfl, ho, hb⟩
  obtain ⟨A1, c1, rfl, hr1, -⟩ := own_form ho
  have HR1 := hide hr1
  have HO1 := hide ho
  have HB1 := hide hb
  clear ho hb hr1 HA
  go_wp2_with fail
  go_loopg [7, 8] d (fun q V i wr => ∃ k : Nat, k + q = d ∧ i = .int .i64 (k : Int) ∧ wr.ownsRow w1.heap.size 2 1 V k (((wts l v).take k).map (Value.int .i64)) ∧ Below w1.heap.size w1 wr)
  case atStart => exact ⟨0, by omega, rfl, own_nil _ _ _ _, Below.refl _ _⟩
  case round =>
    obtain ⟨k, hk, rfl, ho, hb⟩ := hrel
    have HK := hide hk
    have hkd : k ≤ d := by omega
    have HO := hide ho
    have HBw := hide hb
    have HB := hide (HB1.out.trans (hb.mono HB1.out.size))
    have hs1 : w1.heap.size ≤ wr.heap.size := hb.size
    clear hk ho hb
    by_cases hlt : k < d
    · have hkl : k < R.length := by rw [HD.out]; exact hlt
      obtain ⟨b, o, rfl, hblt, e0, _⟩ := (HR1.out.below HBw.out).pairn k hkl HD.out
      have hx1 := HFS.out _ (List.getElem_mem hkl)
      have hG := HG.out.fresh HB.out
      obtain ⟨_, _, d2⟩ := hG.cells
      obtain ⟨b2, o2, rfl, hb2lt, f0, f1, f2⟩ := hG.rd.edge (R[k]).1 hx1 rfl
      rw [show (l[(R[k]).1]'hx1).2.2 = eW l (R[k]).1 from (eW_get hx1).symm] at f2
      have htk : (wts l v).take (k + 1) = (wts l v).take k ++ [eW l (R[k]).1] := by
        have hg : (wts l v)[k]? = some (eW l (R[k]).1) := by rw [HWT.out, List.getElem?_map, List.getElem?_eq_getElem hkl]; rfl
        rw [List.take_add_one, hg]; rfl
      have HTK := hide htk
      clear hG htk f0 f1
      generalize (R[k]).1 = y at *
      generalize eW l y = t at *
      generalize l.length = m at *
      go_wp2_with fail
      go_region_law (refine step_app 75 2 Try.underlying75 HI.out HZ0.out HZ1.out HZ2.out rfl (by decide) (w := wr.drew) #[.int .i64 t] rfl (by intro c hc; simp at hc; subst hc; rfl) rfl (.tmp 25) (.tmp 38) rfl w1.heap.size _ _ _ rfl (own_below HO.out ((Below.refl _ _).drewN 1)) rfl (by unfold maxLen; omega) (by omega) hs1 ?_; intro V' w5 ho5 hb5 hg5; have HO5 := hide ho5; have HB5 := hide hb5; have HG5 := hide hg5; clear ho5 hb5 hg5)
      all_goals
        go_wp2_with fail
        go_roundg (d - (k + 1))
        case measure => have := HK.out; omega
        case rel => exact ⟨k + 1, by omega, by go_num, by rw [HTK.out, List.map_append]; exact HO5.out, HBw.out.trans (((Below.refl _ wr).drewN 1).trans HB5.out)⟩
    · obtain rfl : d = k := by omega
      have htk : (wts l v).take d = wts l v := List.take_of_length_le (by rw [HWL.out]; exact Nat.le_refl _)
      have ho := HO.out
      rw [htk] at ho
      obtain ⟨A5, c5, rfl, hr5, -⟩ := own_form ho
      have HSM := hide (r01Sum wr A5 d c5 (wts l v) hr5 HWL.out (by omega) HBD.out)
      clear htk ho hr5 HO
      go_wp2_with fail
      refine HSM.out.mono ?_
      rintro e w6 ⟨rfl, hb6⟩
      have HB6 := hide (HB.out.trans (hb6.mono HB.out.size))
      clear hb6
      go_wp2_with fail
      go_ret2
      exact ⟨rfl, HB6.out⟩
theorem r13Strength_no (w : World) (v : Int) (g : Nat) (A : Option Addr) (c n B : Nat) (l : List (Int × Int × Int)) (h : RG w g A c n B l) (hv : inB n v = false) :
    Calls Try.prog 16 #[.pointer (some ⟨g, 0, none⟩), .int .i64 v] w fun e w' => e = .returned (.tuple #[.int .i64 0, .int .i64 3]) ∧ w = w' := by
  have VV := hide (r13Valid w g A c n B l h)
  have HH0 := r13Has w v g A c n B l h
  rw [hv] at HH0
  have HH := hide HH0
  clear h HH0 hv
  go_enter Try.func16, Try.ntmps16
  go_wp2_with (first | (go_at_call 47; refine VV.out.mono ?_; rintro e w' ⟨rfl, rfl⟩) | (go_at_call 48; refine HH.out.mono ?_; rintro e w' ⟨rfl, rfl⟩))
  go_ret2
  exact ⟨rfl, rfl⟩
theorem r13Strength (w : World) (v : Int) (g : Nat) (A : Option Addr) (c n B : Nat) (l : List (Int × Int × Int)) (h : RG w g A c n B l) (hw : WOk l) :
    Calls Try.prog 16 #[.pointer (some ⟨g, 0, none⟩), .int .i64 v] w fun e w' => e = .returned (.tuple #[.int .i64 (strV n l v), .int .i64 (strE n l v)]) ∧ Below w.heap.size w w' := by
  cases hv : inB n v
  · have e1 : strV n l v = 0 := by unfold strV; rw [hv]; rfl
    have e2 : strE n l v = 3 := by unfold strE; rw [hv]; rfl
    rw [e1, e2]
    exact (r13Strength_no w v g A c n B l h hv).mono fun e w' ⟨he, hk⟩ => ⟨he, hk ▸ Below.refl _ _⟩
  · obtain ⟨u, rfl⟩ := Int.eq_ofNat_of_zero_le (show 0 ≤ v by simp [inB] at hv; omega)
    have e1 : strV n l (u : Int) = sumV (sumI (wts l u)) := by unfold strV; rw [hv]; rfl
    have e2 : strE n l (u : Int) = sumE (sumI (wts l u)) := by unfold strE; rw [hv]; rfl
    rw [e1, e2]
    exact r13Strength_ok w u g A c n B l h hw (inB_lt hv)
end Go.Proofs.Ytpgkhmjlbaoagaa
