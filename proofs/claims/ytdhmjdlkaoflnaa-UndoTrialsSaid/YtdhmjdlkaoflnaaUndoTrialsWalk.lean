/- The walk of UndoTrials. -/
import Derived.Test.YtdhmjdlkaoflnaaUndoOrdersWalk
namespace Go.Proofs.Ytdhmjdlkaoflnaa
open Go.RowKit
set_option linter.unusedVariables false

theorem pair_info : (Try.prog.info? 46).map (fun i => (i.zero, i.size, i.bytes)) = some (some (.agg #[.int .i64 0, .int .i64 0]), 2, 16) := by kernel_rfl
theorem prs_ok (l : List (Nat × Nat)) : ∀ a ∈ prs l, PairOk a := by
  intro a ha
  simp only [prs, List.mem_map] at ha
  obtain ⟨x, _, rfl⟩ := ha
  simp only [PairOk, inI64]; omega
theorem prs_in (l : List (Nat × Nat)) : allIn 50 (prs l) := by
  intro a ha
  simp only [prs, List.mem_map] at ha
  obtain ⟨x, _, rfl⟩ := ha
  exact ⟨mod50 _, mod50 _⟩
theorem pcs_append (l m : List (Int × Int)) : pcs (l ++ m) = pcs l ++ pcs m := by simp [pcs]
theorem size_at {n : Nat} {L : Nat → Nat} {i : Nat} (hi : i < n) : sizeV n L (i : Int) = (cls n L (L i) : Int) := by simp [sizeV, inB_nat hi]

set_option maxRecDepth 100000 in
set_option maxHeartbeats 8000000 in
theorem undoTrials_walk (v0 : Value) (l : List (Nat × Nat)) (v1 : Value) (m : List (Nat × Nat)) (W : World) (w0 : IsPairs8 W v0 l) (w1 : IsPairs8 W v1 m) :
    Calls Try.prog 7 #[v0, v1] W fun e W' => e = .returned (.bool true) ∧ Below W.heap.size W W' := by
  have HL := hide w0
  have HM := hide w1
  obtain ⟨A, q, c, rfl, hq, hql⟩ := w0.form
  obtain ⟨A', q', c', rfl, hm1, hlen, hok, hr⟩ := w1
  have hq' : q' ≤ 9223372036854775807 := by unfold maxLen at hm1; omega
  have HR := hide hr
  have HLn := hide hlen
  have HOK := hide hok
  clear w0 hr hlen hok hm1 hql
  by_cases hbig : q ≤ 100 ∧ q' ≤ 100
  · obtain ⟨h1, h2⟩ := hbig
    obtain ⟨i0, hi, hz0, hz1, hz2⟩ := info_parts pair_info
    have HI := hide hi
    have HZ0 := hide hz0
    have HZ1 := hide hz1
    have HZ2 := hide hz2
    clear hi hz0 hz1 hz2
    go_enter Try.func7, Try.ntmps7
    go_wp2_with fail
    refine (made_true W _ l HL.out).mono ?_
    rintro e w1 ⟨g, rfl, hd1, hb1⟩
    obtain ⟨p, rfl, hp, hu1⟩ := hd1
    generalize madeH l = s1 at *
    have HU1 := hide hu1
    have HB1 := hide hb1
    have hct := hu1.cnt
    have hpl : s1.past.length ≤ 50 := by omega
    clear hu1 hb1 hct
    go_wp2_with fail
    go_loopg [6, 7] q' (fun z v i wr => ∃ k : Nat, k + z = q' ∧ i = .int .i64 (k : Int) ∧ wr.ownsRow w1.heap.size 46 2 v (prs (m.take k)).length (pcs (prs (m.take k))) ∧ Below w1.heap.size w1 wr)
    case atStart => exact ⟨0, by omega, rfl, own_nil _ _ _ _, Below.refl _ _⟩
    case round =>
      obtain ⟨k, hk, rfl, ho, hb⟩ := hrel
      have HK := hide hk
      have hkm : k ≤ q' := by omega
      have HO := hide ho
      have HB := hide hb
      have hs1 : w1.heap.size ≤ wr.heap.size := hb.size
      have hwr : Below W.heap.size W wr := HB1.out.trans (hb.mono HB1.out.size)
      have HWR := hide hwr
      clear hk ho hb hwr
      by_cases hlt : k < q'
      · have hkl : k < m.length := by have := HLn.out; omega
        obtain ⟨b, o, rfl, hblt, c0, c1⟩ := HR.out.pair8 k hkl HLn.out
        have hts : prs (m.take (k + 1)) = prs (m.take k) ++ [((m[k].1 : Int) % 50, (m[k].2 : Int) % 50)] := by
          unfold prs
          rw [List.take_succ_eq_append_getElem hkl, List.map_append]; rfl
        have hok := HOK.out _ (List.getElem_mem hkl)
        generalize m[k] = e at *
        obtain ⟨x, y⟩ := e
        obtain ⟨hx, hy⟩ := hok
        simp only at hx hy c0 c1 hts
        have HTS := hide hts
        have hpl2 : (prs (m.take k)).length ≤ 100 := by rw [prs_len]; have := HLn.out; simp; omega
        have d0 : wr.cell? ⟨b, o + k * 2, none⟩ = some (.int .u8 (x : Int)) := (HWR.out.cell (p := ⟨b, o + k * 2, none⟩) hblt).trans c0
        have d1 : wr.cell? ⟨b, o + k * 2 + 1, none⟩ = some (.int .u8 (y : Int)) := (HWR.out.cell (p := ⟨b, o + k * 2 + 1, none⟩) hblt).trans c1
        have hx0 : (0 : Int) ≤ (x : Int) := by omega
        have hy0 : (0 : Int) ≤ (y : Int) := by omega
        have hx1 : (x : Int) ≤ 255 := by omega
        have hy1 : (y : Int) ≤ 255 := by omega
        have hr1 : (x : Int).tmod 50 = (x : Int) % 50 := Int.tmod_eq_emod_of_nonneg hx0
        have hr2 : (y : Int).tmod 50 = (y : Int) % 50 := Int.tmod_eq_emod_of_nonneg hy0
        have ht1 : IntKind.i64.wrap ((x : Int) % 50) = (x : Int) % 50 := IntWalk.i64_in _ (by omega)
        have ht2 : IntKind.i64.wrap ((y : Int) % 50) = (y : Int) % 50 := IntWalk.i64_in _ (by omega)
        clear c0 c1 hts
        go_wp2_with fail
        go_region_law (refine step_app 45 46 Try.underlying45 HI.out HZ0.out HZ1.out HZ2.out rfl (by decide) (w := wr.drew) #[.int .i64 ((x : Int) % 50), .int .i64 ((y : Int) % 50)] rfl (by intro c hc; simp at hc; rcases hc with rfl | rfl <;> rfl) rfl (.tmp 35) (.tmp 51) rfl w1.heap.size _ _ _ rfl (own_below HO.out ((Below.refl _ _).drewN 1)) rfl (by unfold maxLen; omega) (by omega) hs1 ?_; intro V' w3 ho3 hb3' _)
        all_goals
          have hb3 : Below w1.heap.size w1 w3 := (HB.out.drewN 1).trans hb3'
          clear hr1 hr2 ht1 ht2
          go_wp2_with fail
          go_roundg (q' - (k + 1))
          case measure => have := HK.out; omega
          case rel => exact ⟨k + 1, by omega, by go_num, by rw [HTS.out, List.length_append, pcs_append]; exact ho3, hb3⟩
      · have hkk : k = q' := by omega
        subst hkk
        have et : m.take k = m := List.take_of_length_le (by have := HLn.out; omega)
        have hO := HO.out
        rw [et] at hO
        obtain ⟨A2, c2, rfl, hr2, hA2, _, _⟩ := own_form hO
        have hip : IsPairs wr (.slice A2 (prs m).length c2) (prs m) := ⟨A2, _, c2, rfl, by unfold maxLen; rw [prs_len]; have := HLn.out; omega, rfl, prs_ok m, hr2⟩
        have hu := HU1.out.fresh HB.out
        have hlt1 := HU1.out.lt
        have HIP := hide hip
        have hAn : Hid (∀ ad, A2 = some ad → ad.block ∉ p.bl) := fun ad e hm => by have := hlt1 _ hm; have := (hA2 ad e).2.1; omega
        have ADD := fun w p' h (hp' : p'.from_ W.heap.size) hl => add_true w p' s1 (.slice A' k c') m W.heap.size h hl hp' HM.out.lt
        have T := fun w (h : Und w p 50 s1.past s1.L) hl => undoTrial_ok w p 50 s1 (.slice A2 (prs m).length c2) (prs m) h hl (fun A m c e _ ad hA => by injection e with e1 e2 e3; subst e1; exact hAn.out ad hA) (prs_in m)
        unfold rowV at T
        have e1 : lrg 50 (foldH 50 (prs m) s1).L = mx (fun i => cls 50 (foldH 50 (prs m) s1).L ((foldH 50 (prs m) s1).L i)) 50 := rfl
        have e2 : sq 50 (foldH 50 (prs m) s1).L = sm (fun i => cls 50 (foldH 50 (prs m) s1).L ((foldH 50 (prs m) s1).L i)) 50 := rfl
        have ht2 := sq_le 50 (foldH 50 (prs m) s1).L
        have HU := hide hu
        generalize foldH 50 (prs m) s1 = s2 at *
        have HT := hide T
        have HADD := hide ADD
        generalize hll : (prs m).length = z at *
        have E1 := hide e1
        have E2 := hide e2
        have HLL := hide hll
        clear et hO hr2 hip hu T ADD e1 e2 hA2 hlt1 hll HU1
        go_wp2_with fail
        refine (undoMark _ _ _ _ _ HU.out).mono ?_
        rintro e w2 ⟨rfl, rfl⟩
        go_wp2_with fail
        refine (undoLabels _ _ _ _ _ HU.out).mono ?_
        rintro e w2 ⟨b, rfl, hbk, hbb, hb2⟩
        have hu2 := HU.out.fresh hb2
        have hbn : b ∉ p.bl := fun hm => by have := HU.out.lt b hm; omega
        have HB2 := hide (HWR.out.trans (hb2.mono HWR.out.size))
        have hip2 : IsPairs w2 (.slice A2 z c2) (prs m) := by
          obtain ⟨A, n, c, e, h2, h3, h4, h5⟩ := HIP.out
          exact ⟨A, n, c, e, h2, h3, h4, h5.below hb2⟩
        have HIP2 := hide hip2
        have HBK := hide hbk
        have HU2 := hide hu2
        clear hbk hbb hb2 hu2 hip2
        go_wp2_with fail
        refine (HT.out _ HU2.out HIP2.out).mono ?_
        rintro e w4 ⟨rfl, p4, hu4, hm4, hf4⟩
        have hbk4 := HBK.out.fr hf4 hbn
        have hp4 := hm4.from_ hp HB2.out.size
        have HB4 := hide (HB2.out.trans (hf4.below hp HB2.out.size))
        have hbn4 : b ∉ p4.bl := fun hm => by
          rcases hm4.bl b hm with h | h
          · exact hbn h
          · have := HBK.out.lt; omega
        have hg4 : p4.g = p.g := hm4.g
        have hRb : Blk (w4.alloc (.cells #[.int .i64 (lrg 50 s2.L : Int), .int .i64 (sets 50 s2.L : Int), .int .i64 (sq 50 s2.L : Int)] 48)) w4.heap.size 48 #[.int .i64 (lrg 50 s2.L : Int), .int .i64 (sets 50 s2.L : Int), .int .i64 (sq 50 s2.L : Int)] := Blk.new _ _ _
        have hu5 := hu4.fresh ((Below.refl w4.heap.size w4).alloc (Nat.le_refl _) (.cells #[.int .i64 (lrg 50 s2.L : Int), .int .i64 (sets 50 s2.L : Int), .int .i64 (sq 50 s2.L : Int)] 48))
        have hbk5 := hbk4.alloc (.cells #[.int .i64 (lrg 50 s2.L : Int), .int .i64 (sets 50 s2.L : Int), .int .i64 (sq 50 s2.L : Int)] 48)
        have HB5 := hide (HB4.out.alloc HB4.out.size (.cells #[.int .i64 (lrg 50 s2.L : Int), .int .i64 (sets 50 s2.L : Int), .int .i64 (sq 50 s2.L : Int)] 48))
        go_wp2_with fail
        generalize w4.alloc (.cells #[.int .i64 (lrg 50 s2.L : Int), .int .i64 (sets 50 s2.L : Int), .int .i64 (sq 50 s2.L : Int)] 48) = w5 at *
        generalize w4.heap.size = R at *
        have MK := undoMark w5 p4 50 s1.past s1.L hu5
        have LB := undoLabels w5 p4 50 s1.past s1.L hu5
        rw [hg4] at MK LB
        have HMK := hide MK
        have HLB := hide LB
        have HU5 := hide hu5
        have HBK5 := hide hbk5
        have HRB := hide hRb
        clear hu4 hm4 hf4 hbk4 hRb hu5 hbk5 MK LB HBK HU2 HIP2 HT
        refine HMK.out.mono ?_
        rintro e w6 ⟨rfl, rfl⟩
        go_wp2_with fail
        refine HLB.out.mono ?_
        rintro e w6 ⟨b6, rfl, hk6, _, hbe6⟩
        have hbk6 := HBK5.out.below hbe6 HBK5.out.lt
        have hR6 := HRB.out.below hbe6 HRB.out.lt
        have hu6 := HU5.out.fresh hbe6
        have HB6 := hide (HB5.out.trans (hbe6.mono HB5.out.size))
        go_wp2_with fail
        refine (sameL_true w6 b6 b 50 _ _ s1.L hk6 hbk6 (by decide)).mono ?_
        rintro e w7 ⟨rfl, k7, rfl⟩
        have AD := HADD.out (w6.drewN k7) p4 (hu6.drewN k7) hp4 ((HM.out.below HB6.out).drewN k7)
        rw [hg4] at AD
        have hRn : R ∉ p4.bl := hu6.notin hR6 (by decide) (by decide)
        have HAD := hide AD
        have HR6 := hide hR6
        clear AD hu6 hR6 hbe6 hk6 hbk6
        go_wp2_with fail
        refine HAD.out.mono ?_
        rintro e w8 ⟨rfl, p8, hu8, hm8, hf8⟩
        have hR8 := HR6.out.fr (((Fr.refl p4.bl w6).drewN k7).trans hf8) hRn
        have HB8 := hide ((HB6.out.drewN k7).trans (hf8.below hp4 HB6.out.size))
        have hg8 : p8.g = p.g := hm8.g.trans hg4
        have Z := fun d i (hi : i < 50) => undoSize (w8.drewN d) ((i : Nat) : Int) p8 50 _ _ (hu8.drewN d)
        have CT := fun d => undoCount (w8.drewN d) p8 50 _ _ (hu8.drewN d)
        rw [hg8] at Z CT
        have HZ := hide Z
        have HCT := hide CT
        have HR8 := hide hR8
        clear hu8 hm8 hf8 Z CT hR8
        go_wp2_with fail
        generalize hF : (fun i => cls 50 s2.L (s2.L i)) = F at *
        have hFb : Hid (∀ i, F i ≤ 50) := fun i => by rw [← hF]; exact cnt_le _ _
        have HF := hide hF
        clear hF
        go_loopg [12, 13, 14] 50 (fun q a s i wr => ∃ j d : Nat, j + q = 50 ∧ i = .int .i64 (j : Int) ∧ a = .int .i64 (mx F j : Int) ∧ s = .int .i64 (sm F j : Int) ∧ wr = w8.drewN d)
        case atStart => exact ⟨0, 0, by omega, rfl, rfl, rfl, rfl⟩
        case round =>
          obtain ⟨j, d, hj, rfl, rfl, rfl, rfl⟩ := hrel
          have HJ := hide hj
          have hjm : j ≤ 50 := by omega
          have hmx : mx F j ≤ 50 := mx_le fun i _ => hFb.out i
          have hsm : sm F j ≤ j * 50 := sm_le fun i _ => hFb.out i
          have m1 : mx F (j + 1) = max (mx F j) (F j) := rfl
          have m2 : sm F (j + 1) = sm F j + F j := rfl
          have M1 := hide m1
          have M2 := hide m2
          clear hj m1 m2
          by_cases hlj : j < 50
          · have ZJ := HZ.out d j hlj
            rw [size_at hlj] at ZJ
            have eF : cls 50 s2.L (s2.L j) = F j := congrFun HF.out j
            rw [eF] at ZJ
            have hfj := hFb.out j
            have HZJ := hide ZJ
            have hsm2 : sm F j ≤ 2500 := by omega
            clear ZJ eF hsm HF hFb E1 E2
            generalize mx F j = a at *
            generalize sm F j = s at *
            generalize F j = f at *
            by_cases hmf : a < f
            · go_wp2_with (go_at_call 23; refine HZJ.out.mono ?_; rintro e w' ⟨rfl, k9, rfl⟩)
              go_roundg (50 - (j + 1))
              case measure => have := HJ.out; omega
              case rel => exact ⟨j + 1, _, by omega, by go_num, by rw [M1.out, Nat.max_eq_right (by omega)], by rw [M2.out]; go_num, rfl⟩
            · go_wp2_with (go_at_call 23; refine HZJ.out.mono ?_; rintro e w' ⟨rfl, k9, rfl⟩)
              go_roundg (50 - (j + 1))
              case measure => have := HJ.out; omega
              case rel => exact ⟨j + 1, _, by omega, by go_num, by rw [M1.out, Nat.max_eq_left (by omega)], by rw [M2.out]; go_num, rfl⟩
          · have hjj : j = 50 := by omega
            subst hjj
            rw [← E1.out, ← E2.out]
            have r0 : (w8.drewN d).cell? ⟨R, 0, none⟩ = some (.int .i64 (lrg 50 s2.L : Int)) := (HR8.out.cell 0).trans rfl
            have r1 : (w8.drewN d).cell? ⟨R, 1, none⟩ = some (.int .i64 (sets 50 s2.L : Int)) := (HR8.out.cell 1).trans rfl
            have r2 : (w8.drewN d).cell? ⟨R, 2, none⟩ = some (.int .i64 (sq 50 s2.L : Int)) := (HR8.out.cell 2).trans rfl
            clear hmx hsm HF hFb E1 E2
            have hRl : R < w8.heap.size := HR8.out.lt
            go_wp2_with fail
            go_region_held3 (fun w' => w'.cell? ⟨R, 0, none⟩ = some (.int .i64 (lrg 50 s2.L : Int)) ∧ w'.cell? ⟨R, 1, none⟩ = some (.int .i64 (sets 50 s2.L : Int)) ∧ w'.cell? ⟨R, 2, none⟩ = some (.int .i64 (sq 50 s2.L : Int)))
              (first | exact ⟨r0, r1, r2⟩ | exact ⟨(hb10.cell (p := ⟨R, 0, none⟩) hRl).trans r0, (hb10.cell (p := ⟨R, 1, none⟩) hRl).trans r1, (hb10.cell (p := ⟨R, 2, none⟩) hRl).trans r2⟩)
              (first | (go_at_call 15; refine (HCT.out _).mono ?_; rintro e w9 ⟨rfl, k9, rfl⟩) | (go_at_call 11; refine (works9 _).mono ?_; rintro e w10 ⟨rfl, hb10⟩))
            go_wp2_with fail
            go_ret
            exact ⟨rfl, (HB8.out.drewN _).trans (hb10.mono HB8.out.size)⟩
  · by_cases h1 : 100 < q
    · clear hbig
      go_enter Try.func7, Try.ntmps7
      go_wp2_with fail
      refine (works9 _).mono ?_
      rintro e w13 ⟨rfl, hb13⟩
      go_wp2_with fail
      go_ret
      exact ⟨rfl, hb13⟩
    · have h2 : 100 < q' := by omega
      clear hbig
      go_enter Try.func7, Try.ntmps7
      go_wp2_with fail
      refine (works9 _).mono ?_
      rintro e w13 ⟨rfl, hb13⟩
      go_wp2_with fail
      go_ret
      exact ⟨rfl, hb13⟩
end Go.Proofs.Ytdhmjdlkaoflnaa
