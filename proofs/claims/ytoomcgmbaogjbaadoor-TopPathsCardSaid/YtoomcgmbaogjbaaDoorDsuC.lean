/- dsu: Union. -/
import Derived.Test.YtoomcgmbaogjbaaDoorDsuB0
namespace Go.Proofs.YtoomcgmbaogjbaaDoor
open Go.RowKit
set_option linter.unusedVariables false


set_option maxRecDepth 100000 in
set_option maxHeartbeats 4000000 in
theorem dsuUnion_in (w : World) (a b : Nat) (p : Loc) (n : Nat) (L : Nat → Nat) (h : Dsu w p n L) (ha : a < n) (hb : b < n) :
    Calls Tryd.prog 17 #[.pointer (some ⟨p.g, 0, none⟩), .int .i64 (a : Int), .int .i64 (b : Int)] w
      fun e w' => e = .returned (.tuple #[.bool (!(L a == L b)), .int .i64 0]) ∧ Dsu w' p n (merge L (L a) (L b)) ∧ Fr [p.g, p.bu, p.bl, p.bz] w w' := by
  have H := hide h
  obtain ⟨up, least, size, rep, ρ, M, c, hd, hs, hl⟩ := h
  have ia : inB n (a : Int) = true := by simp [inB]; omega
  have ib : inB n (b : Int) = true := by simp [inB]; omega
  have rx := hs.fo.rep_lt a ha
  have ry := hs.fo.rep_lt b hb
  have nb := hd.nb
  have gu := hd.gu
  have gl := hd.gl
  have gz := hd.gz
  have ul := hd.ul
  have uz := hd.uz
  have lz := hd.lz
  have gu' := gu.symm
  have gl' := gl.symm
  have gz' := gz.symm
  have ul' := ul.symm
  have uz' := uz.symm
  have lz' := lz.symm
  have s1 : size (rep a) ≤ 65536 := by rw [hs.sz a ha]; exact Nat.le_trans (cnt_le _ _) nb
  have s2 : size (rep b) ≤ 65536 := by rw [hs.sz b hb]; exact Nat.le_trans (cnt_le _ _) nb
  have l1 : least (rep a) ≤ 65536 := by rw [hs.le a ha]; have := hl.lt ha; omega
  have l2 : least (rep b) ≤ 65536 := by rw [hs.le b hb]; have := hl.lt hb; omega
  have c1 : c ≤ 65536 := by rw [hs.cn]; exact Nat.le_trans (cnt_le _ _) nb
  have HA : Hid (a < n) := ha
  have HB : Hid (b < n) := hb
  have HS := hide hs
  have HD := hide hd
  clear hd hs ha hb
  have arms : True := trivial
  by_cases he : rep a = rep b
  · have he' : ((rep a : Int) == (rep b : Int)) = true := by simp [he]
    have HE := hide he
    clear he
    go_enter Tryd.func17, Tryd.ntmps17
    go_wp2_with (first | (go_at_call 35; refine (dsuValid _ _ _ _ H.out).mono ?_; rintro e w' ⟨rfl, rfl⟩) | (go_at_call 36; refine (dsuHas _ _ _ _ _ H.out).mono ?_; rintro e w' ⟨rfl, rfl⟩))
    refine (dsuRoot _ _ _ _ _ _ _ _ _ _ _ HD.out HS.out.fo HA.out).mono ?_
    rintro e w1 ⟨rfl, up1, hd1, hf1, hfr1⟩
    go_wp2_with fail
    refine (dsuRoot _ _ _ _ _ _ _ _ _ _ _ hd1 hf1 HB.out).mono ?_
    rintro e w2 ⟨rfl, up2, hd2, hf2, hfr2⟩
    go_wp2_with fail
    go_ret2
    have hL : L a = L b := (HS.out.same a b HA.out HB.out).1 HE.out
    refine ⟨by simp [hL], ?_, (hfr1.trans hfr2).mono (by simp)⟩
    rw [hL, merge_self]
    exact ⟨up2, least, size, rep, ρ, M, c, hd2, ⟨hf2, HS.out.le, HS.out.same, HS.out.sz, HS.out.cn⟩, hl⟩
  · have he' : ((rep a : Int) == (rep b : Int)) = false := by simpa using fun e : (rep a : Int) = (rep b : Int) => he (by omega)
    have HE := hide he
    clear he
    by_cases hz : size (rep a) < size (rep b)
    · by_cases hm : least (rep a) < least (rep b)
      · go_enter Tryd.func17, Tryd.ntmps17
        go_wp2_with (first | (go_at_call 35; refine (dsuValid _ _ _ _ H.out).mono ?_; rintro e w' ⟨rfl, rfl⟩) | (go_at_call 36; refine (dsuHas _ _ _ _ _ H.out).mono ?_; rintro e w' ⟨rfl, rfl⟩))
        refine (dsuRoot _ _ _ _ _ _ _ _ _ _ _ HD.out HS.out.fo HA.out).mono ?_
        rintro e w1 ⟨rfl, up1, hd1, hf1, hfr1⟩
        go_wp2_with fail
        refine (dsuRoot _ _ _ _ _ _ _ _ _ _ _ hd1 hf1 HB.out).mono ?_
        rintro e w2 ⟨rfl, up2, hd2, hf2, hfr2⟩
        have k1 := hd2.c1
        have k2 := hd2.c2
        have k3 := hd2.c3
        have k4 := hd2.c4
        have za := hd2.hz.intx rx
        have zb := hd2.hz.intx ry
        have la := hd2.hl.intx rx
        have lb := hd2.hl.intx ry
        have uy := hd2.hu.intx rx
        have fu := hd2.hu.frozen (rep a)
        have fz := hd2.hz.frozen (rep b)
        have fl := hd2.hl.frozen (rep b)
        have fg := hd2.hg.frozen 4
        have HD2 := hide hd2
        have HF2 := hide hf2
        have HFR := hide (hfr1.trans hfr2)
        clear hd1 hf1 hd2 hf2 hfr1 hfr2
        go_wp2_with fail
        go_quiet (fail)
        go_wp2_with fail
        go_region
        go_wp2_with fail
        go_region
        go_wp2_with fail
        go_ret2
        have hS : Sts n L up2 least size rep ρ M c := ⟨HF2.out, HS.out.le, HS.out.same, HS.out.sz, HS.out.cn⟩
        have hU := hS.union hl HB.out HA.out (fun e => HE.out e.symm)
        have hLn : ¬ L a = L b := fun e => HE.out ((HS.out.same a b HA.out HB.out).2 e)
        have hmin : min (least (rep b)) (least (rep a)) = least (rep a) := by omega
        have hc1 : 1 ≤ c := by rw [HS.out.cn]; exact cnt_pos (m := L a) (hl.lt HA.out) (by simpa using hl.idem a HA.out)
        rw [hmin] at hU
        have d1 := (HD2.out.drewN nq).setUp (rep b) rx
        have d2 := d1.setSize (size (rep b) + size (rep a)) ry
        have d3 := d2.setLeast (least (rep a)) ry
        have d4 := d3.setCnt (c - 1)
        refine ⟨by simp [hLn], ?_, ?_⟩
        · rw [merge_comm]
          refine ⟨_, _, _, _, _, _, _, ?_, hU, merge_comm L (L a) (L b) ▸ hl.merge_ HA.out HB.out⟩
          have ec : ((c - 1 : Nat) : Int) = (c : Int) - 1 := by omega
          have ez : ((size (rep b) + size (rep a) : Nat) : Int) = (size (rep b) : Int) + (size (rep a) : Int) := by simp
          rw [ec, ez] at d4
          exact d4.drewN 2
        · exact (((((((HFR.out.drewN nq).mono (S' := [p.g, p.bu, p.bl, p.bz]) (by simp)).setCell (p := ⟨p.bu, rep a, none⟩) (.inl (by simp)) _).setCell (p := ⟨p.bz, rep b, none⟩) (.inl (by simp)) _).setCell (p := ⟨p.bl, rep b, none⟩) (.inl (by simp)) _).setCell (p := ⟨p.g, 4, none⟩) (.inl (by simp)) _).drewN 2)
      · go_enter Tryd.func17, Tryd.ntmps17
        go_wp2_with (first | (go_at_call 35; refine (dsuValid _ _ _ _ H.out).mono ?_; rintro e w' ⟨rfl, rfl⟩) | (go_at_call 36; refine (dsuHas _ _ _ _ _ H.out).mono ?_; rintro e w' ⟨rfl, rfl⟩))
        refine (dsuRoot _ _ _ _ _ _ _ _ _ _ _ HD.out HS.out.fo HA.out).mono ?_
        rintro e w1 ⟨rfl, up1, hd1, hf1, hfr1⟩
        go_wp2_with fail
        refine (dsuRoot _ _ _ _ _ _ _ _ _ _ _ hd1 hf1 HB.out).mono ?_
        rintro e w2 ⟨rfl, up2, hd2, hf2, hfr2⟩
        have k1 := hd2.c1
        have k2 := hd2.c2
        have k3 := hd2.c3
        have k4 := hd2.c4
        have za := hd2.hz.intx rx
        have zb := hd2.hz.intx ry
        have la := hd2.hl.intx rx
        have lb := hd2.hl.intx ry
        have uy := hd2.hu.intx rx
        have fu := hd2.hu.frozen (rep a)
        have fz := hd2.hz.frozen (rep b)
        have fl := hd2.hl.frozen (rep b)
        have fg := hd2.hg.frozen 4
        have HD2 := hide hd2
        have HF2 := hide hf2
        have HFR := hide (hfr1.trans hfr2)
        clear hd1 hf1 hd2 hf2 hfr1 hfr2
        go_wp2_with fail
        go_quiet (fail)
        go_wp2_with fail
        go_region
        go_wp2_with fail
        go_region
        go_wp2_with fail
        go_ret2
        have hS : Sts n L up2 least size rep ρ M c := ⟨HF2.out, HS.out.le, HS.out.same, HS.out.sz, HS.out.cn⟩
        have hU := hS.union hl HB.out HA.out (fun e => HE.out e.symm)
        have hLn : ¬ L a = L b := fun e => HE.out ((HS.out.same a b HA.out HB.out).2 e)
        have hmin : min (least (rep b)) (least (rep a)) = least (rep b) := by omega
        have hc1 : 1 ≤ c := by rw [HS.out.cn]; exact cnt_pos (m := L a) (hl.lt HA.out) (by simpa using hl.idem a HA.out)
        rw [hmin] at hU
        have d1 := (HD2.out.drewN nq).setUp (rep b) rx
        have d2 := d1.setSize (size (rep b) + size (rep a)) ry
        have d3 := d2.setLeast (least (rep b)) ry
        have d4 := d3.setCnt (c - 1)
        refine ⟨by simp [hLn], ?_, ?_⟩
        · rw [merge_comm]
          refine ⟨_, _, _, _, _, _, _, ?_, hU, merge_comm L (L a) (L b) ▸ hl.merge_ HA.out HB.out⟩
          have ec : ((c - 1 : Nat) : Int) = (c : Int) - 1 := by omega
          have ez : ((size (rep b) + size (rep a) : Nat) : Int) = (size (rep b) : Int) + (size (rep a) : Int) := by simp
          rw [ec, ez] at d4
          exact d4.drewN 2
        · exact (((((((HFR.out.drewN nq).mono (S' := [p.g, p.bu, p.bl, p.bz]) (by simp)).setCell (p := ⟨p.bu, rep a, none⟩) (.inl (by simp)) _).setCell (p := ⟨p.bz, rep b, none⟩) (.inl (by simp)) _).setCell (p := ⟨p.bl, rep b, none⟩) (.inl (by simp)) _).setCell (p := ⟨p.g, 4, none⟩) (.inl (by simp)) _).drewN 2)
    · by_cases hm : least (rep b) < least (rep a)
      · go_enter Tryd.func17, Tryd.ntmps17
        go_wp2_with (first | (go_at_call 35; refine (dsuValid _ _ _ _ H.out).mono ?_; rintro e w' ⟨rfl, rfl⟩) | (go_at_call 36; refine (dsuHas _ _ _ _ _ H.out).mono ?_; rintro e w' ⟨rfl, rfl⟩))
        refine (dsuRoot _ _ _ _ _ _ _ _ _ _ _ HD.out HS.out.fo HA.out).mono ?_
        rintro e w1 ⟨rfl, up1, hd1, hf1, hfr1⟩
        go_wp2_with fail
        refine (dsuRoot _ _ _ _ _ _ _ _ _ _ _ hd1 hf1 HB.out).mono ?_
        rintro e w2 ⟨rfl, up2, hd2, hf2, hfr2⟩
        have k1 := hd2.c1
        have k2 := hd2.c2
        have k3 := hd2.c3
        have k4 := hd2.c4
        have za := hd2.hz.intx rx
        have zb := hd2.hz.intx ry
        have la := hd2.hl.intx rx
        have lb := hd2.hl.intx ry
        have uy := hd2.hu.intx ry
        have fu := hd2.hu.frozen (rep b)
        have fz := hd2.hz.frozen (rep a)
        have fl := hd2.hl.frozen (rep a)
        have fg := hd2.hg.frozen 4
        have HD2 := hide hd2
        have HF2 := hide hf2
        have HFR := hide (hfr1.trans hfr2)
        clear hd1 hf1 hd2 hf2 hfr1 hfr2
        go_wp2_with fail
        go_quiet (fail)
        go_wp2_with fail
        go_region
        go_wp2_with fail
        go_region
        go_wp2_with fail
        go_ret2
        have hS : Sts n L up2 least size rep ρ M c := ⟨HF2.out, HS.out.le, HS.out.same, HS.out.sz, HS.out.cn⟩
        have hU := hS.union hl HA.out HB.out HE.out
        have hLn : ¬ L a = L b := fun e => HE.out ((HS.out.same a b HA.out HB.out).2 e)
        have hmin : min (least (rep a)) (least (rep b)) = least (rep b) := by omega
        have hc1 : 1 ≤ c := by rw [HS.out.cn]; exact cnt_pos (m := L a) (hl.lt HA.out) (by simpa using hl.idem a HA.out)
        rw [hmin] at hU
        have d1 := (HD2.out.drewN nq).setUp (rep a) ry
        have d2 := d1.setSize (size (rep a) + size (rep b)) rx
        have d3 := d2.setLeast (least (rep b)) rx
        have d4 := d3.setCnt (c - 1)
        refine ⟨by simp [hLn], ?_, ?_⟩
        · skip
          refine ⟨_, _, _, _, _, _, _, ?_, hU, hl.merge_ HA.out HB.out⟩
          have ec : ((c - 1 : Nat) : Int) = (c : Int) - 1 := by omega
          have ez : ((size (rep a) + size (rep b) : Nat) : Int) = (size (rep a) : Int) + (size (rep b) : Int) := by simp
          rw [ec, ez] at d4
          exact d4.drewN 2
        · exact (((((((HFR.out.drewN nq).mono (S' := [p.g, p.bu, p.bl, p.bz]) (by simp)).setCell (p := ⟨p.bu, rep b, none⟩) (.inl (by simp)) _).setCell (p := ⟨p.bz, rep a, none⟩) (.inl (by simp)) _).setCell (p := ⟨p.bl, rep a, none⟩) (.inl (by simp)) _).setCell (p := ⟨p.g, 4, none⟩) (.inl (by simp)) _).drewN 2)
      · go_enter Tryd.func17, Tryd.ntmps17
        go_wp2_with (first | (go_at_call 35; refine (dsuValid _ _ _ _ H.out).mono ?_; rintro e w' ⟨rfl, rfl⟩) | (go_at_call 36; refine (dsuHas _ _ _ _ _ H.out).mono ?_; rintro e w' ⟨rfl, rfl⟩))
        refine (dsuRoot _ _ _ _ _ _ _ _ _ _ _ HD.out HS.out.fo HA.out).mono ?_
        rintro e w1 ⟨rfl, up1, hd1, hf1, hfr1⟩
        go_wp2_with fail
        refine (dsuRoot _ _ _ _ _ _ _ _ _ _ _ hd1 hf1 HB.out).mono ?_
        rintro e w2 ⟨rfl, up2, hd2, hf2, hfr2⟩
        have k1 := hd2.c1
        have k2 := hd2.c2
        have k3 := hd2.c3
        have k4 := hd2.c4
        have za := hd2.hz.intx rx
        have zb := hd2.hz.intx ry
        have la := hd2.hl.intx rx
        have lb := hd2.hl.intx ry
        have uy := hd2.hu.intx ry
        have fu := hd2.hu.frozen (rep b)
        have fz := hd2.hz.frozen (rep a)
        have fl := hd2.hl.frozen (rep a)
        have fg := hd2.hg.frozen 4
        have HD2 := hide hd2
        have HF2 := hide hf2
        have HFR := hide (hfr1.trans hfr2)
        clear hd1 hf1 hd2 hf2 hfr1 hfr2
        go_wp2_with fail
        go_quiet (fail)
        go_wp2_with fail
        go_region
        go_wp2_with fail
        go_region
        go_wp2_with fail
        go_ret2
        have hS : Sts n L up2 least size rep ρ M c := ⟨HF2.out, HS.out.le, HS.out.same, HS.out.sz, HS.out.cn⟩
        have hU := hS.union hl HA.out HB.out HE.out
        have hLn : ¬ L a = L b := fun e => HE.out ((HS.out.same a b HA.out HB.out).2 e)
        have hmin : min (least (rep a)) (least (rep b)) = least (rep a) := by omega
        have hc1 : 1 ≤ c := by rw [HS.out.cn]; exact cnt_pos (m := L a) (hl.lt HA.out) (by simpa using hl.idem a HA.out)
        rw [hmin] at hU
        have d1 := (HD2.out.drewN nq).setUp (rep a) ry
        have d2 := d1.setSize (size (rep a) + size (rep b)) rx
        have d3 := d2.setLeast (least (rep a)) rx
        have d4 := d3.setCnt (c - 1)
        refine ⟨by simp [hLn], ?_, ?_⟩
        · skip
          refine ⟨_, _, _, _, _, _, _, ?_, hU, hl.merge_ HA.out HB.out⟩
          have ec : ((c - 1 : Nat) : Int) = (c : Int) - 1 := by omega
          have ez : ((size (rep a) + size (rep b) : Nat) : Int) = (size (rep a) : Int) + (size (rep b) : Int) := by simp
          rw [ec, ez] at d4
          exact d4.drewN 2
        · exact (((((((HFR.out.drewN nq).mono (S' := [p.g, p.bu, p.bl, p.bz]) (by simp)).setCell (p := ⟨p.bu, rep b, none⟩) (.inl (by simp)) _).setCell (p := ⟨p.bz, rep a, none⟩) (.inl (by simp)) _).setCell (p := ⟨p.bl, rep a, none⟩) (.inl (by simp)) _).setCell (p := ⟨p.g, 4, none⟩) (.inl (by simp)) _).drewN 2)

theorem dsuUnion (w : World) (a b : Int) (p : Loc) (n : Nat) (L : Nat → Nat) (h : Dsu w p n L) :
    Calls Tryd.prog 17 #[.pointer (some ⟨p.g, 0, none⟩), .int .i64 a, .int .i64 b] w
      fun e w' => e = .returned (.tuple #[.bool (unionB n L a b), .int .i64 (unionE n a b)]) ∧ Dsu w' p n (unionL n L a b) ∧ Fr [p.g, p.bu, p.bl, p.bz] w w' := by
  cases ia : inB n a
  · have E1 : unionB n L a b = false := by simp [unionB, ia]
    have E2 : unionE n a b = 3 := by simp [unionE, ia]
    have E3 : unionL n L a b = L := by simp [unionL, ia]
    rw [E1, E2, E3]
    clear E1 E2 E3
    go_enter Tryd.func17, Tryd.ntmps17
    go_wp2_with (first | (go_at_call 35; refine (dsuValid _ _ _ _ h).mono ?_; rintro e w' ⟨rfl, rfl⟩) | (go_at_call 36; refine (dsuHas _ _ _ _ _ h).mono ?_; rintro e w' ⟨rfl, rfl⟩))
    go_ret2
    exact ⟨rfl, h, Fr.refl _ _⟩
  · cases ib : inB n b
    · have E1 : unionB n L a b = false := by simp [unionB, ib]
      have E2 : unionE n a b = 3 := by simp [unionE, ib]
      have E3 : unionL n L a b = L := by simp [unionL, ib]
      rw [E1, E2, E3]
      clear E1 E2 E3
      go_enter Tryd.func17, Tryd.ntmps17
      go_wp2_with (first | (go_at_call 35; refine (dsuValid _ _ _ _ h).mono ?_; rintro e w' ⟨rfl, rfl⟩) | (go_at_call 36; refine (dsuHas _ _ _ _ _ h).mono ?_; rintro e w' ⟨rfl, rfl⟩))
      go_ret2
      exact ⟨rfl, h, Fr.refl _ _⟩
    · have ha' : 0 ≤ a ∧ a < n := by simpa [inB] using ia
      have hb' : 0 ≤ b ∧ b < n := by simpa [inB] using ib
      obtain ⟨a, rfl⟩ := Int.eq_ofNat_of_zero_le ha'.1
      obtain ⟨b, rfl⟩ := Int.eq_ofNat_of_zero_le hb'.1
      have E1 : unionB n L (a : Int) (b : Int) = !(L a == L b) := by simp [unionB, ia, ib]
      have E2 : unionE n (a : Int) (b : Int) = 0 := by simp [unionE, ia, ib]
      have E3 : unionL n L (a : Int) (b : Int) = merge L (L a) (L b) := by simp [unionL, ia, ib]
      rw [E1, E2, E3]
      exact dsuUnion_in w a b p n L h (by omega) (by omega)
end Go.Proofs.YtoomcgmbaogjbaaDoor
