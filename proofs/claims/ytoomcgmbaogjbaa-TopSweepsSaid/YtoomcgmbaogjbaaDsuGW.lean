/- dsu: Groups. -/
import Derived.Test.YtoomcgmbaogjbaaDsuG
import Derived.Test.YtoomcgmbaogjbaaDsuN
import Derived.Test.YtoomcgmbaogjbaaInfo
namespace Go.Proofs.Ytoomcgmbaogjbaa
open Go.RowKit
set_option linter.unusedVariables false

theorem ints_info : (Try.prog.info? 29).map (fun i => (i.zero, i.size, i.bytes)) = some (some (.slice none 0 0), 1, 24) := by kernel_rfl

theorem DS.grown {w w' : World} {p : Loc} {n cnt : Nat} {up least size : Nat → Nat} {row : Option Nat} (h : DS w p n up least size cnt) (k : w.grownBy w' row) (hne : row ≠ some p.g ∧ row ≠ some p.bu ∧ row ≠ some p.bl ∧ row ≠ some p.bz) :
    DS w' p n up least size cnt :=
  ⟨h.hg.grown k hne.1, h.hu.grown k hne.2.1, h.hl.grown k hne.2.2.1, h.hz.grown k hne.2.2.2, h.ul, h.uz, h.lz, h.nb⟩

set_option maxRecDepth 100000 in
set_option maxHeartbeats 4000000 in
theorem dsuGroups (w : World) (p : Loc) (n : Nat) (L : Nat → Nat) (h : Dsu w p n L) :
    Calls Try.prog 24 #[.pointer (some ⟨p.g, 0, none⟩)] w fun e w' => ∃ v, e = .returned v ∧ Dsu w' p n L ∧ IsGrp w' w.heap.size v (grp n L) ∧ Fr [p.bu] w w' := by
  have H := hide h
  have nb := h.nb
  obtain ⟨i0, hi, hz0, hz1, hz2⟩ := info_parts int_info0
  have hmk := fun W => run_make_ints 29 3 i0 Try.underlying29 hi hz0 hz1 hz2 n (by omega) W
  obtain ⟨i1, ki, kz0, kz1, kz2⟩ := info_parts ints_info
  clear hi hz0 hz1 hz2
  obtain ⟨up, least, size, rep, ρ, M, c, hd, hs, hl⟩ := h
  have hc : c ≤ n := by rw [hs.cn]; exact cnt_le _ _
  have hmk2 := fun W => run_make (P := Try.prog) W 48 29 i1 _ Try.underlying48 ki kz0 .i64 .i64 0 c (by omega) (by omega) (by rw [kz2]; omega) (by omega)
  simp only [Int.toNat_natCast, Int.toNat_zero, kz1, Nat.mul_one] at hmk2
  have c1 := hd.c1
  have c4 := hd.c4
  have HS := hide hs
  have hlt := hd.hg.lt
  have hltu := hd.hu.lt
  have HD := hide hd
  clear hd hs
  go_enter Try.func24, Try.ntmps24
  go_wp2_with (first | (go_at_call 35; refine (dsuValid _ _ _ _ H.out).mono ?_; rintro e w' ⟨rfl, rfl⟩))
  have e3 : (((w.alloc (.cells (arr n fun _ => 0) 3)).alloc (.cells (arr n fun _ => 0) 3))).heap.size = w.heap.size + 1 + 1 := by simp
  have hms : (madeCells #[Value.slice none 0 0] c).size = c * 1 := by
    have := congrArg List.length (toList_madeCells_one (.slice none 0 0) c)
    simpa using this
  have ho0 := World.ownsRow_made (e := 29) (size := 1) (base := w.heap.size) ((w.alloc (.cells (arr n fun _ => 0) 3)).alloc (.cells (arr n fun _ => 0) 3)) (madeCells #[Value.slice none 0 0] c) c (by simp; omega) (by unfold maxLen; omega) hms
  rw [e3] at ho0
  have hk0 : Blk (((w.alloc (.cells (arr n fun _ => 0) 3)).alloc (.cells (arr n fun _ => 0) 3)).alloc (.cells (madeCells #[Value.slice none 0 0] c) 29)) w.heap.size 3 (arr n fun _ => 0) := ((Blk.new _ _ _).alloc _).alloc _
  have hn0 : Blk (((w.alloc (.cells (arr n fun _ => 0) 3)).alloc (.cells (arr n fun _ => 0) 3)).alloc (.cells (madeCells #[Value.slice none 0 0] c) 29)) (w.heap.size + 1) 3 (arr n fun _ => 0) := by
    have := (Blk.new (w.alloc (.cells (arr n fun _ => 0) 3)) 3 (arr n fun _ => 0)).alloc (.cells (madeCells #[Value.slice none 0 0] c) 29)
    have e : (w.alloc (.cells (arr n fun _ => 0) 3)).heap.size = w.heap.size + 1 := by simp
    rwa [e] at this
  have f0 : Fr [p.bu] w (((w.alloc (.cells (arr n fun _ => 0) 3)).alloc (.cells (arr n fun _ => 0) 3)).alloc (.cells (madeCells #[Value.slice none 0 0] c) 29)) := (((Fr.refl _ _).alloc _).alloc _).alloc _
  have hd0 : DS (((w.alloc (.cells (arr n fun _ => 0) 3)).alloc (.cells (arr n fun _ => 0) 3)).alloc (.cells (madeCells #[Value.slice none 0 0] c) 29)) p n up least size c := HD.out.fr (S := []) ((((Fr.refl _ _).alloc _).alloc _).alloc _) (by simp)
  have hpg : p.g < w.heap.size ∧ p.bu < w.heap.size ∧ p.bl < w.heap.size ∧ p.bz < w.heap.size := ⟨HD.out.hg.lt, HD.out.hu.lt, HD.out.hl.lt, HD.out.hz.lt⟩
  generalize (((w.alloc (.cells (arr n fun _ => 0) 3)).alloc (.cells (arr n fun _ => 0) 3)).alloc (.cells (madeCells #[Value.slice none 0 0] c) 29)) = w0 at *
  generalize hgo : w.heap.size + 1 + 1 = go at *
  generalize hgn : w.heap.size + 1 = gn at *
  have hgln : w.heap.size ≠ gn := by omega
  have hwn : w.heap.size ≤ gn := by omega
  generalize hgl : w.heap.size = gl at *
  have HK0 := hide hk0
  have HN0 := hide hn0
  have HO0 := hide ho0
  have HF0 := hide f0
  have HD0 := hide hd0
  have HGL := hide hgl
  clear e3 hms hk0 hn0 ho0 f0 hd0 hgo hgn hgl hmk hmk2 c1 c4 hlt hltu
  have HKi := hide ki
  have HK0z := hide kz0
  have HK1z := hide kz1
  have HK2z := hide kz2
  clear ki kz0 kz1 kz2
  go_loopg [5, 6, 32] n (fun q vo ve vi wr => ∃ (k : Nat) (up' lst nxt : Nat → Nat), k + q = n ∧ vi = .int .i64 (k : Int) ∧ ve = .int .i64 (stt n L k : Int) ∧ DS wr p n up' least size c ∧ Forest n up' rep ρ M ∧
    Blk wr gl 3 (arr n lst) ∧ Blk wr gn 3 (arr n nxt) ∧ wr.ownsRow gl 29 1 vo (rts L k).length (wins n L gl k) ∧ (∀ j, j < k → lst (pos n L j) = j) ∧ (∀ r, r < k → L r = r → nxt r = stt n L r + cnt (fun i => L i == r) k) ∧ Fr [p.bu] w wr)
  case atStart =>
    refine ⟨0, up, fun _ => 0, fun _ => 0, by omega, rfl, by rw [stt_zero]; rfl, HD0.out, HS.out.fo, HK0.out, HN0.out, ?_, fun j hj => by omega, fun r hr => by omega, HF0.out⟩
    exact HO0.out
  case round =>
    obtain ⟨k, up', lst, nxt, hk, rfl, rfl, hd, hf, hkl, hkn, ho, hls, hnx, hfr⟩ := hrel
    have HK := hide hk
    have hkm : k ≤ n := by omega
    clear hk HK0 HN0 HO0 HF0 HD0
    by_cases hlt : k < n
    · have hr := HS.out.fo.rep_lt k hlt
      have hLk := hl.le k hlt
      have hLn : L k < n := by omega
      have hid := hl.idem k hlt
      have hno1 := own_notBlk ho hkn (by decide)
      have hno2 := own_notBlk ho hkl (by decide)
      have hnog := own_notBlk ho hd.hg (by decide)
      have hnou := own_notBlk ho hd.hu (by decide)
      have hnol := own_notBlk ho hd.hl (by decide)
      have hnoz := own_notBlk ho hd.hz (by decide)
      have hnoB := fun b e => (ho.lt b e).1
      have HNO := hide (And.intro hno1 (And.intro hno2 (And.intro hnog (And.intro hnou (And.intro hnol hnoz)))))
      have HNB := hide hnoB
      have HDr := hide hd
      have HFo := hide hf
      have HKL := hide hkl
      have HKN := hide hkn
      have HOW := hide ho
      have HFR := hide hfr
      have HLS := hide hls
      have HNX := hide hnx
      have HID := hide hid
      have hpl : pos n L k < n := pos_lt hlt
      have hcz := HS.out.sz k hlt
      have hcl := HS.out.le k hlt
      have hsl := stt_le n L k
      clear hno1 hno2 hnog hnou hnol hnoz hnoB hd hf hkl hkn ho hfr hls hnx hid
      go_wp2_with fail
      refine (dsuRoot _ _ _ _ _ _ _ _ _ _ _ HDr.out HFo.out hlt).mono ?_
      rintro e w1 ⟨rfl, up1, hd1, hf1, hfr1⟩
      have hk1 := HKL.out.fr hfr1 (show gl ∉ [p.bu] by simp; omega)
      have hn1 := HKN.out.fr hfr1 (show gn ∉ [p.bu] by simp; omega)
      have ho1 := own_fr HOW.out hfr1 (fun b e => by simp; intro e2; rw [e2] at e; exact HNO.out.2.2.2.1 e)
      have hF1 := HFR.out.trans hfr1
      have c2 := hd1.c2
      have cl := hd1.hl.intx hr
      rw [hcl] at cl
      have HF1 := hide hF1
      have HFo1 := hide hf1
      clear hfr1 hF1 hf1 HFR HDr HFo HKL HKN HOW
      by_cases he : L k = k
      · have hst := stt_succ n L k
        have hw1 := wins_succ_in (n := n) (b := gl) he
        have hr1 := rts_succ_in he
        have hps : pos n L k = stt n L k := by unfold pos; rw [he, hl.first hlt he]; rfl
        have hsum := sum_in (n := n) (L := L) k
        have hc1 : 1 ≤ cls n L k := cnt_pos hlt (by simp [he])
        have hrl := rts_le L k
        have HE := hide he
        rw [he] at cl hcz
        rw [hps] at hpl
        have HST := hide hst
        have HW1 := hide hw1
        have HR1 := hide hr1
        have HPS := hide hps
        clear hst hw1 hr1 hps he hLk hLn
        have hlen : (rts L k).length ≤ 65536 := by omega
        generalize hstk : stt n L k = s at *
        have HSK := hide hstk
        clear hstk
        generalize hcls : cls n L k = z at *
        have c3 := hd1.c3
        have cz := hd1.hz.intx hr
        rw [hcz] at cz
        have cn1 := hn1.int hlt
        have fn1 := hn1.frozen k
        have hn2 := hn1.setInt k s
        have hd2 := hd1.fr ((Fr.refl [gn] _).setCell (p := ⟨gn, k, none⟩) (.inl (by simp)) (.int .i64 (s : Int))) (by simp; omega)
        have hk2 := hk1.far (p := ⟨gn, k, none⟩) hgln (.int .i64 (s : Int))
        have ho2 := own_fr ho1 ((Fr.refl [gn] _).setCell (p := ⟨gn, k, none⟩) (.inl (by simp)) (.int .i64 (s : Int))) (fun b e => by simp; intro e2; rw [e2] at e; exact HNO.out.1 e)
        have hF2 := HF1.out.setCell (p := ⟨gn, k, none⟩) (.inr (by rw [HGL.out]; exact hwn)) (.int .i64 (s : Int))
        have cn2 : (w1.setCell ⟨gn, k, none⟩ (.int .i64 (s : Int))).cell? ⟨gn, k, none⟩ = some (.int .i64 (s : Int)) := by have := hn2.int hlt; rwa [upd_same] at this
        have c32 := hd2.c3
        have cz2 := hd2.hz.intx hr
        rw [hcz] at cz2
        have HN2 := hide hn2
        have HD2 := hide hd2
        have HK2 := hide hk2
        have HO2 := hide ho2
        have HF2 := hide hF2
        have hsz2 : gl ≤ (w1.setCell ⟨gn, k, none⟩ (.int .i64 (s : Int))).heap.size := by have := hF2.size; rw [HGL.out] at this; exact this
        have HZ := hide hcz
        have hss : (w1.setCell ⟨gn, k, none⟩ (.int .i64 (s : Int))).heap.size = w1.heap.size := by simp [World.setCell]
        clear hn2 hd2 hk2 ho2 hF2 hcz
        go_wp2_with (first | (at_builtin; refine app_one 48 29 Try.underlying48 HKi.out HK0z.out HK1z.out HK2z.out rfl (by decide) (w1.setCell ⟨gn, k, none⟩ (.int .i64 (s : Int))) #[.slice (some ⟨gl, s, none⟩) z z] rfl (by intro u hu; simp at hu; subst hu; rfl) rfl (.tmp 61) (.tmp 70) rfl gl _ _ (wins n L gl k) rfl HO2.out (by rw [hss]; rfl) (by unfold maxLen; omega) (by omega) hsz2 ?_; intro vo' w5 ho5 hg5 hat5 hb5; have hk5 := HK2.out.grown hg5 HNO.out.2.1; have hn5 := HN2.out.grown hg5 HNO.out.1; have hd5 := HD2.out.grown hg5 ⟨HNO.out.2.2.1, HNO.out.2.2.2.1, HNO.out.2.2.2.2.1, HNO.out.2.2.2.2.2⟩; have hF5 := HF2.out.grow hg5 (fun b e => by rw [HGL.out]; exact HNB.out b e); have cn5 := hn5.int hlt; rw [upd_same] at cn5; have ck5 := hk5.int hpl; have fk5 := hk5.frozen s; have hn6 := hn5.far (p := ⟨gl, s, none⟩) hgln.symm (.int .i64 (k : Int)); have cn6 := hn6.int hlt; rw [upd_same] at cn6; have fn6 := hn6.frozen k; have HN5 := hide hn5; have HK5 := hide hk5; have HD5 := hide hd5; have HF5 := hide hF5; have HO5 := hide ho5; have HN6 := hide hn6; clear hn5 hk5 hd5 hF5 ho5 hn6 hg5 hat5 hb5))
        go_roundg (n - (k + 1))
        case measure => have := HK.out; omega
        case rel =>
          have hF6 := HF5.out.setCell (p := ⟨gl, s, none⟩) (.inr (by rw [HGL.out]; exact Nat.le_refl _)) (.int .i64 (k : Int))
          have hF7 := hF6.setCell (p := ⟨gn, k, none⟩) (.inr (by rw [HGL.out]; exact hwn)) (.int .i64 ((s + 1 : Nat) : Int))
          have hd7 := HD5.out.fr (((Fr.refl [gl, gn] _).setCell (p := ⟨gl, s, none⟩) (.inl (by simp)) (.int .i64 (k : Int))).setCell (p := ⟨gn, k, none⟩) (.inl (by simp)) (.int .i64 ((s + 1 : Nat) : Int))) (by simp; omega)
          have hk7 := (HK5.out.setInt s k).far (p := ⟨gn, k, none⟩) hgln (.int .i64 ((s + 1 : Nat) : Int))
          have hn7 := HN6.out.setInt k (s + 1)
          refine ⟨k + 1, up1, upd lst s k, upd (upd nxt k s) k (s + 1), by omega, by go_num, by rw [HST.out]; go_num, hd7, HFo1.out, hk7, hn7, ?_, fun j hj => ?_, fun r hr hrr => ?_, hF7⟩
          · rw [HR1.out, HW1.out, List.length_append]
            have hfr := (((Fr.refl [gl, gn] w5).setCell (p := ⟨gl, s, none⟩) (.inl (by simp)) (.int .i64 (k : Int))).setCell (p := ⟨gn, k, none⟩) (.inl (by simp)) (.int .i64 ((s + 1 : Nat) : Int)))
            exact own_fr HO5.out hfr (fun b e => by
              simp
              exact ⟨fun e2 => by rw [e2] at e; exact own_notBlk HO5.out HK5.out (by decide) e, fun e2 => by rw [e2] at e; exact own_notBlk HO5.out HN5.out (by decide) e⟩)
          · by_cases e : j = k
            · subst e; rw [HPS.out, upd_same]
            · have := pos_ne (n := n) (L := L) (show j < k by omega) hlt
              rw [HPS.out] at this
              rw [upd_other _ _ this]; exact HLS.out j (by omega)
          · by_cases e : r = k
            · rw [e, upd_same, HSK.out]
              have h0 := hl.first hlt HE.out
              have h1 : (L k == k) = true := by rw [HE.out]; simp
              simp only [cnt, h1, if_true, h0]
            · rw [upd_other _ _ e, upd_other _ _ e, HNX.out r (by omega) hrr]
              have : (L k == r) = false := by rw [HE.out]; simp; omega
              simp [cnt, this]
      · have hw1 := wins_succ_out (n := n) (b := gl) he
        have hr1 := rts_succ_out he
        have hst : stt n L (k + 1) = stt n L k := by rw [stt_succ, cls_none hl he]; rfl
        have hfk : L k < k := by omega
        have hnf := HNX.out (L k) hfk HID.out
        have hps : pos n L k = nxt (L k) := by rw [hnf]; rfl
        have hcc : cnt (fun i => L i == L k) (k + 1) = cnt (fun i => L i == L k) k + 1 := by simp [cnt]
        have hne : ((L k : Int) == (k : Int)) = false := by simp; omega
        have HHe := hide he
        have HW1 := hide hw1
        have HR1 := hide hr1
        have HST := hide hst
        have HPS := hide hps
        have HNF := hide hnf
        have HCC := hide hcc
        rw [hps] at hpl
        have cn1 := hn1.int hLn
        have fn1 := hn1.frozen (L k)
        have ck1 := hk1.int hpl
        have fk1 := hk1.frozen (nxt (L k))
        clear he hw1 hr1 hst hnf hps hcc
        generalize hf : L k = f at *
        have HF := hide hf
        clear hf
        generalize hs : nxt f = s at *
        have HS2 := hide hs
        clear hs
        have hn2 := hn1.far (p := ⟨gl, s, none⟩) hgln.symm (.int .i64 (k : Int))
        have cn2 := hn2.int hLn
        rw [HS2.out] at cn2
        have fn2 := hn2.frozen f
        have HN2 := hide hn2
        have HK1 := hide hk1
        have HD1 := hide hd1
        have HO1 := hide ho1
        clear hn2 hk1 hd1 ho1 hn1
        go_wp2_with fail
        go_roundg (n - (k + 1))
        case measure => have := HK.out; omega
        case rel =>
          have hF6 := HF1.out.setCell (p := ⟨gl, s, none⟩) (.inr (by rw [HGL.out]; exact Nat.le_refl _)) (.int .i64 (k : Int))
          have hF7 := hF6.setCell (p := ⟨gn, f, none⟩) (.inr (by rw [HGL.out]; exact hwn)) (.int .i64 ((s + 1 : Nat) : Int))
          have hfr := (((Fr.refl [gl, gn] w1).setCell (p := ⟨gl, s, none⟩) (.inl (by simp)) (.int .i64 (k : Int))).setCell (p := ⟨gn, f, none⟩) (.inl (by simp)) (.int .i64 ((s + 1 : Nat) : Int)))
          have hd7 := HD1.out.fr hfr (by simp; omega)
          have hk7 := (HK1.out.setInt s k).far (p := ⟨gn, f, none⟩) hgln (.int .i64 ((s + 1 : Nat) : Int))
          have hn7 := HN2.out.setInt f (s + 1)
          refine ⟨k + 1, up1, upd lst s k, upd nxt f (s + 1), by omega, by go_num, by rw [HST.out], hd7, HFo1.out, hk7, hn7, ?_, fun j hj => ?_, fun r hr hrr => ?_, hF7⟩
          · rw [HR1.out, HW1.out]
            exact own_fr HO1.out hfr (fun b e => by
              simp
              exact ⟨fun e2 => by rw [e2] at e; exact HNO.out.2.1 e, fun e2 => by rw [e2] at e; exact HNO.out.1 e⟩)
          · by_cases e : j = k
            · rw [e, HPS.out, upd_same]
            · have := pos_ne (n := n) (L := L) (show j < k by omega) hlt
              rw [HPS.out] at this
              rw [upd_other _ _ this]; exact HLS.out j (by omega)
          · have hrk : r ≠ k := fun e => by rw [e, HF.out] at hrr; exact HHe.out hrr
            by_cases e : r = f
            · have := HNF.out
              have h2 := HCC.out
              rw [e, upd_same, h2]; omega
            · rw [upd_other _ _ e, HNX.out r (by omega) hrr]
              have : (L k == r) = false := by rw [HF.out]; simp; omega
              simp [cnt, this]
    · have hkk : k = n := by omega
      subst hkk
      obtain ⟨A, cc, rfl, hrd, hAd, _⟩ := own_form ho
      go_wp2_with fail
      go_ret
      have hG := grp_is (c := cc) (B := gl) hls hkl hrd (Nat.le_refl _) (fun ad e => (hAd ad e).2.1)
      rw [← HGL.out] at hG
      rw [← rts_len] at hG
      exact ⟨_, rfl, ⟨up', least, size, rep, ρ, M, c, hd, ⟨hf, HS.out.le, HS.out.same, HS.out.sz, HS.out.cn⟩, hl⟩, hG, hfr⟩
end Go.Proofs.Ytoomcgmbaogjbaa
