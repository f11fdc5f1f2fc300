/- tally: build, Even. -/
import Derived.Test.YtoomcgmbaogjbaaTalC
import Derived.Laws.MakeOwn
import Derived.Deep.DeepCutAuto
namespace Go.Proofs.Ytoomcgmbaogjbaa
open Go.RowKit
set_option linter.unusedVariables false

structure NewT (w wx : World) (q : TL) (n : Nat) : Prop where
  blk : Blk wx q.g 83 #[.pointer none, .pointer (some ⟨q.p.g, 0, none⟩), .slice (some ⟨q.b, 0, none⟩) n n, .pointer (some ⟨q.a, 0, none⟩)]
  row : Blk wx q.b 2 (arr n fun _ => 0)
  bag : Bg wx q.a .nil
  dsu : Dsu wx q.p n fun i => i
  fr : Fr [] w wx
  fresh : w.heap.size ≤ q.g ∧ w.heap.size ≤ q.b ∧ w.heap.size ≤ q.a ∧ q.p.from_ w.heap.size

theorem evenF (W : World) (i : Int) : Calls Try.prog 26 #[.int .i64 i] W fun e w' => e = .returned (.int .i64 1) ∧ W = w' := by
  go_enter Try.func26, Try.ntmps26
  go_wp2_with fail
  go_ret
  exact ⟨rfl, rfl⟩

set_option maxRecDepth 100000 in
set_option maxHeartbeats 8000000 in
theorem talBuild (w : World) (n : Nat) (hn : n ≤ 100) :
    Calls Try.prog 25 #[.int .i64 (n : Int), .func (.func 26) #[] #[]] w fun e w' => ∃ (q : TL) (t : BT) (f : Nat → Nat), e = .returned (.tuple #[.pointer (some ⟨q.g, 0, none⟩), .int .i64 0]) ∧
      Tly w' q t n (fun i => i) f ∧ Fr [] w w' ∧ ∀ b ∈ q.S t, w.heap.size ≤ b := by
  have hinfo : (Try.prog.info? 2).map (fun i => (i.zero, i.size, i.bytes)) = some (some (.int .i64 0), 1, 8) := by kernel_rfl
  obtain ⟨i0, hi, hz0, hz1, hz2⟩ := info_parts hinfo
  have hmk := fun W => run_make_ints 79 2 i0 Try.underlying79 hi hz0 hz1 hz2 n (by omega) W
  clear hinfo hi hz0 hz1 hz2
  go_enter Try.func25, Try.ntmps25
  go_wp2_with fail
  refine (dsuNew_ok w n (by omega)).mono ?_
  rintro e w1 ⟨p, rfl, hd, hb, hfr⟩
  have HD := hide hd
  have HB := hide hb
  have HFR := hide hfr
  clear hd hb hfr
  go_wp2_with fail
  go_upto_region 5 with fail
  go_cut [8] (fun s8 wx => ∃ q : TL, s8 = .pointer (some ⟨q.g, 0, none⟩) ∧ q.c = n ∧ q.r = #[] ∧ NewT w wx q n)
  case first =>
    go_region_with
      (go_at_call 37
       refine (bagNew _).mono ?_
       rintro e w5 ⟨rfl, hb5, hf5⟩
       have HB5 := hide hb5
       have HF5 := hide hf5
       clear hb5 hf5)
    all_goals (go_wp2_with fail; go_meet)
    · have hz : (w1.alloc (.cells (arr n fun _ => 0) 2)).drew.heap.size = w1.heap.size + 1 := by simp
      have hb5 := HB5.out
      rw [hz] at hb5
      have hrow : Blk (w1.alloc (.cells (arr n fun _ => 0) 2)).drew w1.heap.size 2 (arr n fun _ => 0) := (Blk.new _ _ _).drew
      have hfw : Fr [] w w5 := ((((Fr.of_below [] HB.out).alloc (.cells (arr n fun _ => 0) 2)).drew)).trans HF5.out
      have hd5 : Dsu w5 p n fun i => i := ((HD.out.fr ((Fr.refl [] w1).alloc (.cells (arr n fun _ => 0) 2)).drew (by simp))).fr HF5.out (by simp)
      have h1 := HB.out.size
      have h2 := HF5.out.size
      rw [hz] at h2
      refine ⟨⟨w5.heap.size, p, w1.heap.size, n, #[], w1.heap.size + 1⟩, rfl, rfl, rfl, ⟨Blk.new _ _ _, (hrow.fr HF5.out (by simp)).alloc _, hb5.fr ((Fr.refl [] w5).alloc _) (by simp) (by simp), hd5.fr ((Fr.refl [] w5).alloc _) (by simp), hfw.alloc _, ?_, ?_, ?_, HFR.out⟩⟩
      · show w.heap.size ≤ w5.heap.size; omega
      · exact h1
      · show w.heap.size ≤ w1.heap.size + 1; omega
    · have hz : w1.drew.heap.size = w1.heap.size := rfl
      have hb5 := HB5.out
      rw [hz] at hb5
      have hrow : Blk (w5.alloc (.cells (arr n fun _ => 0) 2)) w5.heap.size 2 (arr n fun _ => 0) := Blk.new _ _ _
      have hf5 : Fr [] w1 w5 := ((Fr.refl [] w1).drew).trans HF5.out
      have hfw : Fr [] w w5 := (Fr.of_below [] HB.out).trans hf5
      have hd5 : Dsu w5 p n fun i => i := HD.out.fr hf5 (by simp)
      have h1 := HB.out.size
      have h2 := hf5.size
      have hs : (w5.alloc (.cells (arr n fun _ => 0) 2)).heap.size = w5.heap.size + 1 := by simp
      refine ⟨⟨w5.heap.size + 1, p, w5.heap.size, n, #[], w1.heap.size⟩, rfl, rfl, rfl, ⟨?_, hrow.alloc _, hb5.fr (((Fr.refl [] w5).alloc _).alloc _) (by simp) (by simp), hd5.fr (((Fr.refl [] w5).alloc _).alloc _) (by simp), (hfw.alloc _).alloc _, ?_, ?_, ?_, HFR.out⟩⟩
      · have := Blk.new (w5.alloc (.cells (arr n fun _ => 0) 2)) 83 #[.pointer none, .pointer (some ⟨p.g, 0, none⟩), .slice (some ⟨w5.heap.size, 0, none⟩) n n, .pointer (some ⟨w1.heap.size, 0, none⟩)]
        rw [hs] at this
        exact this
      · show w.heap.size ≤ w5.heap.size + 1; omega
      · show w.heap.size ≤ w5.heap.size; omega
      · exact h1
  case rest =>
    obtain ⟨q, rfl, hqc, hqr, hZ⟩ := hcut
    have f0 := hZ.blk.frozen 0
    have k0 : wc.cell? ⟨q.g, 0, none⟩ = some (.pointer none) := (hZ.blk.cell 0).trans rfl
    have hfs : Fr [q.g] wc (wc.setCell ⟨q.g, 0, none⟩ (.pointer (some ⟨q.g, 0, none⟩))) := (Fr.refl [q.g] wc).setCell (p := ⟨q.g, 0, none⟩) (.inl (by simp)) _
    have hz1 : arr n (fun _ => 0) = arx n (one 0) q.r := by rw [hqr, arx_nil]; exact arr_congr fun i _ => by simp [one]
    have hgd := dsu_far hZ.dsu hZ.blk (by decide) (by decide)
    simp only [List.mem_cons, List.not_mem_nil, or_false, not_or] at hgd
    have hT0 : Tl0 (wc.setCell ⟨q.g, 0, none⟩ (.pointer (some ⟨q.g, 0, none⟩))) q .nil n (one 0) := by
      refine ⟨?_, ?_, ?_⟩
      · rw [hqc]; exact hZ.blk.set_ 0 _
      · rw [← hz1]; exact hZ.row.fr hfs (by simpa using hZ.row.ne_ hZ.blk (by decide))
      · exact hZ.bag.fr hfs (by simpa using hZ.bag.blk.ne_ hZ.blk (by decide)) (by simp [BT.bl])
    have hD0 : Dsu (wc.setCell ⟨q.g, 0, none⟩ (.pointer (some ⟨q.g, 0, none⟩))) q.p n fun i => i := hZ.dsu.fr hfs ⟨by simpa using fun e => hgd.1 e.symm, by simpa using fun e => hgd.2.1 e.symm, by simpa using fun e => hgd.2.2.1 e.symm, by simpa using fun e => hgd.2.2.2 e.symm⟩
    have hF0 : Fr [] w (wc.setCell ⟨q.g, 0, none⟩ (.pointer (some ⟨q.g, 0, none⟩))) := hZ.fr.setCell (p := ⟨q.g, 0, none⟩) (.inr hZ.fresh.1) _
    have HFRESH := hide hZ.fresh
    have HT0 := hide hT0
    have HD0 := hide hD0
    have HF0 := hide hF0
    have HQC := hide hqc
    clear hZ hfs hz1 hgd hT0 hD0 hF0 HB HFR HD
    go_wp2_with fail
    generalize wc.setCell ⟨q.g, 0, none⟩ (.pointer (some ⟨q.g, 0, none⟩)) = w2 at *
    go_loopg [30] n (fun gh s wr => ∃ (k : Nat) (t : BT), k + gh = n ∧ s = .int .i64 (k : Int) ∧ Tl0 wr q t n (one k) ∧ Dsu wr q.p n (fun i => i) ∧ Rep t.ls (List.replicate k 1) ∧ (∀ b ∈ t.bl, w.heap.size ≤ b) ∧ Fr [] w wr)
    case atStart => exact ⟨0, .nil, by omega, rfl, HT0.out, HD0.out, Rep.nil, by simp [BT.bl], HF0.out⟩
    case round =>
      obtain ⟨k, t, hk, rfl, hT, hD, hR, hB, hF⟩ := hrel
      have HK := hide hk
      have hkn : k ≤ n := by omega
      have HR := hide hR
      have HB := hide hB
      have HF := hide hF
      have HT := hide hT
      have HD := hide hD
      clear hk hR hB hF hD HT0 HD0 HF0 k0 f0
      by_cases hlt : k < n
      · have c2 := hT.c2
        have cx : wr.cell? ⟨q.b, k, none⟩ = some (.int .i64 (one k k : Int)) := hT.row.intx hlt
        have gx := hT.row.frozen k
        have HLT := hide hlt
        clear hT
        go_wp2_with fail
        go_region_held3 (fun w' => w'.cell? ⟨q.g, 2, none⟩ = some (.slice (some ⟨q.b, 0, none⟩) n q.c))
          (first | exact c2 | exact ((HT.out.set_ HLT.out 1).dr ⟨1, rfl⟩).c2)
          (first | (go_at_call 26; refine (evenF _ _).mono ?_; rintro e w5 ⟨rfl, rfl⟩))
        have h3 := (HT.out.set_ HLT.out 1).dr ⟨1, rfl⟩
        have HD3 := hide ((HT.out.dsuSet HD.out k (.int .i64 ((1 : Nat) : Int))).dr ⟨1, rfl⟩)
        have HF3 := hide ((HF.out.setCell (p := ⟨q.b, k, none⟩) (.inr HFRESH.out.2.1) (.int .i64 ((1 : Nat) : Int))).drew)
        change Hid (Dsu (wr.setCell ⟨q.b, k, none⟩ (.int .i64 1)).drew q.p n fun i => i) at HD3
        change Tl0 (wr.setCell ⟨q.b, k, none⟩ (.int .i64 1)).drew q t n (upd (one k) k 1) at h3
        rw [one_succ] at h3
        change Hid (Fr [] w (wr.setCell ⟨q.b, k, none⟩ (.int .i64 1)).drew) at HF3
        have H3 := hide h3
        clear h3 c2 cx gx
        generalize (wr.setCell ⟨q.b, k, none⟩ (.int .i64 1)).drew = w3 at *
        have c2 := H3.out.c2
        have c3 := H3.out.c3
        have cx : w3.cell? ⟨q.b, k, none⟩ = some (.int .i64 1) := by
          rw [H3.out.row.intx HLT.out]
          have : one (k + 1) k = 1 := if_pos (by omega)
          rw [this]
          rfl
        go_wp2_with fail
        go_still_tail 11, (by kernel_rfl)
        change wpList _ _ _ _ _ (w3.drewN 1)
        have HW4 : Hid (Dr w3 (w3.drewN 1)) := hide ⟨1, rfl⟩
        generalize w3.drewN 1 = w4 at *
        have H4 := hide (H3.out.dr HW4.out)
        have HD4 := hide (HD3.out.dr HW4.out)
        have HF4 := hide (HF3.out.trans (HW4.out.fr _))
        have HSZ := hide (HR.out.sz)
        have HCT := hide (HR.out.ct)
        rw [List.length_replicate] at HSZ HCT
        clear c2 c3 cx
        go_wp2_with fail
        refine (bagAdd w4 q.a t 1 H4.out.bag (by have := HSZ.out; omega) (by have := HCT.out; omega)).mono ?_
        rintro e w5 ⟨rfl, t5, hb5, hl5, hn5, hf5⟩
        have HR5 : Hid (Rep t5.ls (List.replicate (k + 1) 1)) := hide (by rw [hl5]; exact HR.out.add 1)
        have H5 := hide (H4.out.bagFr hf5 hb5)
        have HD5 := hide (dsu_bag HD4.out H4.out.bag hf5)
        have HN5 : Hid (∀ k ∈ t5.bl, w.heap.size ≤ k) := hide fun k hk => (hn5 k hk).elim (HB.out k) fun h => Nat.le_trans HF4.out.size h
        have HF5 := hide (HF4.out.trans_new hf5 (fun k hk => .inr (by
          rcases List.mem_cons.1 hk with h | h
          · rw [h]; exact HFRESH.out.2.2.1
          · exact HB.out k h)))
        clear hb5 hl5 hn5 hf5
        go_wp2_with fail
        go_roundg (n - (k + 1))
        case measure => have := HK.out; omega
        case rel => exact ⟨k + 1, t5, by omega, by go_num, H5.out, HD5.out, HR5.out, HN5.out, HF5.out⟩
      · obtain rfl : k = n := by omega
        clear hT
        go_wp2_with fail
        go_ret2
        refine ⟨q, t, one k, rfl, ⟨HT.out.blk, HT.out.row, fun i hi _ => ?_, HD.out, HT.out.bag, ?_, hn⟩, HF.out, fun b hb => ?_⟩
        · rw [cls_id hi]; exact if_pos hi
        · rw [Zs_id]; exact HR.out
        · have h := HFRESH.out
          have hp := h.2.2.2
          unfold Loc.from_ at hp
          simp only [TL.S, List.mem_cons] at hb
          rcases hb with rfl | rfl | rfl | rfl | rfl | rfl | rfl | hb
          · exact h.1
          · exact hp.1
          · exact hp.2.1
          · exact hp.2.2.1
          · exact hp.2.2.2
          · exact h.2.1
          · exact h.2.2.1
          · exact HB.out b hb

set_option maxRecDepth 100000 in
theorem talEven (w : World) (n : Nat) (hn : n ≤ 100) :
    Calls Try.prog 17 #[.int .i64 (n : Int)] w fun e w' => ∃ (q : TL) (t : BT) (f : Nat → Nat), e = .returned (.tuple #[.pointer (some ⟨q.g, 0, none⟩), .int .i64 0]) ∧
      Tly w' q t n (fun i => i) f ∧ Fr [] w w' ∧ ∀ b ∈ q.S t, w.heap.size ≤ b := by
  have HB := hide (talBuild w n hn)
  go_enter Try.func17, Try.ntmps17
  go_wp2_with fail
  refine HB.out.mono ?_
  rintro e w1 ⟨q, t, f, rfl, h⟩
  have H := hide h
  clear h
  go_wp2_with fail
  go_ret2
  exact ⟨q, t, f, rfl, H.out⟩
end Go.Proofs.Ytoomcgmbaogjbaa
