/- graph: Dist. -/
import Derived.Test.YtpgkhmjlbaoagaaGraDb
namespace Go.Proofs.Ytpgkhmjlbaoagaa
open Go.RowKit Go.Shelf
attribute [local go_sem] Oper.semAt_some
set_option linter.unusedVariables false

def filI (k : Nat) : Nat → Int := fun i => if i < k then -1 else 0
theorem filI_succ (k : Nat) : updi (filI k) k (-1) = filI (k + 1) := by
  funext i; unfold updi filI; split
  · subst_vars; simp
  · split <;> split <;> omega
theorem graDist_no (w : World) (v : Int) (p : GLoc) (n B : Nat) (l : List (Int × Int × Int)) (h : Gr w p n B l) (hv : inB n v = false) :
    Calls Try.prog 23 #[.pointer (some ⟨p.g, 0, none⟩), .int .i64 v] w fun e w' => e = .returned (.slice none 0 0) ∧ w = w' := by
  have H := graHas w v p n B l h
  rw [hv] at H
  have HH := hide H
  clear H h hv
  refine (callsIn_wide (n := 3)).1 ?_
  refine callsIn_of_wp_marks Try.func23 rfl trivial ?_ rfl
  simp only [Try.ntmps23, List.size_toArray, List.length_cons, List.length_nil, Nat.reduceAdd, Nat.reduceSub, Array.replicate_succ, Array.replicate_zero, List.push_toArray, List.append_toArray, List.nil_append, List.cons_append]
  gi_wp2_with fail
  refine ⟨trivial, (callsIn_wide.2 HH.out).mono ?_⟩
  rintro e w1 ⟨rfl, rfl⟩
  gi_wp2_with fail
  exact ⟨_, results_tmp rfl _ _ _, rfl, rfl⟩

set_option maxRecDepth 100000 in
set_option maxHeartbeats 4000000 in
theorem graDist (w : World) (v : Nat) (p : GLoc) (n B : Nat) (l : List (Int × Int × Int)) (h : Gr w p n B l) (hv : v < n) :
    Calls Try.prog 23 #[.pointer (some ⟨p.g, 0, none⟩), .int .i64 (v : Int)] w
      fun e w' => ∃ (b : Nat) (D : Nat → Int), e = .returned (.slice (some ⟨b, 0, none⟩) n n) ∧ IsDist n l v D ∧ Blk w' b 3 (ari n D) ∧ w.heap.size ≤ b ∧ Below w.heap.size w w' := by
  have H := graHas w (v : Int) p n B l h
  rw [inB_nat hv] at H
  have HH := hide H
  have HG := hide h
  have HN := hide (graN w p n B l h)
  have hn4 : n ≤ 4096 := h.ok.2.1
  obtain ⟨i0, hi, hz0, hz1, hz2⟩ := info_parts int_info0
  have hmk := fun W => run_make_ints 40 3 i0 Try.underlying40 hi hz0 hz1 hz2 n (by omega) W
  clear H h
  refine (callsIn_wide (n := 3)).1 ?_
  refine callsIn_of_wp_marks Try.func23 rfl trivial ?_ rfl
  simp only [Try.ntmps23, List.size_toArray, List.length_cons, List.length_nil, Nat.reduceAdd, Nat.reduceSub, Array.replicate_succ, Array.replicate_zero, List.push_toArray, List.append_toArray, List.nil_append, List.cons_append]
  gi_wp2_with fail
  refine ⟨trivial, (callsIn_wide.2 HH.out).mono ?_⟩
  rintro e w1 ⟨rfl, rfl⟩
  gi_wp2_with fail
  refine ⟨trivial, (callsIn_wide.2 HN.out).mono ?_⟩
  rintro e w1 ⟨rfl, rfl⟩
  gi_wp2_with fail
  obtain ⟨w2, bd, bD, hw2, hbd, hbD, HA1, HD0, HB1⟩ : ∃ (w2 : World) (bd bD : Nat), (w.alloc (.cells (arr n fun _ => 0) 3)).alloc (.cells #[.slice (some ⟨w.heap.size, 0, none⟩) n n] 40) = w2 ∧ w.heap.size = bd ∧ w.heap.size + 1 = bD ∧
      Hid (Blk w2 bd 3 (ari n (filI 0))) ∧ Hid (Boxed w2 bD 40 (.slice (some ⟨bd, 0, none⟩) n n)) ∧ Hid (Below w.heap.size w w2) := by
    refine ⟨_, _, _, rfl, rfl, rfl, ?_, ?_, ((Below.refl _ _).alloc (Nat.le_refl _) _).alloc (by simp) _⟩
    · have e0 : arr n (fun _ => 0) = ari n (filI 0) := by rw [arr_ari]; exact ari_congr fun i _ => by simp [filI]
      rw [← e0]
      exact (Blk.new w 3 (arr n fun _ => 0)).alloc _
    · have := Boxed.new (w.alloc (.cells (arr n fun _ => 0) 3)) 40 (.slice (some ⟨w.heap.size, 0, none⟩) n n)
      rw [World.size_alloc] at this
      exact this
  rw [hw2, hbD, hbd]
  have HBD := hide (And.intro hbd hbD)
  have hDd : bD ≠ bd := by omega
  clear hw2 hbd hbD hmk
  gi_loopw [20] (fun i wr => ∃ k : Nat, k ≤ n ∧ i = .int .i64 k ∧ Blk wr bd 3 (ari n (filI k)) ∧ Boxed wr bD 40 (.slice (some ⟨bd, 0, none⟩) n n) ∧ Below w.heap.size w wr) (fun i _ => n - (intOf i).toNat)
  case atStart => exact ⟨0, Nat.zero_le _, rfl, HA1.out, HD0.out, HB1.out⟩
  case round =>
    obtain ⟨k, hk, rfl, hA, hD, hB⟩ := hrel
    by_cases hlt : k < n
    · have c1 := hD.cell
      have c2 := hA.inti hlt
      have f2 := hA.frozen k
      have HA := hide hA
      have HD := hide hD
      have HB := hide hB
      clear hA hD hB
      gi_wp2_with fail
      go_roundw
      case rel => exact ⟨k + 1, by omega, by go_num, by rw [← filI_succ]; exact HA.out.setInti k (-1), Boxed_far HD.out (p := ⟨bd, k, none⟩) hDd _, HB.out.setCell (p := ⟨bd, k, none⟩) (by have := HBD.out; show w.heap.size ≤ bd; omega) _⟩
      case measure => simp [intOf]; omega
    · obtain rfl : n = k := by omega
      have c1 := hD.cell
      have c2 := hA.inti hv
      have f2 := hA.frozen v
      have HA := hide hA
      have HD := hide hD
      have HB := hide hB
      clear hA hD hB HA1 HD0 HB1 hlt hk
      gi_wp2_with fail
      obtain ⟨wx, bQ, hwx, hbQ, h0⟩ : ∃ (wx : World) (bQ : Nat), ((wr.setCell ⟨bd, v, none⟩ (.int .i64 0)).alloc (.cells #[.int .i64 (v : Int)] 3)).alloc (.cells #[.slice (some ⟨wr.heap.size, 0, none⟩) 1 1] 40) = wx ∧ wr.heap.size + 1 = bQ ∧
          Hid (w.heap.size ≤ bQ ∧ bQ ≠ bd ∧ bQ ≠ bD ∧ ∃ g V, DSt w wx n bd bD bQ g (updi (fun _ => -1) v 0) V [v] []) := by
        refine ⟨_, _, rfl, rfl, ?_⟩
        have h1 := HB.out.size
        have h2 := HA.out.lt
        have h3 := HD.out.lt
        have hsz : (wr.setCell ⟨bd, v, none⟩ (.int .i64 0)).heap.size = wr.heap.size := by simp
        have q := QB.one (E := 3) (n₀ := w.heap.size) (wr.setCell ⟨bd, v, none⟩ (.int .i64 0)) v (by rw [hsz]; exact h1)
        have bq := Boxed.new ((wr.setCell ⟨bd, v, none⟩ (.int .i64 0)).alloc (.cells #[.int .i64 (v : Int)] 3)) 40 (.slice (some ⟨wr.heap.size, 0, none⟩) 1 1)
        have hbel : Below w.heap.size w (((wr.setCell ⟨bd, v, none⟩ (.int .i64 0)).alloc (.cells #[.int .i64 (v : Int)] 3)).alloc (.cells #[.slice (some ⟨wr.heap.size, 0, none⟩) 1 1] 40)) :=
          ((HB.out.setCell (p := ⟨bd, v, none⟩) (by have := HBD.out; show w.heap.size ≤ bd; omega) _).alloc (by rw [hsz]; exact h1) _).alloc (by simp; omega) _
        rw [hsz] at q
        rw [World.size_alloc, hsz] at bq
        have hA := HA.out.setInti v 0
        have : ari n (updi (filI n) v 0) = ari n (updi (fun _ => -1) v 0) := ari_congr fun i hi => by unfold updi filI; split <;> simp
        rw [this] at hA
        exact ⟨by omega, by omega, by omega, wr.heap.size, _, (hA.alloc _).alloc _, ((Boxed_far HD.out (p := ⟨bd, v, none⟩) hDd _).alloc _).alloc _, bq, q.alloc _, by omega, hbel, Mk.nil _ _⟩
      rw [hwx, hbQ]
      obtain ⟨q1, q2, q3, g0, V0, hS0⟩ := h0.out
      have HS0 := hide hS0
      clear hwx hbQ HA HD HB c1 c2 f2 hS0 h0
      refine wpIn_loop_ghost (fun m a W => ∃ (D : Nat → Int) (dn Q : List Nat) (g : Nat) (V : Value) (Ds : List Nat) (u2 u3 u4 u6 u8 u9 u10 u11 u12 u13 u14 u15 u16 u17 u18 u19 u20 u21 u22 u23 u24 u25 u26 u27 u28 u29 u30 u31 u32 u33 u34 u35 u36 u37 u38 u39 u40 u41 u42 u43 u44 u45 u46 u47 u48 u49 u50 u51 u52 u53 u54 u55 u56 u57 u58 u59 u60 u61 u62 : Value), a = { tmps := #[.pointer (some ⟨p.g, 0, none⟩), .int .i64 (v : Int), u2, u3, u4, .pointer (some ⟨bD, 0, none⟩), u6, .pointer (some ⟨bQ, 0, none⟩), u8, u9, u10, u11, u12, u13, u14, u15, u16, u17, u18, u19, u20, u21, u22, u23, u24, u25, u26, u27, u28, u29, u30, u31, u32, u33, u34, u35, u36, u37, u38, u39, u40, u41, u42, u43, u44, u45, u46, u47, u48, u49, u50, u51, u52, u53, u54, u55, u56, u57, u58, u59, u60, u61, u62], defers := mks Ds } ∧ m + dn.length = n ∧ Bfs n l v D dn Q ∧ DSt w W n bd bD bQ g D V Q Ds) n ?start ?round
      case start => exact ⟨_, [], [v], g0, V0, [], _, _, _, _, _, _, _, _, _, _, _, _, _, _, _, _, _, _, _, _, _, _, _, _, _, _, _, _, _, _, _, _, _, _, _, _, _, _, _, _, _, _, _, _, _, _, _, _, _, _, _, _, _, _, _, _, _, _, _, rfl, by simp, Bfs.new HG.out.ok.1 hv, HS0.out⟩
      case round =>
        rintro m a W ⟨D, dn, Q, g, V, Ds, u2, u3, u4, u6, u8, u9, u10, u11, u12, u13, u14, u15, u16, u17, u18, u19, u20, u21, u22, u23, u24, u25, u26, u27, u28, u29, u30, u31, u32, u33, u34, u35, u36, u37, u38, u39, u40, u41, u42, u43, u44, u45, u46, u47, u48, u49, u50, u51, u52, u53, u54, u55, u56, u57, u58, u59, u60, u61, u62, rfl, hm, hb, hS⟩
        have c1 := hS.hQ.cell
        have HM := hide hm
        have HBF := hide hb
        have HS := hide hS
        cases Q with
        | nil =>
          obtain ⟨o, c, cur, rfl, -⟩ := hS.hq
          have cD := hS.hD.cell
          clear hm hb hS HS0
          gi_wp2_with fail
          refine Mk.leave Ds W HS.out.mrk HS.out.bel.size (fun W' k => ?_)
          exact ⟨_, results_tmp rfl _ _ _, bd, D, rfl, HBF.out.fin, (k.1 bd ⟨_, HS.out.hA, rfl⟩).trans HS.out.hA, by have := HBD.out; omega, HS.out.bel.trans k.2⟩
        | cons u ys =>
          obtain ⟨o, c, rfl, k1, k2, k3, k4, k5⟩ := hS.hq.head rfl
          have c2 := hS.hQ.frozen
          clear hm hb hS HS0
          have bU := Boxed.new W 3 (.int .i64 (u : Int))
          have bQ1 := HS.out.hQ.alloc (.cells #[.int .i64 (u : Int)] 3)
          have c3 := bQ1.cell
          have f3 := bQ1.frozen
          have hbu : W.heap.size ≠ bQ := by have := HS.out.hQ.lt; omega
          have hc : c = 1 ∨ 1 < c := by omega
          rcases hc with rfl | hc
          · obtain ⟨W3, hW3⟩ : ∃ W3, W3 = (W.alloc (.cells #[.int .i64 (u : Int)] 3)).setCell ⟨bQ, 0, none⟩ (.slice (some ⟨g, o, none⟩) 0 0) := ⟨_, rfl⟩
            have cu := (Boxed_far bU (p := ⟨bQ, 0, none⟩) hbu (.slice (some ⟨g, o, none⟩) 0 0)).cell
            have hS3 : DSt w W3 n bd bD bQ g D (.slice (some ⟨g, o, none⟩) 0 0) ys Ds := by
              rw [hW3]
              have h1 := HS.out.fresh ((Below.refl W.heap.size W).alloc (Nat.le_refl _) (.cells #[.int .i64 (u : Int)] 3))
              exact ⟨h1.hA.far (p := ⟨bQ, 0, none⟩) (fun e => q2 e.symm) _, Boxed_far h1.hD (p := ⟨bQ, 0, none⟩) (fun e => q3 e.symm) _, bQ1.set _, ((k4 rfl).2.alloc _).far (p := ⟨bQ, 0, none⟩) (((k4 rfl).2).ne_ HS.out.hQ (by decide)) _, h1.gd, h1.bel.setCell (p := ⟨bQ, 0, none⟩) q1 _, h1.mrk.kept (KeepsOthers.setCell _ _ _)⟩
            have bU3 : Boxed W3 W.heap.size 3 (.int .i64 (u : Int)) := by rw [hW3]; exact Boxed_far bU (p := ⟨bQ, 0, none⟩) hbu _
            have hgu : g ≠ W.heap.size := by have := HS.out.hq.lt; omega
            gi_wp2_with fail
            rw [← hW3]
            refine ⟨trivial, (callsIn_wide.2 (graAround W3 p.g (u : Int))).mono ?_⟩
            rintro e w4 ⟨rfl, hw4⟩
            have bG0 := Boxed.new W3 25 (.pointer (some ⟨p.g, 0, none⟩))
            have bV0 := Boxed.new (W3.alloc (.cells #[.pointer (some ⟨p.g, 0, none⟩)] 25)) 3 (.int .i64 (u : Int))
            rw [World.size_alloc] at bV0
            have hb4 : Below W3.heap.size W3 w4 := by rw [hw4]; exact ((Below.refl _ _).alloc (Nat.le_refl _) _).alloc (by simp) _
            have hsz4 : w4.heap.size = W3.heap.size + 2 := by rw [hw4]; simp
            have hM0 : DMid w w4 n l v bd bD bQ W.heap.size W3.heap.size (W3.heap.size + 1) p.g u dn [] Ds := by
              have hl := hS3.hq.lt
              exact ⟨⟨D, ys, g, _, hS3.fresh hb4, HBF.out.pop, hgu, by omega⟩, by rw [hw4]; exact (bU3.alloc _).alloc _, by rw [hw4]; exact bG0.alloc _, by rw [hw4]; exact bV0⟩
            have hun : u < n := HBF.out.pop.un.1
            have hDs : ∀ D ∈ Ds, D < w4.heap.size := fun D hD => by have := hS3.mrk.lt D hD; omega
            have hbu4 : W.heap.size < W3.heap.size := bU3.lt
            have hl1 := HS.out.hA.lt
            have hl2 := HS.out.hQ.lt
            have hbel4 : Below w.heap.size w w4 := hS3.bel.trans (hb4.mono hS3.bel.size)
            have HM0 := hide hM0
            clear hS3 bU3 bG0 bV0 hb4 hM0 cu c1 c2 c3 f3 k1 k2 k3 k4 k5 bU bQ1 HS hw4 hW3
            have hn3 : w.heap.size ≤ bd ∧ w.heap.size ≤ bD ∧ w.heap.size ≤ bQ := by have := HBD.out; omega
            have hne9 : bD ≠ bd ∧ bQ ≠ bd ∧ bQ ≠ bD ∧ W.heap.size ≠ bd ∧ W.heap.size ≠ bQ ∧ W3.heap.size ≠ bd ∧ W3.heap.size ≠ bQ ∧ W3.heap.size + 1 ≠ bd ∧ W3.heap.size + 1 ≠ bQ := by omega
            gi_wp2_with fail
            refine distRange _ rfl w w4 p n B l v bd bD bQ W.heap.size W3.heap.size u dn Ds HG.out hbel4 HM0.out (by omega) hDs hn3 hne9 hun _ _ _ _ _ _ _ _ _ _ _ _ _ _ _ _ _ _ _ _ _ _ _ _ _ _ _ _ _ _ _ _ _ _ _ _ _ _ _ _ _ _ _ _ _ _ _ _ _ _ _ _ _ _ _ _ _ _ _  _ _ ?_
            intro D' W5 hD5 hMid hK5
            obtain ⟨⟨D1, Q1, g1, V1, hS1, hb1, -, -⟩, -, -, -⟩ := hMid
            have hb2 := hb1.done inc_all
            have hlen := hb2.len
            have hmk : Mk W5 w.heap.size (D' :: Ds) := hS1.mrk.cons (fun hm => by have := hDs D' hm; omega) (by have := hbel4.size; omega) hK5
            simp only [List.length_append, List.length_cons, List.length_nil] at hlen
            have hm9 := HM.out
            gi_wp2_with fail
            exact ⟨m - 1, by omega, D1, dn ++ [u], Q1, g1, V1, D' :: Ds, _, _, _, _, _, _, _, _, _, _, _, _, _, _, _, _, _, _, _, _, _, _, _, _, _, _, _, _, _, _, _, _, _, _, _, _, _, _, _, _, _, _, _, _, _, _, _, _, _, _, _, _, _, _, _, _, _, _, _, rfl, by simp; omega, hb2, hS1.hA, hS1.hD, hS1.hQ, hS1.hq, hS1.gd, hS1.bel, hmk⟩
          · obtain ⟨W3, hW3⟩ : ∃ W3, W3 = (W.alloc (.cells #[.int .i64 (u : Int)] 3)).setCell ⟨bQ, 0, none⟩ (.slice (some ⟨g, o + 1, none⟩) ys.length (c - 1)) := ⟨_, rfl⟩
            have cu := (Boxed_far bU (p := ⟨bQ, 0, none⟩) hbu (.slice (some ⟨g, o + 1, none⟩) ys.length (c - 1))).cell
            have hS3 : DSt w W3 n bd bD bQ g D (.slice (some ⟨g, o + 1, none⟩) ys.length (c - 1)) ys Ds := by
              rw [hW3]
              have h1 := HS.out.fresh ((Below.refl W.heap.size W).alloc (Nat.le_refl _) (.cells #[.int .i64 (u : Int)] 3))
              exact ⟨h1.hA.far (p := ⟨bQ, 0, none⟩) (fun e => q2 e.symm) _, Boxed_far h1.hD (p := ⟨bQ, 0, none⟩) (fun e => q3 e.symm) _, bQ1.set _, ((k5 hc).alloc _).far (p := ⟨bQ, 0, none⟩) (((k5 hc)).ne_ HS.out.hQ (by decide)) _, h1.gd, h1.bel.setCell (p := ⟨bQ, 0, none⟩) q1 _, h1.mrk.kept (KeepsOthers.setCell _ _ _)⟩
            have bU3 : Boxed W3 W.heap.size 3 (.int .i64 (u : Int)) := by rw [hW3]; exact Boxed_far bU (p := ⟨bQ, 0, none⟩) hbu _
            have hgu : g ≠ W.heap.size := by have := HS.out.hq.lt; omega
            gi_wp2_with fail
            rw [← hW3]
            refine ⟨trivial, (callsIn_wide.2 (graAround W3 p.g (u : Int))).mono ?_⟩
            rintro e w4 ⟨rfl, hw4⟩
            have bG0 := Boxed.new W3 25 (.pointer (some ⟨p.g, 0, none⟩))
            have bV0 := Boxed.new (W3.alloc (.cells #[.pointer (some ⟨p.g, 0, none⟩)] 25)) 3 (.int .i64 (u : Int))
            rw [World.size_alloc] at bV0
            have hb4 : Below W3.heap.size W3 w4 := by rw [hw4]; exact ((Below.refl _ _).alloc (Nat.le_refl _) _).alloc (by simp) _
            have hsz4 : w4.heap.size = W3.heap.size + 2 := by rw [hw4]; simp
            have hM0 : DMid w w4 n l v bd bD bQ W.heap.size W3.heap.size (W3.heap.size + 1) p.g u dn [] Ds := by
              have hl := hS3.hq.lt
              exact ⟨⟨D, ys, g, _, hS3.fresh hb4, HBF.out.pop, hgu, by omega⟩, by rw [hw4]; exact (bU3.alloc _).alloc _, by rw [hw4]; exact bG0.alloc _, by rw [hw4]; exact bV0⟩
            have hun : u < n := HBF.out.pop.un.1
            have hDs : ∀ D ∈ Ds, D < w4.heap.size := fun D hD => by have := hS3.mrk.lt D hD; omega
            have hbu4 : W.heap.size < W3.heap.size := bU3.lt
            have hl1 := HS.out.hA.lt
            have hl2 := HS.out.hQ.lt
            have hbel4 : Below w.heap.size w w4 := hS3.bel.trans (hb4.mono hS3.bel.size)
            have HM0 := hide hM0
            clear hS3 bU3 bG0 bV0 hb4 hM0 cu c1 c2 c3 f3 k1 k2 k3 k4 k5 bU bQ1 HS hw4 hW3
            have hn3 : w.heap.size ≤ bd ∧ w.heap.size ≤ bD ∧ w.heap.size ≤ bQ := by have := HBD.out; omega
            have hne9 : bD ≠ bd ∧ bQ ≠ bd ∧ bQ ≠ bD ∧ W.heap.size ≠ bd ∧ W.heap.size ≠ bQ ∧ W3.heap.size ≠ bd ∧ W3.heap.size ≠ bQ ∧ W3.heap.size + 1 ≠ bd ∧ W3.heap.size + 1 ≠ bQ := by omega
            gi_wp2_with fail
            refine distRange _ rfl w w4 p n B l v bd bD bQ W.heap.size W3.heap.size u dn Ds HG.out hbel4 HM0.out (by omega) hDs hn3 hne9 hun _ _ _ _ _ _ _ _ _ _ _ _ _ _ _ _ _ _ _ _ _ _ _ _ _ _ _ _ _ _ _ _ _ _ _ _ _ _ _ _ _ _ _ _ _ _ _ _ _ _ _ _ _ _ _ _ _ _ _  _ _ ?_
            intro D' W5 hD5 hMid hK5
            obtain ⟨⟨D1, Q1, g1, V1, hS1, hb1, -, -⟩, -, -, -⟩ := hMid
            have hb2 := hb1.done inc_all
            have hlen := hb2.len
            have hmk : Mk W5 w.heap.size (D' :: Ds) := hS1.mrk.cons (fun hm => by have := hDs D' hm; omega) (by have := hbel4.size; omega) hK5
            simp only [List.length_append, List.length_cons, List.length_nil] at hlen
            have hm9 := HM.out
            gi_wp2_with fail
            exact ⟨m - 1, by omega, D1, dn ++ [u], Q1, g1, V1, D' :: Ds, _, _, _, _, _, _, _, _, _, _, _, _, _, _, _, _, _, _, _, _, _, _, _, _, _, _, _, _, _, _, _, _, _, _, _, _, _, _, _, _, _, _, _, _, _, _, _, _, _, _, _, _, _, _, _, _, _, _, _, rfl, by simp; omega, hb2, hS1.hA, hS1.hD, hS1.hQ, hS1.hq, hS1.gd, hS1.bel, hmk⟩
end Go.Proofs.Ytpgkhmjlbaoagaa
