/- The walk of UndoKnown: the examples and the limits. -/
import Derived.Test.YtdhmjdlkaoflnaaUndoK
namespace Go.Proofs.Ytdhmjdlkaoflnaa
open Go.RowKit
set_option linter.unusedVariables false

def k1 : HS := stepH 5 s0 (3, 1)
def k2 : HS := stepH 5 k1 (4, 3)
def k3 : HS := ⟨k2.past.take 1, atL k2.past k2.L 1⟩
def ints5 (L : Nat → Nat) : List Int := (List.range 5).map fun i => ((L i : Nat) : Int)
theorem kn9 : unionB 5 k2.L 0 5 = false ∧ unionE 5 0 5 = 3 ∧ ints5 k2.L = [0, 1, 2, 1, 1] ∧ k2.past.length = 2 ∧ sets 5 k2.L = 3 ∧ sizeV 5 k2.L 4 = 3 ∧ ints5 k3.L = [0, 1, 2, 1, 4] ∧
    lrg 5 k3.L = 2 ∧ sets 5 k3.L = 4 ∧ sq 5 k3.L = 7 ∧ lrg 0 (fun i => i) = 0 ∧ sets 0 (fun i => i) = 0 ∧ sq 0 (fun i => i) = 0 := by decide +kernel
theorem kn9a : (stepH 5 k2 (0, 5)).past = k2.past ∧ (stepH 5 k2 (0, 5)).L = k2.L := ⟨rfl, rfl⟩
theorem kn9b : ¬ allIn 5 [(0, 1), (0, -1)] := fun h => by
  have := (h (0, -1) (by simp)).2
  revert this; decide
theorem pairs_nil (w : World) : IsPairs w (.slice none 0 0) [] := ⟨none, 0, 0, rfl, by simp [maxLen], rfl, by simp, Rd.nil⟩
theorem same_lit (w : World) (b g : Nat) (L : Nat → Nat) (l : List Int) (t : TypeId) (cs : Array Value) (h : Blk w b 3 (arr 5 L)) (e : ints5 L = l) (hb : w.heap.size = g) (hc : cs.toList = is l) :
    Calls Try.prog 18 #[.slice (some ⟨b, 0, none⟩) 5 5, .slice (some ⟨g, 0, none⟩) 5 5] (w.alloc (.cells cs t)) fun e w' => e = .returned (.bool true) ∧ ∃ k, w' = (w.alloc (.cells cs t)).drewN k := by
  have h1 : Rd (w.alloc (.cells cs t)) (some ⟨b, 0, none⟩) 5 1 (is l) := by
    have := (h.alloc (.cells cs t)).isr
    have e2 : (List.range 5).map (fun i => ((L i : Nat) : Int)) = l := e
    rwa [e2] at this
  have hl : l.length = 5 := by rw [← e]; simp [ints5]
  have h2 : Rd (w.alloc (.cells cs t)) (some ⟨g, 0, none⟩) 5 1 (is l) := by
    rw [← hc]
    exact Rd.lit' w cs t 5 1 g hb (by have := congrArg List.length hc; simp [is, hl] at this; simpa using this)
  exact samei_true _ _ 5 5 5 l _ h1 h2 hl (by decide)

set_option maxRecDepth 200000 in
set_option maxHeartbeats 8000000 in
theorem undoKnown_walk (W : World) : Calls Try.prog 10 #[] W fun e W' => e = .returned (.bool true) ∧ Below W.heap.size W W' := by
  obtain ⟨e1, e2, e3, e4, e5, e6, e7, e8, e9, e10, e11, e12, e13⟩ := kn9
  have U1 := fun w g B h => atUnion w 3 1 g B 5 s0 h
  have U2 := fun w g B h => atUnion w 4 3 g B 5 k1 h
  have U3 := fun w g B h => atUnion w 0 5 g B 5 k2 h
  have MK := fun w g B h => atMark w g B 5 k2.past k2.L h
  have CT := fun w g B h => atCount w g B 5 k2.past k2.L h
  have SZ := fun w g B h => atSize w 4 g B 5 k2.past k2.L h
  have UN := fun w p h => undoUndo_ok w 1 p 5 k2.past k2.L h (by rw [e4]; decide)
  have T := fun w p h => undoTrial_ok w p 5 k3 (.slice none 0 0) [] h (pairs_nil w) (fun A m c e h0 => by injection e with _ e2 _; omega) (fun e he => by simp at he)
  have T0 := fun w p h => undoTrial_ok w p 0 s0 (.slice none 0 0) [] h (pairs_nil w) (fun A m c e h0 => by injection e with _ e2 _; omega) (fun e he => by simp at he)
  have TN := fun w p v h hl => undoTrial_no w p 5 k3.past k3.L v [(0, 1), (0, -1)] h hl kn9b
  have NG := fun w p h => undoUndo_no w (-1) p 5 k3.past k3.L h (.inl (by decide))
  have C0 := fun w p h => undoCount w p 0 s0.past s0.L h
  have CB := fun w p h => undoCount w p 65536 s0.past s0.L h
  have f1 : ∀ s : HS, foldH 5 [] s = s := fun _ => rfl
  have f0 : ∀ s : HS, foldH 0 [] s = s := fun _ => rfl
  have fs : s0.L = fun i => i := rfl
  unfold rowV at T T0
  rw [f1, e8, e9, e10] at T
  rw [f0, fs, e11, e12, e13] at T0
  rw [fs, e12] at C0
  rw [fs, sets_id] at CB
  rw [kn9a.1, kn9a.2, e1, e2] at U3
  rw [e4] at MK
  rw [e5] at CT
  rw [e6] at SZ
  have g1 : stepH 5 s0 (3, 1) = k1 := rfl
  have g2 : stepH 5 k1 (4, 3) = k2 := rfl
  rw [g1] at U1
  rw [g2] at U2
  have hk3 : (⟨k2.past.take 1, atL k2.past k2.L 1⟩ : HS) = k3 := rfl
  have hp3 : k2.past.take 1 = k3.past := rfl
  have hl3 : atL k2.past k2.L 1 = k3.L := rfl
  rw [hp3, hl3] at UN
  have E3 := hide e3
  have E7 := hide e7
  have G0 : Hid (s0.past = [] ∧ s0.L = fun i => i) := ⟨rfl, rfl⟩
  clear e1 e2 e3 e4 e5 e6 e7 e8 e9 e10 e11 e12 e13 g1 g2 hk3 hp3 hl3 f1 f0 fs
  generalize k3 = t3 at *
  generalize k2 = t2 at *
  generalize k1 = t1 at *
  generalize s0 = t0 at *
  have HU1 := hide U1
  have HU2 := hide U2
  have HU3 := hide U3
  have HMK := hide MK
  have HCT := hide CT
  have HSZ := hide SZ
  have HUN := hide UN
  have HT := hide T
  have HT0 := hide T0
  have HTN := hide TN
  have HNG := hide NG
  have HC0 := hide C0
  have HCB := hide CB
  clear U1 U2 U3 MK CT SZ UN T T0 TN NG C0 CB
  have heq1 : ∀ W : World, (binOp .neq 48 (.agg #[.int .i64 2, .int .i64 4, .int .i64 7]) (.agg #[.int .i64 2, .int .i64 4, .int .i64 7])).run Try.prog W = .ok (.bool false) W := fun W => by kernel_rfl
  have heq2 : ∀ W : World, (binOp .eql 48 (.agg #[.int .i64 0, .int .i64 0, .int .i64 0]) (.agg #[.int .i64 0, .int .i64 0, .int .i64 0])).run Try.prog W = .ok (.bool true) W := fun W => by kernel_rfl
  go_enter Try.func10, Try.ntmps10
  go_wp2_with fail
  refine (atNew W 5 (by decide)).mono ?_
  rintro e w1 ⟨g, rfl, hd1, hb1⟩
  rw [← G0.out.1, ← G0.out.2] at hd1
  go_wp2_with fail
  refine (HU1.out _ g _ hd1).mono ?_
  rintro e w2 ⟨rfl, hd2, hb2⟩
  have B2 := hide (hb1.trans hb2)
  go_wp2_with fail
  refine (HU2.out _ g _ hd2).mono ?_
  rintro e w3 ⟨rfl, hd3, hb3⟩
  have B3 := hide (B2.out.trans hb3)
  go_wp2_with fail
  refine (HU3.out _ g _ hd3).mono ?_
  rintro e w4 ⟨rfl, hd4, hb4⟩
  have B4 := hide (B3.out.trans hb4)
  clear hd1 hd2 hd3 hb1 hb2 hb3 hb4 B2 B3
  go_wp2_with fail
  refine (atLabels _ _ _ _ _ _ hd4).mono ?_
  rintro e w5 ⟨b5, rfl, hk5, _, hbe5⟩
  have hd5 := hd4.fresh hbe5
  have B5 := hide (B4.out.trans (hbe5.mono B4.out.size))
  clear hd4 hbe5 B4
  go_wp2_with fail
  refine (same_lit w5 b5 _ t2.L _ 3 #[.int .i64 0, .int .i64 1, .int .i64 2, .int .i64 1, .int .i64 1] hk5 E3.out rfl rfl).mono ?_
  rintro e w6 ⟨rfl, j6, rfl⟩
  have hd6 := (hd5.fresh ((Below.refl w5.heap.size w5).alloc (Nat.le_refl _) (.cells #[.int .i64 0, .int .i64 1, .int .i64 2, .int .i64 1, .int .i64 1] 3))).drewN j6
  have B6 := hide ((B5.out.alloc B5.out.size (.cells #[.int .i64 0, .int .i64 1, .int .i64 2, .int .i64 1, .int .i64 1] 3)).drewN j6)
  go_wp2_with fail
  generalize (w5.alloc (.cells #[.int .i64 0, .int .i64 1, .int .i64 2, .int .i64 1, .int .i64 1] 3)).drewN j6 = w6 at *
  clear hk5 hd5 B5
  refine (HMK.out _ g _ hd6).mono ?_
  rintro e w7 ⟨rfl, rfl⟩
  go_wp2_with fail
  refine (HCT.out _ g _ hd6).mono ?_
  rintro e w7 ⟨rfl, j7, rfl⟩
  go_wp2_with fail
  refine (HSZ.out _ g _ (hd6.drewN j7)).mono ?_
  rintro e w8 ⟨rfl, j8, rfl⟩
  go_wp2_with fail
  obtain ⟨p, rfl, hp, hu8⟩ := hd6.drewN (j7 + j8)
  have B8 := hide (B6.out.drewN (j7 + j8))
  refine (undoCopy _ p 5 _ _ hu8).mono ?_
  rintro e w9 ⟨pc, rfl, hc9, hbe9, hpc⟩
  have hu9 := hu8.fresh hbe9
  have hlt9 := hu8.lt
  have B9 := hide (B8.out.trans (hbe9.mono B8.out.size))
  have hdis : Hid ((∀ b ∈ pc.bl, b ∉ p.bl) ∧ (∀ b ∈ p.bl, b ∉ pc.bl)) := ⟨fun b h1 h2 => by have := hpc b h1; have := hlt9 b h2; omega, fun b h1 h2 => by have := hpc b h2; have := hlt9 b h1; omega⟩
  have hpcW : pc.from_ W.heap.size := fun b hb => Nat.le_trans B8.out.size (hpc b hb)
  have HPC := hide hpcW
  have HPP := hide hp
  clear hd6 B6 hu8 B8 hbe9 hpc hlt9 hpcW hp
  go_wp2_with fail
  refine (HUN.out _ p hu9).mono ?_
  rintro e w10 ⟨rfl, hu10, hf10⟩
  have hc10 := hc9.fr hf10 hdis.out.1
  have B10 := hide (B9.out.trans (hf10.below HPP.out B9.out.size))
  clear hu9 hc9 hf10 B9
  go_wp2_with fail
  refine (undoLabels _ _ _ _ _ hu10).mono ?_
  rintro e w11 ⟨b11, rfl, hk11, _, hbe11⟩
  have hu11 := hu10.fresh hbe11
  have hc11 := hc10.fresh hbe11
  have B11 := hide (B10.out.trans (hbe11.mono B10.out.size))
  clear hu10 hc10 hbe11 B10
  go_wp2_with fail
  refine (same_lit w11 b11 _ t3.L _ 3 #[.int .i64 0, .int .i64 1, .int .i64 2, .int .i64 1, .int .i64 4] hk11 E7.out rfl rfl).mono ?_
  rintro e w12 ⟨rfl, j12, rfl⟩
  have hu12 := (hu11.fresh ((Below.refl w11.heap.size w11).alloc (Nat.le_refl _) (.cells #[.int .i64 0, .int .i64 1, .int .i64 2, .int .i64 1, .int .i64 4] 3))).drewN j12
  have hc12 := (hc11.fresh ((Below.refl w11.heap.size w11).alloc (Nat.le_refl _) (.cells #[.int .i64 0, .int .i64 1, .int .i64 2, .int .i64 1, .int .i64 4] 3))).drewN j12
  have B12 := hide ((B11.out.alloc B11.out.size (.cells #[.int .i64 0, .int .i64 1, .int .i64 2, .int .i64 1, .int .i64 4] 3)).drewN j12)
  go_wp2_with fail
  generalize (w11.alloc (.cells #[.int .i64 0, .int .i64 1, .int .i64 2, .int .i64 1, .int .i64 4] 3)).drewN j12 = w12 at *
  clear hk11 hu11 hc11 B11
  refine (undoLabels _ _ _ _ _ hc12).mono ?_
  rintro e w13 ⟨b13, rfl, hk13, _, hbe13⟩
  have hu13 := hu12.fresh hbe13
  have hc13 := hc12.fresh hbe13
  have B13 := hide (B12.out.trans (hbe13.mono B12.out.size))
  clear hu12 hc12 hbe13 B12
  go_wp2_with fail
  refine (same_lit w13 b13 _ t2.L _ 3 #[.int .i64 0, .int .i64 1, .int .i64 2, .int .i64 1, .int .i64 1] hk13 E3.out rfl rfl).mono ?_
  rintro e w14 ⟨rfl, j14, rfl⟩
  have hu14 := (hu13.fresh ((Below.refl w13.heap.size w13).alloc (Nat.le_refl _) (.cells #[.int .i64 0, .int .i64 1, .int .i64 2, .int .i64 1, .int .i64 1] 3))).drewN j14
  have hc14 := (hc13.fresh ((Below.refl w13.heap.size w13).alloc (Nat.le_refl _) (.cells #[.int .i64 0, .int .i64 1, .int .i64 2, .int .i64 1, .int .i64 1] 3))).drewN j14
  have B14 := hide ((B13.out.alloc B13.out.size (.cells #[.int .i64 0, .int .i64 1, .int .i64 2, .int .i64 1, .int .i64 1] 3)).drewN j14)
  go_wp2_with fail
  generalize (w13.alloc (.cells #[.int .i64 0, .int .i64 1, .int .i64 2, .int .i64 1, .int .i64 1] 3)).drewN j14 = w14 at *
  clear hk13 hu13 hc13 B13
  refine (HUN.out _ pc hc14).mono ?_
  rintro e w15 ⟨rfl, hc15, hf15⟩
  have hu15 := hu14.fr hf15 hdis.out.2
  have B15 := hide (B14.out.trans (hf15.below HPC.out B14.out.size))
  clear hu14 hc14 hf15 B14
  go_wp2_with fail
  refine (undoLabels _ _ _ _ _ hc15).mono ?_
  rintro e w16 ⟨b16, rfl, hk16, _, hbe16⟩
  have hu16 := hu15.fresh hbe16
  have B16 := hide (B15.out.trans (hbe16.mono B15.out.size))
  clear hu15 hc15 hbe16 B15
  go_wp2_with fail
  refine (same_lit w16 b16 _ t3.L _ 3 #[.int .i64 0, .int .i64 1, .int .i64 2, .int .i64 1, .int .i64 4] hk16 E7.out rfl rfl).mono ?_
  rintro e w17 ⟨rfl, j17, rfl⟩
  have hu17 := (hu16.fresh ((Below.refl w16.heap.size w16).alloc (Nat.le_refl _) (.cells #[.int .i64 0, .int .i64 1, .int .i64 2, .int .i64 1, .int .i64 4] 3))).drewN j17
  have B17 := hide ((B16.out.alloc B16.out.size (.cells #[.int .i64 0, .int .i64 1, .int .i64 2, .int .i64 1, .int .i64 4] 3)).drewN j17)
  go_wp2_with fail
  generalize (w16.alloc (.cells #[.int .i64 0, .int .i64 1, .int .i64 2, .int .i64 1, .int .i64 4] 3)).drewN j17 = w17 at *
  clear hk16 hu16 B16
  refine (HT.out _ p hu17).mono ?_
  rintro e w18 ⟨rfl, p18, hu18, hm18, hf18⟩
  have hp18 := hm18.from_ HPP.out B17.out.size
  have hg18 : p18.g = p.g := hm18.g
  have B18 := hide (B17.out.trans (hf18.below HPP.out B17.out.size))
  clear hu17 hm18 hf18 B17
  have hRa := (Blk.new w18 48 #[.int .i64 2, .int .i64 4, .int .i64 7]).alloc (.cells #[.int .i64 0, .int .i64 1, .int .i64 0, .int .i64 (-1)] 46)
  have hba : Below w18.heap.size w18 ((w18.alloc (.cells #[.int .i64 2, .int .i64 4, .int .i64 7] 48)).alloc (.cells #[.int .i64 0, .int .i64 1, .int .i64 0, .int .i64 (-1)] 46)) := ((Below.refl _ _).alloc (Nat.le_refl _) _).alloc (by simp) _
  have hua := hu18.fresh hba
  have Ba := hide (B18.out.trans (hba.mono B18.out.size))
  have hsz : (w18.alloc (.cells #[.int .i64 2, .int .i64 4, .int .i64 7] 48)).heap.size = w18.heap.size + 1 := by simp
  have hip : IsPairs ((w18.alloc (.cells #[.int .i64 2, .int .i64 4, .int .i64 7] 48)).alloc (.cells #[.int .i64 0, .int .i64 1, .int .i64 0, .int .i64 (-1)] 46)) (.slice (some ⟨w18.heap.size + 1, 0, none⟩) 2 2) [(0, 1), (0, -1)] :=
    ⟨_, 2, 2, rfl, by simp [maxLen], rfl, by intro a ha; simp at ha; rcases ha with rfl | rfl <;> simp [PairOk, inI64], Rd.lit' _ #[.int .i64 0, .int .i64 1, .int .i64 0, .int .i64 (-1)] 46 2 2 _ hsz rfl⟩
  have TNa := HTN.out _ p18 _ hua hip
  rw [hg18] at TNa
  have HTNa := hide TNa
  clear hu18 hba B18 hip TNa hsz
  go_wp2_with fail
  generalize (w18.alloc (.cells #[.int .i64 2, .int .i64 4, .int .i64 7] 48)).alloc (.cells #[.int .i64 0, .int .i64 1, .int .i64 0, .int .i64 (-1)] 46) = wa at *
  generalize w18.heap.size = R at *
  refine HTNa.out.mono ?_
  rintro e w19 ⟨rfl, hbe19⟩
  have hu19 := (hua.fresh hbe19).fresh ((Below.refl w19.heap.size w19).alloc (Nat.le_refl _) (.cells #[.int .i64 0, .int .i64 0, .int .i64 0] 48))
  have hR19 := (hRa.below hbe19 hRa.lt).alloc (.cells #[.int .i64 0, .int .i64 0, .int .i64 0] 48)
  have B19 := hide ((Ba.out.trans (hbe19.mono Ba.out.size)).alloc (Ba.out.trans (hbe19.mono Ba.out.size)).size (.cells #[.int .i64 0, .int .i64 0, .int .i64 0] 48))
  clear hua hRa hbe19 Ba HTNa
  go_wp2_with fail
  generalize w19.alloc (.cells #[.int .i64 0, .int .i64 0, .int .i64 0] 48) = wb at *
  refine (undoNew_ok wb 0 (by decide)).mono ?_
  rintro e w20 ⟨pe, rfl, he20, hbe20, hpe⟩
  have hlt19 := hu19.lt
  have hu20 := hu19.fresh hbe20
  have hR20 := hR19.below hbe20 hR19.lt
  have B20 := hide (B19.out.trans (hbe20.mono B19.out.size))
  have hde : Hid (∀ b ∈ p18.bl, b ∉ pe.bl) := fun b h1 h2 => by have := hpe b h2; have := hlt19 b h1; omega
  have hpeW : pe.from_ W.heap.size := fun b hb => Nat.le_trans B19.out.size (hpe b hb)
  have hRe : Hid (R ∉ pe.bl) := he20.notin hR20 (by decide) (by decide)
  have HPE := hide hpeW
  clear hu19 hR19 hbe20 B19 hlt19 hpe hpeW
  go_wp2_with fail
  refine (undoNew_no w20 (-1) (by decide)).mono ?_
  rintro e w21 ⟨rfl, rfl⟩
  go_wp2_with fail
  refine (undoNew_ok w20 65536 (by decide)).mono ?_
  rintro e w21 ⟨pb, rfl, hb21, hbe21, hpb⟩
  have hlte := he20.lt
  have hu21 := hu20.fresh hbe21
  have he21 := he20.fresh hbe21
  have hR21 := hR20.below hbe21 hR20.lt
  have B21 := hide (B20.out.trans (hbe21.mono B20.out.size))
  have hdb : Hid (∀ b ∈ pb.bl, b ∉ pe.bl) := fun b h1 h2 => by have := hpb b h1; have := hlte b h2; omega
  clear hu20 he20 hR20 hbe21 B20 hlte hpb
  go_wp2_with fail
  refine (undoNew_no w21 65537 (by decide)).mono ?_
  rintro e w22 ⟨rfl, rfl⟩
  have r0 : w21.cell? ⟨R, 0, none⟩ = some (.int .i64 2) := (hR21.cell 0).trans rfl
  have r1 : w21.cell? ⟨R, 1, none⟩ = some (.int .i64 4) := (hR21.cell 1).trans rfl
  have r2 : w21.cell? ⟨R, 2, none⟩ = some (.int .i64 7) := (hR21.cell 2).trans rfl
  rw [← G0.out.1] at he21 hb21
  have HE21 := hide he21
  have HB21 := hide hb21
  have HU21 := hide hu21
  clear he21 hb21 hu21 hR21
  go_wp2_with fail
  refine (HC0.out _ pe HE21.out).mono ?_
  rintro e w23 ⟨rfl, j23, rfl⟩
  go_wp2_with fail
  refine (HT0.out _ pe (HE21.out.drewN j23)).mono ?_
  rintro e w24 ⟨rfl, p24, hu24, hm24, hf24⟩
  have hs24 := (HU21.out.drewN j23).fr hf24 hde.out
  have hb24 := (HB21.out.drewN j23).fr hf24 hdb.out
  have B24 := hide ((B21.out.drewN j23).trans (hf24.below HPE.out B21.out.size))
  have hs25 := hs24.fresh ((Below.refl w24.heap.size w24).alloc (Nat.le_refl _) (.cells #[.int .i64 0, .int .i64 0, .int .i64 0] 48))
  have hb25 := hb24.fresh ((Below.refl w24.heap.size w24).alloc (Nat.le_refl _) (.cells #[.int .i64 0, .int .i64 0, .int .i64 0] 48))
  have B25 := hide (B24.out.alloc B24.out.size (.cells #[.int .i64 0, .int .i64 0, .int .i64 0] 48))
  have NGa := fun k => HNG.out ((w24.alloc (.cells #[.int .i64 0, .int .i64 0, .int .i64 0] 48)).drewN k) p18 (hs25.drewN k)
  rw [hg18] at NGa
  have HNGa := hide NGa
  clear r0 r1 r2 hu24 hm24 hf24 hs24 hb24 hs25 B24 NGa HE21 HB21 HU21
  go_wp2_with fail
  refine (HCB.out _ pb hb25).mono ?_
  rintro e w26 ⟨rfl, j26, rfl⟩
  go_wp2_with fail
  refine (HNGa.out j26).mono ?_
  rintro e w27 ⟨rfl, rfl⟩
  go_wp2_with fail
  refine (works9 _).mono ?_
  rintro e w28 ⟨rfl, hb28⟩
  go_wp2_with fail
  go_ret
  exact ⟨rfl, (B25.out.drewN j26).trans (hb28.mono B25.out.size)⟩
end Go.Proofs.Ytdhmjdlkaoflnaa
