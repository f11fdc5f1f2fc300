/- minimax: New. minimax: has, meeting, Minimax. plain: the number that New's tree answers; seepagetop: works20. -/
import Derived.Test.YtoomcgmbaogjbaaDoorMapB
import Derived.Test.YtoomcgmbaogjbaaDoorLftG
import Derived.Test.YtoomcgmbaogjbaaDoorLftD
import Derived.Test.YtoomcgmbaogjbaaDoorKruF
import Derived.Test.YtoomcgmbaogjbaaDoorRecD
import Derived.Laws.Pointers
namespace Go.Proofs.YtoomcgmbaogjbaaDoor
open Go.RowKit
set_option linter.unusedVariables false

/-- A finder in memory: its tree, the table above it, the heights. -/
structure Fin_ (w : World) (f tr g bd bH B n N : Nat) (par hgt : Nat → Int) (bj : Nat → Nat) : Prop where
  hf : w.cell? ⟨f, 0, none⟩ = some (.pointer (some ⟨tr, 0, none⟩)) ∧ f < w.heap.size
  ht0 : w.cell? ⟨tr, 0, none⟩ = some (.pointer (some ⟨g, 0, none⟩)) ∧ tr < w.heap.size
  ht1 : w.cell? ⟨tr, 1, none⟩ = some (.int .i64 (n : Int))
  ht5 : w.cell? ⟨tr, 5, none⟩ = some (.slice (some ⟨bH, 0, none⟩) N N)
  tt : TT w g bd B N par bj 13 13
  hH : Blk w bH 2 (ari N hgt)
theorem Fin_.below {w w' : World} {f tr g bd bH B n N : Nat} {par hgt : Nat → Int} {bj : Nat → Nat} (h : Fin_ w f tr g bd bH B n N par hgt bj) {X : Nat} (k : Below X w w') (hX : w.heap.size ≤ X) : Fin_ w' f tr g bd bH B n N par hgt bj := by
  have h1 := h.hf.2
  have h2 := h.ht0.2
  have hs := k.size
  exact ⟨⟨(k.cell (p := ⟨f, 0, none⟩) (by show f < X; omega)).trans h.hf.1, by omega⟩, ⟨(k.cell (p := ⟨tr, 0, none⟩) (by show tr < X; omega)).trans h.ht0.1, by omega⟩,
    (k.cell (p := ⟨tr, 1, none⟩) (by show tr < X; omega)).trans h.ht1, (k.cell (p := ⟨tr, 5, none⟩) (by show tr < X; omega)).trans h.ht5, h.tt.below k hX, h.hH.below k (by have := h.hH.lt; omega)⟩
theorem tree_under : Tryd.prog.underlying 45 = Tryd.prog.underlying 45 := rfl
set_option maxRecDepth 100000 in
set_option maxHeartbeats 4000000 in
theorem minNew_ok (w : World) (n m c : Nat) (A : Option Addr) (l : List (Int × Int × Int)) (hr : Rd w A m 3 (ecs l)) (ll : l.length = m) (hok : GOk n l) (hn : n ≤ 4096) (hm : m ≤ 16384) (hE : newE (n : Int) l = 0) :
    Calls Tryd.prog 4 #[.int .i64 (n : Int), .slice A m c] w fun e w' => ∃ (f tr g bd bH : Nat) (par hgt : Nat → Int) (bj rt : Nat → Nat), e = .returned (.tuple #[.pointer (some ⟨f, 0, none⟩), .int .i64 0]) ∧
      Fin_ w' f tr g bd bH w.heap.size n (n + (picks l).length) par hgt bj ∧ Rc n l (picks l) par rt ∧ (∀ s (h : s < (picks l).length), hgt (n + s) = eW l (picks l)[s]) ∧ Below w.heap.size w w' := by
  have HB := hide (recBuild_ok w n m c A l hr ll hok hn hm hE)
  have HK := hide fun W h => kruForest_ok W n m c A l h ll hok hn hm hE
  have HR := hide hr
  have HLL := hide ll
  have HOK := hide hok
  have hPk := picks_pk (n := n) (l := l)
  have hPl := hPk.le hok
  have HPK := hide hPk
  clear hr ll hok hE hPk
  generalize picks l = P at *
  go_enter Tryd.func4, Tryd.ntmps4
  go_wp2_with fail
  refine HB.out.mono ?_
  rintro e w1 ⟨bL, bR, bP, bH, bS, par, hgt, rt, rfl, hbP, hbH, hP, hH, hRc, hHg, hb1⟩
  have HP := hide hP
  have HH := hide hH
  have HRC := hide hRc
  have HHG := hide hHg
  have HB1 := hide hb1
  clear HB hP hH hRc hHg hb1
  generalize hNN : n + P.length = N at *
  have HNN := hide hNN
  have hN8 : N ≤ 8192 := by omega
  clear hNN
  have hT1 := Blk.new w1 45 #[.int .i64 (n : Int), .slice (some ⟨bL, 0, none⟩) N N, .slice (some ⟨bR, 0, none⟩) N N, .slice (some ⟨bP, 0, none⟩) N N, .slice (some ⟨bH, 0, none⟩) N N, .slice (some ⟨bS, 0, none⟩) N N]
  have hb1 := HB1.out.alloc HB1.out.size (.cells #[.int .i64 (n : Int), .slice (some ⟨bL, 0, none⟩) N N, .slice (some ⟨bR, 0, none⟩) N N, .slice (some ⟨bP, 0, none⟩) N N, .slice (some ⟨bH, 0, none⟩) N N, .slice (some ⟨bS, 0, none⟩) N N] 45)
  have hP1 := HP.out.alloc (.cells #[.int .i64 (n : Int), .slice (some ⟨bL, 0, none⟩) N N, .slice (some ⟨bR, 0, none⟩) N N, .slice (some ⟨bP, 0, none⟩) N N, .slice (some ⟨bH, 0, none⟩) N N, .slice (some ⟨bS, 0, none⟩) N N] 45)
  have hH1 := HH.out.alloc (.cells #[.int .i64 (n : Int), .slice (some ⟨bL, 0, none⟩) N N, .slice (some ⟨bR, 0, none⟩) N N, .slice (some ⟨bP, 0, none⟩) N N, .slice (some ⟨bH, 0, none⟩) N N, .slice (some ⟨bS, 0, none⟩) N N] 45)
  have hwX : w.heap.size ≤ w1.heap.size := HB1.out.size
  have HT1 := hide hT1
  have HB2 := hide hb1
  have HP1 := hide hP1
  have HH1 := hide hH1
  have HR1 := hide (HR.out.keep (Nat.le_refl _) hb1)
  clear hT1 hb1 hP1 hH1 HB1 HP HH
  go_wp2_with fail
  generalize w1.alloc (.cells #[.int .i64 (n : Int), .slice (some ⟨bL, 0, none⟩) N N, .slice (some ⟨bR, 0, none⟩) N N, .slice (some ⟨bP, 0, none⟩) N N, .slice (some ⟨bH, 0, none⟩) N N, .slice (some ⟨bS, 0, none⟩) N N] 45) = w2 at *
  generalize w1.heap.size = X at *
  refine (HK.out w2 HR1.out).mono ?_
  rintro e w3 ⟨V, rfl, ho, hb3⟩
  have HT3 := hide (HT1.out.below hb3 HT1.out.lt)
  have HP3 := hide (HP1.out.below hb3 HP1.out.lt)
  have HH3 := hide (HH1.out.below hb3 HH1.out.lt)
  have HB3 := hide (HB2.out.trans (hb3.mono HB2.out.size))
  have HO3 := hide ho
  have hX3 : X < w3.heap.size := HT3.out.lt
  have c3 := HT3.out.get 3 _ rfl
  clear HT1 HP1 HH1 HB2 HR1 HK ho hb3
  obtain ⟨VA, vc, rfl, hvr, hvb, -⟩ := own_form HO3.out
  have HVR := hide hvr
  have HTR := hide (HRC.out.tr)
  rw [HNN.out] at HTR
  clear hvr hvb HO3
  go_wp2_with fail
  refine (lftNew w3 bP N par HP3.out HTR.out hN8).mono ?_
  rintro e w4 ⟨g, bd, bj, rfl, htt, hb4⟩
  have HTT := hide htt
  have hk4 := HT3.out.below hb4 HT3.out.lt
  have HH4 := hide (HH3.out.below hb4 HH3.out.lt)
  have HB4 := hide (HB3.out.trans (hb4.mono HB3.out.size))
  have HVR4 := hide (HVR.out.keep (Nat.le_refl _) hb4)
  have hX4 : X < w4.heap.size := hk4.lt
  have hw4 : w.heap.size ≤ w4.heap.size := HB4.out.size
  have hw3 : w.heap.size ≤ w3.heap.size := HB3.out.size
  have c0 := hk4.get 0 _ rfl
  have c1 := hk4.get 1 _ rfl
  have c2 := hk4.get 2 _ rfl
  have c3 := hk4.get 3 _ rfl
  have c4 := hk4.get 4 _ rfl
  have c5 := hk4.get 5 _ rfl
  have hmm : ∀ w : World, (Instr.makeMap 52 none).run Tryd.prog w = .ok (.map (some w.heap.size)) (w.alloc (.map #[] 0)) := fun w => by
    simp [Instr.makeMap]
  clear htt hb4 HB3 HT3 HP3 HH3 HVR hX3 hk4
  go_wp2_with fail
  have hgm0 := (GM.made w4 (B := w4.heap.size + 2) (by omega)).kept (World.grownBy_alloc (w4.alloc (.map #[] 0)) (.cells #[.pointer (some ⟨g, 0, none⟩), .int .i64 (n : Int), .slice (some ⟨bL, 0, none⟩) N N, .slice (some ⟨bR, 0, none⟩) N N, .slice (some ⟨bP, 0, none⟩) N N, .slice (some ⟨bH, 0, none⟩) N N, .slice (some ⟨bS, 0, none⟩) N N, .slice VA P.length vc, .map (some w4.heap.size)] 54) none)
  have hbt0 := Blk.new (w4.alloc (.map #[] 0)) 54 #[.pointer (some ⟨g, 0, none⟩), .int .i64 (n : Int), .slice (some ⟨bL, 0, none⟩) N N, .slice (some ⟨bR, 0, none⟩) N N, .slice (some ⟨bP, 0, none⟩) N N, .slice (some ⟨bH, 0, none⟩) N N, .slice (some ⟨bS, 0, none⟩) N N, .slice VA P.length vc, .map (some w4.heap.size)]
  rw [show (w4.alloc (.map #[] 0)).heap.size = w4.heap.size + 1 by simp] at hbt0
  have hbel0 := ((Below.refl w4.heap.size w4).alloc (Nat.le_refl _) (.map #[] 0)).alloc (by simp) (.cells #[.pointer (some ⟨g, 0, none⟩), .int .i64 (n : Int), .slice (some ⟨bL, 0, none⟩) N N, .slice (some ⟨bR, 0, none⟩) N N, .slice (some ⟨bP, 0, none⟩) N N, .slice (some ⟨bH, 0, none⟩) N N, .slice (some ⟨bS, 0, none⟩) N N, .slice VA P.length vc, .map (some w4.heap.size)] 54)
  generalize (w4.alloc (.map #[] 0)).alloc (.cells #[.pointer (some ⟨g, 0, none⟩), .int .i64 (n : Int), .slice (some ⟨bL, 0, none⟩) N N, .slice (some ⟨bR, 0, none⟩) N N, .slice (some ⟨bP, 0, none⟩) N N, .slice (some ⟨bH, 0, none⟩) N N, .slice (some ⟨bS, 0, none⟩) N N, .slice VA P.length vc, .map (some w4.heap.size)] 54) = w5 at *
  have HGM0 := hide hgm0
  have HBT0 := hide hbt0
  have HBL0 := hide hbel0
  have hB5 : w4.heap.size + 2 ≤ w5.heap.size := hbt0.lt
  clear hgm0 hbt0 hbel0 c0 c1 c2 c3 c4 c5 hmm
  generalize hbb : w4.heap.size = b at *
  have HBB := hide hbb
  clear hbb
  go_loopg [50] P.length (fun gh s wr => ∃ k : Nat, k + gh = P.length ∧ s = .int .i64 (k : Int) ∧ GM wr (b + 2) b (2 * k) ∧ Kp (b + 2) b w5 wr)
  case atStart => exact ⟨0, by omega, rfl, HGM0.out, Kp.refl _ _ _⟩
  case round =>
  obtain ⟨k, hk, rfl, hgm, hkp⟩ := hrel
  have HK := hide hk
  have HGM := hide hgm
  have HKP := hide hkp
  have hbel := HBL0.out.trans (hkp.bel (by omega))
  have HBE := hide hbel
  have hkl : k ≤ P.length := by omega
  have hszr : b + 2 ≤ wr.heap.size := Nat.le_trans hB5 hkp.size
  have hct : wr.cell? ⟨b + 1, 8, none⟩ = some (.map (some b)) := (hkp.cell (p := ⟨b + 1, 8, none⟩) (by show b + 1 < b + 2; omega) (by show b + 1 ≠ b; omega)).trans (HBT0.out.get 8 _ rfl)
  clear hk hgm hkp hbel
  by_cases hlt : k < P.length
  · obtain ⟨b1, o1, rfl, hb1l, hcell⟩ := (HVR4.out.keep (by rw [HBB.out]; exact Nat.le_refl _) HBE.out).2 (by omega)
    have d0 : wr.cell? ⟨b1, o1 + k, none⟩ = some (.int .i64 (P[k] : Int)) := hcell k _ (by simp [nts, hlt])
    have hil : P[k] < l.length := HPK.out.lt _ (List.getElem_mem hlt)
    obtain ⟨b2, o2, rfl, hbl, e0, e1, e2⟩ := ((HR.out.keep (Nat.le_refl _) HB4.out).keep (by rw [HBB.out]; exact Nat.le_refl _) HBE.out).edge _ hil HLL.out
    obtain ⟨q0, q1, q2, q3, q4⟩ := HOK.out.at_ hil
    rw [q0] at e0
    rw [q1] at e1
    have him : P[k] < m := by rw [← HLL.out]; exact hil
    clear hcell q0 q1 q4 e2
    generalize eU l P[k] = u at *
    generalize eV l P[k] = v at *
    clear hil
    generalize P[k] = i at *
    go_wp2_with fail
    go_quiet (fail)
    have hct2 : (wr.drewN nq).cell? ⟨b + 1, 8, none⟩ = some (.map (some b)) := hct
    have hgm2 : GM (wr.drewN nq) (b + 2) b (2 * k) := HGM.out.kept ⟨rfl, rfl, rfl, Nat.le_refl _, fun _ _ _ => rfl⟩
    have hkp2 := HKP.out.drewN nq
    have hsz2 : b + 2 ≤ (wr.drewN nq).heap.size := hszr
    clear d0 e0 e1 hct HGM HKP HBE
    generalize wr.drewN nq = w6 at *
    have HKP := hide hkp2
    have HGM := hide hgm2
    clear hkp2 hgm2
    go_upto_region 15 with fail
    refine mapReg15 15 _ rfl _ _ _ (b + 1) b (b + 2) (2 * k) u i v rfl rfl rfl rfl rfl HGM.out hsz2 hct2 (by omega) (by omega) (by omega) (by omega) ?_
    intro w7 V hgm7 hkp7
    have hct7 : w7.cell? ⟨b + 1, 8, none⟩ = some (.map (some b)) := (hkp7.cell (p := ⟨b + 1, 8, none⟩) (by show b + 1 < b + 2; omega) (by show b + 1 ≠ b; omega)).trans hct2
    have HKP7 := hide (HKP.out.trans hkp7)
    have HGM7 := hide hgm7
    have hsz7 : b + 2 ≤ w7.heap.size := Nat.le_trans hsz2 hkp7.size
    clear hgm7 hkp7 HKP HGM hct2
    go_simp
    go_upto_region 16 with fail
    refine mapReg16 16 _ rfl _ _ _ (b + 1) b (b + 2) (2 * k + 1) v i u rfl rfl rfl rfl rfl HGM7.out hsz7 hct7 (by omega) (by omega) (by omega) (by omega) ?_
    intro w8 V8 hgm8 hkp8
    have HKP8 := hide (HKP7.out.trans hkp8)
    have HGM8 := hide hgm8
    clear hgm8 hkp8 HKP7 HGM7 hct7
    go_simp
    go_wp2_with fail
    go_roundg (P.length - (k + 1))
    case measure => have := HK.out; omega
    case rel => exact ⟨k + 1, by omega, by go_num, by have := HGM8.out; rwa [show 2 * (k + 1) = 2 * k + 1 + 1 by omega], HKP8.out⟩
  · obtain rfl : k = P.length := by omega
    go_wp2_with fail
    go_ret2
    rw [HNN.out]
    have hA : Below wr.heap.size wr (wr.alloc (.cells #[.pointer (some ⟨b + 1, 0, none⟩)] 59)) := (Below.refl _ wr).alloc (Nat.le_refl _) _
    have hbtc : ∀ i v, (#[Value.pointer (some ⟨g, 0, none⟩), .int .i64 (n : Int), .slice (some ⟨bL, 0, none⟩) N N, .slice (some ⟨bR, 0, none⟩) N N, .slice (some ⟨bP, 0, none⟩) N N, .slice (some ⟨bH, 0, none⟩) N N, .slice (some ⟨bS, 0, none⟩) N N, .slice VA P.length vc, .map (some b)] : Array Value)[i]? = some v → (wr.alloc (.cells #[.pointer (some ⟨b + 1, 0, none⟩)] 59)).cell? ⟨b + 1, i, none⟩ = some v := fun i v e =>
      (hA.cell (p := ⟨b + 1, i, none⟩) (by show b + 1 < wr.heap.size; omega)).trans ((HKP.out.cell (p := ⟨b + 1, i, none⟩) (by show b + 1 < b + 2; omega) (by show b + 1 ≠ b; omega)).trans (HBT0.out.get i v e))
    have hbw : Below w.heap.size w wr := HB4.out.trans (HBE.out.mono hw4)
    have htt := (HTT.out.mono hw3).below HBE.out (by rw [HBB.out]; exact Nat.le_refl _)
    have hH := HH4.out.below HBE.out (by have := HH4.out.lt; rw [HBB.out] at this; exact this)
    have hsz1 : (wr.alloc (.cells #[.pointer (some ⟨b + 1, 0, none⟩)] 59)).heap.size = wr.heap.size + 1 := by simp
    exact ⟨wr.heap.size, b + 1, g, bd, bH, par, hgt, bj, rt, rfl, ⟨⟨(Blk.new _ _ _).get 0 _ rfl, by omega⟩, ⟨hbtc 0 _ rfl, by omega⟩, hbtc 1 _ rfl, hbtc 5 _ rfl, htt.below hA (Nat.le_refl _), hH.alloc _⟩, HRC.out, HHG.out, hbw.alloc hbw.size _⟩
set_option maxRecDepth 100000 in
theorem minNew_no (w : World) (n : Int) (m c : Nat) (A : Option Addr) (l : List (Int × Int × Int)) (hr : Rd w A m 3 (ecs l)) (ll : l.length = m) (hm9 : m ≤ 9223372036854775807) (hE : newE n l ≠ 0) :
    Calls Tryd.prog 4 #[.int .i64 n, .slice A m c] w fun e w' => e = .returned (.tuple #[.pointer none, .int .i64 (newE n l)]) ∧ Below w.heap.size w w' := by
  have HG := hide (recBuild_no w n m c A l hr ll hm9 hE)
  clear hr ll hm9
  generalize newE n l = E at *
  unfold zeroT at HG
  go_enter Tryd.func4, Tryd.ntmps4
  go_wp2_with fail
  refine HG.out.mono ?_
  rintro e w1 ⟨rfl, hb⟩
  have HB := hide hb
  clear hb
  go_wp2_with fail
  go_ret2
  exact ⟨rfl, HB.out.alloc HB.out.size _⟩
end Go.Proofs.YtoomcgmbaogjbaaDoor
namespace Go.Proofs.YtoomcgmbaogjbaaDoor
open Go.RowKit
set_option linter.unusedVariables false

section
variable (w : World) (f tr g bd bH B n N : Nat) (par hgt : Nat → Int) (bj : Nat → Nat)
set_option maxRecDepth 100000 in
theorem minHas_in (v : Nat) (h : Fin_ w f tr g bd bH B n N par hgt bj) (hv : v < n) :
    Calls Tryd.prog 23 #[.pointer (some ⟨f, 0, none⟩), .int .i64 (v : Int)] w fun e w' => e = .returned (.bool true) ∧ w = w' := by
  have c0 := h.hf.1
  have c1 := h.ht1
  have b1 : (v : Int) < (n : Int) := by omega
  have b0 : (0 : Int) ≤ (v : Int) := by omega
  clear h
  go_enter Tryd.func23, Tryd.ntmps23
  go_wp2_with fail
  go_ret
  exact ⟨rfl, rfl⟩
set_option maxRecDepth 100000 in
theorem minHas_out (v : Int) (h : Fin_ w f tr g bd bH B n N par hgt bj) (hv : ¬ (0 ≤ v ∧ v < (n : Int))) :
    Calls Tryd.prog 23 #[.pointer (some ⟨f, 0, none⟩), .int .i64 v] w fun e w' => e = .returned (.bool false) ∧ w = w' := by
  have c0 := h.hf.1
  have c1 := h.ht1
  clear h
  by_cases h0 : 0 ≤ v
  · have h1 : ¬ v < (n : Int) := fun e => hv ⟨h0, e⟩
    clear hv
    go_enter Tryd.func23, Tryd.ntmps23
    go_wp2_with fail
    go_ret
    exact ⟨rfl, rfl⟩
  · clear hv
    go_enter Tryd.func23, Tryd.ntmps23
    go_wp2_with fail
    go_ret
    exact ⟨rfl, rfl⟩
set_option maxRecDepth 100000 in
theorem minMeeting_in (u v : Nat) (h : Fin_ w f tr g bd bH B n N par hgt bj) (hT : TabW w) (ht : Tr N par) (hN : N ≤ 8192) (hnN : n ≤ N) (hu : u < n) (hv : v < n) (huv : u ≠ v) :
    Calls Tryd.prog 24 #[.pointer (some ⟨f, 0, none⟩), .int .i64 (u : Int), .int .i64 (v : Int)] w fun e w' => Fr [] w w' ∧ ((∃ c : Nat, Meets par u v c ∧ e = .returned (.tuple #[.int .i64 (c : Int), .bool true])) ∨ ((∀ y, ¬ (Anc par u y ∧ Anc par v y)) ∧ e = .returned (.tuple #[.int .i64 0, .bool false]))) := by
  have HU := hide (minHas_in w f tr g bd bH B n N par hgt bj u h hu)
  have HV := hide (minHas_in w f tr g bd bH B n N par hgt bj v h hv)
  have HC := hide (lftCommon w g bd B N par bj u v h.tt hT ht hN (by omega) (by omega))
  have c0 := h.hf.1
  have c1 := h.ht0.1
  have hne : ((u : Int) == (v : Int)) = false := by simpa using fun e : (u : Int) = (v : Int) => huv (by omega)
  clear h hT ht huv
  go_enter Tryd.func24, Tryd.ntmps24
  go_wp2_with fail
  refine HU.out.mono ?_
  rintro e w1 ⟨rfl, rfl⟩
  go_wp2_with fail
  refine HV.out.mono ?_
  rintro e w1 ⟨rfl, rfl⟩
  go_wp2_with fail
  refine HC.out.mono ?_
  rintro e w1 ⟨hf, ⟨c, hm, rfl⟩ | ⟨hno, rfl⟩⟩
  · have HF := hide hf
    have HM := hide hm
    clear hf hm c0 c1
    go_wp2_with fail
    go_ret2
    exact ⟨HF.out, .inl ⟨c, HM.out, rfl⟩⟩
  · have HF := hide hf
    have HM := hide hno
    clear hf hno c0 c1
    go_wp2_with fail
    go_ret2
    exact ⟨HF.out, .inr ⟨HM.out, rfl⟩⟩
set_option maxRecDepth 100000 in
theorem minMeeting_out (u v : Int) (h : Fin_ w f tr g bd bH B n N par hgt bj) (hv : ¬ ((0 ≤ u ∧ u < (n : Int)) ∧ 0 ≤ v ∧ v < (n : Int))) :
    Calls Tryd.prog 24 #[.pointer (some ⟨f, 0, none⟩), .int .i64 u, .int .i64 v] w fun e w' => e = .returned (.tuple #[.int .i64 0, .bool false]) ∧ w = w' := by
  by_cases hu : 0 ≤ u ∧ u < (n : Int)
  · obtain ⟨u', rfl⟩ := Int.eq_ofNat_of_zero_le hu.1
    have HU := hide (minHas_in w f tr g bd bH B n N par hgt bj u' h (by omega))
    have HV := hide (minHas_out w f tr g bd bH B n N par hgt bj v h (fun e => hv ⟨hu, e⟩))
    clear h hv hu
    go_enter Tryd.func24, Tryd.ntmps24
    go_wp2_with fail
    refine HU.out.mono ?_
    rintro e w1 ⟨rfl, rfl⟩
    go_wp2_with fail
    refine HV.out.mono ?_
    rintro e w1 ⟨rfl, rfl⟩
    go_wp2_with fail
    go_ret2
    exact ⟨rfl, rfl⟩
  · have HU := hide (minHas_out w f tr g bd bH B n N par hgt bj u h hu)
    clear h hv hu
    go_enter Tryd.func24, Tryd.ntmps24
    go_wp2_with fail
    refine HU.out.mono ?_
    rintro e w1 ⟨rfl, rfl⟩
    go_wp2_with fail
    go_ret2
    exact ⟨rfl, rfl⟩
set_option maxRecDepth 100000 in
theorem minMinimax_in (u v : Nat) (h : Fin_ w f tr g bd bH B n N par hgt bj) (hT : TabW w) (ht : Tr N par) (hN : N ≤ 8192) (hnN : n ≤ N) (hu : u < n) (hv : v < n) (huv : u ≠ v) (hcN : ∀ c, Meets par u v c → c < N) :
    Calls Tryd.prog 10 #[.pointer (some ⟨f, 0, none⟩), .int .i64 (u : Int), .int .i64 (v : Int)] w fun e w' => Fr [] w w' ∧ ((∃ c : Nat, Meets par u v c ∧ e = .returned (.tuple #[.int .i64 (hgt c), .bool true])) ∨ ((∀ y, ¬ (Anc par u y ∧ Anc par v y)) ∧ e = .returned (.tuple #[.int .i64 0, .bool false]))) := by
  have HU := hide (minHas_in w f tr g bd bH B n N par hgt bj u h hu)
  have HM := hide (minMeeting_in w f tr g bd bH B n N par hgt bj u v h hT ht hN hnN hu hv huv)
  have HCN := hide hcN
  have H := hide h
  have hne : ((u : Int) == (v : Int)) = false := by simpa using fun e : (u : Int) = (v : Int) => huv (by omega)
  clear h hT ht huv hcN
  go_enter Tryd.func10, Tryd.ntmps10
  go_wp2_with fail
  refine HU.out.mono ?_
  rintro e w1 ⟨rfl, rfl⟩
  go_wp2_with fail
  refine HM.out.mono ?_
  rintro e w1 ⟨hf, ⟨c, hm, rfl⟩ | ⟨hno, rfl⟩⟩
  · have hcl := HCN.out c hm
    have hb : Below w.heap.size w w1 := hf.below (by simp) (Nat.le_refl _)
    have c0 : w1.cell? ⟨f, 0, none⟩ = some (.pointer (some ⟨tr, 0, none⟩)) := (hb.cell (p := ⟨f, 0, none⟩) H.out.hf.2).trans H.out.hf.1
    have c1 : w1.cell? ⟨tr, 5, none⟩ = some (.slice (some ⟨bH, 0, none⟩) N N) := (hb.cell (p := ⟨tr, 5, none⟩) H.out.ht0.2).trans H.out.ht5
    have c2 : w1.cell? ⟨bH, c, none⟩ = some (.int .i64 (hgt c)) := (H.out.hH.fr hf (by simp)).inti hcl
    have HF := hide hf
    have HMC := hide hm
    clear hf hm hb
    generalize hgc : hgt c = t at *
    have HGC := hide hgc
    clear hgc
    go_wp2_with fail
    go_ret2
    exact ⟨HF.out, .inl ⟨c, HMC.out, by rw [HGC.out]; rfl⟩⟩
  · have HF := hide hf
    have HNO := hide hno
    clear hf hno
    go_wp2_with fail
    go_ret2
    exact ⟨HF.out, .inr ⟨HNO.out, rfl⟩⟩
set_option maxRecDepth 100000 in
theorem minMinimax_out (u v : Int) (h : Fin_ w f tr g bd bH B n N par hgt bj) (huv : u ≠ v) (hv : ¬ ((0 ≤ u ∧ u < (n : Int)) ∧ 0 ≤ v ∧ v < (n : Int))) :
    Calls Tryd.prog 10 #[.pointer (some ⟨f, 0, none⟩), .int .i64 u, .int .i64 v] w fun e w' => e = .returned (.tuple #[.int .i64 0, .bool false]) ∧ w = w' := by
  have hne : (u == v) = false := by simpa using huv
  have HM := hide (minMeeting_out w f tr g bd bH B n N par hgt bj u v h hv)
  by_cases hu : 0 ≤ u ∧ u < (n : Int)
  · obtain ⟨u', rfl⟩ := Int.eq_ofNat_of_zero_le hu.1
    have HU := hide (minHas_in w f tr g bd bH B n N par hgt bj u' h (by omega))
    clear h hv hu huv
    go_enter Tryd.func10, Tryd.ntmps10
    go_wp2_with fail
    refine HU.out.mono ?_
    rintro e w1 ⟨rfl, rfl⟩
    go_wp2_with fail
    refine HM.out.mono ?_
    rintro e w1 ⟨rfl, rfl⟩
    go_wp2_with fail
    go_ret2
    exact ⟨rfl, rfl⟩
  · have HU := hide (minHas_out w f tr g bd bH B n N par hgt bj u h hu)
    clear h hv hu huv
    go_enter Tryd.func10, Tryd.ntmps10
    go_wp2_with fail
    refine HU.out.mono ?_
    rintro e w1 ⟨rfl, rfl⟩
    go_wp2_with fail
    refine HM.out.mono ?_
    rintro e w1 ⟨rfl, rfl⟩
    go_wp2_with fail
    go_ret2
    exact ⟨rfl, rfl⟩
end
end Go.Proofs.YtoomcgmbaogjbaaDoor
namespace Go.Proofs.YtoomcgmbaogjbaaDoor
open Go.RowKit
set_option linter.unusedVariables false

/-- Where two vertices meet: at the pick that joined them, or nowhere. -/
theorem meet_law {n : Nat} {l : List (Int × Int × Int)} {P : List Nat} {par : Nat → Int} {rt : Nat → Nat} (h : Rc n l P par rt) {u v : Nat} (hu : u < n) (hv : v < n) (huv : u ≠ v) :
    (∃ t, ∃ (ht : t < P.length), pL l (P.take t) u ≠ pL l (P.take t) v ∧ pL l (P.take (t + 1)) u = pL l (P.take (t + 1)) v ∧ ∀ c, Meets par u v c → c = n + t) ∨ (pL l P u ≠ pL l P v ∧ ∀ c, ¬ Meets par u v c) := by
  by_cases e : pL l P u = pL l P v
  · obtain ⟨t, ht, h1, h2, -⟩ := pL_first huv e
    exact .inl ⟨t, ht, h1, h2, fun c hc => hc.uniq (h.meet hu hv huv ht h1 h2)⟩
  · exact .inr ⟨e, fun c hc => h.apart hu hv e c ⟨hc.1, hc.2.1⟩⟩
theorem meet_no {n : Nat} {l : List (Int × Int × Int)} {P : List Nat} {par : Nat → Int} {rt : Nat → Nat} (h : Rc n l P par rt) {u v : Nat} (hu : u < n) (hv : v < n) (huv : u ≠ v) (hno : ∀ y, ¬ (Anc par u y ∧ Anc par v y)) : pL l P u ≠ pL l P v := fun e => by
  obtain ⟨t, ht, h1, h2, -⟩ := pL_first huv e
  have hm := h.meet hu hv huv ht h1 h2
  exact hno _ ⟨hm.1, hm.2.1⟩
/-- The example. -/
def exP : List (Int × Int × Int) := [(0, 1, 4), (1, 2, 7)]
theorem exP_E : newE ((3 : Nat) : Int) exP = 0 := by decide
theorem exP_ok : GOk 3 exP := by
  have hE := exP_E
  unfold newE at hE
  split at hE
  · cases hE
  · exact gErr_ok.1 hE
theorem exP_ord : ordN exP = [0, 1] := by
  unfold ordN ordF
  have e : List.finRange exP.length = [⟨0, by decide⟩, ⟨1, by decide⟩] := by rfl
  rw [e, List.mergeSort_of_pairwise]
  · rfl
  · simp [leE_iff]
    decide
theorem exP_picks : picks exP = [0, 1] := by
  unfold picks
  rw [exP_ord]
  decide
/-- Its number. -/
theorem exP_t {t : Nat} (ht : t < ([0, 1] : List Nat).length) (h1 : pL exP (([0, 1] : List Nat).take t) 0 ≠ pL exP (([0, 1] : List Nat).take t) 2) (h2 : pL exP (([0, 1] : List Nat).take (t + 1)) 0 = pL exP (([0, 1] : List Nat).take (t + 1)) 2) : t = 1 := by
  rcases (show t = 0 ∨ t = 1 by simp at ht; omega) with rfl | rfl
  · exact absurd h2 (by decide)
  · rfl
theorem exP_c : pL exP [0, 1] 0 = pL exP [0, 1] 2 := by decide
theorem exP_w : eW exP 1 = 7 := by decide
set_option maxRecDepth 100000 in
set_option maxHeartbeats 4000000 in
theorem works20_true (w : World) (hT : TabW w) : Calls Tryd.prog 5 #[] w fun e w' => e = .returned (.bool true) ∧ Below w.heap.size w w' := by
  have hr : Rd (w.alloc (.cells #[.int .i64 0, .int .i64 1, .int .i64 4, .int .i64 1, .int .i64 2, .int .i64 7] 29)) (some ⟨w.heap.size, 0, none⟩) 2 3 (ecs exP) := Rd.lit w #[.int .i64 0, .int .i64 1, .int .i64 4, .int .i64 1, .int .i64 2, .int .i64 7] 29 2 3 rfl
  have HN := hide (minNew_ok (w.alloc (.cells #[.int .i64 0, .int .i64 1, .int .i64 4, .int .i64 1, .int .i64 2, .int .i64 7] 29)) 3 2 2 (some ⟨w.heap.size, 0, none⟩) exP hr rfl exP_ok (by decide) (by decide) exP_E)
  rw [exP_picks] at HN
  have HB0 := hide ((Below.refl w.heap.size w).alloc (Nat.le_refl _) (.cells #[.int .i64 0, .int .i64 1, .int .i64 4, .int .i64 1, .int .i64 2, .int .i64 7] 29))
  have HT := hide hT
  clear hr hT
  go_enter Tryd.func5, Tryd.ntmps5
  go_wp2_with fail
  refine HN.out.mono ?_
  rintro e w1 ⟨f, tr, g, bd, bH, par, hgt, bj, rt, rfl, hfin, hrc, hhg, hb⟩
  have HB1 := hide (HB0.out.trans (hb.mono HB0.out.size))
  have HFIN := hide hfin
  have HRC := hide hrc
  have HHG := hide hhg
  clear hfin hrc hhg hb HN HB0
  have hM : Calls Tryd.prog 10 #[.pointer (some ⟨f, 0, none⟩), .int .i64 0, .int .i64 2] w1 fun e w' => Fr [] w1 w' ∧ e = .returned (.tuple #[.int .i64 7, .bool true]) := by
    refine (minMinimax_in w1 f tr g bd bH _ 3 _ par hgt bj 0 2 HFIN.out (HT.out.below HB1.out (Nat.le_refl _)) HRC.out.tr (by simp) (by simp) (by omega) (by omega) (by omega) (fun c hc => HRC.out.anc_lt (by omega) hc.1)).mono ?_
    rintro e w2 ⟨hf, ⟨c, hc, rfl⟩ | ⟨hno, rfl⟩⟩
    · refine ⟨hf, ?_⟩
      rcases meet_law HRC.out (u := 0) (v := 2) (by omega) (by omega) (by omega) with ⟨t, ht, h1, h2, h3⟩ | ⟨h1, -⟩
      · obtain rfl := exP_t ht h1 h2
        have h4 := HHG.out 1 ht
        rw [h3 c hc, h4]
        rfl
      · exact absurd exP_c h1
    · exact absurd exP_c (meet_no HRC.out (by omega) (by omega) (by omega) hno)
  have HM := hide hM
  clear hM HFIN HRC HHG
  go_wp2_with fail
  refine HM.out.mono ?_
  rintro e w2 ⟨hf, rfl⟩
  have HB2 := hide (HB1.out.trans (hf.below (B := w.heap.size) (by simp) HB1.out.size))
  clear hf HM
  go_wp2_with fail
  go_ret
  exact ⟨rfl, HB2.out⟩
end Go.Proofs.YtoomcgmbaogjbaaDoor
