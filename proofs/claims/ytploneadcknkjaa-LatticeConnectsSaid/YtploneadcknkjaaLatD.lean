/- lattice.grid, Square, Triangular. -/
import Derived.Test.YtploneadcknkjaaLatA
import Derived.Test.YtploneadcknkjaaEdge
namespace Go.Proofs.Ytploneadcknkjaa
open Go.RowKit
set_option linter.unusedVariables false

def dirEdge (w h : Int) (wx wy : Bool) (v : Int) (d : Int × Int) : List (Int × Int × Int) :=
  if (nextT w h wx wy v d.1 d.2).2 then [(v, (nextT w h wx wy v d.1 d.2).1, 0)] else []
def gridL (w h : Int) (wx wy : Bool) (ds : List (Int × Int)) (k : Nat) : List (Int × Int × Int) :=
  (List.range k).flatMap fun (v : Nat) => ds.flatMap (dirEdge w h wx wy (v : Int))
theorem gridL_succ (w h : Int) (wx wy : Bool) (ds : List (Int × Int)) (k : Nat) :
    gridL w h wx wy ds (k + 1) = gridL w h wx wy ds k ++ ds.flatMap (dirEdge w h wx wy (k : Int)) := by simp [gridL, List.range_succ]
theorem dirEdge_len (w h : Int) (wx wy : Bool) (v : Int) (ds : List (Int × Int)) : (ds.flatMap (dirEdge w h wx wy v)).length ≤ ds.length := by
  induction ds with
  | nil => simp
  | cons d ds ih =>
    rw [List.flatMap_cons, List.length_append, List.length_cons]
    have : (dirEdge w h wx wy v d).length ≤ 1 := by unfold dirEdge; split <;> simp
    omega
theorem gridL_len (w h : Int) (wx wy : Bool) (ds : List (Int × Int)) (k : Nat) : (gridL w h wx wy ds k).length ≤ k * ds.length := by
  induction k with
  | zero => simp [gridL]
  | succ k ih => rw [gridL_succ, List.length_append, Nat.succ_mul]; have := dirEdge_len w h wx wy k ds; omega

/-- What the rounds of grid keep. -/
structure GI (W : World) (w h : Int) (wx wy : Bool) (wr : World) : Prop where
  cw : wr.cell? ⟨W.heap.size, 0, none⟩ = some (.int .i64 w)
  ch : wr.cell? ⟨W.heap.size + 1, 0, none⟩ = some (.int .i64 h)
  cx : wr.cell? ⟨W.heap.size + 1 + 1, 0, none⟩ = some (.bool wx)
  cy : wr.cell? ⟨W.heap.size + 1 + 1 + 1, 0, none⟩ = some (.bool wy)
  bel : Below W.heap.size W wr
  size : W.heap.size + 4 ≤ wr.heap.size

theorem GI.step {W : World} {w h : Int} {wx wy : Bool} {wr w' : World} (g : GI W w h wx wy wr) (hb : Below (W.heap.size + 4) wr w') : GI W w h wx wy w' :=
  ⟨(hb.cell (p := ⟨W.heap.size, 0, none⟩) (by show W.heap.size < _; omega)).trans g.cw, (hb.cell (p := ⟨W.heap.size + 1, 0, none⟩) (by show W.heap.size + 1 < _; omega)).trans g.ch,
   (hb.cell (p := ⟨W.heap.size + 1 + 1, 0, none⟩) (by show W.heap.size + 1 + 1 < _; omega)).trans g.cx, (hb.cell (p := ⟨W.heap.size + 1 + 1 + 1, 0, none⟩) (by show W.heap.size + 1 + 1 + 1 < _; omega)).trans g.cy,
   g.bel.trans (hb.mono (by omega)), Nat.le_trans g.size hb.size⟩

theorem GI.start (W : World) (w h : Int) (wx wy : Bool) : GI W w h wx wy ((((W.alloc (.cells #[.int .i64 w] 3)).alloc (.cells #[.int .i64 h] 3)).alloc (.cells #[.bool wx] 4)).alloc (.cells #[.bool wy] 4)) :=
  ⟨by simp [go_sem], by simp [go_sem], by simp [go_sem], by simp [go_sem],
   ((((Below.refl _ _).alloc (Nat.le_refl _) _).alloc (by simp) _).alloc (by simp; omega) _).alloc (by simp; omega) _, by simp⟩

theorem grid_ok (w h : Int) (wx wy : Bool) (ds : List (Int × Int)) (gd : Nat) (W : World) (hg : gridB w h = true) (hgd : gd < W.heap.size) (hdl : ds.length ≤ 3)
    (hd : ∀ j (hj : j < ds.length), W.cell? ⟨gd, j * 2, none⟩ = some (.int .i64 ds[j].1) ∧ W.cell? ⟨gd, j * 2 + 1, none⟩ = some (.int .i64 ds[j].2))
    (h01 : ∀ j (hj : j < ds.length), 0 ≤ ds[j].1 ∧ ds[j].1 ≤ 1 ∧ 0 ≤ ds[j].2 ∧ ds[j].2 ≤ 1) :
    Calls Try.prog 33 #[.int .i64 w, .int .i64 h, .bool wx, .bool wy, .slice (some ⟨gd, 0, none⟩) ds.length ds.length] W
      fun e W' => ∃ V, e = .returned (.tuple #[.int .i64 (w * h), V, .int .i64 0]) ∧ OwnE W' W.heap.size V (gridL w h wx wy ds (w * h).toNat) ∧ Below W.heap.size W W' := by
  obtain ⟨h1, h2, h3, h4, h5⟩ := gridB_bd hg
  have b1 : 0 ≤ w * h := Int.mul_nonneg (by omega) (by omega)
  have HD := hide hd
  have H01 := hide h01
  have HG := hide hg
  clear hd h01
  obtain ⟨N, hN⟩ := Int.eq_ofNat_of_zero_le b1
  have HN := hide hN
  have hNb : N ≤ 4096 := by omega
  go_enter Try.func33, Try.ntmps33
  go_wp2_with (go_at_call 35; refine (isGrid_any _ _ _).mono ?_; rintro e W' ⟨rfl, rfl⟩)
  go_loopg [11, 28] N (fun g v i wr => ∃ k : Nat, k + g = N ∧ i = .int .i64 k ∧ OwnE wr (W.heap.size + 4) v (gridL w h wx wy ds k) ∧ GI W w h wx wy wr)
  case atStart => exact ⟨0, by omega, rfl, OwnE.nil _ _, GI.start _ _ _ _ _⟩
  case round =>
    obtain ⟨k, hk, rfl, hown, hgi⟩ := hrel
    have HK := hide hk
    have hkn : k ≤ N := by omega
    have HO := hide hown
    have HGI := hide hgi
    clear hk hown hgi
    by_cases hlt : k < N
    · go_wp2_with fail
      go_loopg [11, 33] ds.length (fun g v i w2 => ∃ j : Nat, j + g = ds.length ∧ i = .int .i64 j ∧ OwnE w2 (W.heap.size + 4) v (gridL w h wx wy ds k ++ (ds.take j).flatMap (dirEdge w h wx wy (k : Int))) ∧ GI W w h wx wy w2)
      case atStart => exact ⟨0, by omega, rfl, by simpa using HO.out, HGI.out⟩
      case round =>
        obtain ⟨j, hj, rfl, hown2, hgi2⟩ := hrel
        have HJ := hide hj
        have hjn : j ≤ ds.length := by omega
        have HO2 := hide hown2
        have HGI2 := hide hgi2
        clear hj hown2 hgi2 HO HGI
        by_cases hlt2 : j < ds.length
        · obtain ⟨c0, c1⟩ := HD.out j hlt2
          have k01 := H01.out j hlt2
          have hds : (ds.take (j + 1)).flatMap (dirEdge w h wx wy (k : Int)) = (ds.take j).flatMap (dirEdge w h wx wy (k : Int)) ++ dirEdge w h wx wy (k : Int) ds[j] := by
            rw [List.take_succ_eq_append_getElem hlt2, List.flatMap_append]; simp [List.flatMap_cons]
          have HDS := hide hds
          clear hds
          generalize hdj : ds[j] = d at *
          have HDJ := hide hdj
          clear hdj
          obtain ⟨d0, d1⟩ := d
          simp only at c0 c1 k01
          have c0' : wr.cell? ⟨gd, j * 2, none⟩ = some (.int .i64 d0) := (HGI2.out.bel.cell (p := ⟨gd, j * 2, none⟩) hgd).trans c0
          have c1' : wr.cell? ⟨gd, j * 2 + 1, none⟩ = some (.int .i64 d1) := (HGI2.out.bel.cell (p := ⟨gd, j * 2 + 1, none⟩) hgd).trans c1
          clear c0 c1
          have hsz : gd < wr.heap.size := Nat.lt_of_lt_of_le hgd HGI2.out.bel.size
          have HKW : Hid ((k : Int) < w * h) := by show _ < _; rw [HN.out]; omega
          have HC : Hid (∀ {b : Nat} {u : Value} (o : Obj), wr.cell? ⟨b, 0, none⟩ = some u → (wr.alloc o).cell? ⟨b, 0, none⟩ = some u) :=
            fun o hh => (World.cell?_alloc_lt wr o ⟨_, 0, none⟩ (World.block_lt_of_cell? wr _ hh)).trans hh
          have hDE : dirEdge w h wx wy (k : Int) (d0, d1) = if (nextT w h wx wy k d0 d1).2 then [((k : Int), (nextT w h wx wy k d0 d1).1, 0)] else [] := rfl
          have NX := fun WW cw cx ch cy => next_any k w h d0 d1 wx wy W.heap.size (W.heap.size + 1 + 1) (W.heap.size + 1) (W.heap.size + 1 + 1 + 1) WW h1 h3 h2 h4 (by omega) HKW.out k01.1 k01.2.1 k01.2.2.1 k01.2.2.2 cw cx ch cy
          generalize nextT w h wx wy k d0 d1 = p at *
          obtain ⟨to, th⟩ := p
          have HDE := hide hDE
          have HNX := hide NX
          clear hDE NX
          have hsz2 := HGI2.out.size
          cases th
          · go_wp2_with fail
            refine (HNX.out _ (HC.out _ HGI2.out.cw) (HC.out _ HGI2.out.cx) (HC.out _ HGI2.out.ch) (HC.out _ HGI2.out.cy)).mono ?_
            rintro e w1 ⟨rfl, hb1⟩
            have HB1 : Hid (Below wr.heap.size wr w1) := (((Below.refl _ _).alloc (Nat.le_refl _) _).trans (hb1.mono (by simp)))
            clear hb1
            go_wp2_with fail
            go_roundg (ds.length - (j + 1))
            case measure => have := HJ.out; omega
            case rel => exact ⟨j + 1, by omega, by go_num, by rw [HDS.out, HDE.out]; simpa using HO2.out.kept HB1.out, HGI2.out.step (HB1.out.mono hsz2)⟩
          · have hl : (gridL w h wx wy ds k ++ (ds.take j).flatMap (dirEdge w h wx wy (k : Int))).length ≤ 1000000 := by
              have e1 := gridL_len w h wx wy ds k
              have e2 := dirEdge_len w h wx wy k (ds.take j)
              have e3 : k * ds.length ≤ 4096 * 3 := Nat.mul_le_mul (by omega) hdl
              rw [List.length_append]; rw [List.length_take] at e2; omega
            have HL := hide hl
            clear hl
            go_wp2_with fail
            refine (HNX.out _ (HC.out _ HGI2.out.cw) (HC.out _ HGI2.out.cx) (HC.out _ HGI2.out.ch) (HC.out _ HGI2.out.cy)).mono ?_
            rintro e w1 ⟨rfl, hb1⟩
            have HB1 : Hid (Below wr.heap.size wr w1) := (((Below.refl _ _).alloc (Nat.le_refl _) _).trans (hb1.mono (by simp)))
            clear hb1
            have ho1 := hide (HO2.out.kept HB1.out)
            have hs1 := HB1.out.size
            go_wp2_with (at_builtin; refine app_edge _ k to 0 rfl _ _ rfl (W.heap.size + 4) _ _ rfl ho1.out rfl HL.out (by omega) ?_; intro v' w3 hown3 _ hbel3)
            go_roundg (ds.length - (j + 1))
            case measure => have := HJ.out; omega
            case rel => exact ⟨j + 1, by omega, by go_num, by rw [HDS.out, HDE.out, ← List.append_assoc]; exact hown3, (HGI2.out.step (HB1.out.mono hsz2)).step hbel3⟩
        · go_wp2_with fail
          go_roundg (N - (k + 1))
          case measure => have := HK.out; omega
          case rel =>
            have hjj : ds.take j = ds := List.take_of_length_le (by omega)
            exact ⟨k + 1, by omega, by go_num, by rw [gridL_succ]; have := HO2.out; rwa [hjj] at this, HGI2.out⟩
    · have hkk : k = N := by omega
      subst hkk
      go_wp2_with fail
      go_ret3
      exact ⟨u11, by rw [HN.out]; rfl, by rw [HN.out, Int.toNat_natCast]; exact HO.out.base (by omega), HGI.out.bel⟩

def sqD : List (Int × Int) := [(1, 0), (0, 1)]
def triD : List (Int × Int) := [(1, 0), (0, 1), (1, 1)]
/-- What grid gives: the number of vertices, the edges, the error. -/
def gN (w h : Int) : Int := if gridB w h then w * h else 0
def gE (w h : Int) : Int := if gridB w h then 0 else 2
def gL (w h : Int) (wx wy : Bool) (ds : List (Int × Int)) : List (Int × Int × Int) := if gridB w h then gridL w h wx wy ds (w * h).toNat else []

theorem grid_no (w h : Int) (wx wy : Bool) (d : Value) (W : World) (hg : gridB w h = false) :
    Calls Try.prog 33 #[.int .i64 w, .int .i64 h, .bool wx, .bool wy, d] W
      fun e W' => e = .returned (.tuple #[.int .i64 0, .slice none 0 0, .int .i64 2]) ∧ Below W.heap.size W W' := by
  go_enter Try.func33, Try.ntmps33
  go_wp2_with (go_at_call 35; refine (isGrid_any _ _ _).mono ?_; rintro e W' ⟨rfl, rfl⟩)
  go_ret3
  exact ⟨rfl, ((((Below.refl _ _).alloc (Nat.le_refl _) _).alloc (by simp) _).alloc (by simp; omega) _).alloc (by simp; omega) _⟩

theorem square_any (w h : Int) (wx wy : Bool) (W : World) :
    Calls Try.prog 20 #[.int .i64 w, .int .i64 h, .bool wx, .bool wy] W
      fun e W' => ∃ V, e = .returned (.tuple #[.int .i64 (gN w h), V, .int .i64 (gE w h)]) ∧ OwnE W' W.heap.size V (gL w h wx wy sqD) ∧ Below W.heap.size W W' := by
  cases hg : gridB w h
  · have e1 : gN w h = 0 := by simp [gN, hg]
    have e2 : gE w h = 2 := by simp [gE, hg]
    have e3 : gL w h wx wy sqD = [] := by simp [gL, hg]
    rw [e1, e2, e3]
    clear e1 e2 e3
    have HG := hide hg
    clear hg
    go_enter Try.func20, Try.ntmps20
    go_wp2_with fail
    refine (grid_no _ _ _ _ _ _ HG.out).mono ?_
    rintro e w1 ⟨rfl, hb1⟩
    go_wp2_with fail
    go_ret3
    exact ⟨_, rfl, OwnE.nil _ _, ((Below.refl _ _).alloc (Nat.le_refl _) _).trans (hb1.mono (by simp))⟩
  · have e1 : gN w h = w * h := by simp [gN, hg]
    have e2 : gE w h = 0 := by simp [gE, hg]
    have e3 : gL w h wx wy sqD = gridL w h wx wy sqD (w * h).toNat := by simp [gL, hg]
    rw [e1, e2, e3]
    clear e1 e2 e3
    have HG := hide hg
    clear hg
    have G := fun WW c => grid_ok w h wx wy sqD W.heap.size WW HG.out c (by simp [sqD])
    have HGR := hide G
    clear G
    go_enter Try.func20, Try.ntmps20
    go_wp2_with fail
    refine (HGR.out _ (by simp) ?_ ?_).mono ?_
    · intro j hj
      match j, hj with
      | 0, _ => simp [go_sem, sqD]
      | 1, _ => simp [go_sem, sqD]
    · intro j hj
      match j, hj with
      | 0, _ => simp [sqD]
      | 1, _ => simp [sqD]
    · rintro e w1 ⟨V, rfl, ho, hb1⟩
      go_wp2_with fail
      go_ret3
      exact ⟨_, rfl, ho.base (by simp), ((Below.refl _ _).alloc (Nat.le_refl _) _).trans (hb1.mono (by simp))⟩

theorem triangular_any (w h : Int) (wx wy : Bool) (W : World) :
    Calls Try.prog 14 #[.int .i64 w, .int .i64 h, .bool wx, .bool wy] W
      fun e W' => ∃ V, e = .returned (.tuple #[.int .i64 (gN w h), V, .int .i64 (gE w h)]) ∧ OwnE W' W.heap.size V (gL w h wx wy triD) ∧ Below W.heap.size W W' := by
  cases hg : gridB w h
  · have e1 : gN w h = 0 := by simp [gN, hg]
    have e2 : gE w h = 2 := by simp [gE, hg]
    have e3 : gL w h wx wy triD = [] := by simp [gL, hg]
    rw [e1, e2, e3]
    clear e1 e2 e3
    have HG := hide hg
    clear hg
    go_enter Try.func14, Try.ntmps14
    go_wp2_with fail
    refine (grid_no _ _ _ _ _ _ HG.out).mono ?_
    rintro e w1 ⟨rfl, hb1⟩
    go_wp2_with fail
    go_ret3
    exact ⟨_, rfl, OwnE.nil _ _, ((Below.refl _ _).alloc (Nat.le_refl _) _).trans (hb1.mono (by simp))⟩
  · have e1 : gN w h = w * h := by simp [gN, hg]
    have e2 : gE w h = 0 := by simp [gE, hg]
    have e3 : gL w h wx wy triD = gridL w h wx wy triD (w * h).toNat := by simp [gL, hg]
    rw [e1, e2, e3]
    clear e1 e2 e3
    have HG := hide hg
    clear hg
    have G := fun WW c => grid_ok w h wx wy triD W.heap.size WW HG.out c (by simp [triD])
    have HGR := hide G
    clear G
    go_enter Try.func14, Try.ntmps14
    go_wp2_with fail
    refine (HGR.out _ (by simp) ?_ ?_).mono ?_
    · intro j hj
      match j, hj with
      | 0, _ => simp [go_sem, triD]
      | 1, _ => simp [go_sem, triD]
      | 2, _ => simp [go_sem, triD]
    · intro j hj
      match j, hj with
      | 0, _ => simp [triD]
      | 1, _ => simp [triD]
      | 2, _ => simp [triD]
    · rintro e w1 ⟨V, rfl, ho, hb1⟩
      go_wp2_with fail
      go_ret3
      exact ⟨_, rfl, ho.base (by simp), ((Below.refl _ _).alloc (Nat.le_refl _) _).trans (hb1.mono (by simp))⟩
end Go.Proofs.Ytploneadcknkjaa
