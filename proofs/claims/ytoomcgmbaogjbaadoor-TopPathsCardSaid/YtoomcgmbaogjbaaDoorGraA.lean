/- graph: a graph in memory; build. -/
import Derived.Test.YtoomcgmbaogjbaaDoorCloneI
import Derived.Test.YtoomcgmbaogjbaaDoorDsuN
import Derived.Test.YtoomcgmbaogjbaaDoorGraP
namespace Go.Proofs.YtoomcgmbaogjbaaDoor
open Go.RowKit
set_option linter.unusedVariables false

/-- A graph in memory, its lists too. -/
structure GS (w : World) (g bs bl : Nat) (A : Option Addr) (c n m B : Nat) (l : List (Int × Int × Int)) (h0 : Value) (S lst : Nat → Nat) : Prop where
  hg : Blk w g 99 #[h0, .slice A m c, .slice (some ⟨bs, 0, none⟩) (n + 1) (n + 1), .slice (some ⟨bl, 0, none⟩) (2 * m) (2 * m)]
  ho : OwnE w B (.slice A m c) l
  hs : Blk w bs 3 (arr (n + 1) S)
  hl : Blk w bl 3 (arr (2 * m) lst)
  sl : bs ≠ bl
  ll : l.length = m
section
variable {w w' : World} {g bs bl : Nat} {A : Option Addr} {c n m B : Nat} {l : List (Int × Int × Int)} {h0 : Value} {S lst : Nat → Nat}
theorem GS.rd (h : GS w g bs bl A c n m B l h0 S lst) : Rd w A m 3 (ecs l) := by
  obtain ⟨A', c', e, hr⟩ := h.ho.form
  injection e with e1 e2 e3
  subst e1
  rw [h.ll] at hr; exact hr
theorem GS.ne_ (h : GS w g bs bl A c n m B l h0 S lst) : ∀ b, (Value.slice A m c).ownBlock = some b → b ≠ g ∧ b ≠ bs ∧ b ≠ bl := by
  intro b hb
  refine ⟨?_, ?_, ?_⟩
  · rintro rfl; exact own_notBlk h.ho h.hg (by decide) hb
  · rintro rfl; exact own_notBlk h.ho h.hs (by decide) hb
  · rintro rfl; exact own_notBlk h.ho h.hl (by decide) hb
theorem GS.gs (h : GS w g bs bl A c n m B l h0 S lst) : g ≠ bs := h.hg.ne_ h.hs (by decide)
theorem GS.gl (h : GS w g bs bl A c n m B l h0 S lst) : g ≠ bl := h.hg.ne_ h.hl (by decide)
theorem GS.cells (h : GS w g bs bl A c n m B l h0 S lst) : w.cell? ⟨g, 0, none⟩ = some h0 ∧ w.cell? ⟨g, 1, none⟩ = some (.slice A m c) ∧ w.cell? ⟨g, 2, none⟩ = some (.slice (some ⟨bs, 0, none⟩) (n + 1) (n + 1)) ∧ w.cell? ⟨g, 3, none⟩ = some (.slice (some ⟨bl, 0, none⟩) (2 * m) (2 * m)) :=
  ⟨(h.hg.cell 0).trans rfl, (h.hg.cell 1).trans rfl, (h.hg.cell 2).trans rfl, (h.hg.cell 3).trans rfl⟩
theorem GS.fr {F : List Nat} (h : GS w g bs bl A c n m B l h0 S lst) (k : Fr F w w') (hg : g ∉ F) (hs : bs ∉ F) (hl : bl ∉ F) (hA : ∀ b, (Value.slice A m c).ownBlock = some b → b ∉ F) : GS w' g bs bl A c n m B l h0 S lst :=
  ⟨h.hg.fr k hg, own_fr h.ho k hA, h.hs.fr k hs, h.hl.fr k hl, h.sl, h.ll⟩
theorem GS.fresh (h : GS w g bs bl A c n m B l h0 S lst) (k : Below w.heap.size w w') : GS w' g bs bl A c n m B l h0 S lst := h.fr (Fr.of_below [] k) (by simp) (by simp) (by simp) (by simp)
theorem GS.alloc (h : GS w g bs bl A c n m B l h0 S lst) (o : Obj) : GS (w.alloc o) g bs bl A c n m B l h0 S lst := h.fresh ((Below.refl _ _).alloc (Nat.le_refl _) o)
theorem GS.drewN (h : GS w g bs bl A c n m B l h0 S lst) (k : Nat) : GS (w.drewN k) g bs bl A c n m B l h0 S lst := h.fresh ((Below.refl _ _).drewN k)
theorem GS.drew (h : GS w g bs bl A c n m B l h0 S lst) : GS w.drew g bs bl A c n m B l h0 S lst := h.drewN 1
theorem GS.setS (h : GS w g bs bl A c n m B l h0 S lst) (i v : Nat) : GS (w.setCell ⟨bs, i, none⟩ (.int .i64 (v : Int))) g bs bl A c n m B l h0 (upd S i v) lst :=
  ⟨h.hg.far (p := ⟨bs, i, none⟩) h.gs _, own_fr h.ho ((Fr.refl [bs] w).setCell (p := ⟨bs, i, none⟩) (.inl (by simp)) _) (fun b hb => by simpa using (h.ne_ b hb).2.1), h.hs.setInt i v, h.hl.far (p := ⟨bs, i, none⟩) h.sl.symm _, h.sl, h.ll⟩
theorem GS.setL (h : GS w g bs bl A c n m B l h0 S lst) (i v : Nat) : GS (w.setCell ⟨bl, i, none⟩ (.int .i64 (v : Int))) g bs bl A c n m B l h0 S (upd lst i v) :=
  ⟨h.hg.far (p := ⟨bl, i, none⟩) h.gl _, own_fr h.ho ((Fr.refl [bl] w).setCell (p := ⟨bl, i, none⟩) (.inl (by simp)) _) (fun b hb => by simpa using (h.ne_ b hb).2.2), h.hs.far (p := ⟨bl, i, none⟩) h.sl _, h.hl.setInt i v, h.sl, h.ll⟩
theorem GS.setH (h : GS w g bs bl A c n m B l h0 S lst) (u : Value) : GS (w.setCell ⟨g, 0, none⟩ u) g bs bl A c n m B l u S lst :=
  ⟨h.hg.set_ 0 u, own_fr h.ho ((Fr.refl [g] w).setCell (p := ⟨g, 0, none⟩) (.inl (by simp)) _) (fun b hb => by simpa using (h.ne_ b hb).1), h.hs.far (p := ⟨g, 0, none⟩) h.gs.symm _, h.hl.far (p := ⟨g, 0, none⟩) h.gl.symm _, h.sl, h.ll⟩
end
/-- Where a graph lies. -/
structure GLoc where
  g : Nat
  bs : Nat
  bl : Nat
  A : Option Addr
  c : Nat
/-- A graph that New has made: n vertices, the edges l. -/
def Gr (w : World) (p : GLoc) (n B : Nat) (l : List (Int × Int × Int)) : Prop :=
  GOk n l ∧ n ≤ 4096 ∧ l.length ≤ 16384 ∧ B ≤ p.g ∧ B ≤ p.bs ∧ B ≤ p.bl ∧ ∃ lst, Laid l (2 * l.length) lst ∧ GS w p.g p.bs p.bl p.A p.c n l.length B l (.pointer (some ⟨p.g, 0, none⟩)) (stt (2 * l.length) (eP l)) lst
theorem Gr.fresh {w w' : World} {p : GLoc} {n B : Nat} {l : List (Int × Int × Int)} (h : Gr w p n B l) (k : Below w.heap.size w w') : Gr w' p n B l := by
  obtain ⟨h1, h2, h3, h4, h5, h6, lst, h7, h8⟩ := h
  exact ⟨h1, h2, h3, h4, h5, h6, lst, h7, h8.fresh k⟩
theorem Gr.drewN {w : World} {p : GLoc} {n B : Nat} {l : List (Int × Int × Int)} (h : Gr w p n B l) (k : Nat) : Gr (w.drewN k) p n B l := h.fresh ((Below.refl _ _).drewN k)
theorem Gr.fr {w w' : World} {p : GLoc} {n B : Nat} {l : List (Int × Int × Int)} {F : List Nat} (h : Gr w p n B l) (k : Fr F w w') (hF : ∀ b ∈ F, b < B) : Gr w' p n B l := by
  obtain ⟨h1, h2, h3, h4, h5, h6, lst, h7, h8⟩ := h
  refine ⟨h1, h2, h3, h4, h5, h6, lst, h7, h8.fr k (fun hm => ?_) (fun hm => ?_) (fun hm => ?_) (fun b hb hm => ?_)⟩
  · have := hF _ hm; omega
  · have := hF _ hm; omega
  · have := hF _ hm; omega
  · have := hF _ hm
    have := h8.ho.below b hb
    omega
theorem heap3d (w : World) (A B C : Array Value) (ta tb tc : TypeId) : Blk (((w.alloc (.cells A ta)).alloc (.cells B tb)).alloc (.cells C tc)).drew w.heap.size ta A ∧
    Blk (((w.alloc (.cells A ta)).alloc (.cells B tb)).alloc (.cells C tc)).drew (w.heap.size + 1) tb B ∧ Blk (((w.alloc (.cells A ta)).alloc (.cells B tb)).alloc (.cells C tc)).drew (w.heap.size + 1 + 1) tc C := by
  have e2 : w.heap.size + 1 + 1 = ((w.alloc (.cells A ta)).alloc (.cells B tb)).heap.size := by simp
  have e1 : w.heap.size + 1 = (w.alloc (.cells A ta)).heap.size := by simp
  refine ⟨(((Blk.new w ta A).alloc _).alloc _).drew, ?_, ?_⟩
  · rw [e1]; exact ((Blk.new (w.alloc (.cells A ta)) tb B).alloc _).drew
  · rw [e2]; exact (Blk.new ((w.alloc (.cells A ta)).alloc (.cells B tb)) tc C).drew
theorem below3d (w : World) (A B C : Obj) : Below w.heap.size w (((w.alloc A).alloc B).alloc C).drew := ((((Below.refl _ _).alloc (Nat.le_refl _) _).alloc (by simp) _).alloc (by simp; omega) _).drewN 1
theorem GS.made {w w2 : World} {g bs bl : Nat} {A : Option Addr} {c n m B : Nat} {l : List (Int × Int × Int)} (ll : l.length = m) (ho : OwnE w B (.slice A m c) l) (h4 : Below w.heap.size w w2)
    (hg : Blk w2 g 99 #[.pointer none, .slice A m c, .slice (some ⟨bs, 0, none⟩) (n + 1) (n + 1), .slice (some ⟨bl, 0, none⟩) (2 * m) (2 * m)]) (hs : Blk w2 bs 3 (arr (n + 1) fun _ => 0)) (hl : Blk w2 bl 3 (arr (2 * m) fun _ => 0)) (sl : bs ≠ bl) :
    GS w2 g bs bl A c n m B l (.pointer none) (fun _ => 0) (fun _ => 0) := ⟨hg, ho.kept h4, hs, hl, sl, ll⟩

theorem gge0 (s : Nat) : s ≤ s := by omega
theorem gne01 (s : Nat) : s ≠ s + 1 := by omega
theorem gne02 (s : Nat) : s ≠ s + 1 + 1 := by omega
theorem gge1 (s : Nat) : s ≤ s + 1 := by omega
theorem gne10 (s : Nat) : s + 1 ≠ s := by omega
theorem gne12 (s : Nat) : s + 1 ≠ s + 1 + 1 := by omega
theorem gge2 (s : Nat) : s ≤ s + 1 + 1 := by omega
theorem gne20 (s : Nat) : s + 1 + 1 ≠ s := by omega
theorem gne21 (s : Nat) : s + 1 + 1 ≠ s + 1 := by omega

set_option maxRecDepth 100000 in
set_option maxHeartbeats 16000000 in
theorem graBuild (w : World) (n m c B : Nat) (A : Option Addr) (l : List (Int × Int × Int)) (ho : OwnE w B (.slice A m c) l) (ll : l.length = m) (hok : GOk n l) (hn : n ≤ 4096) (hm : m ≤ 16384) (hB : B ≤ w.heap.size) :
    Calls Tryd.prog 28 #[.int .i64 (n : Int), .slice A m c] w
      fun e w' => ∃ p : GLoc, e = .returned (.pointer (some ⟨p.g, 0, none⟩)) ∧ Gr w' p n B l ∧ Below w.heap.size w w' := by
  obtain ⟨i0, hi, hz0, hz1, hz2⟩ := info_parts int_info0
  have hmk1 : ∀ W, _ := fun W => run_make_ints 30 3 i0 Tryd.underlying30 hi hz0 hz1 hz2 (n + 1) (by omega) W
  have hmk2 : ∀ W, _ := fun W => run_make_ints 30 3 i0 Tryd.underlying30 hi hz0 hz1 hz2 (2 * m) (by omega) W
  have HO := hide ho
  have HLL := hide ll
  have HOK := hide hok
  clear ho ll hok hi hz0 hz1 hz2
  push_cast at hmk1 hmk2
  have hix0 : ∀ (a b : Int) (W : World), (Instr.index 75 (.agg #[.int .i64 a, .int .i64 b]) (.int .i64 0)).run Tryd.prog W = .ok (.int .i64 a) W := fun a b W => by kernel_rfl
  have hix1 : ∀ (a b : Int) (W : World), (Instr.index 75 (.agg #[.int .i64 a, .int .i64 b]) (.int .i64 1)).run Tryd.prog W = .ok (.int .i64 b) W := fun a b W => by kernel_rfl
  go_enter Tryd.func28, Tryd.ntmps28
  go_upto_region 1 with fail
  go_cut [5] (fun s5 wx => ∃ g bs bl : Nat, s5 = .pointer (some ⟨g, 0, none⟩) ∧ GS wx g bs bl A c n m B l (.pointer none) (fun _ => 0) (fun _ => 0) ∧ (w.heap.size ≤ g ∧ w.heap.size ≤ bs ∧ w.heap.size ≤ bl) ∧ Below w.heap.size w wx)
  case first =>
    go_region
    all_goals (go_wp2_with fail; go_meet)
    · exact ⟨_, _, _, rfl, GS.made HLL.out HO.out (below3d w _ _ _) (heap3d w _ _ _ _ _ _).2.2 (heap3d w _ _ _ _ _ _).1 (heap3d w _ _ _ _ _ _).2.1 (gne01 _), ⟨gge2 _, gge0 _, gge1 _⟩, below3d w _ _ _⟩
    · exact ⟨_, _, _, rfl, GS.made HLL.out HO.out (below3d w _ _ _) (heap3d w _ _ _ _ _ _).2.2 (heap3d w _ _ _ _ _ _).2.1 (heap3d w _ _ _ _ _ _).1 (gne10 _), ⟨gge2 _, gge1 _, gge0 _⟩, below3d w _ _ _⟩
  case rest =>
    obtain ⟨g, bs, bl, rfl, hS, ⟨fg, fs, fl⟩, hb⟩ := hcut
    have HS := hide hS
    have HB := hide hb
    have hcg := hS.cells.1
    have fzg := hS.hg.frozen 0
    clear hS hb hmk1 hmk2 HO
    go_wp2_with fail
    have hS1 := HS.out.setH (.pointer (some ⟨g, 0, none⟩))
    have hb1 := HB.out.setCell (p := ⟨g, 0, none⟩) fg (.pointer (some ⟨g, 0, none⟩))
    clear HS HB hcg fzg
    generalize wc.setCell ⟨g, 0, none⟩ (.pointer (some ⟨g, 0, none⟩)) = w1 at *
    have HS := hide hS1
    have HB := hide hb1
    clear hS1 hb1
    go_loopg [30] m (fun q v wr => ∃ k : Nat, k + q = m ∧ v = .int .i64 (k : Int) ∧ GS wr g bs bl A c n m B l (.pointer (some ⟨g, 0, none⟩)) (csA l k) (fun _ => 0) ∧ Below w.heap.size w wr)
    case atStart => exact ⟨0, by omega, rfl, by rw [csA_zero]; exact HS.out, HB.out⟩
    case round =>
      obtain ⟨k, hk, rfl, hS, hb⟩ := hrel
      have HK := hide hk
      have hkm : k ≤ m := by omega
      clear hk HS HB
      by_cases hlt : k < m
      · have hkl : k < l.length := by rw [HLL.out]; exact hlt
        obtain ⟨b, o, rfl, hbl, e0, e1, e2⟩ := hS.rd.edge k hkl HLL.out
        obtain ⟨q0, q1, q2, q3, q4⟩ := HOK.out.at_ hkl
        rw [q0] at e0
        rw [q1] at e1
        obtain ⟨u, hu⟩ : ∃ u, u = eU l k := ⟨_, rfl⟩
        obtain ⟨v, hv⟩ : ∃ v, v = eV l k := ⟨_, rfl⟩
        rw [← hu] at e0 q2
        rw [← hv] at e1 q3
        have HSU := hide (csA_succ (l := l) k)
        rw [← hu, ← hv] at HSU
        have ba := csA_le (l := l) k (u + 1)
        have bb := csA_le (l := l) (k + 1) (v + 1)
        have hbb : upd (csA l k) (u + 1) (csA l k (u + 1) + 1) (v + 1) ≤ 2 * (k + 1) := by
          have h2 := HSU.out
          have h3 := congrFun h2 (v + 1)
          rw [upd_same] at h3
          omega
        clear q0 q1 q4 bb hu hv
        generalize hx2 : (l[k]'hkl).2.2 = t at *
        clear hx2
        have HS := hide hS
        have HB := hide hb
        clear hS hb
        go_wp2_with fail
        obtain ⟨wo, rfl⟩ : ∃ wo : World, wo = wr := ⟨_, rfl⟩
        have hX := Blk.new wo 29 #[.int .i64 (u : Int), .int .i64 (v : Int), .int .i64 t]
        have hS1 := HS.out.alloc (.cells #[.int .i64 (u : Int), .int .i64 (v : Int), .int .i64 t] 29)
        have hb1 := HB.out.alloc HB.out.size (.cells #[.int .i64 (u : Int), .int .i64 (v : Int), .int .i64 t] 29)
        have hXs : bs ≠ wo.heap.size := Nat.ne_of_lt HS.out.hs.lt
        clear HS HB e0 e1 e2 hbl
        generalize wo.alloc (.cells #[.int .i64 (u : Int), .int .i64 (v : Int), .int .i64 t] 29) = w2 at *
        generalize wo.heap.size = X at *
        obtain ⟨_, _, c2, _⟩ := hS1.cells
        have a1 := hS1.hs.int (i := u + 1) (by omega)
        have z1 := hS1.hs.frozen (u + 1)
        have x0 : w2.cell? ⟨X, 0, none⟩ = some (.int .i64 (u : Int)) := (hX.cell 0).trans rfl
        have hgs := hS1.gs
        have hgs' := hgs.symm
        have hXs' := hXs.symm
        have HS := hide hS1
        have HB := hide hb1
        have HX := hide hX
        clear hS1 hb1 hX
        go_region
        all_goals
          have hS2 := (HS.out.setS (u + 1) (csA l k (u + 1) + 1)).drew
          have hb2 := (HB.out.setCell (p := ⟨bs, u + 1, none⟩) fs (.int .i64 ((csA l k (u + 1) + 1 : Nat) : Int))).drewN 1
          have hX2 := (HX.out.far (p := ⟨bs, u + 1, none⟩) hXs' (.int .i64 ((csA l k (u + 1) + 1 : Nat) : Int))).drew
          have hb3 : Below w.heap.size w (w2.setCell ⟨bs, u + 1, none⟩ (.int .i64 ((csA l k (u + 1) + 1 : Nat) : Int))).drew := hb2
          have hS3 : GS (w2.setCell ⟨bs, u + 1, none⟩ (.int .i64 ((csA l k (u + 1) : Int) + 1))).drew g bs bl (some ⟨b, o, none⟩) c n m B l (.pointer (some ⟨g, 0, none⟩)) (upd (csA l k) (u + 1) (csA l k (u + 1) + 1)) (fun _ => 0) := hS2
          have hb4 : Below w.heap.size w (w2.setCell ⟨bs, u + 1, none⟩ (.int .i64 ((csA l k (u + 1) : Int) + 1))).drew := hb3
          have hX3 : Blk (w2.setCell ⟨bs, u + 1, none⟩ (.int .i64 ((csA l k (u + 1) : Int) + 1))).drew X 29 #[.int .i64 (u : Int), .int .i64 (v : Int), .int .i64 t] := hX2
          clear hS2 hb2 hb3 hX2 HS HB HX c2 a1 z1 x0
          generalize (w2.setCell ⟨bs, u + 1, none⟩ (.int .i64 ((csA l k (u + 1) : Int) + 1))).drew = w3 at *
          generalize upd (csA l k) (u + 1) (csA l k (u + 1) + 1) = S2 at *
          obtain ⟨_, _, c2, _⟩ := hS3.cells
          have a1 := hS3.hs.int (i := v + 1) (by omega)
          have z1 := hS3.hs.frozen (v + 1)
          have x1 : w3.cell? ⟨X, 1, none⟩ = some (.int .i64 (v : Int)) := (hX3.cell 1).trans rfl
          have HS := hide hS3
          have HB := hide hb4
          clear hS3 hb4 hX3
          go_wp2_with fail
          go_region
          all_goals
            have hS4 : GS (w3.setCell ⟨bs, v + 1, none⟩ (.int .i64 ((S2 (v + 1) : Int) + 1))).drew g bs bl (some ⟨b, o, none⟩) c n m B l (.pointer (some ⟨g, 0, none⟩)) (upd S2 (v + 1) (S2 (v + 1) + 1)) (fun _ => 0) := (HS.out.setS (v + 1) (S2 (v + 1) + 1)).drew
            have hb5 : Below w.heap.size w (w3.setCell ⟨bs, v + 1, none⟩ (.int .i64 ((S2 (v + 1) : Int) + 1))).drew := (HB.out.setCell (p := ⟨bs, v + 1, none⟩) fs (.int .i64 ((S2 (v + 1) : Int) + 1))).drewN 1
            rw [HSU.out] at hS4
            go_wp2_with fail
            go_roundg (m - (k + 1))
            case measure => have := HK.out; omega
            case rel => exact ⟨k + 1, by omega, by go_num, hS4, hb5⟩
      · obtain rfl : k = m := by omega
        have hS' : GS wr g bs bl A c n k B l (.pointer (some ⟨g, 0, none⟩)) (csB l 0) (fun _ => 0) := by
          rw [csB_zero, HLL.out]; exact hS
        have HS := hide hS'
        have HB := hide hb
        clear hS hS' hb HK hkm hlt
        go_wp2_with fail
        go_loopg [58] n (fun q v wr => ∃ j : Nat, j + q = n ∧ v = .int .i64 (j : Int) ∧ GS wr g bs bl A c n k B l (.pointer (some ⟨g, 0, none⟩)) (csB l j) (fun _ => 0) ∧ Below w.heap.size w wr)
        case atStart => exact ⟨0, by omega, rfl, HS.out, HB.out⟩
        case round =>
          obtain ⟨j, hj, rfl, hS, hb⟩ := hrel
          have HJ := hide hj
          have hjn : j ≤ n := by omega
          clear hj HS HB
          by_cases hlt : j < n
          · obtain ⟨_, _, c2, _⟩ := hS.cells
            have a1 := hS.hs.int (i := j + 1) (by omega)
            have a2 := hS.hs.int (i := j) (by omega)
            have z1 := hS.hs.frozen (j + 1)
            have HSU := hide (csB_succ (l := l) j)
            have b1 := csB_le (l := l) j (j + 1)
            have b2 := csB_le (l := l) j j
            rw [HLL.out] at b1 b2
            have hgs := hS.gs
            have hgs' := hgs.symm
            generalize hs1 : csB l j (j + 1) = s1 at *
            generalize hs2 : csB l j j = s2 at *
            have HS := hide hS
            have HB := hide hb
            clear hS hb hs1 hs2
            obtain ⟨wo, rfl⟩ : ∃ wo : World, wo = wr := ⟨_, rfl⟩
            go_wp2_with fail
            go_region
            all_goals
              have hS4 : GS (wo.setCell ⟨bs, j + 1, none⟩ (.int .i64 ((s1 : Int) + (s2 : Int)))).drew g bs bl A c n k B l (.pointer (some ⟨g, 0, none⟩)) (upd (csB l j) (j + 1) (s1 + s2)) (fun _ => 0) := (HS.out.setS (j + 1) (s1 + s2)).drew
              have hb5 : Below w.heap.size w (wo.setCell ⟨bs, j + 1, none⟩ (.int .i64 ((s1 : Int) + (s2 : Int)))).drew := (HB.out.setCell (p := ⟨bs, j + 1, none⟩) fs (.int .i64 ((s1 : Int) + (s2 : Int)))).drewN 1
              rw [HSU.out] at hS4
              go_wp2_with fail
              go_roundg (n - (j + 1))
              case measure => have := HJ.out; omega
              case rel => exact ⟨j + 1, by omega, by go_num, hS4, hb5⟩
          · obtain rfl : j = n := by omega
            have e1 : arr (j + 1) (csB l j) = arr (j + 1) (stt (2 * k) (eP l)) := arr_congr fun i hi => by
              unfold csB; rw [if_pos (by omega), HLL.out]
            have hS' : GS wr g bs bl A c j k B l (.pointer (some ⟨g, 0, none⟩)) (stt (2 * k) (eP l)) (fun _ => 0) := ⟨hS.hg, hS.ho, by rw [← e1]; exact hS.hs, hS.hl, hS.sl, hS.ll⟩
            obtain ⟨_, _, c2, _⟩ := hS.cells
            have HS := hide hS'
            have HB := hide hb
            clear hS hS' hb HJ hjn hlt e1
            go_wp2_with fail
            refine (clone_ints _ bs (j + 1) (j + 1) _ (stt (2 * k) (eP l)) #[] (by rw [arx_nil]; exact HS.out.hs) (by omega)).mono ?_
            rintro e w4 ⟨bn, cn, rn, rfl, hN, hNb, hb4⟩
            have hS4 := HS.out.fresh hb4
            have hb5 := HB.out.trans (hb4.mono HB.out.size)
            have fn : w.heap.size ≤ bn := Nat.le_trans HB.out.size hNb
            have hne : g ≠ bn ∧ bs ≠ bn ∧ bl ≠ bn := by
              have h1 := HS.out.hg.lt
              have h2 := HS.out.hs.lt
              have h3 := HS.out.hl.lt
              omega
            have hNe : ∀ b, (Value.slice A k c).ownBlock = some b → b ≠ bn := fun b hb => by
              rintro rfl
              exact own_notBlk hS4.ho hN (by decide) hb
            have hN' : Blk w4 bn 3 (arx (j + 1) (csN l 0) rn) := by rw [csN_zero, HLL.out]; exact hN
            have HS := hide hS4
            have HB := hide hb5
            have HN := hide hN'
            have HNE := hide hNe
            obtain ⟨ng, ns, nl⟩ := hne
            clear hS4 hb5 hN hN' hNe hb4 hNb c2
            go_wp2_with fail
            go_loopg [86] k (fun q v wr => ∃ (i : Nat) (lst : Nat → Nat), i + q = k ∧ v = .int .i64 (i : Int) ∧ GS wr g bs bl A c j k B l (.pointer (some ⟨g, 0, none⟩)) (stt (2 * k) (eP l)) lst ∧ Laid l (2 * i) lst ∧ Blk wr bn 3 (arx (j + 1) (csN l (2 * i)) rn) ∧ Below w.heap.size w wr)
            case atStart => exact ⟨0, _, by omega, rfl, HS.out, Laid.zero _, HN.out, HB.out⟩
            case round =>
              obtain ⟨i, lst, hi, rfl, hS, hla, hN, hb⟩ := hrel
              have HI := hide hi
              have HLA := hide hla
              have hik : i ≤ k := by omega
              clear hi HS HB HN hla
              by_cases hlt : i < k
              · have hkl : i < l.length := by rw [HLL.out]; exact hlt
                obtain ⟨b, o, rfl, hbl, e0, e1, e2⟩ := hS.rd.edge i hkl HLL.out
                obtain ⟨q0, q1, q2, q3, q4⟩ := HOK.out.at_ hkl
                rw [q0] at e0
                rw [q1] at e1
                obtain ⟨u, hu⟩ : ∃ u, u = eU l i := ⟨_, rfl⟩
                obtain ⟨v, hv⟩ : ∃ v, v = eV l i := ⟨_, rfl⟩
                rw [← hu] at e0 q2
                rw [← hv] at e1 q3
                have HU : Hid (eP l (2 * i + 0) = u) := by show eP l (2 * i) = u; rw [eP_even, hu]
                have HV : Hid (eP l (2 * i + 1) = v) := by show _ = _; rw [eP_odd, hv]
                clear q0 q1 q4 hu hv
                generalize hx2 : (l[i]'hkl).2.2 = t at *
                clear hx2
                have HS := hide hS
                have HB := hide hb
                have HN := hide hN
                clear hS hb hN
                obtain ⟨wo, rfl⟩ : ∃ wo : World, wo = wr := ⟨_, rfl⟩
                go_wp2_with fail
                have hS1 := HS.out.alloc (.cells #[.int .i64 (u : Int), .int .i64 (v : Int), .int .i64 t] 29)
                have hb1 := HB.out.alloc HB.out.size (.cells #[.int .i64 (u : Int), .int .i64 (v : Int), .int .i64 t] 29)
                have hN1 := HN.out.alloc (.cells #[.int .i64 (u : Int), .int .i64 (v : Int), .int .i64 t] 29)
                clear HS HB HN e0 e1 e2 hbl
                generalize wo.alloc (.cells #[.int .i64 (u : Int), .int .i64 (v : Int), .int .i64 t] 29) = w2 at *
                have HS := hide hS1
                have HB := hide hb1
                have HN := hide hN1
                clear hS1 hb1 hN1
                go_loopg [96] 2 (fun q s wr => ∃ (t : Nat) (lst : Nat → Nat), t + q = 2 ∧ s = .int .i64 (t : Int) ∧ GS wr g bs bl (some ⟨b, o, none⟩) c j k B l (.pointer (some ⟨g, 0, none⟩)) (stt (2 * k) (eP l)) lst ∧ Laid l (2 * i + t) lst ∧ Blk wr bn 3 (arx (j + 1) (csN l (2 * i + t)) rn) ∧ Below w.heap.size w wr)
                case atStart => exact ⟨0, lst, by omega, rfl, HS.out, HLA.out, HN.out, HB.out⟩
                case round =>
                  obtain ⟨t', lst', ht, rfl, hS, hla, hN, hb⟩ := hrel
                  have HT := hide ht
                  have ht3 : t' = 0 ∨ t' = 1 ∨ t' = 2 := by omega
                  clear HS HB HN ht
                  rcases ht3 with rfl | rfl | rfl
                  · have hj2 : 2 * i + 0 < 2 * k := by omega
                    have hpl := pos_lt (L := eP l) (n := 2 * l.length) (j := 2 * i + 0) (by rw [HLL.out]; exact hj2)
                    rw [HLL.out] at hpl
                    have hcn := csN_at (l := l) (2 * i + 0)
                    rw [HU.out, HLL.out] at hcn
                    obtain ⟨_, _, _, c3⟩ := hS.cells
                    have n1 := hN.intx (i := u) (by omega)
                    rw [hcn] at n1
                    have zl := hS.hl.frozen (pos (2 * k) (eP l) (2 * i + 0))
                    have zn := hN.frozen u
                    have al := hS.hl.int hpl
                    have hgl := hS.gl
                    have hgl' := hgl.symm
                    have HLA2 := hide (Laid.succ hla (by rw [HLL.out]; exact hj2))
                    have HSU := hide (csN_succ (l := l) (2 * i + 0))
                    rw [HU.out, hcn] at HSU
                    rw [HLL.out, show (2 * i + 0) / 2 = i by omega] at HLA2
                    generalize hpp : pos (2 * k) (eP l) (2 * i + 0) = P at *
                    have HCN := hide hcn
                    have HS := hide hS
                    have HB := hide hb
                    have HN := hide hN
                    clear hS hb hN hla hpp hcn
                    obtain ⟨wo2, rfl⟩ : ∃ wo : World, wo = wr := ⟨_, rfl⟩
                    go_wp2_with fail
                    go_region
                    all_goals
                      have hS4 := (HS.out.setL P i).drew
                      have hb4 := (HB.out.setCell (p := ⟨bl, P, none⟩) fl (.int .i64 (i : Int))).drewN 1
                      have hb5 : Below w.heap.size w (wo2.setCell ⟨bl, P, none⟩ (.int .i64 (i : Int))).drew := hb4
                      have hN4 := (HN.out.far (p := ⟨bl, P, none⟩) nl.symm (.int .i64 (i : Int))).drew
                      clear HS HB HN c3 n1 zl zn al hb4
                      generalize (wo2.setCell ⟨bl, P, none⟩ (.int .i64 (i : Int))).drew = w5 at *
                      have n1 := hN4.intx (i := u) (by omega)
                      rw [HCN.out] at n1
                      have zn := hN4.frozen u
                      have HS := hide hS4
                      have HB := hide hb5
                      have HN := hide hN4
                      clear hS4 hb5 hN4
                      go_wp2_with fail
                      have hN6 := HN.out.setIntx (P + 1) (i := u) (by omega)
                      rw [HSU.out] at hN6
                      have hS6 := HS.out.fr ((Fr.refl [bn] w5).setCell (p := ⟨bn, u, none⟩) (.inl (by simp)) (.int .i64 ((P : Int) + 1))) (by simpa using ng) (by simpa using ns) (by simpa using nl) (fun b hb => by simpa using HNE.out b hb)
                      have hb6 := HB.out.setCell (p := ⟨bn, u, none⟩) fn (.int .i64 ((P : Int) + 1))
                      go_roundg 1
                      case measure => have := HT.out; omega
                      case rel => exact ⟨1, _, by omega, by go_num, hS6, HLA2.out, hN6, hb6⟩
                  · have hj2 : 2 * i + 1 < 2 * k := by omega
                    have hpl := pos_lt (L := eP l) (n := 2 * l.length) (j := 2 * i + 1) (by rw [HLL.out]; exact hj2)
                    rw [HLL.out] at hpl
                    have hcn := csN_at (l := l) (2 * i + 1)
                    rw [HV.out, HLL.out] at hcn
                    obtain ⟨_, _, _, c3⟩ := hS.cells
                    have n1 := hN.intx (i := v) (by omega)
                    rw [hcn] at n1
                    have zl := hS.hl.frozen (pos (2 * k) (eP l) (2 * i + 1))
                    have zn := hN.frozen v
                    have al := hS.hl.int hpl
                    have hgl := hS.gl
                    have hgl' := hgl.symm
                    have HLA2 := hide (Laid.succ hla (by rw [HLL.out]; exact hj2))
                    have HSU := hide (csN_succ (l := l) (2 * i + 1))
                    rw [HV.out, hcn] at HSU
                    rw [HLL.out, show (2 * i + 1) / 2 = i by omega] at HLA2
                    generalize hpp : pos (2 * k) (eP l) (2 * i + 1) = P at *
                    have HCN := hide hcn
                    have HS := hide hS
                    have HB := hide hb
                    have HN := hide hN
                    clear hS hb hN hla hpp hcn
                    obtain ⟨wo2, rfl⟩ : ∃ wo : World, wo = wr := ⟨_, rfl⟩
                    go_wp2_with fail
                    go_region
                    all_goals
                      have hS4 := (HS.out.setL P i).drew
                      have hb4 := (HB.out.setCell (p := ⟨bl, P, none⟩) fl (.int .i64 (i : Int))).drewN 1
                      have hb5 : Below w.heap.size w (wo2.setCell ⟨bl, P, none⟩ (.int .i64 (i : Int))).drew := hb4
                      have hN4 := (HN.out.far (p := ⟨bl, P, none⟩) nl.symm (.int .i64 (i : Int))).drew
                      clear HS HB HN c3 n1 zl zn al hb4
                      generalize (wo2.setCell ⟨bl, P, none⟩ (.int .i64 (i : Int))).drew = w5 at *
                      have n1 := hN4.intx (i := v) (by omega)
                      rw [HCN.out] at n1
                      have zn := hN4.frozen v
                      have HS := hide hS4
                      have HB := hide hb5
                      have HN := hide hN4
                      clear hS4 hb5 hN4
                      go_wp2_with fail
                      have hN6 := HN.out.setIntx (P + 1) (i := v) (by omega)
                      rw [HSU.out] at hN6
                      have hS6 := HS.out.fr ((Fr.refl [bn] w5).setCell (p := ⟨bn, v, none⟩) (.inl (by simp)) (.int .i64 ((P : Int) + 1))) (by simpa using ng) (by simpa using ns) (by simpa using nl) (fun b hb => by simpa using HNE.out b hb)
                      have hb6 := HB.out.setCell (p := ⟨bn, v, none⟩) fn (.int .i64 ((P : Int) + 1))
                      go_roundg 0
                      case measure => have := HT.out; omega
                      case rel => exact ⟨2, _, by omega, by go_num, hS6, HLA2.out, hN6, hb6⟩
                  · have HS := hide hS
                    have HB := hide hb
                    have HN := hide hN
                    have HLA2 := hide hla
                    clear hS hb hN hla
                    go_wp2_with fail
                    go_roundg (k - (i + 1))
                    case measure => have := HI.out; omega
                    case rel => exact ⟨i + 1, _, by omega, by go_num, HS.out, HLA2.out, HN.out, HB.out⟩
              · obtain rfl : i = k := by omega
                have HS := hide hS
                have HB := hide hb
                clear hS hb hN
                go_wp2_with fail
                go_ret
                have hll := HLL.out
                subst hll
                exact ⟨⟨g, bs, bl, A, c⟩, rfl, ⟨HOK.out, hn, hm, by show B ≤ g; omega, by show B ≤ bs; omega, by show B ≤ bl; omega, lst, HLA.out, HS.out⟩, HB.out⟩
end Go.Proofs.YtoomcgmbaogjbaaDoor
