/- seepagelaw13.around: what Around goes over, at most the first ones. -/
import Derived.RangeFuncBox
import Derived.Test.YtpgkhmjlbaoagaaGraAr
namespace Go.Proofs.Ytpgkhmjlbaoagaa
open Go.RowKit Go.Shelf
attribute [local go_sem] Oper.semAt_some
set_option linter.unusedVariables false

/-- Index and other end of a half-edge. -/
def hep (l : List (Int × Int × Int)) (j : Nat) : Nat × Nat := (j / 2, eQ l j)
def hepL {l : List (Int × Int × Int)} {u : Nat} (pre : List (HE l u)) : List (Nat × Nat) := (pre.map Subtype.val).map (hep l)
theorem hepL_len {l : List (Int × Int × Int)} {u : Nat} (pre : List (HE l u)) : (hepL pre).length = pre.length := by unfold hepL; simp
theorem hepL_snoc {l : List (Int × Int × Int)} {u : Nat} (pre : List (HE l u)) (x : HE l u) : hepL (pre ++ [x]) = hepL pre ++ [(x.1 / 2, eQ l x.1)] := by unfold hepL; simp [hep]
theorem arnd_hep (n : Nat) (l : List (Int × Int × Int)) (v : Int) : arnd n l v = (hes n l v).map (hep l) := arnd_hes n l v
/-- Pairs of numbers, as cells. -/
def pcn (l : List (Nat × Nat)) : List Value := l.flatMap fun x => [.int .i64 (x.1 : Int), .int .i64 (x.2 : Int)]
theorem pcn_snoc (l : List (Nat × Nat)) (x : Nat × Nat) : pcn (l ++ [x]) = pcn l ++ [.int .i64 (x.1 : Int), .int .i64 (x.2 : Int)] := by simp [pcn]
theorem pair_info : (Try.prog.info? 71).map (fun i => (i.zero, i.size, i.bytes)) = some (some (.agg #[.int .i64 0, .int .i64 0]), 2, 16) := by kernel_rfl
theorem cell_two_new (w : World) (u v : Value) (e : TypeId) : ∀ (j : Nat) (z : Value), [u, v][j]? = some z → (w.alloc (.cells #[u, v] e)).cell? ((⟨w.heap.size, 0, none⟩ : Addr).add j) = some z := by
  intro j z h
  rw [Addr.add_lit, Nat.zero_add, World.cell?_alloc_new]
  simpa using h

theorem run_eql_func_nil {P : Program} (w : World) {tp : TypeId} {x : Array TypeId} {y : Array TypeId} {b : Bool} (f : Fn) (c d : Array Value) (hp : P.underlying tp = some (.func x y b)) :
    (binOp .eql tp (.func f c d) .nilFunc).run P w = .ok (.bool false) w := by
  have h : ∀ k : Nat, (Op.equalIn (k + 1) tp (.func f c d) .nilFunc).run P w = .ok false w := fun k => by
    simp [Op.equalIn, run_underlying hp]
  simp only [binOp]
  simp [Op.equal, Op.maxDepth, h 9999]

theorem boxed_app {W w1 : World} {n₀ B Bo : Nat} {t e : TypeId} {size : Nat} {v v' u : Value} {k : Nat} {xs : List Value} {tmp : Obj} (hb : Boxed W B t u) (hte : t ≠ e) (hrow : W.ownsRow n₀ e size v k xs) (hne : B ≠ Bo)
    (hgrow : (W.alloc tmp).grownBy w1 v.ownBlock) : Boxed (w1.setCell ⟨Bo, 0, none⟩ v') B t u := ((hb.alloc tmp).kept hgrow (hb.not_row hte hrow)).other hne v'

set_option maxRecDepth 100000 in
set_option maxHeartbeats 4000000 in
theorem around_ok (w : World) (p : GLoc) (n B : Nat) (l : List (Int × Int × Int)) (v most : Int) (h : Gr w p n B l) :
    Calls Try.prog 21 #[.pointer (some ⟨p.g, 0, none⟩), .int .i64 v, .int .i64 most] w
      fun e w' => ∃ V, e = .returned V ∧ w'.ownsRow w.heap.size 71 2 V ((arnd n l v).take most.toNat).length (pcn ((arnd n l v).take most.toNat)) ∧ Below w.heap.size w w' := by
  obtain ⟨i0, hi, hz0, hz1, hz2⟩ := info_parts pair_info
  have HG := hide h
  have hfn := fun W f c d => run_eql_func_nil (P := Try.prog) W f c d Try.underlying43
  clear h
  refine (callsIn_wide (n := 3)).1 ?_
  refine callsIn_of_wp_marks Try.func21 rfl trivial ?_ rfl
  simp only [Try.ntmps21, List.size_toArray, List.length_cons, List.length_nil, Nat.reduceAdd, Nat.reduceSub, Array.replicate_succ, Array.replicate_zero, List.push_toArray, List.append_toArray, List.nil_append, List.cons_append]
  gi_wp2_with fail
  refine ⟨trivial, (callsIn_wide.2 (graAround _ p.g v)).mono ?_⟩
  rintro e w1 ⟨rfl, rfl⟩
  gi_wp2_with fail
  have bM := Boxed.new w 3 (.int .i64 most)
  have bO := Boxed.new (w.alloc (.cells #[.int .i64 most] 3)) 32 (.slice none 0 0)
  have bG := Boxed.new ((w.alloc (.cells #[.int .i64 most] 3)).alloc (.cells #[.slice none 0 0] 32)) 25 (.pointer (some ⟨p.g, 0, none⟩))
  have bV := Boxed.new (((w.alloc (.cells #[.int .i64 most] 3)).alloc (.cells #[.slice none 0 0] 32)).alloc (.cells #[.pointer (some ⟨p.g, 0, none⟩)] 25)) 3 (.int .i64 v)
  have bM4 := ((bM.alloc (.cells #[.slice none 0 0] 32)).alloc (.cells #[.pointer (some ⟨p.g, 0, none⟩)] 25)).alloc (.cells #[.int .i64 v] 3)
  have bO4 := (bO.alloc (.cells #[.pointer (some ⟨p.g, 0, none⟩)] 25)).alloc (.cells #[.int .i64 v] 3)
  have bG4 := bG.alloc (.cells #[.int .i64 v] 3)
  simp only [World.size_alloc] at bO4 bG4 bV
  have hB0 : Below w.heap.size w ((((w.alloc (.cells #[.int .i64 most] 3)).alloc (.cells #[.slice none 0 0] 32)).alloc (.cells #[.pointer (some ⟨p.g, 0, none⟩)] 25)).alloc (.cells #[.int .i64 v] 3)) :=
    ((((Below.refl _ w).alloc (Nat.le_refl _) _).alloc (by simp) _).alloc (by simp; omega) _).alloc (by simp; omega) _
  have hsz : ((((w.alloc (.cells #[.int .i64 most] 3)).alloc (.cells #[.slice none 0 0] 32)).alloc (.cells #[.pointer (some ⟨p.g, 0, none⟩)] 25)).alloc (.cells #[.int .i64 v] 3)).heap.size = w.heap.size + 4 := by simp
  clear bM bO bG
  generalize ((((w.alloc (.cells #[.int .i64 most] 3)).alloc (.cells #[.slice none 0 0] 32)).alloc (.cells #[.pointer (some ⟨p.g, 0, none⟩)] 25)).alloc (.cells #[.int .i64 v] 3)) = w4 at *
  have hlen : (hes n l v).length ≤ 32768 := by
    unfold hes
    split
    · have := stt_end (l := l) v.toNat
      have := stt_le2 (l := l) (v.toNat + 1)
      have := HG.out.ok.2.2
      omega
    · simp
  refine wpIn_rangeFunc_ownG rfl (by omega) (gf := 50) (lb := #[.pointer (some ⟨w.heap.size + 1 + 1, 0, none⟩), .pointer (some ⟨w.heap.size + 1 + 1 + 1, 0, none⟩)]) rfl trivial (enters_of Try.func50 (by kernel_rfl) rfl)
    (graAround_stops 2 (by omega) (w.heap.size + 1 + 1) (w.heap.size + 1 + 1 + 1) p n B l v w w4 HG.out hB0 bG4.cell bV.cell) KpA.t (KpA.b hB0.size (by simp; omega)) (Below.refl _ _) (fun _ => rfl)
    (fun pre W => ((∃ V, Boxed W (w.heap.size + 1) 32 V ∧ W.ownsRow w.heap.size 71 2 V pre.length (pcn (hepL pre)) ∧ pre.length ≤ most.toNat) ∧ Boxed W w.heap.size 3 (.int .i64 most) ∧ Boxed W (w.heap.size + 1 + 1) 25 (.pointer (some ⟨p.g, 0, none⟩)) ∧ Boxed W (w.heap.size + 1 + 1 + 1) 3 (.int .i64 v)) ∧ Below w.heap.size w W)
    (fun c pre W => (∃ V, Boxed W (w.heap.size + 1) 32 V ∧ W.ownsRow w.heap.size 71 2 V pre.dropLast.length (pcn (hepL pre.dropLast)) ∧ (c = .exit 0 ∧ pre ≠ [] ∧ pre.dropLast.length = most.toNat)) ∧ Below w.heap.size w W)
    (OwnFrom.and (Own.from (fun s A B row hs hg hr => ⟨holdsRow_own w.heap.size (w.heap.size + 1) 32 71 2 (fun (pre : List (HE l v.toNat)) => pre.length) (fun pre => pcn (hepL pre)) (fun pre _ => pre.length ≤ most.toNat) s A B row hs.1 hg hr, boxed_own _ _ (fun _ => .int .i64 most) s A B row hs.2.1 hg hr, boxed_own _ _ (fun _ => .pointer (some ⟨p.g, 0, none⟩)) s A B row hs.2.2.1 hg hr, boxed_own _ _ (fun _ => .int .i64 v) s A B row hs.2.2.2 hg hr⟩) _) (ownFrom_below (Nat.le_refl _) (by rw [hsz]; omega)))
    (fun c => OwnFrom.and (Own.from (holdsRow_own w.heap.size (w.heap.size + 1) 32 71 2 (fun (pre : List (HE l v.toNat)) => pre.dropLast.length) (fun pre => pcn (hepL pre.dropLast)) (fun pre _ => c = .exit 0 ∧ pre ≠ [] ∧ pre.dropLast.length = most.toNat)) _) (ownFrom_below (Nat.le_refl _) (by rw [hsz]; omega)))
    ⟨⟨⟨_, bO4, World.ownsRow_nil _ _ _ _, Nat.zero_le _⟩, bM4, bG4, bV⟩, hB0⟩
    ?a₁ ?assign ?body ?done ?stop
  case assign =>
    intro L x W K hK
    gi_wp2
    exact hK
  case body =>
    rintro L pre x W ⟨⟨⟨V, hv, hrow, hle⟩, hm, hg, hvb⟩, hB⟩ hlt
    have hB1 := hB.size
    have hmc := hm.cell
    obtain ⟨A, cV, rfl, -⟩ := own_form hrow
    have hc := hv.cell
    by_cases hmx : most ≤ (pre.length : Int)
    · gi_wp2
      exact ⟨KeepsFrom.refl _ _, ⟨_, hv, by simpa using hrow, rfl, by simp, by simp; omega⟩, hB⟩
    · gi_wp2_with (gi_at_builtin; refine wpListIn_append_own _ rfl _ _ 32 rfl w.heap.size 71 i0 _ 2 16 Try.underlying32 hi hz0 hz1 hz2 rfl (by decide) _ _ _ rfl (hrow.alloc _) ⟨W.heap.size, 0, none⟩ 1 1 [.int .i64 ((x.1 / 2 : Nat) : Int), .int .i64 ((eQ l x.1 : Nat) : Int)] rfl rfl (cell_two_new _ _ _ _) (by simp [Value.oneCell']) (by have : maxLen = 9223372036854775807 := rfl; omega) (by omega) (by simp; omega) ?_; intro v' w1 hown' hgrow _; obtain ⟨g', cap', rfl⟩ := ownsRow_succ hown'; obtain ⟨hv1, hv2, hr2, hk2, hb2⟩ := hv.appended (by decide) hrow hB1 (by omega) hown' hgrow; have hc1 := hv1.cell; have hf1 := hv1.frozen)
      have q1 := boxed_app (v' := .slice (some ⟨g', 0, none⟩) (pre.length + 1) cap') (Bo := w.heap.size + 1) hg (by decide) hrow (by omega) hgrow
      have q2 := boxed_app (v' := .slice (some ⟨g', 0, none⟩) (pre.length + 1) cap') (Bo := w.heap.size + 1) hvb (by decide) hrow (by omega) hgrow
      have q3 := boxed_app (v' := .slice (some ⟨g', 0, none⟩) (pre.length + 1) cap') (Bo := w.heap.size + 1) hm (by decide) hrow (by omega) hgrow
      refine ⟨hk2.from _, ⟨hb2, fun b hb => ?_⟩, ⟨⟨_, hv2, by rw [hepL_snoc, pcn_snoc]; simpa using hr2, by simp; omega⟩, q3, q1, q2⟩, hB.trans hb2⟩
      simp at hb
      rcases hb with rfl | rfl
      · exact q1.trans (show W.heap[w.heap.size + 1 + 1]? = _ from hg).symm
      · exact q2.trans (show W.heap[w.heap.size + 1 + 1 + 1]? = _ from hvb).symm
  case done =>
    rintro D ys W hD hys ⟨⟨⟨V, hv, hrow, hle⟩, _⟩, hB⟩ hK
    have hc := hv.cell
    gi_wp2
    refine ⟨by simp, .inl ⟨_, _, rfl, run_takeDeferred hK, ?_⟩⟩
    exact ⟨_, results_tmp rfl _ _ _, V, rfl, by
      have e : (arnd n l v).take most.toNat = hepL ys := by
        rw [arnd_hep, ← hys]; exact List.take_of_length_le (by simpa using hle)
      rw [e, hepL_len]; exact ownsRow_putObj hrow _ hK rfl, hB.trans (belowK_b (w := w) (Nat.le_refl _) W D _ _ (by omega) hK rfl rfl)⟩
  case stop =>
    rintro D c pre W hD hpre ⟨⟨V, hv, hrow, rfl, hne, hle⟩, hB⟩ hK
    have hc := hv.cell
    gi_wp2
    refine ⟨by simp, .inl ⟨_, _, rfl, run_takeDeferred hK, ?_⟩⟩
    have htk : (arnd n l v).take most.toNat = hepL pre.dropLast := by
      have h1 : (pre.dropLast.map Subtype.val) <+: hes n l v := ((List.dropLast_prefix pre).map _).trans hpre
      have := List.prefix_iff_eq_take.1 h1
      rw [arnd_hep, ← List.map_take, ← hle]
      unfold hepL
      rw [List.length_map] at this
      rw [this]
    exact ⟨_, results_tmp rfl _ _ _, V, rfl, by rw [htk, hepL_len]; exact ownsRow_putObj hrow _ hK rfl, hB.trans (belowK_b (w := w) (Nat.le_refl _) W D _ _ (by omega) hK rfl rfl)⟩
end Go.Proofs.Ytpgkhmjlbaoagaa
