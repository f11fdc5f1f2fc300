/- graph: Row and around, of nil graphs and zero ones. -/
import Derived.Test.YtpgkhmjlbaoagaaGraNl
import Derived.Test.YtpgkhmjlbaoagaaGraR
namespace Go.Proofs.Ytpgkhmjlbaoagaa
open Go.RowKit Go.Shelf
attribute [local go_sem] Oper.semAt_some
set_option linter.unusedVariables false

set_option maxRecDepth 100000 in
theorem graB_Row (w : World) (v : Option Addr) (h : GraBad w v) : Calls Try.prog 29 #[.pointer v] w fun e w' => e = .returned (.agg #[.int .i64 0, .int .i64 0, .int .i64 0]) ∧ Below w.heap.size w w' := by
  have hA0 : Below w.heap.size w ((w.alloc (.cells #[.int .i64 0, .int .i64 0, .int .i64 0] 53)).alloc (.cells #[.int .i64 0, .int .i64 0, .int .i64 0] 53)) := ((Below.refl _ _).alloc (Nat.le_refl _) _).alloc (by simp) _
  have H := hide (graB_Components _ v (h.below hA0))
  have hR0 : Blk ((w.alloc (.cells #[.int .i64 0, .int .i64 0, .int .i64 0] 53)).alloc (.cells #[.int .i64 0, .int .i64 0, .int .i64 0] 53)) w.heap.size 53 #[.int .i64 0, .int .i64 0, .int .i64 0] := (Blk.new w _ _).alloc _
  have hX0 : Blk ((w.alloc (.cells #[.int .i64 0, .int .i64 0, .int .i64 0] 53)).alloc (.cells #[.int .i64 0, .int .i64 0, .int .i64 0] 53)) (w.heap.size + 1) 53 #[.int .i64 0, .int .i64 0, .int .i64 0] := by
    have := Blk.new (w.alloc (.cells #[.int .i64 0, .int .i64 0, .int .i64 0] 53)) 53 #[.int .i64 0, .int .i64 0, .int .i64 0]
    simpa using this
  have HA0 := hide hA0
  have HR0 := hide hR0
  have HX0 := hide hX0
  clear hA0 hR0 hX0 h
  go_enter Try.func29, Try.ntmps29
  go_wp2_with fail
  generalize (w.alloc (.cells #[.int .i64 0, .int .i64 0, .int .i64 0] 53)).alloc (.cells #[.int .i64 0, .int .i64 0, .int .i64 0] 53) = w1 at *
  generalize hRR : w.heap.size = R at *
  have HRR := hide hRR
  clear hRR
  refine H.out.mono ?_
  rintro e w2 ⟨rfl, rfl⟩
  go_wp2_with fail
  go_loopg [9] 0 (fun g s wr => s = .int .i64 0 ∧ wr = w1)
  case atStart => exact ⟨rfl, rfl⟩
  case round =>
    obtain ⟨rfl, rfl⟩ := hrel
    have r0 : wr.cell? ⟨R, 0, none⟩ = some (.int .i64 0) := (HR0.out.cell 0).trans rfl
    have r1 : wr.cell? ⟨R, 1, none⟩ = some (.int .i64 0) := (HR0.out.cell 1).trans rfl
    have r2 : wr.cell? ⟨R, 2, none⟩ = some (.int .i64 0) := (HR0.out.cell 2).trans rfl
    have x0 : wr.cell? ⟨R + 1, 0, none⟩ = some (.int .i64 0) := (HX0.out.cell 0).trans rfl
    have x1 : wr.cell? ⟨R + 1, 1, none⟩ = some (.int .i64 0) := (HX0.out.cell 1).trans rfl
    have x2 : wr.cell? ⟨R + 1, 2, none⟩ = some (.int .i64 0) := (HX0.out.cell 2).trans rfl
    have z0 := HR0.out.frozen 0
    have z1 := HR0.out.frozen 1
    have z2 := HR0.out.frozen 2
    go_wp2_with fail
    have hR3 := ((HR0.out.set_ 0 (.int .i64 0)).set_ 1 (.int .i64 0)).set_ 2 (.int .i64 0)
    have q0 := (hR3.cell 0).trans rfl
    have q1 := (hR3.cell 1).trans rfl
    have q2 := (hR3.cell 2).trans rfl
    refine bodyPost_ret (v := .agg #[.int .i64 0, .int .i64 0, .int .i64 0]) (by simp [results, Try.results29, go_sem, q0, q1, q2]) rfl ⟨rfl, by rw [HRR.out]; exact ((HA0.out.setCell (p := ⟨R, 0, none⟩) (Nat.le_refl R) _).setCell (p := ⟨R, 1, none⟩) (Nat.le_refl R) _).setCell (p := ⟨R, 2, none⟩) (Nat.le_refl R) _⟩

theorem graAround_v (w : World) (v : Option Addr) (a : Int) :
    Calls Try.prog 24 #[.pointer v, .int .i64 a] w
      fun e w' => e = .returned (.func (.func 50) #[] #[.pointer (some ⟨w.heap.size, 0, none⟩), .pointer (some ⟨w.heap.size + 1, 0, none⟩)]) ∧
        w' = (w.alloc (.cells #[.pointer v] 25)).alloc (.cells #[.int .i64 a] 3) := by
  go_enter Try.func24, Try.ntmps24
  go_wp2
  go_ret
  exact ⟨rfl, rfl⟩
set_option maxRecDepth 100000 in
set_option maxHeartbeats 4000000 in
theorem around_bad (w : World) (v : Option Addr) (a most : Int) (h : GraBad w v) :
    Calls Try.prog 21 #[.pointer v, .int .i64 a, .int .i64 most] w fun e w' => e = .returned (.slice none 0 0) ∧ Below w.heap.size w w' := by
  have HG := hide h
  have hfn := fun W f c d => run_eql_func_nil (P := Try.prog) W f c d Try.underlying43
  clear h
  refine (callsIn_wide (n := 3)).1 ?_
  refine callsIn_of_wp_marks Try.func21 rfl trivial ?_ rfl
  simp only [Try.ntmps21, List.size_toArray, List.length_cons, List.length_nil, Nat.reduceAdd, Nat.reduceSub, Array.replicate_succ, Array.replicate_zero, List.push_toArray, List.append_toArray, List.nil_append, List.cons_append]
  gi_wp2_with fail
  refine ⟨trivial, (callsIn_wide.2 (graAround_v _ v a)).mono ?_⟩
  rintro e w1 ⟨rfl, rfl⟩
  gi_wp2_with fail
  have bM := Boxed.new w 3 (.int .i64 most)
  have bO := Boxed.new (w.alloc (.cells #[.int .i64 most] 3)) 32 (.slice none 0 0)
  have bG := Boxed.new ((w.alloc (.cells #[.int .i64 most] 3)).alloc (.cells #[.slice none 0 0] 32)) 25 (.pointer v)
  have bV := Boxed.new (((w.alloc (.cells #[.int .i64 most] 3)).alloc (.cells #[.slice none 0 0] 32)).alloc (.cells #[.pointer v] 25)) 3 (.int .i64 a)
  have bO4 := (bO.alloc (.cells #[.pointer v] 25)).alloc (.cells #[.int .i64 a] 3)
  have bG4 := bG.alloc (.cells #[.int .i64 a] 3)
  simp only [World.size_alloc] at bO4 bG4 bV
  have hB0 : Below w.heap.size w ((((w.alloc (.cells #[.int .i64 most] 3)).alloc (.cells #[.slice none 0 0] 32)).alloc (.cells #[.pointer v] 25)).alloc (.cells #[.int .i64 a] 3)) :=
    ((((Below.refl _ w).alloc (Nat.le_refl _) _).alloc (by simp) _).alloc (by simp; omega) _).alloc (by simp; omega) _
  have hsz : ((((w.alloc (.cells #[.int .i64 most] 3)).alloc (.cells #[.slice none 0 0] 32)).alloc (.cells #[.pointer v] 25)).alloc (.cells #[.int .i64 a] 3)).heap.size = w.heap.size + 4 := by simp
  clear bM bO bG
  generalize ((((w.alloc (.cells #[.int .i64 most] 3)).alloc (.cells #[.slice none 0 0] 32)).alloc (.cells #[.pointer v] 25)).alloc (.cells #[.int .i64 a] 3)) = w4 at *
  have hst : SeqStopsK Fence.wide 2 Try.prog 50 #[.pointer (some ⟨w.heap.size + 1 + 1, 0, none⟩), .pointer (some ⟨w.heap.size + 1 + 1 + 1, 0, none⟩)] (fun x : Nat × Nat => #[.int .i64 (x.1 : Int), .int .i64 (x.2 : Int)])
      (Below w.heap.size) (fun ys => ys = []) (fun _ => False) 0 w4 := fun L J Jx W hW hJ hJx hY h0 => by
    have cg' := (hW.cell (p := ⟨w.heap.size + 1 + 1, 0, none⟩) bG4.lt).trans bG4.cell
    have cv' := (hW.cell (p := ⟨w.heap.size + 1 + 1 + 1, 0, none⟩) bV.lt).trans bV.cell
    have hw' : Below w.heap.size w W := hB0.trans (hW.mono hB0.size)
    exact (graAround1_no 2 (by omega) L _ _ v a J W hJ ⟨0, (graB_at W v a (HG.out.below hw')).mono fun e w' ⟨he, hw⟩ => ⟨he, hw.symm⟩⟩ cg' cv' h0).mono fun e' W' ⟨he, hj⟩ => ⟨he, .inl ⟨_, rfl, hj⟩⟩
  refine wpIn_rangeFunc_ownG rfl (by omega) (gf := 50) (lb := #[.pointer (some ⟨w.heap.size + 1 + 1, 0, none⟩), .pointer (some ⟨w.heap.size + 1 + 1 + 1, 0, none⟩)]) rfl trivial (enters_of Try.func50 (by kernel_rfl) rfl)
    hst belowK_t (belowK_b hB0.size) (Below.refl _ _) (fun _ => rfl)
    (fun pre W => Boxed W (w.heap.size + 1) 32 (.slice none 0 0) ∧ Below w.heap.size w W)
    (fun _ _ _ => False)
    (OwnFrom.and (Own.from (boxed_own _ _ (fun _ => .slice none 0 0)) _) (ownFrom_below (Nat.le_refl _) (by rw [hsz]; omega)))
    (fun _ _ _ _ _ hs _ _ => hs)
    ⟨bO4, hB0⟩
    ?a₁ ?assign ?body ?done ?stop
  case assign =>
    intro L x W K hK
    gi_wp2
    exact hK
  case body =>
    rintro L pre x W _ hlt
    omega
  case done =>
    rintro D ys W hD rfl ⟨hv, hB⟩ hK
    have hc := hv.cell
    gi_wp2
    refine ⟨by simp, .inl ⟨_, _, rfl, run_takeDeferred hK, ?_⟩⟩
    exact ⟨_, results_tmp rfl _ _ _, rfl, hB.trans (belowK_b (w := w) (Nat.le_refl _) W D _ _ (by omega) hK rfl rfl)⟩
  case stop =>
    rintro D c pre W _ h _ _
    exact h.elim
end Go.Proofs.Ytpgkhmjlbaoagaa
