/- graph: Dist: the statement that draws its order. -/
import Derived.Test.YtpgkhmjlbaoagaaGraAn
namespace Go.Proofs.Ytpgkhmjlbaoagaa
open Go.RowKit Go.Shelf
attribute [local go_sem] Oper.semAt_some
set_option linter.unusedVariables false

/-- The first range over a function in a code. -/
def fstRange : Code → Option Code
  | .seq a b => (fstRange a).or (fstRange b)
  | .cond _ a b => (fstRange a).or (fstRange b)
  | .block _ a => fstRange a
  | .loop a => fstRange a
  | .rangeFunc a b c d => some (.rangeFunc a b c d)
  | _ => none
/-- The first region in a code that draws its order. -/
def fstDraw : Code → Option Code
  | .seq a b => (fstDraw a).or (fstDraw b)
  | .cond _ a b => (fstDraw a).or (fstDraw b)
  | .block _ a => fstDraw a
  | .loop a => fstDraw a
  | .rangeFunc _ _ _ d => fstDraw d
  | .region i o true => some (.region i o true)
  | _ => none
set_option maxRecDepth 100000 in
set_option maxHeartbeats 4000000 in
theorem distStep (c : Code) (hc : (Try.f23.body.bind fstDraw) = some c) (L N : Nat) (w : World) (bD bd bu n x u : Nat) (d e : Int) (hn : n ≤ 4096) (hx : x < n) (hu : u < n) (h0 : 0 ≤ d) (h1 : d < 4096)
    (cD : w.cell? ⟨bD, 0, none⟩ = some (.slice (some ⟨bd, 0, none⟩) n n)) (cx : w.cell? ⟨bd, x, none⟩ = some (.int .i64 e)) (cu : w.cell? ⟨bd, u, none⟩ = some (.int .i64 d)) (cb : w.cell? ⟨bu, 0, none⟩ = some (.int .i64 (u : Int))) (fx : w.frozen? ⟨bd, x, none⟩ = false)
    (u0 u1 u2 u3 u4 u6 u7 u9 u11 u12 u13 u14 u15 u16 u17 u18 u19 u20 u21 u22 u23 u24 u25 u26 u27 u28 u29 u30 u31 u32 u33 u34 u35 u36 u37 u38 u39 u40 u41 u42 u43 u44 u45 u46 u47 u48 u49 u50 u51 u52 u53 u54 u55 u56 u57 u58 u59 u60 u61 u62 : Value) (Q : Exit → Act → World → Prop)
    (h : Q .normal { tmps := #[u0, u1, u2, u3, u4, .pointer (some ⟨bD, 0, none⟩), u6, u7, .pointer (some ⟨bu, 0, none⟩), u9, .int .i64 (x : Int), u11, u12, u13, u14, u15, u16, u17, u18, u19, u20, u21, u22, u23, u24, u25, u26, u27, u28, u29, u30, u31, u32, u33, u34, u35, u36, u37, u38, u39, u40, u41, u42, u43, u44, u45, u46, u47, u48, u49, .slice (some ⟨bd, 0, none⟩) n n, .int .i64 (x : Int), .slice (some ⟨bd, 0, none⟩) n n, .int .i64 (u : Int), .pointer (some ⟨bd, u, none⟩), .int .i64 d, .int .i64 (d + 1), .pointer (some ⟨bd, x, none⟩), u58, u59, u60, u61, u62], defers := [] } ((w.setCell ⟨bd, x, none⟩ (.int .i64 (d + 1))).drewN 1)) :
    c.wpIn (Fence.wide.inRound L) N Try.prog Q { tmps := #[u0, u1, u2, u3, u4, .pointer (some ⟨bD, 0, none⟩), u6, u7, .pointer (some ⟨bu, 0, none⟩), u9, .int .i64 (x : Int), u11, u12, u13, u14, u15, u16, u17, u18, u19, u20, u21, u22, u23, u24, u25, u26, u27, u28, u29, u30, u31, u32, u33, u34, u35, u36, u37, u38, u39, u40, u41, u42, u43, u44, u45, u46, u47, u48, u49, u50, u51, u52, u53, u54, u55, u56, u57, u58, u59, u60, u61, u62], defers := [] } w := by
  obtain rfl := Option.some.inj hc
  clear hc
  have hmx : Try.prog.follows .mixedOrders = true := by kernel_rfl
  have hw : IntKind.i64.wrap (d + 1) = d + 1 := IntWalk.i64_in _ (by omega)
  have H := hide h
  clear h
  gi_region_o
  all_goals exact H.out
end Go.Proofs.Ytpgkhmjlbaoagaa
