/- recon: the tree as it lies in memory. -/
import Derived.Test.YtoomcgmbaogjbaaDoorRecB
import Derived.Test.YtoomcgmbaogjbaaDoorGraQ
import Derived.Test.YtoomcgmbaogjbaaDoorPthL
import Derived.Laws.Rows
namespace Go.Proofs.YtoomcgmbaogjbaaDoor
open Go.RowKit
set_option linter.unusedVariables false

/-- A result that lies in a variable of its own, and one that does not. -/
theorem results_cell_tmp {P : Program} {fn : Func} {p q : Tmp} {ty : TypeId} (h : fn.results = #[.cell p ty, .tmp q]) (tmps : Array Value) (w : World) (g : Nat) (t : TypeId) (cs : Array Value) (fr : Nat × Nat) (d : TypeDesc)
    (hp : tmps.getD p undef = .pointer (some ⟨g, 0, none⟩)) (hg : w.heap[g]? = some (.cells cs t fr))
    (hu : P.underlying ty = some d) (hd : (match d with | .struct _ | .array _ _ => true | _ => false) = true) (hi : (P.info? ty).map (·.size) = some cs.size) :
    (results fn tmps).run P w = .ok (.tuple #[.agg cs, tmps.getD q undef]) w := by
  have hp' : tmps[p]?.getD undef = .pointer (some ⟨g, 0, none⟩) := by simpa using hp
  simp [results, h, hp', asAddr, run_loadVar_row w g t ty cs fr d hg hu hd hi]
structure TLoc where
  t : Nat
  bL : Nat
  bR : Nat
  bP : Nat
  bH : Nat
  bS : Nat
  bU : Nat
/-- The tree on its way. -/
structure TB (w : World) (q : TLoc) (n N : Nat) (fL fR par hgt fS : Nat → Int) (up rt : Nat → Nat) : Prop where
  ht : Blk w q.t 45 #[.int .i64 (n : Int), .slice (some ⟨q.bL, 0, none⟩) N N, .slice (some ⟨q.bR, 0, none⟩) N N, .slice (some ⟨q.bP, 0, none⟩) N N, .slice (some ⟨q.bH, 0, none⟩) N N, .slice (some ⟨q.bS, 0, none⟩) N N]
  hL : Blk w q.bL 3 (ari N fL)
  hR : Blk w q.bR 3 (ari N fR)
  hP : Blk w q.bP 3 (ari N par)
  hH : Blk w q.bH 2 (ari N hgt)
  hS : Blk w q.bS 3 (ari N fS)
  hU : Blk w q.bU 75 (prs n up rt)
  LR : q.bL ≠ q.bR
  LP : q.bL ≠ q.bP
  LS : q.bL ≠ q.bS
  RP : q.bR ≠ q.bP
  RS : q.bR ≠ q.bS
  PS : q.bP ≠ q.bS
section
variable {w w' : World} {q : TLoc} {n N : Nat} {fL fR par hgt fS : Nat → Int} {up rt : Nat → Nat}
theorem TB.fr {S : List Nat} (h : TB w q n N fL fR par hgt fS up rt) (k : Fr S w w') (ht : q.t ∉ S) (hL : q.bL ∉ S) (hR : q.bR ∉ S) (hP : q.bP ∉ S) (hH : q.bH ∉ S) (hS : q.bS ∉ S) (hU : q.bU ∉ S) : TB w' q n N fL fR par hgt fS up rt :=
  ⟨h.ht.fr k ht, h.hL.fr k hL, h.hR.fr k hR, h.hP.fr k hP, h.hH.fr k hH, h.hS.fr k hS, h.hU.fr k hU, h.LR, h.LP, h.LS, h.RP, h.RS, h.PS⟩
theorem TB.drewN (h : TB w q n N fL fR par hgt fS up rt) (k : Nat) : TB (w.drewN k) q n N fL fR par hgt fS up rt := h.fr ((Fr.refl [] w).drewN k) (by simp) (by simp) (by simp) (by simp) (by simp) (by simp) (by simp)
theorem TB.tL (h : TB w q n N fL fR par hgt fS up rt) : q.t ≠ q.bL := h.ht.ne_ h.hL (by decide)
theorem TB.tR (h : TB w q n N fL fR par hgt fS up rt) : q.t ≠ q.bR := h.ht.ne_ h.hR (by decide)
theorem TB.tP (h : TB w q n N fL fR par hgt fS up rt) : q.t ≠ q.bP := h.ht.ne_ h.hP (by decide)
theorem TB.tH (h : TB w q n N fL fR par hgt fS up rt) : q.t ≠ q.bH := h.ht.ne_ h.hH (by decide)
theorem TB.tS (h : TB w q n N fL fR par hgt fS up rt) : q.t ≠ q.bS := h.ht.ne_ h.hS (by decide)
theorem TB.tU (h : TB w q n N fL fR par hgt fS up rt) : q.t ≠ q.bU := h.ht.ne_ h.hU (by decide)
theorem TB.HL (h : TB w q n N fL fR par hgt fS up rt) : q.bH ≠ q.bL := h.hH.ne_ h.hL (by decide)
theorem TB.HR (h : TB w q n N fL fR par hgt fS up rt) : q.bH ≠ q.bR := h.hH.ne_ h.hR (by decide)
theorem TB.HP (h : TB w q n N fL fR par hgt fS up rt) : q.bH ≠ q.bP := h.hH.ne_ h.hP (by decide)
theorem TB.HS (h : TB w q n N fL fR par hgt fS up rt) : q.bH ≠ q.bS := h.hH.ne_ h.hS (by decide)
theorem TB.UL (h : TB w q n N fL fR par hgt fS up rt) : q.bU ≠ q.bL := h.hU.ne_ h.hL (by decide)
theorem TB.UR (h : TB w q n N fL fR par hgt fS up rt) : q.bU ≠ q.bR := h.hU.ne_ h.hR (by decide)
theorem TB.UP (h : TB w q n N fL fR par hgt fS up rt) : q.bU ≠ q.bP := h.hU.ne_ h.hP (by decide)
theorem TB.UH (h : TB w q n N fL fR par hgt fS up rt) : q.bU ≠ q.bH := h.hU.ne_ h.hH (by decide)
theorem TB.US (h : TB w q n N fL fR par hgt fS up rt) : q.bU ≠ q.bS := h.hU.ne_ h.hS (by decide)
theorem TB.setL (h : TB w q n N fL fR par hgt fS up rt) (i : Nat) (v : Int) : TB (w.setCell ⟨q.bL, i, none⟩ (.int .i64 v)) q n N (updi fL i v) fR par hgt fS up rt :=
  ⟨h.ht.far (p := ⟨q.bL, i, none⟩) h.tL _, h.hL.setInti i v, h.hR.far (p := ⟨q.bL, i, none⟩) h.LR.symm _, h.hP.far (p := ⟨q.bL, i, none⟩) h.LP.symm _, h.hH.far (p := ⟨q.bL, i, none⟩) h.HL _, h.hS.far (p := ⟨q.bL, i, none⟩) h.LS.symm _, h.hU.far (p := ⟨q.bL, i, none⟩) h.UL _, h.LR, h.LP, h.LS, h.RP, h.RS, h.PS⟩
theorem TB.setR (h : TB w q n N fL fR par hgt fS up rt) (i : Nat) (v : Int) : TB (w.setCell ⟨q.bR, i, none⟩ (.int .i64 v)) q n N fL (updi fR i v) par hgt fS up rt :=
  ⟨h.ht.far (p := ⟨q.bR, i, none⟩) h.tR _, h.hL.far (p := ⟨q.bR, i, none⟩) h.LR _, h.hR.setInti i v, h.hP.far (p := ⟨q.bR, i, none⟩) h.RP.symm _, h.hH.far (p := ⟨q.bR, i, none⟩) h.HR _, h.hS.far (p := ⟨q.bR, i, none⟩) h.RS.symm _, h.hU.far (p := ⟨q.bR, i, none⟩) h.UR _, h.LR, h.LP, h.LS, h.RP, h.RS, h.PS⟩
theorem TB.setP (h : TB w q n N fL fR par hgt fS up rt) (i : Nat) (v : Int) : TB (w.setCell ⟨q.bP, i, none⟩ (.int .i64 v)) q n N fL fR (updi par i v) hgt fS up rt :=
  ⟨h.ht.far (p := ⟨q.bP, i, none⟩) h.tP _, h.hL.far (p := ⟨q.bP, i, none⟩) h.LP _, h.hR.far (p := ⟨q.bP, i, none⟩) h.RP _, h.hP.setInti i v, h.hH.far (p := ⟨q.bP, i, none⟩) h.HP _, h.hS.far (p := ⟨q.bP, i, none⟩) h.PS.symm _, h.hU.far (p := ⟨q.bP, i, none⟩) h.UP _, h.LR, h.LP, h.LS, h.RP, h.RS, h.PS⟩
theorem TB.setH (h : TB w q n N fL fR par hgt fS up rt) (i : Nat) (v : Int) : TB (w.setCell ⟨q.bH, i, none⟩ (.int .i64 v)) q n N fL fR par (updi hgt i v) fS up rt :=
  ⟨h.ht.far (p := ⟨q.bH, i, none⟩) h.tH _, h.hL.far (p := ⟨q.bH, i, none⟩) h.HL.symm _, h.hR.far (p := ⟨q.bH, i, none⟩) h.HR.symm _, h.hP.far (p := ⟨q.bH, i, none⟩) h.HP.symm _, h.hH.setInti i v, h.hS.far (p := ⟨q.bH, i, none⟩) h.HS.symm _, h.hU.far (p := ⟨q.bH, i, none⟩) h.UH _, h.LR, h.LP, h.LS, h.RP, h.RS, h.PS⟩
theorem TB.setS (h : TB w q n N fL fR par hgt fS up rt) (i : Nat) (v : Int) : TB (w.setCell ⟨q.bS, i, none⟩ (.int .i64 v)) q n N fL fR par hgt (updi fS i v) up rt :=
  ⟨h.ht.far (p := ⟨q.bS, i, none⟩) h.tS _, h.hL.far (p := ⟨q.bS, i, none⟩) h.LS _, h.hR.far (p := ⟨q.bS, i, none⟩) h.RS _, h.hP.far (p := ⟨q.bS, i, none⟩) h.PS _, h.hH.far (p := ⟨q.bS, i, none⟩) h.HS _, h.hS.setInti i v, h.hU.far (p := ⟨q.bS, i, none⟩) h.US _, h.LR, h.LP, h.LS, h.RP, h.RS, h.PS⟩
theorem TB.setU (h : TB w q n N fL fR par hgt fS up rt) (j : Nat) (v : Int) {up' rt' : Nat → Nat} (e : (prs n up rt).setIfInBounds j (.int .i64 v) = prs n up' rt') : TB (w.setCell ⟨q.bU, j, none⟩ (.int .i64 v)) q n N fL fR par hgt fS up' rt' :=
  ⟨h.ht.far (p := ⟨q.bU, j, none⟩) h.tU _, h.hL.far (p := ⟨q.bU, j, none⟩) h.UL.symm _, h.hR.far (p := ⟨q.bU, j, none⟩) h.UR.symm _, h.hP.far (p := ⟨q.bU, j, none⟩) h.UP.symm _, h.hH.far (p := ⟨q.bU, j, none⟩) h.UH.symm _, h.hS.far (p := ⟨q.bU, j, none⟩) h.US.symm _, by have := h.hU.set_ j (.int .i64 v); rwa [e] at this, h.LR, h.LP, h.LS, h.RP, h.RS, h.PS⟩
theorem TB.setU0 (h : TB w q n N fL fR par hgt fS up rt) (i v : Nat) : TB (w.setCell ⟨q.bU, i * 2, none⟩ (.int .i64 (v : Int))) q n N fL fR par hgt fS (upd up i v) rt := h.setU (i * 2) (v : Int) (prs_set0 n up rt i v)
theorem TB.setU1 (h : TB w q n N fL fR par hgt fS up rt) (i v : Nat) : TB (w.setCell ⟨q.bU, i * 2 + 1, none⟩ (.int .i64 (v : Int))) q n N fL fR par hgt fS up (upd rt i v) := h.setU (i * 2 + 1) (v : Int) (prs_set1 n up rt i v)
/-- find turns the ways alone. -/
theorem TB.find (h : TB w q n N fL fR par hgt fS up rt) (k : Fr [q.bU] w w') {up' : Nat → Nat} (hU : Blk w' q.bU 75 (prs n up' rt)) : TB w' q n N fL fR par hgt fS up' rt :=
  ⟨h.ht.fr k (by simpa using h.tU), h.hL.fr k (by simpa using h.UL.symm), h.hR.fr k (by simpa using h.UR.symm), h.hP.fr k (by simpa using h.UP.symm), h.hH.fr k (by simpa using h.UH.symm), h.hS.fr k (by simpa using h.US.symm), hU, h.LR, h.LP, h.LS, h.RP, h.RS, h.PS⟩
theorem TB.c (h : TB w q n N fL fR par hgt fS up rt) : w.cell? ⟨q.t, 0, none⟩ = some (.int .i64 (n : Int)) ∧ w.cell? ⟨q.t, 1, none⟩ = some (.slice (some ⟨q.bL, 0, none⟩) N N) ∧ w.cell? ⟨q.t, 2, none⟩ = some (.slice (some ⟨q.bR, 0, none⟩) N N) ∧
    w.cell? ⟨q.t, 3, none⟩ = some (.slice (some ⟨q.bP, 0, none⟩) N N) ∧ w.cell? ⟨q.t, 4, none⟩ = some (.slice (some ⟨q.bH, 0, none⟩) N N) ∧ w.cell? ⟨q.t, 5, none⟩ = some (.slice (some ⟨q.bS, 0, none⟩) N N) :=
  ⟨h.ht.get 0 _ rfl, h.ht.get 1 _ rfl, h.ht.get 2 _ rfl, h.ht.get 3 _ rfl, h.ht.get 4 _ rfl, h.ht.get 5 _ rfl⟩
end
end Go.Proofs.YtoomcgmbaogjbaaDoor
