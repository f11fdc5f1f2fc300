/- seepageref09: Union. -/
import Derived.Test.YtdhmjdlkaoflnaaRe9D
import Derived.Test.YtdhmjdlkaoflnaaUndoOrdersWalk
namespace Go.Proofs.Ytdhmjdlkaoflnaa
open Go.RowKit
set_option linter.unusedVariables false

/-- What a step of the document's sets leaves. -/
def R9Step (w w' : World) (g n : Nat) (past : List (Nat → Nat)) (L : Nat → Nat) (P : Nat → Prop) : Prop :=
  Ref9Q w' g n past L (fun b => P b ∨ w.heap.size ≤ b) ∧ ∃ S : List Nat, Fr S w w' ∧ ∀ b ∈ S, P b
theorem R9Step.stay {w : World} {g n : Nat} {past : List (Nat → Nat)} {L : Nat → Nat} {P : Nat → Prop} (h : Ref9Q w g n past L P) (k : Nat) : R9Step w (w.drewN k) g n past L P :=
  ⟨(h.fr ((Fr.refl [] w).drewN k) (by simp)).mono fun b _ hp => .inl hp, [], (Fr.refl [] w).drewN k, by simp⟩
/-- An append of one element that lies in a block of its own, in a region that draws: where the row lies then. -/
theorem step_appg (T E : TypeId) {i0 : TypeInfo} {z : Value} {sz by_ : Nat} (ht : Try.prog.underlying T = some (.slice E)) (hi : Try.prog.info? E = some i0) (hz : i0.zero = some z) (h1 : i0.size = sz) (h8 : i0.bytes = by_) (hzs : z.cells.size = sz) (hsz : 0 < sz)
    {ops : Array Oper} {o : Oper} {a : Act} {w : World} {K : Act → World → Prop} {Q : Exit → Act → World → Prop} {F : Prop} (cs : Array Value) (hcs : cs.size = sz) (hone : ∀ c ∈ cs.toList, c.oneCell' = true) (hgd : o.guard = none) (s x : Operand)
    (ho : o.op = .call { callee := .builtin .append, args := #[s, x], argTypes := #[T, T] })
    (B : Nat) (V : Value) (n : Nat) (xs : List Value) (hs : a.eval s = V) (hown : w.ownsRow B E sz V n xs) (hx : a.eval x = .slice (some ⟨w.heap.size, 0, none⟩) 1 1)
    (hm : n + 1 ≤ maxLen) (hb : (n + 1) * by_ ≤ 140737488355328) (hB : B ≤ w.heap.size)
    (h : ∀ g5 c5 w', w'.ownsRow B E sz (.slice (some ⟨g5, 0, none⟩) (n + 1) c5) (n + 1) (xs ++ cs.toList) → w.grownBy w' V.ownBlock → (V.ownBlock = some g5 ∨ w.heap.size ≤ g5) → K (a.put o.dst (.slice (some ⟨g5, 0, none⟩) (n + 1) c5)) w') :
    if Region.wanted o (yielded ops a.tmps) = true then Oper.wp Try.prog o a (w.alloc (.cells cs E)) K Q else F := by
  refine step_append_lies (w := w.alloc (.cells cs E)) hgd s x T ho B E i0 z sz by_ ht hi hz h1 h8 hzs hsz V n xs hs (World.ownsRow.alloc hown _)
    ⟨w.heap.size, 0, none⟩ 1 1 cs.toList hx (by simpa using hcs) (fun j c hj => by rw [Addr.add_lit, Nat.zero_add, World.cell?_alloc_new]; simpa using hj) hone (by decide) hm hb (by simp; omega) _ rfl ?_
  intro g cap w' h2 h3 h4 h5
  exact h g cap w' h2 (grown_trans2 (World.grownBy_alloc w _ none) h3) (h4.imp id (fun e => by rw [e]; show _ ≤ (w.heap.push _).size; rw [Array.size_push]; omega))

section
variable {w wq w5 : World} {g n g2 g5 c c5 : Nat} {past : List (Nat → Nat)} {L M : Nat → Nat} {P : Nat → Prop} {v vp : Value} {vs : List Value}
theorem Fr.ownG {B m sz : Nat} {E : TypeId} {V : Value} {xs : List Value} {cs : Array Value} (h : w.ownsRow B E sz V m xs) (hb : Blk w g 66 cs) (hne : E ≠ 66) (i : Nat) (u : Value) :
    (w.setCell ⟨g, i, none⟩ u).ownsRow B E sz V m xs :=
  own_fr h ((Fr.refl [g] w).setCell (p := ⟨g, i, none⟩) (.inl (by simp)) u) (fun b e hm => by
    have : b = g := by simpa using hm
    subst this
    exact own_notBlk h hb hne e)
theorem R9.setL (h : R9 w g n past L P v vp vs) {v' : Value} (hl : w.ownsRow 0 3 1 v' n (arr n M).toList) (hp : ∀ b, v'.ownBlock = some b → P b) : R9 (w.setCell ⟨g, 1, none⟩ v') g n past M P v' vp vs :=
  ⟨h.hb.set_ 1 v', Fr.ownG hl h.hb (by decide) 1 v', Fr.ownG h.ho h.hb (by decide) 1 v', fun i f hf => by
    obtain ⟨u, e, hu, hpu⟩ := h.hv i f hf
    exact ⟨u, e, Fr.ownG hu h.hb (by decide) 1 v', hpu⟩, h.nb, h.pg, hp, h.pp⟩
theorem R9.push (hq : R9 wq g n past L P v vp vs) (ho5 : w5.ownsRow 0 27 1 (.slice (some ⟨g5, 0, none⟩) (past.length + 1) c5) (past.length + 1) (vs ++ (#[v] : Array Value).toList))
    (hg5 : wq.drew.grownBy w5 vp.ownBlock) (hat : vp.ownBlock = some g5 ∨ wq.heap.size ≤ g5) :
    R9 (w5.setCell ⟨g, 2, none⟩ (.slice (some ⟨g5, 0, none⟩) (past.length + 1) c5)) g n (past ++ [L]) L (fun b => P b ∨ wq.heap.size ≤ b) v (.slice (some ⟨g5, 0, none⟩) (past.length + 1) c5) (vs ++ [v]) ∧
      Fr (g :: vp.ownBlock.toList) wq (w5.setCell ⟨g, 2, none⟩ (.slice (some ⟨g5, 0, none⟩) (past.length + 1) c5)) := by
  have f5 : Fr vp.ownBlock.toList wq w5 := ((Fr.refl _ wq).drew).trans (Fr.grown hg5 (fun k e => by rw [e]; simp))
  have hb5 : Blk w5 g 66 #[.bool true, v, vp] := hq.hb.fr f5 (fun hm => own_notBlk hq.ho hq.hb (by decide) (by simpa using hm))
  have keep : ∀ {m : Nat} {V : Value} {xs : List Value}, wq.ownsRow 0 3 1 V m xs → w5.ownsRow 0 3 1 V m xs := fun h => own_fr h f5 (fun b e hm => own_notOwn h hq.ho (by decide) e (by simpa using hm))
  have hvl : vs.length = past.length := by have := hq.ho.1; simpa using this
  refine ⟨⟨hb5.set_ 2 _, Fr.ownG (keep hq.hl) hb5 (by decide) 2 _, ?_, fun i f hf => ?_, hq.nb, .inl hq.pg, fun b e => .inl (hq.pl b e), fun b e => ?_⟩, ?_⟩
  · rw [List.length_append]
    exact Fr.ownG ho5 hb5 (by decide) 2 _
  · by_cases hi : i < past.length
    · rw [List.getElem?_append_left hi] at hf
      obtain ⟨u, e, hu, hp⟩ := hq.hv i f hf
      exact ⟨u, by rw [List.getElem?_append_left (by omega)]; exact e, Fr.ownG (keep hu) hb5 (by decide) 2 _, fun b e => .inl (hp b e)⟩
    · have hi' : i = past.length := by
        have := (List.getElem?_eq_some_iff.1 hf).1
        rw [List.length_append] at this
        simp at this
        omega
      subst hi'
      rw [List.getElem?_append_right (Nat.le_refl _), Nat.sub_self] at hf
      simp at hf
      subst hf
      exact ⟨v, by rw [List.getElem?_append_right (by omega), hvl, Nat.sub_self]; rfl, Fr.ownG (keep hq.hl) hb5 (by decide) 2 _, fun b e => .inl (hq.pl b e)⟩
  · have : g5 = b := by injection e
    subst this
    exact hat.imp (fun e => hq.pp _ e) id
  · exact (f5.mono (fun k hk => List.mem_cons_of_mem _ hk)).setCell (p := ⟨g, 2, none⟩) (.inl (List.mem_cons_self ..)) _
end

theorem ints_one (v : Value) (A : Option Addr) (n c : Nat) : (Value.slice A n c).oneCell' = true := rfl

set_option maxRecDepth 100000 in
set_option maxHeartbeats 8000000 in
theorem r9Union (w : World) (x y : Int) (g n : Nat) (past : List (Nat → Nat)) (L : Nat → Nat) (P : Nat → Prop) (h : Ref9Q w g n past L P) (hpl : past.length ≤ 65536) :
    Calls Try.prog 26 #[.pointer (some ⟨g, 0, none⟩), .int .i64 x, .int .i64 y] w
      fun e w' => e = .returned (.tuple #[.bool (unionB n L x y), .int .i64 (unionE n x y)]) ∧ R9Step w w' g n (pastV n past L x y) (unionL n L x y) P := by
  have HR := hide h.ref
  have CA := r9Has w x g n 0 past L h.ref
  have CB := r9Has w y g n 0 past L h.ref
  have HV := hide (r9Valid w g n 0 past L h.ref)
  have H := hide h
  clear h
  cases hx : inB n x
  · have e1 : Hid (unionB n L x y = false) := by show _ = _; simp [unionB, hx]
    have e2 : Hid (unionE n x y = 3) := by show _ = _; simp [unionE, hx]
    have e3 : Hid (unionL n L x y = L) := by show _ = _; simp [unionL, hx]
    have e4 : Hid (pastV n past L x y = past) := by show _ = _; simp [pastV, hx]
    rw [hx] at CA
    have HA := hide CA
    clear CA CB hx
    go_enter Try.func26, Try.ntmps26
    go_wp2_with (first | (go_at_call 42; refine HV.out.mono ?_; rintro e w' ⟨rfl, rfl⟩) | (go_at_call_of 43 (Value.int .i64 x); refine HA.out.mono ?_; rintro e w' ⟨rfl, rfl⟩))
    go_ret2
    exact ⟨by rw [e1.out, e2.out]; rfl, by rw [e3.out, e4.out]; exact R9Step.stay H.out 0⟩
  · cases hy : inB n y
    · have e1 : Hid (unionB n L x y = false) := by show _ = _; simp [unionB, hy]
      have e2 : Hid (unionE n x y = 3) := by show _ = _; simp [unionE, hy]
      have e3 : Hid (unionL n L x y = L) := by show _ = _; simp [unionL, hy]
      have e4 : Hid (pastV n past L x y = past) := by show _ = _; simp [pastV, hy]
      rw [hx] at CA
      rw [hy] at CB
      have HA := hide CA
      have HB := hide CB
      clear CA CB hx hy
      go_enter Try.func26, Try.ntmps26
      go_wp2_with (first | (go_at_call 42; refine HV.out.mono ?_; rintro e w' ⟨rfl, rfl⟩) | (go_at_call_of 43 (Value.int .i64 x); refine HA.out.mono ?_; rintro e w' ⟨rfl, rfl⟩) | (go_at_call_of 43 (Value.int .i64 y); refine HB.out.mono ?_; rintro e w' ⟨rfl, rfl⟩))
      go_ret2
      exact ⟨by rw [e1.out, e2.out]; rfl, by rw [e3.out, e4.out]; exact R9Step.stay H.out 0⟩
    · have a1 : 0 ≤ x ∧ x < n := by simpa [inB] using hx
      have a2 : 0 ≤ y ∧ y < n := by simpa [inB] using hy
      obtain ⟨a, rfl⟩ := Int.eq_ofNat_of_zero_le a1.1
      obtain ⟨b, rfl⟩ := Int.eq_ofNat_of_zero_le a2.1
      have e1 : Hid (unionB n L (a : Int) (b : Int) = !(L a == L b)) := by show _ = _; simp [unionB, hx, hy]
      have e2 : Hid (unionE n (a : Int) (b : Int) = 0) := by show _ = _; simp [unionE, hx, hy]
      have e3 : Hid (unionL n L (a : Int) (b : Int) = merge L (L a) (L b)) := by show _ = _; simp [unionL, hx, hy]
      have e4 : Hid (pastV n past L (a : Int) (b : Int) = pastU past L (L a) (L b)) := by show _ = _; simp [pastV, hx, hy]
      rw [hx] at CA
      rw [hy] at CB
      have HA := hide CA
      have HB := hide CB
      have han : a < n := by omega
      have hbn : b < n := by omega
      clear CA CB hx hy a1 a2
      obtain ⟨v, vp, vs, hQ⟩ := H.out
      obtain ⟨A, c, rfl, hrd, -⟩ := own_form hQ.hl
      obtain ⟨Pp, q, rfl, -⟩ := own_form hQ.ho
      have c1 : w.cell? ⟨g, 1, none⟩ = some (.slice A n c) := (hQ.hb.cell 1).trans rfl
      have c2 : w.cell? ⟨g, 2, none⟩ = some (.slice Pp past.length q) := (hQ.hb.cell 2).trans rfl
      obtain ⟨_, _, _, _, _, d1, _, _, _, hg⟩ := HR.out.form
      have hd := d1.symm.trans c1
      injection hd with hd
      injection hd with hd1 hd2 hd3
      subst hd1
      obtain ⟨g2, rfl, _, _, ca⟩ := hg a han
      obtain ⟨g3, e3', _, _, cb⟩ := hg b hbn
      injection e3' with e3'
      injection e3' with e3'
      subst e3'
      have HQ := hide hQ
      have HRD := hide hrd
      clear hQ hrd hg d1 hd3 hd2
      by_cases hE : L a = L b
      · have hbe := beq_nat_true hE
        have HE := hide hE
        clear hE
        go_enter Try.func26, Try.ntmps26
        go_wp2_with (first | (go_at_call 42; refine HV.out.mono ?_; rintro e w' ⟨rfl, rfl⟩) | (go_at_call_of 43 (Value.int .i64 (a : Int)); refine HA.out.mono ?_; rintro e w' ⟨rfl, rfl⟩) | (go_at_call_of 43 (Value.int .i64 (b : Int)); refine HB.out.mono ?_; rintro e w' ⟨rfl, rfl⟩))
        go_quiet (fail)
        go_wp2_with fail
        go_ret2
        refine ⟨by rw [e1.out, e2.out, HE.out]; simp, ?_⟩
        rw [e3.out, e4.out, HE.out, merge_self]
        unfold pastU
        rw [if_pos rfl]
        exact R9Step.stay H.out _
      · have hbe := beq_nat_false hE
        have HE := hide hE
        obtain ⟨i0, hi, hz0, hz1, hz2⟩ := info_parts ints_info
        have hi' := hide hi
        have hz0' := hide hz0
        have hz1' := hide hz1
        have hz2' := hide hz2
        clear hE hi hz0 hz1 hz2
        go_enter Try.func26, Try.ntmps26
        go_wp2_with (first | (go_at_call 42; refine HV.out.mono ?_; rintro e w' ⟨rfl, rfl⟩) | (go_at_call_of 43 (Value.int .i64 (a : Int)); refine HA.out.mono ?_; rintro e w' ⟨rfl, rfl⟩) | (go_at_call_of 43 (Value.int .i64 (b : Int)); refine HB.out.mono ?_; rintro e w' ⟨rfl, rfl⟩))
        go_quiet (fail)
        go_wp2_with fail
        have hq := HQ.out.fr (S := []) ((Fr.refl [] w).drewN nq) (by simp)
        have hf1 : Fr (g :: (Value.slice Pp past.length q).ownBlock.toList) w (w.drewN nq) := (Fr.refl _ w).drewN nq
        generalize w.drewN nq = wq at *
        have hqa := hq.fr (S := []) ((Fr.refl [] wq).alloc (.cells #[.slice (some ⟨g2, 0, none⟩) n c] 27)) (by simp)
        have s1 : wq.cell? ⟨g, 1, none⟩ = some (.slice (some ⟨g2, 0, none⟩) n c) := (hq.hb.cell 1).trans rfl
        have s2 : wq.cell? ⟨g, 2, none⟩ = some (.slice Pp past.length q) := (hq.hb.cell 2).trans rfl
        have z1 : (wq.alloc (.cells #[.slice (some ⟨g2, 0, none⟩) n c] 27)).cell? ⟨g, 1, none⟩ = some (.slice (some ⟨g2, 0, none⟩) n c) := (hqa.hb.cell 1).trans rfl
        have z2 : (wq.alloc (.cells #[.slice (some ⟨g2, 0, none⟩) n c] 27)).cell? ⟨g, 2, none⟩ = some (.slice Pp past.length q) := (hqa.hb.cell 2).trans rfl
        have ho := hide hq.ho
        have HQQ := hide hq
        have HF1 := hide hf1
        clear hq hf1 hqa c1 c2 ca cb
        go_region_law (refine step_appg 64 27 Try.underlying64 hi'.out hz0'.out hz1'.out hz2'.out rfl (by decide) (w := wq.drew) #[.slice (some ⟨g2, 0, none⟩) n c] rfl (by intro u hu; simp at hu; subst hu; rfl) rfl (.tmp 40) (.tmp 45) rfl 0 _ _ _ rfl (own_below ho.out ((Below.refl _ _).drewN 1)) rfl (by unfold maxLen; omega) (by omega) (Nat.zero_le _) ?_; intro g5 c5 w5 ho5 hg5 hat5; have kg := Blk.grown (HQQ.out.hb.drew) hg5 (own_notBlk HQQ.out.ho HQQ.out.hb (by decide)); have k2 := (show w5.cell? ⟨g, 2, none⟩ = some (.slice Pp past.length q) from (kg.cell 2).trans rfl); have kf := kg.frozen 2; have PU := HQQ.out.push ho5 hg5 hat5; have HPU := hide PU; clear ho5 hg5 hat5 kg PU)
        all_goals
          have P1 := HPU.out.1
          have P2 := HPU.out.2
          generalize w5.setCell ⟨g, 2, none⟩ (.slice (some ⟨g5, 0, none⟩) (past.length + 1) c5) = w6 at *
          have k1 : w6.cell? ⟨g, 1, none⟩ = some (.slice (some ⟨g2, 0, none⟩) n c) := (P1.hb.cell 1).trans rfl
          obtain ⟨A6, c6, e6, hr6, -⟩ := own_form P1.hl
          injection e6 with e61 e62 e63
          subst e61
          have HP1 := hide P1
          have HP2 := hide P2
          clear P1 P2 HPU e62 e63 s1 s2 z1 z2
          go_wp2_with fail
          refine (r9United _ _ n c a b L hr6 han hbn HQQ.out.nb).mono ?_
          rintro e w7 ⟨A7, c7, rfl, hl7, hb7⟩
          have q7 := HP1.out.fr (S := []) (Fr.of_below [] hb7) (by simp)
          have k7 : w7.cell? ⟨g, 1, none⟩ = some (.slice (some ⟨g2, 0, none⟩) n c) := (q7.hb.cell 1).trans rfl
          have f7 := q7.hb.frozen 1
          have q7' := (q7.mono (Q := fun b => P b ∨ w.heap.size ≤ b) (fun b _ hp => hp.imp id (fun h => Nat.le_trans HF1.out.size h))).setL (own_rebase hl7 (fun _ _ => Nat.zero_le _)) (fun b e => .inr (Nat.le_trans HF1.out.size (Nat.le_trans HP2.out.size (World.ownsRow.lt hl7 b e).1)))
          have F7 : Fr (g :: (Value.slice Pp past.length q).ownBlock.toList) w (w7.setCell ⟨g, 1, none⟩ (.slice A7 n c7)) := ((HF1.out.trans HP2.out).trans (Fr.of_below _ hb7)).setCell (p := ⟨g, 1, none⟩) (.inl (List.mem_cons_self ..)) _
          have Q7 := hide q7'
          have HF7 := hide F7
          clear q7 q7' F7 hl7 hb7 hr6
          go_wp2_with fail
          go_ret2
          refine ⟨by rw [e1.out, e2.out]; simp [HE.out], ?_⟩
          rw [e3.out, e4.out]
          unfold pastU
          rw [if_neg HE.out]
          refine ⟨⟨_, _, _, Q7.out⟩, _, HF7.out, fun b hb => ?_⟩
          rcases List.mem_cons.1 hb with rfl | hb
          · exact HQ.out.pg
          · exact HQ.out.pp b (by simpa using hb)
end Go.Proofs.Ytdhmjdlkaoflnaa
