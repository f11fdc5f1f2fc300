/- seepageref09: Copy. -/
import Derived.Test.YtdhmjdlkaoflnaaRe9F
namespace Go.Proofs.Ytdhmjdlkaoflnaa
open Go.RowKit
set_option linter.unusedVariables false

/-- An append of the elements of another row, in a region that draws. -/
theorem step_any (T E : TypeId) {i : TypeInfo} {z : Value} {size bytes : Nat} (ht : Try.prog.underlying T = some (.slice E)) (hi : Try.prog.info? E = some i) (hz : i.zero = some z)
    (hsize : i.size = size) (hby : i.bytes = bytes) (hzs : z.cells.size = size) (hsz : 0 < size)
    {ops : Array Oper} {o : Oper} {a : Act} {w : World} {K : Act → World → Prop} {Q : Exit → Act → World → Prop} {F : Prop} (A : Option Addr) (m c : Nat) (news : List Value) (hr : Rd w A m size news) (h1 : ∀ u ∈ news, u.oneCell' = true)
    (hgd : o.guard = none) (s x : Operand) (ho : o.op = .call { callee := .builtin .append, args := #[s, x], argTypes := #[T, T] })
    (B : Nat) (V : Value) (n : Nat) (xs : List Value) (hs : a.eval s = V) (hown : w.ownsRow B E size V n xs) (hx : a.eval x = .slice A m c)
    (h63 : n + m ≤ maxLen) (hbytes : (n + m) * bytes ≤ 140737488355328) (hB : B ≤ w.heap.size)
    (h : ∀ v' w', w'.ownsRow B E size v' (n + m) (xs ++ news) → w.grownBy w' V.ownBlock → Below B w w' → K (a.put o.dst v') w') :
    if Region.wanted o (yielded ops a.tmps) = true then Oper.wp Try.prog o a w K Q else F := by
  have key : ∃ v' w', (Builtin.append_ #[T, T] o.type #[V, .slice A m c]).run Try.prog w = .ok v' w' ∧ w'.ownsRow B E size v' (n + m) (xs ++ news) ∧ w.grownBy w' V.ownBlock := by
    rcases A with _ | ad
    · have hm : m = 0 := by
        rcases Nat.eq_zero_or_pos m with h0 | h0
        · exact h0
        · obtain ⟨_, _, h, _⟩ := hr.2 h0
          cases h
      subst hm
      have hn : news = [] := List.eq_nil_of_length_eq_zero (by simpa using hr.1)
      subst hn
      exact ⟨V, w, run_append_of_nil w B T o.type E i size ht hi V n xs hown c, by simpa using hown, World.grownBy.refl w _⟩
    · have hcells : ∀ j u, news[j]? = some u → w.cell? (ad.add j) = some u := by
        intro j u hu
        rcases Nat.eq_zero_or_pos m with h0 | h0
        · subst h0
          have hn : news = [] := List.eq_nil_of_length_eq_zero (by simpa using hr.1)
          subst hn
          simp at hu
        · obtain ⟨b, q, h, _, hc⟩ := hr.2 h0
          injection h with h
          subst h
          rw [Addr.add_lit]
          exact hc j u hu
      obtain ⟨v', w', hrun, h2, h3, h4, h5⟩ := run_append_own_at (P := Try.prog) w B T o.type E i z size bytes ht hi hz hsize hby hzs hsz V n xs hown ad m c news hr.1 hcells h1 h63 hbytes hB
      exact ⟨v', w', hrun, h2, h3⟩
  obtain ⟨v', w', hrun, h2, h3⟩ := key
  have hw : Region.wanted o (yielded ops a.tmps) = true := by simp [Region.wanted, hgd]
  rw [if_pos hw]
  unfold Oper.wp execOp
  simp only [ho, resolve, invoke, builtin, Sem.run_bind, Sem.run_pure, Result.andThen_ok, List.map_toArray, List.map_cons, List.map_nil, hs, hx, hrun]
  exact h v' w' h2 h3 ((Below.refl _ _).grown h3 hB (fun k hk => (hown.lt k hk).1))

set_option maxRecDepth 100000 in
set_option maxHeartbeats 4000000 in
theorem r9Copy (w : World) (g n : Nat) (past : List (Nat → Nat)) (L : Nat → Nat) (P : Nat → Prop) (h : Ref9Q w g n past L P) (hpl : past.length ≤ 65536) :
    Calls Try.prog 30 #[.pointer (some ⟨g, 0, none⟩)] w
      fun e w' => ∃ g', e = .returned (.pointer (some ⟨g', 0, none⟩)) ∧ Ref9Q w' g' n past L (fun b => P b ∨ w.heap.size ≤ b) ∧ Below w.heap.size w w' := by
  have HV := hide (r9Valid w g n 0 past L h.ref)
  obtain ⟨v, vp, vs, hq⟩ := h
  obtain ⟨A, c, rfl, -⟩ := own_form hq.hl
  obtain ⟨Pp, q, rfl, hrp, -⟩ := own_form hq.ho
  have hqa := hq.fr (S := []) ((Fr.refl [] w).alloc (.cells #[] 27)) (by simp)
  have c1 : w.cell? ⟨g, 1, none⟩ = some (.slice A n c) := (hq.hb.cell 1).trans rfl
  have c2 : w.cell? ⟨g, 2, none⟩ = some (.slice Pp past.length q) := (hq.hb.cell 2).trans rfl
  have s1 : (w.alloc (.cells #[] 27)).cell? ⟨g, 1, none⟩ = some (.slice A n c) := (hqa.hb.cell 1).trans rfl
  have s2 : (w.alloc (.cells #[] 27)).cell? ⟨g, 2, none⟩ = some (.slice Pp past.length q) := (hqa.hb.cell 2).trans rfl
  have HRD := hide (own_rd hqa.ho)
  have HONE := hide hq.one
  have ho := hide (World.ownsRow_made (e := 27) (size := 1) (base := w.heap.size) w #[] 0 (Nat.le_refl _) (by simp [maxLen]) rfl)
  obtain ⟨i0, hi, hz0, hz1, hz2⟩ := info_parts ints_info
  have hi' := hide hi
  have hz0' := hide hz0
  have hz1' := hide hz1
  have hz2' := hide hz2
  have HQ := hide hq
  clear hi hz0 hz1 hz2 hq hqa hrp
  go_enter Try.func30, Try.ntmps30
  go_wp2_with (first | (go_at_call 42; refine HV.out.mono ?_; rintro e w' ⟨rfl, rfl⟩))
  go_region_law (refine step_any 64 27 Try.underlying64 hi'.out hz0'.out hz1'.out hz2'.out rfl (by decide) (w := (w.alloc (.cells #[] 27)).drew) Pp past.length q vs HRD.out HONE.out rfl (.tmp 10) (.tmp 14) rfl w.heap.size _ 0 [] rfl ho.out rfl (by unfold maxLen; omega) (by omega) (by simp) ?_; intro v5 w5 ho5 hg5 hb5; simp only [Nat.zero_add, List.nil_append] at ho5; obtain ⟨A5, c5, rfl, -⟩ := own_form ho5; have hb6 := (((Below.refl w.heap.size w).alloc (Nat.le_refl _) (.cells #[] 27)).drewN 1).trans hb5; have s3 := (show w5.cell? ⟨g, 1, none⟩ = some (.slice A n c) from ((HQ.out.hb.below hb6 HQ.out.hb.lt).cell 1).trans rfl); have HO5 := hide ho5; have HB6 := hide hb6; clear ho5 hg5 hb5 hb6)
  all_goals
    go_wp2_with fail
    go_ret
    have q5 := HQ.out.fr (S := []) (Fr.of_below [] HB6.out) (by simp)
    have q6 := q5.fr (S := []) ((Fr.refl [] w5).alloc (.cells #[.bool true, .slice A n c, .slice A5 past.length c5] 66)) (by simp)
    have hsz := HB6.out.size
    refine ⟨w5.heap.size, rfl, ⟨_, _, _, ⟨Blk.new w5 _ _, q6.hl, World.ownsRow.alloc (own_rebase HO5.out (fun _ _ => Nat.zero_le _)) _, fun i f hf => ?_, q6.nb, .inr hsz, fun b e => .inl (q6.pl b e), fun b e => .inr (World.ownsRow.lt HO5.out b e).1⟩⟩, HB6.out.alloc hsz _⟩
    obtain ⟨u, e, hu, hp⟩ := q6.hv i f hf
    exact ⟨u, e, hu, fun b e => .inl (hp b e)⟩
end Go.Proofs.Ytdhmjdlkaoflnaa
