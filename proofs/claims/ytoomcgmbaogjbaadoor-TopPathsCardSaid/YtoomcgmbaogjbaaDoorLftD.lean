/- lift: depths. lift: depths, walked. lift: the table in memory. lift: New. -/
import Derived.Test.YtoomcgmbaogjbaaDoorFam
import Derived.Test.YtoomcgmbaogjbaaDoorRecC
namespace Go.Proofs.YtoomcgmbaogjbaaDoor
open Go.RowKit
set_option linter.unusedVariables false

theorem ints_info0 : (Tryd.prog.info? 30).map (fun i => (i.zero, i.size, i.bytes)) = some (some (.slice none 0 0), 1, 24) := by kernel_rfl
theorem setCell_size (w : World) (p : Addr) (u : Value) : (w.setCell p u).heap.size = w.heap.size := by simp
def LQ (N : Nat) (par : Nat → Int) (k : Nat) (q : List Nat) (p : Nat) : List Nat := if p = N then q else chsQ par p k
theorem LQ_q (N : Nat) (par : Nat → Int) (k : Nat) (q : List Nat) : LQ N par k q N = q := if_pos rfl
theorem LQ_c {N p : Nat} (par : Nat → Int) (k : Nat) (q : List Nat) (h : p ≠ N) : LQ N par k q p = chsQ par p k := if_neg h
theorem LQ_push (N : Nat) (par : Nat → Int) (k : Nat) (q : List Nat) (x : Nat) : updL (LQ N par k q) N (q ++ [x]) = LQ N par k (q ++ [x]) := by
  funext p
  unfold updL LQ
  split <;> rfl
theorem LQ_child {N : Nat} (par : Nat → Int) (k z : Nat) (q : List Nat) (hz : z < N) (e : par k = (z : Int)) : updL (LQ N par k q) z (LQ N par k q z ++ [k]) = LQ N par (k + 1) q := by
  funext p
  unfold updL
  by_cases h : p = z
  · subst h
    rw [if_pos rfl, LQ_c par k q (by omega), LQ_c par (k + 1) q (by omega), chsQ_in e]
  · rw [if_neg h]
    by_cases h2 : p = N
    · subst h2; rw [LQ_q, LQ_q]
    · rw [LQ_c par k q h2, LQ_c par (k + 1) q h2, chsQ_out (by omega)]
theorem LQ_root {N : Nat} (par : Nat → Int) (k : Nat) (e : par k < 0) : LQ N par k (rtsQ par k ++ [k]) = LQ N par (k + 1) (rtsQ par (k + 1)) := by
  funext p
  by_cases h2 : p = N
  · subst h2; rw [LQ_q, LQ_q, rtsQ_in e]
  · rw [LQ_c _ _ _ h2, LQ_c _ _ _ h2, chsQ_out (by omega)]
theorem rtsQ_le (par : Nat → Int) (k : Nat) : (rtsQ par k).length ≤ k := by
  have := List.length_filter_le (fun v => decide (par v < 0)) (List.range k)
  simpa [rtsQ] using this
theorem chsQ_le (par : Nat → Int) (p k : Nat) : (chsQ par p k).length ≤ k := by
  have := List.length_filter_le (fun v => decide (par v = (p : Int))) (List.range k)
  simpa [chsQ] using this
/-- The blocks of depths. -/
structure DB (w : World) (bc bd B N : Nat) (cv : Nat → Value) (par : Nat → Int) (k : Nat) (q : List Nat) (D : Nat → Int) : Prop where
  hc : Blk w bc 30 (arv N cv)
  hd : Blk w bd 3 (ari N D)
  hf : Fam w 3 B (N + 1) cv (LQ N par k q)
  cb : bc < B
  db : bd < B
section
variable {w w' : World} {bc bd B N : Nat} {cv : Nat → Value} {par : Nat → Int} {k : Nat} {q : List Nat} {D : Nat → Int}
theorem DB.cd (h : DB w bc bd B N cv par k q D) : bc ≠ bd := h.hc.ne_ h.hd (by decide)
theorem DB.drewN (h : DB w bc bd B N cv par k q D) (j : Nat) : DB (w.drewN j) bc bd B N cv par k q D :=
  ⟨h.hc.drewN j, h.hd.drewN j, h.hf.fr ((Fr.refl [] w).drewN j) (by simp), h.cb, h.db⟩
theorem DB.setD (h : DB w bc bd B N cv par k q D) (i : Nat) (v : Int) : DB (w.setCell ⟨bd, i, none⟩ (.int .i64 v)) bc bd B N cv par k q (updi D i v) :=
  ⟨h.hc.far (p := ⟨bd, i, none⟩) h.cd _, h.hd.setInti i v, h.hf.fr (S := [bd]) ((Fr.refl [bd] w).setCell (p := ⟨bd, i, none⟩) (.inl (by simp)) _) (by simpa using h.db), h.cb, h.db⟩
theorem own1_snoc {L : List Nat} {x : Nat} {E B : Nat} {v : Value} (h : w.ownsRow B E 1 v (L.length + 1) (nts L ++ (#[Value.int .i64 (x : Int)] : Array Value).toList)) : w.ownsRow B E 1 v (L ++ [x]).length (nts (L ++ [x])) := by
  rw [nts_snoc, List.length_append]; exact h
/-- The queue gets one more. -/
theorem DB.push (h : DB w bc bd B N cv par k q D) {x : Nat} {v' : Value} (hown : w'.ownsRow B 3 1 v' (q.length + 1) (nts q ++ (#[Value.int .i64 (x : Int)] : Array Value).toList)) (hg : w.grownBy w' (cv N).ownBlock)
    (hat : v'.ownBlock = (cv N).ownBlock ∨ v'.ownBlock = some (w.heap.size + 1)) : DB w' bc bd B N (updW cv N v') par k (q ++ [x]) D := by
  have hcn : ∀ b, (cv N).ownBlock = some b → B ≤ b := fun b e => (h.hf.lt (i := N) (by omega) e).1
  have hne : ∀ b, b < B → (cv N).ownBlock ≠ some b := fun b hb e => by have := hcn b e; omega
  refine ⟨?_, h.hd.grown hg (hne _ h.db), ?_, h.cb, h.db⟩
  · have e : arv N (updW cv N v') = arv N cv := arv_congr fun i hi => by unfold updW; rw [if_neg (by omega)]
    rw [e]; exact h.hc.grown hg (hne _ h.cb)
  · have h1 := h.hf.app (i := N) (x := x) (v' := v') (w' := w') (by omega) (by rw [LQ_q]; exact own1_snoc hown) hg (hat.imp id fun e => ⟨_, by omega, e⟩)
    rw [LQ_q, LQ_push] at h1
    exact h1
/-- A node gets one child more. -/
theorem DB.child (h : DB w bc bd B N cv par k q D) {z : Nat} (hz : z < N) (e : par k = (z : Int)) {v' : Value} (hown : w'.ownsRow B 3 1 v' ((chsQ par z k).length + 1) (nts (chsQ par z k) ++ (#[Value.int .i64 (k : Int)] : Array Value).toList)) (hg : w.grownBy w' (cv z).ownBlock)
    (hat : v'.ownBlock = (cv z).ownBlock ∨ v'.ownBlock = some (w.heap.size + 1)) : DB (w'.setCell ⟨bc, z, none⟩ v') bc bd B N (updW cv z v') par (k + 1) q D := by
  have hcn : ∀ b, (cv z).ownBlock = some b → B ≤ b := fun b e => (h.hf.lt (i := z) (by omega) e).1
  have hne : ∀ b, b < B → (cv z).ownBlock ≠ some b := fun b hb e => by have := hcn b e; omega
  have h0 : LQ N par k q z = chsQ par z k := LQ_c par k q (by omega)
  refine ⟨?_, (h.hd.grown hg (hne _ h.db)).far (p := ⟨bc, z, none⟩) h.cd.symm _, ?_, h.cb, h.db⟩
  · have := (h.hc.grown hg (hne _ h.cb)).set_ z v'
    rwa [arv_set] at this
  · have h1 := h.hf.app (i := z) (x := k) (v' := v') (w' := w') (by omega) (by rw [h0]; exact own1_snoc hown) hg (hat.imp id fun e => ⟨_, by omega, e⟩)
    rw [LQ_child par k z q hz e] at h1
    exact h1.fr (S := [bc]) ((Fr.refl [bc] w').setCell (p := ⟨bc, z, none⟩) (.inl (by simp)) _) (by simpa using h.cb)
theorem DB.congrK (h : DB w bc bd B N cv par k q D) {k' : Nat} {q' : List Nat} (e : LQ N par k q = LQ N par k' q') : DB w bc bd B N cv par k' q' D :=
  ⟨h.hc, h.hd, by have := h.hf; rwa [e] at this, h.cb, h.db⟩
theorem DB.row (h : DB w bc bd B N cv par k q D) {z : Nat} (hz : z < N) : w.ownsRow B 3 1 (cv z) (chsQ par z k).length (nts (chsQ par z k)) := by
  have := h.hf.own z (by omega)
  rwa [LQ_c par k q (by omega)] at this
theorem DB.queue (h : DB w bc bd B N cv par k q D) : w.ownsRow B 3 1 (cv N) q.length (nts q) := by
  have := h.hf.own N (by omega)
  rwa [LQ_q] at this
end
end Go.Proofs.YtoomcgmbaogjbaaDoor
namespace Go.Proofs.YtoomcgmbaogjbaaDoor
open Go.RowKit
set_option linter.unusedVariables false

theorem updW_same (f : Nat → Value) (i : Nat) (v : Value) : updW f i v i = v := if_pos rfl
theorem dp_rts {N : Nat} {par : Nat → Int} (h : Tr N par) : ∀ x ∈ rtsQ par N, (0 : Int) = (dp N par x : Int) := fun x hx => by
  have hx' := rtsQ_mem.1 hx
  rw [dp_root h hx'.1 (by
    rcases h x hx'.1 with e | ⟨z, e, -⟩
    · exact e
    · have := hx'.2; omega)]; rfl
theorem updW_ne {f : Nat → Value} {i j : Nat} {v : Value} (h : j ≠ i) : updW f i v j = f j := if_neg h
set_option maxRecDepth 100000 in
set_option maxHeartbeats 4000000 in
theorem lftDepths (w : World) (bp N : Nat) (par : Nat → Int) (h : Blk w bp 3 (ari N par)) (ht : Tr N par) (hN : N ≤ 8192) :
    Calls Tryd.prog 27 #[.slice (some ⟨bp, 0, none⟩) N N] w fun e w' => ∃ bd, e = .returned (.tuple #[.slice (some ⟨bd, 0, none⟩) N N, .bool true]) ∧ w.heap.size ≤ bd ∧ Blk w' bd 3 (ari N fun x => (dp N par x : Int)) ∧ Below w.heap.size w w' := by
  obtain ⟨i0, hi, hz0, hz1, hz2⟩ := info_parts int_info0
  obtain ⟨i1, ki, kz0, kz1, kz2⟩ := info_parts ints_info0
  have hmk1 : ∀ W, _ := fun W => run_make_ints 30 3 i0 Tryd.underlying30 hi hz0 hz1 hz2 N (by omega) W
  have hmk2 := fun W : World => run_make (P := Tryd.prog) W 97 30 i1 _ Tryd.underlying97 ki kz0 .i64 .i64 (N : Int) (N : Int) (by omega) (by omega) (by rw [kz2]; omega) (by omega)
  rw [kz1] at hmk2
  have en : ((N : Int)).toNat = N := by omega
  simp only [en, Nat.mul_one] at hmk2
  have hmk3 : ∀ W : World, (Instr.makeSlice 97 (.int .i64 (N : Int)) (.int .i64 (N : Int))).run Tryd.prog W = .ok (.slice (some ⟨W.heap.size, 0, none⟩) N N) (W.alloc (.cells (arv N fun _ => .slice none 0 0) 30)) := fun W => by
    rw [hmk2 W, ← made_arv]; rfl
  have H := hide h
  have HT := hide ht
  have hd0 : DB ((w.alloc (.cells (arv N fun _ => .slice none 0 0) 30)).alloc (.cells (ari N fun _ => 0) 3)) w.heap.size (w.heap.size + 1) (w.heap.size + 2) N (fun _ => .slice none 0 0) par 0 [] (fun _ => 0) := by
    have e : LQ N par 0 [] = fun _ => [] := by
      funext p; unfold LQ; split
      · rfl
      · rfl
    refine ⟨(Blk.new _ _ _).alloc _, ?_, ?_, by omega, by omega⟩
    · have := Blk.new (w.alloc (.cells (arv N fun _ => .slice none 0 0) 30)) 3 (ari N fun _ => 0)
      simpa using this
    · rw [e]; exact Fam.start _ _ _ _
  have HD0 := hide hd0
  have HB0 := hide (((Below.refl w.heap.size w).alloc (Nat.le_refl _) (.cells (arv N fun _ => .slice none 0 0) 30)).alloc (by simp) (.cells (ari N fun _ => 0) 3))
  have hpw := h.lt
  clear h ht hmk2 en ki kz0 kz1 kz2 hd0
  go_enter Tryd.func27, Tryd.ntmps27
  go_wp2_with fail
  go_loopg [22, 7] N (fun gh s V wr => ∃ (k : Nat) (cv : Nat → Value), k + gh = N ∧ s = .int .i64 (k : Int) ∧ V = cv N ∧ DB wr w.heap.size (w.heap.size + 1) (w.heap.size + 2) N cv par k (rtsQ par k) (fun _ => 0) ∧ Below w.heap.size w wr)
  case atStart => exact ⟨0, _, by omega, rfl, rfl, HD0.out, HB0.out⟩
  case round =>
  obtain ⟨k, cv, hk, rfl, rfl, hd, hb⟩ := hrel
  have HK := hide hk
  have HD := hide hd
  have HB := hide hb
  have hkn : k ≤ N := by omega
  have hszr : w.heap.size + 2 ≤ wr.heap.size := by
    have := hd.hd.lt
    omega
  clear hk hd hb HD0 HB0 hmk1 hmk3
  generalize hbc : w.heap.size = bc at *
  have HBC := hide hbc
  clear hbc
  by_cases hlt : k < N
  · have c0 : wr.cell? ⟨bp, k, none⟩ = some (.int .i64 (par k)) := (HB.out.cell (p := ⟨bp, k, none⟩) hpw).trans (H.out.inti hlt)
    rcases HT.out k hlt with hp | ⟨z, hp, hkz, hzN⟩
    · have hp0 : par k < 0 := by omega
      have HLR := hide (LQ_root (N := N) par k hp0)
      have hpl : par k = -1 := hp
      rw [hp] at c0
      clear hp0 hpl hp
      have hqo := HD.out.queue
      have HQ := hide hqo
      have hlq := rtsQ_le par k
      clear hqo
      go_wp2_with (at_builtin; refine app_one 30 3 Tryd.underlying30 hi hz0 hz1 hz2 rfl (by decide) wr #[.int .i64 (k : Int)] rfl (by simp [Value.oneCell']) rfl _ _ rfl (bc + 2) _ (rtsQ par k).length (nts (rtsQ par k)) rfl HQ.out rfl (by have : maxLen = 9223372036854775807 := rfl; omega) (by omega) hszr ?_; intro v' w5 hown5 hg5 hat5 hb5; have HO5 := hide hown5; have HG5 := hide hg5; have HA5 := hide hat5; have HB5 := hide hb5; clear hown5 hg5 hat5 hb5)
      go_roundg (N - (k + 1))
      case measure => have := HK.out; omega
      case rel =>
        have h1 := HD.out.push HO5.out HG5.out HA5.out
        exact ⟨k + 1, updW cv N v', by omega, by go_num, (updW_same _ _ _).symm, h1.congrK HLR.out, HB.out.trans (HB5.out.mono (by omega))⟩
    · have HLR := hide (rtsQ_out (par := par) (k := k) (by omega))
      have HP := hide hp
      rw [hp] at c0
      clear hp
      have HQ := hide (HD.out.row hzN)
      have cz : wr.cell? ⟨bc, z, none⟩ = some (cv z) := (HD.out.hc.cell z).trans (arv_get cv hzN)
      have hlq := chsQ_le par z k
      have hcz : (cv z).ownBlock ≠ some bc := fun e => by
        have := (HD.out.hf.lt (i := z) (by omega) e).1
        omega
      have HCZ := hide hcz
      clear hcz
      go_wp2_with (at_builtin; refine app_one 30 3 Tryd.underlying30 hi hz0 hz1 hz2 rfl (by decide) wr #[.int .i64 (k : Int)] rfl (by simp [Value.oneCell']) rfl _ _ rfl (bc + 2) _ (chsQ par z k).length (nts (chsQ par z k)) rfl HQ.out rfl (by have : maxLen = 9223372036854775807 := rfl; omega) (by omega) hszr ?_; intro v' w5 hown5 hg5 hat5 hb5; have HO5 := hide hown5; have HG5 := hide hg5; have HA5 := hide hat5; have HB5 := hide hb5; have c5 := ((HD.out.hc.grown hg5 HCZ.out).cell z).trans (arv_get cv hzN); have z5 := (HD.out.hc.grown hg5 HCZ.out).frozen z; obtain ⟨A5, c5', rfl, -⟩ := own_form hown5; clear hown5 hg5 hat5 hb5)
      go_roundg (N - (k + 1))
      case measure => have := HK.out; omega
      case rel =>
        have h1 := HD.out.child hzN HP.out HO5.out HG5.out HA5.out
        refine ⟨k + 1, updW cv z _, by omega, by go_num, (updW_ne (by omega)).symm, by rw [HLR.out]; exact h1, (HB.out.trans (HB5.out.mono (by omega))).setCell (p := ⟨bc, z, none⟩) (Nat.le_refl _) _⟩
  · obtain rfl : k = N := by omega
    go_wp2_with fail
    have HD1 := HD
    have HB1 := HB
    clear HD HB HK
    obtain ⟨wo, rfl⟩ : ∃ wo : World, wo = wr := ⟨_, rfl⟩
    go_loopg [10, 7] k (fun gh s V wr => ∃ (a : Nat) (cv : Nat → Value) (q : List Nat) (D : Nat → Int), a + gh = k ∧ s = .int .i64 (a : Int) ∧ V = cv k ∧ DB wr bc (bc + 1) (bc + 2) k cv par k q D ∧ Qm k par a 0 q ∧ (∀ x ∈ q, D x = (dp k par x : Int)) ∧ a ≤ q.length ∧ Below bc w wr)
    case atStart => exact ⟨0, cv, rtsQ par k, _, by omega, rfl, rfl, HD1.out, Qm.start, dp_rts HT.out, by omega, HB1.out⟩
    case round =>
    clear HD1 HB1 hszr
    obtain ⟨a, cv, q, D, ha, rfl, rfl, hd, hq, hD, haq, hb⟩ := hrel
    clear wo
    have hqu := hq.qu (.inl rfl)
    have hql := hqu.len HT.out
    have HA := hide ha
    have HD := hide hd
    have HQ := hide hq
    have HDP := hide hD
    have HB := hide hb
    have hszr : bc + 2 ≤ wr.heap.size := by
      have := hd.hd.lt
      omega
    obtain ⟨A, c, hV, hr, -⟩ := own_form hd.queue
    clear ha hd hq hD hb hlt
    rw [hV]
    by_cases hlt : a < q.length
    · obtain ⟨b, o, rfl, hbl, hcell⟩ := hr.2 (by omega)
      have c0 : wr.cell? ⟨b, o + a, none⟩ = some (.int .i64 (q[a] : Int)) := hcell a _ (by simp [nts, hlt])
      have hv : q[a] < k := hqu.lt (List.getElem_mem hlt)
      have HV := hide (List.getElem?_eq_getElem hlt)
      generalize q[a] = v at *
      obtain ⟨A2, c2, hV2, hr2, -⟩ := own_form (HD.out.row hv)
      have c1 : wr.cell? ⟨bc, v, none⟩ = some (.slice A2 (chsQ par v k).length c2) := (HD.out.hc.cell v).trans ((arv_get cv hv).trans (by rw [hV2]))
      have HV2 := hide hV2
      have HV1 := hide hV
      have hcl := chsQ_le par v k
      clear hcell hr hr2 hqu hV2 hV
      go_wp2_with fail
      obtain ⟨wo, rfl⟩ : ∃ wo : World, wo = wr := ⟨_, rfl⟩
      have HD1 := HD
      have HB1 := HB
      have HQ1 := HQ
      have HDP1 := HDP
      clear HD HB HQ HDP
      go_loopg [59, 7] (chsQ par v k).length (fun gh s V wr => ∃ (i : Nat) (cv' : Nat → Value) (q' : List Nat) (D' : Nat → Int), i + gh = (chsQ par v k).length ∧ s = .int .i64 (i : Int) ∧ V = cv' k ∧ cv' v = .slice A2 (chsQ par v k).length c2 ∧ DB wr bc (bc + 1) (bc + 2) k cv' par k q' D' ∧ Qm k par a i q' ∧ (∀ x ∈ q', D' x = (dp k par x : Int)) ∧ q'[a]? = some v ∧ Below bc w wr)
      case atStart => exact ⟨0, cv, q, D, by omega, rfl, HV1.out.symm, HV2.out, HD1.out, HQ1.out, HDP1.out, HV.out, HB1.out⟩
      case round =>
      clear HD1 HB1 HQ1 HDP1 HV1 HV2 hszr c0 c1 HV hql haq hlt hbl
      obtain ⟨i, cv', q', D', hi', rfl, rfl, hcv, hd, hq, hD, hqa, hb⟩ := hrel
      have hal : a < q'.length := (List.getElem?_eq_some_iff.1 hqa).1
      have hav : q'[a] = v := (List.getElem?_eq_some_iff.1 hqa).2
      have hqu := hq.qu (.inr hal)
      have hql := hqu.len HT.out
      have HI := hide hi'
      have HD := hide hd
      have HQ := hide hq
      have HDP := hide hD
      have HB := hide hb
      have HQA := hide hqa
      have HCV := hide hcv
      have hvm : v ∈ q' := by rw [← hav]; exact List.getElem_mem hal
      have dv : D' v = (dp k par v : Int) := hD v hvm
      have hdl := dp_le HT.out hv
      have hszr : bc + 2 ≤ wr.heap.size := by
        have := hd.hd.lt
        omega
      have hrow := hd.row hv
      rw [hcv] at hrow
      obtain ⟨A3, c3, e3, hr3, -⟩ := own_form hrow
      injection e3 with e3 _ e4
      subst e3
      subst e4
      obtain ⟨A4, c4, hV4, -, -⟩ := own_form hd.queue
      have hil2 : i ≤ (chsQ par v k).length := by omega
      by_cases hlt : i < (chsQ par v k).length
      · obtain ⟨b2, o2, rfl, hbl2, hcell2⟩ := hr3.2 (by omega)
        have hx : (chsQ par v k)[i]? = some ((chsQ par v k)[i]) := List.getElem?_eq_getElem hlt
        have c0 : wr.cell? ⟨b2, o2 + i, none⟩ = some (.int .i64 ((chsQ par v k)[i] : Int)) := hcell2 i _ (by simp [nts, hlt])
        have hxm := chsQ_mem.1 (List.getElem_mem hlt)
        generalize (chsQ par v k)[i] = x at *
        obtain ⟨hxk, hpx⟩ := hxm
        have hdx : (dp k par x : Int) = (dp k par v : Int) + 1 := by rw [dp_up HT.out hxk hpx]; omega
        have HX := hide hx
        have HDX := hide hdx
        have c1 : wr.cell? ⟨bc + 1, v, none⟩ = some (.int .i64 (dp k par v : Int)) := (hd.hd.inti hv).trans (by rw [dv])
        have c2' : wr.cell? ⟨bc + 1, x, none⟩ = some (.int .i64 (D' x)) := hd.hd.inti hxk
        have z1 : wr.frozen? ⟨bc + 1, x, none⟩ = false := hd.hd.frozen x
        have ew : IntKind.i64.wrap ((dp k par v : Int) + 1) = (dp k par v : Int) + 1 := IntWalk.i64_in _ (by omega)
        have hV4' := hV4
        rw [hV4]
        have HV4 := hide hV4
        have HDS := hide (hd.setD x ((dp k par v : Int) + 1))
        have HBS := hide (hb.setCell (p := ⟨bc + 1, x, none⟩) (by show bc ≤ bc + 1; omega) (.int .i64 ((dp k par v : Int) + 1)))
        have hszs : bc + 2 ≤ (wr.setCell ⟨bc + 1, x, none⟩ (.int .i64 ((dp k par v : Int) + 1))).heap.size := by simpa [World.setCell] using hszr
        have hqo := HDS.out.queue
        rw [hV4'] at hqo
        have HQO := hide hqo
        clear hi' hd hq hD hb hqa hcv hvm dv hrow hr3 hV4 hcell2 hx hdx hpx hqu hav hqo hV4'
        go_wp2_with (at_builtin; refine app_one 30 3 Tryd.underlying30 hi hz0 hz1 hz2 rfl (by decide) (wr.setCell ⟨bc + 1, x, none⟩ (.int .i64 ((dp k par v : Int) + 1))) #[.int .i64 (x : Int)] rfl (by simp [Value.oneCell']) rfl _ _ rfl (bc + 2) _ q'.length (nts q') rfl HQO.out (by rw [setCell_size]; rfl) (by have : maxLen = 9223372036854775807 := rfl; omega) (by omega) hszs ?_; intro v' w5 hown5 hg5 hat5 hb5; have HO5 := hide hown5; have HG5 := hide hg5; have HA5 := hide hat5; have HB5 := hide hb5; clear hown5 hg5 hat5 hb5)
        go_roundg ((chsQ par v k).length - (i + 1))
        case measure => have := HI.out; omega
        case rel =>
          have h1 := HDS.out.push HO5.out (by rw [HV4.out]; exact HG5.out) (by rw [HV4.out]; exact HA5.out)
          refine ⟨i + 1, updW cv' k v', q' ++ [x], _, by omega, by go_num, (updW_same _ _ _).symm, (updW_ne (by omega)).trans HCV.out, h1, ?_, fun y hy => ?_, ?_, HBS.out.trans (HB5.out.mono (by omega))⟩
          · exact HQ.out.child hal (by rw [(List.getElem?_eq_some_iff.1 HQA.out).2]; exact HX.out)
          · by_cases e : y = x
            · rw [e, HDX.out]; simp [updi]
            · rcases List.mem_append.1 hy with h | h
              · show (if y = x then _ else D' y) = _
                rw [if_neg e]; exact HDP.out y h
              · exact absurd (by simpa using h) e
          · rw [List.getElem?_append_left hal]; exact HQA.out
      · obtain rfl : i = (chsQ par v k).length := by omega
        clear hi' hd hq hD hb hqa hcv hvm dv hrow hr3 hqu hdl
        rw [hV4]
        have HV4 := hide hV4
        clear hV4
        go_wp2_with fail
        go_roundg (k - (a + 1))
        case measure => have := HA.out; omega
        case rel =>
          exact ⟨a + 1, cv', q', D', by have := HA.out; omega, by go_num, HV4.out.symm, HD.out, HQ.out.next hal (by rw [(List.getElem?_eq_some_iff.1 HQA.out).2]; exact Nat.le_refl _), HDP.out, hal, HB.out⟩
    · obtain rfl : a = q.length := by omega
      have hfull := HQ.out.full HT.out
      have hall := fun x hx => HQ.out.all HT.out (x := x) hx
      have HE := hide (ari_congr (n := k) (f := D) (h := fun x => (dp k par x : Int)) fun i hi => HDP.out i (hall i hi))
      clear hr hqu hall hV
      rw [hfull]
      clear hfull hql haq hlt
      go_wp2_with fail
      go_ret2
      rw [HBC.out]
      refine ⟨_, rfl, by omega, ?_, HB.out⟩
      have := HD.out.hd
      rwa [HE.out] at this
end Go.Proofs.YtoomcgmbaogjbaaDoor
namespace Go.Proofs.YtoomcgmbaogjbaaDoor
open Go.RowKit
set_option linter.unusedVariables false

/-- The cells of a table. -/
def tce (bd N : Nat) (js : Nat → Value) : Array Value := #[.bool true, .slice (some ⟨bd, 0, none⟩) N N] ++ arv 13 js
theorem tce_0 (bd N : Nat) (js : Nat → Value) : (tce bd N js)[0]? = some (.bool true) := by
  unfold tce
  rw [Array.getElem?_append_left (by simp)]; rfl
theorem tce_1 (bd N : Nat) (js : Nat → Value) : (tce bd N js)[1]? = some (.slice (some ⟨bd, 0, none⟩) N N) := by
  unfold tce
  rw [Array.getElem?_append_left (by simp)]; rfl
theorem tce_j {bd N j : Nat} (js : Nat → Value) (h : j < 13) : (tce bd N js)[2 + j]? = some (js j) := by
  unfold tce
  rw [Array.getElem?_append_right (by simp)]
  simp [arv_get js h]
theorem tce_set (bd N : Nat) (js : Nat → Value) (j : Nat) (v : Value) : (tce bd N js).setIfInBounds (2 + j) v = tce bd N (updW js j v) := by
  unfold tce
  rw [← arv_set]
  apply Array.ext_getElem?
  intro i
  rw [Array.getElem?_setIfInBounds]
  by_cases h : i < 2
  · rw [if_neg (by omega), Array.getElem?_append_left (by simpa using h), Array.getElem?_append_left (by simpa using h)]
  · obtain ⟨k, rfl⟩ : ∃ k, i = 2 + k := ⟨i - 2, by omega⟩
    rw [Array.getElem?_append_right (by simp), Array.getElem?_append_right (by simp), Array.getElem?_setIfInBounds]
    simp
theorem tce_new (bd N : Nat) : tce bd N (fun _ => .slice none 0 0) = #[.bool true, .slice (some ⟨bd, 0, none⟩) N N, .slice none 0 0, .slice none 0 0, .slice none 0 0, .slice none 0 0, .slice none 0 0, .slice none 0 0, .slice none 0 0, .slice none 0 0, .slice none 0 0, .slice none 0 0, .slice none 0 0, .slice none 0 0, .slice none 0 0] := rfl
theorem tce_congr {bd N : Nat} {f g : Nat → Value} (e : ∀ i, i < 13 → f i = g i) : tce bd N f = tce bd N g := by unfold tce; rw [arv_congr e]
def jsl (N : Nat) (bj : Nat → Nat) (k : Nat) : Nat → Value := fun i => if i < k then .slice (some ⟨bj i, 0, none⟩) N N else .slice none 0 0
theorem jsl_step (N : Nat) (bj : Nat → Nat) (k X : Nat) : updW (jsl N bj k) k (.slice (some ⟨X, 0, none⟩) N N) = jsl N (upd bj k X) (k + 1) := by
  funext i
  unfold updW jsl
  by_cases h : i = k
  · subst h; rw [if_pos rfl, if_pos (by omega), upd_same]
  · rw [if_neg h, upd_other _ _ h]
    by_cases h2 : i < k
    · rw [if_pos h2, if_pos (by omega)]
    · rw [if_neg h2, if_neg (by omega)]
/-- Row j of the jumps on its way. -/
def pj (par : Nat → Int) (j v : Nat) : Nat → Int := fun x => if x < v then anI par (2 ^ j) (x : Int) else 0
theorem pj_succ (par : Nat → Int) (j v : Nat) : updi (pj par j v) v (anI par (2 ^ j) (v : Int)) = pj par j (v + 1) := by
  funext i
  unfold updi pj
  by_cases h : i = v
  · subst h; rw [if_pos rfl, if_pos (by omega)]
  · rw [if_neg h]
    by_cases h2 : i < v
    · rw [if_pos h2, if_pos (by omega)]
    · rw [if_neg h2, if_neg (by omega)]
theorem anI_nat {N : Nat} {par : Nat → Int} (h : Tr N par) {x : Nat} (hx : x < N) (k : Nat) : anI par k (x : Int) = -1 ∨ ∃ y : Nat, anI par k (x : Int) = (y : Int) ∧ y < N := by
  rcases Nat.lt_or_ge (dp N par x) k with hk | hk
  · exact .inl (anI_gt h hx hk)
  · obtain ⟨y, e, hy, -⟩ := anI_le h hx k hk
    exact .inr ⟨y, e, hy⟩
/-- The table on its way: kg of 13 rows are made, k stand. -/
structure TT (w : World) (g bd B N : Nat) (par : Nat → Int) (bj : Nat → Nat) (kg k : Nat) : Prop where
  hg : Blk w g 87 (tce bd N (jsl N bj kg))
  hd : Blk w bd 3 (ari N fun x => (dp N par x : Int))
  hj : ∀ i, i < k → B ≤ bj i ∧ Blk w (bj i) 3 (ari N fun x => anI par (2 ^ i) (x : Int))
  gb : B ≤ g
  db : B ≤ bd
section
variable {w w' : World} {g bd B N : Nat} {par : Nat → Int} {bj : Nat → Nat} {kg k : Nat}
theorem TT.fr {S : List Nat} (h : TT w g bd B N par bj kg k) (f : Fr S w w') (hg : g ∉ S) (hd : bd ∉ S) (hj : ∀ i, i < k → bj i ∉ S) : TT w' g bd B N par bj kg k :=
  ⟨h.hg.fr f hg, h.hd.fr f hd, fun i hi => ⟨(h.hj i hi).1, (h.hj i hi).2.fr f (hj i hi)⟩, h.gb, h.db⟩
theorem TT.below {X : Nat} (h : TT w g bd B N par bj kg k) (f : Below X w w') (hX : w.heap.size ≤ X) : TT w' g bd B N par bj kg k :=
  ⟨h.hg.below f (by have := h.hg.lt; omega), h.hd.below f (by have := h.hd.lt; omega), fun i hi => ⟨(h.hj i hi).1, (h.hj i hi).2.below f (by have := (h.hj i hi).2.lt; omega)⟩, h.gb, h.db⟩
theorem TT.drewN (h : TT w g bd B N par bj kg k) (m : Nat) : TT (w.drewN m) g bd B N par bj kg k := h.fr ((Fr.refl [] w).drewN m) (by simp) (by simp) (by simp)
theorem TT.mono (h : TT w g bd B N par bj kg k) {B' : Nat} (hB : B' ≤ B) : TT w g bd B' N par bj kg k :=
  ⟨h.hg, h.hd, fun i hi => ⟨Nat.le_trans hB (h.hj i hi).1, (h.hj i hi).2⟩, Nat.le_trans hB h.gb, Nat.le_trans hB h.db⟩
theorem TT.c0 (h : TT w g bd B N par bj kg k) : w.cell? ⟨g, 0, none⟩ = some (.bool true) := h.hg.get 0 _ (tce_0 _ _ _)
theorem TT.c1 (h : TT w g bd B N par bj kg k) : w.cell? ⟨g, 1, none⟩ = some (.slice (some ⟨bd, 0, none⟩) N N) := h.hg.get 1 _ (tce_1 _ _ _)
theorem TT.cj (h : TT w g bd B N par bj kg k) {j : Nat} (hj : j < kg) (h13 : j < 13) : w.cell? ⟨g, 2 + j, none⟩ = some (.slice (some ⟨bj j, 0, none⟩) N N) := h.hg.get (2 + j) _ ((tce_j _ h13).trans (by unfold jsl; rw [if_pos hj]))
theorem TT.dep (h : TT w g bd B N par bj kg k) {x : Nat} (hx : x < N) : w.cell? ⟨bd, x, none⟩ = some (.int .i64 (dp N par x : Int)) := h.hd.inti hx
theorem TT.jmp (h : TT w g bd B N par bj kg k) {j x : Nat} (hj : j < k) (hx : x < N) : w.cell? ⟨bj j, x, none⟩ = some (.int .i64 (anI par (2 ^ j) (x : Int))) := (h.hj j hj).2.inti hx
theorem TT.sep (h : TT w g bd B N par bj kg k) {X : Nat} (hX : w.heap.size ≤ X) : g ∉ [X] ∧ bd ∉ [X] ∧ ∀ i, i < k → bj i ∉ [X] := by
  have h1 := h.hg.lt
  have h2 := h.hd.lt
  refine ⟨by simp; omega, by simp; omega, fun i hi => ?_⟩
  have := (h.hj i hi).2.lt
  simp; omega
/-- A new row is hung into the table. -/
theorem TT.hang (h : TT w g bd B N par bj k k) (c : Array Value) (E : TypeId) : TT ((w.setCell ⟨g, 2 + k, none⟩ (.slice (some ⟨w.heap.size, 0, none⟩) N N)).alloc (.cells c E)) g bd B N par (upd bj k w.heap.size) (k + 1) k := by
  have hne : ∀ i, i < k → bj i ≠ g := fun i hi e => (h.hj i hi).2.ne_ h.hg (by decide) e
  have hf : Fr [g] w ((w.setCell ⟨g, 2 + k, none⟩ (.slice (some ⟨w.heap.size, 0, none⟩) N N)).alloc (.cells c E)) := ((Fr.refl [g] w).setCell (p := ⟨g, 2 + k, none⟩) (.inl (by simp)) _).alloc _
  refine ⟨?_, h.hd.fr hf (by simpa using h.hd.ne_ h.hg (by decide)), fun i hi => ?_, h.gb, h.db⟩
  · have := h.hg.set_ (2 + k) (.slice (some ⟨w.heap.size, 0, none⟩) N N)
    rw [tce_set, jsl_step] at this
    exact this.alloc _
  · rw [upd_other _ _ (by omega)]
    exact ⟨(h.hj i hi).1, (h.hj i hi).2.fr hf (by simpa using hne i hi)⟩
/-- The row stands. -/
theorem TT.done (h : TT w g bd B N par bj (k + 1) k) (hX : B ≤ bj k) (hr : Blk w (bj k) 3 (ari N (pj par k N))) : TT w g bd B N par bj (k + 1) (k + 1) := by
  refine ⟨h.hg, h.hd, fun i hi => ?_, h.gb, h.db⟩
  by_cases e : i = k
  · subst e
    refine ⟨hX, ?_⟩
    rwa [ari_congr (h := fun x => anI par (2 ^ i) (x : Int)) (fun x hx => by unfold pj; rw [if_pos hx])] at hr
  · exact h.hj i (by omega)
end
end Go.Proofs.YtoomcgmbaogjbaaDoor
namespace Go.Proofs.YtoomcgmbaogjbaaDoor
open Go.RowKit
set_option linter.unusedVariables false

set_option maxRecDepth 100000 in
set_option maxHeartbeats 4000000 in
theorem lftNew (w : World) (bp N : Nat) (par : Nat → Int) (h : Blk w bp 3 (ari N par)) (ht : Tr N par) (hN : N ≤ 8192) :
    Calls Tryd.prog 13 #[.slice (some ⟨bp, 0, none⟩) N N] w fun e w' => ∃ (g bd : Nat) (bj : Nat → Nat), e = .returned (.tuple #[.pointer (some ⟨g, 0, none⟩), .int .i64 0]) ∧ TT w' g bd w.heap.size N par bj 13 13 ∧ Below w.heap.size w w' := by
  obtain ⟨i0, hi, hz0, hz1, hz2⟩ := info_parts int_info0
  have hmk1 : ∀ W, _ := fun W => run_make_ints 30 3 i0 Tryd.underlying30 hi hz0 hz1 hz2 N (by omega) W
  have HDE := hide (lftDepths w bp N par h ht hN)
  have H := hide h
  have HT := hide ht
  have hpw := h.lt
  have hN8 : (N : Int) ≤ 8192 := by omega
  have HMK := hide hmk1
  clear h ht hi hz0 hz1 hz2 hmk1
  go_enter Tryd.func13, Tryd.ntmps13
  go_wp2_with fail
  go_loopg [19] N (fun gh s wr => ∃ k : Nat, k + gh = N ∧ s = .int .i64 (k : Int) ∧ wr = w)
  case atStart => exact ⟨0, by omega, rfl, rfl⟩
  case round =>
  obtain ⟨k, hk, rfl, rfl⟩ := hrel
  have HK := hide hk
  have hkn : k ≤ N := by omega
  clear hk
  by_cases hlt : k < N
  · have c0 : wr.cell? ⟨bp, k, none⟩ = some (.int .i64 (par k)) := H.out.inti hlt
    have p1 : ¬ par k < -1 := by
      rcases HT.out k hlt with e | ⟨z, e, -⟩ <;> omega
    have p2 : ¬ (N : Int) ≤ par k := by
      rcases HT.out k hlt with e | ⟨z, e, -, hz⟩ <;> omega
    generalize par k = p at *
    go_wp2_with fail
    go_roundg (N - (k + 1))
    case measure => have := HK.out; omega
    case rel => exact ⟨k + 1, by omega, by go_num, rfl⟩
  · obtain rfl : k = N := by omega
    clear HK hlt hkn
    obtain ⟨w, rfl⟩ : ∃ w : World, w = wr := ⟨_, rfl⟩
    go_wp2_with fail
    refine HDE.out.mono ?_
    rintro e w1 ⟨bd, rfl, hbd, hd, hb⟩
    have ht0 : TT (w1.alloc (.cells (tce bd k (jsl k (fun _ => 0) 0)) 87)) w1.heap.size bd w.heap.size k par (fun _ => 0) 0 0 :=
      ⟨Blk.new _ _ _, hd.alloc _, fun i hi => by omega, hb.size, hbd⟩
    have et : tce bd k (jsl k (fun _ => 0) 0) = #[.bool true, .slice (some ⟨bd, 0, none⟩) k k, .slice none 0 0, .slice none 0 0, .slice none 0 0, .slice none 0 0, .slice none 0 0, .slice none 0 0, .slice none 0 0, .slice none 0 0, .slice none 0 0, .slice none 0 0, .slice none 0 0, .slice none 0 0, .slice none 0 0] := by
      rw [← tce_new]; exact tce_congr fun i _ => by unfold jsl; rw [if_neg (by omega)]
    have hb0 := hb.alloc hb.size (.cells (tce bd k (jsl k (fun _ => 0) 0)) 87)
    rw [et] at ht0 hb0
    have HT0 := hide ht0
    have HB0 := hide hb0
    clear ht0 hb0 et hd hb hbd HDE
    go_wp2_with fail
    generalize w1.heap.size = g at *
    go_loopg [41] 13 (fun gh s wr => ∃ (j : Nat) (bj : Nat → Nat), j + gh = 13 ∧ s = .int .i64 (j : Int) ∧ TT wr g bd w.heap.size k par bj j j ∧ Below w.heap.size w wr)
    case atStart => exact ⟨0, _, by omega, rfl, HT0.out, HB0.out⟩
    case round =>
    obtain ⟨j, bj, hj, rfl, ht, hb⟩ := hrel
    have HJ := hide hj
    have HTT := hide ht
    have HB := hide hb
    have hj13 : j ≤ 13 := by omega
    clear hj ht hb HT0 HB0
    by_cases hlt : j < 13
    · have hmk := HMK.out
      have cj := HTT.out.hg.get (2 + j) _ (tce_j (jsl k bj j) hlt)
      have ej : jsl k bj j j = .slice none 0 0 := if_neg (by omega)
      rw [ej] at cj
      have zj := HTT.out.hg.frozen (2 + j)
      have hgl := HTT.out.hg.lt
      have cj' : (wr.alloc (.cells (arr k fun _ => 0) 3)).cell? ⟨g, 2 + j, none⟩ = some (.slice none 0 0) := ((HTT.out.hg.alloc _).cell _).trans ((tce_j (jsl k bj j) hlt).trans (by rw [ej]))
      have zj' : (wr.alloc (.cells (arr k fun _ => 0) 3)).frozen? ⟨g, 2 + j, none⟩ = false := (HTT.out.hg.alloc _).frozen (2 + j)
      have hj' : (j : Int) < 13 := by omega
      obtain ⟨wo, rfl⟩ : ∃ wo : World, wo = wr := ⟨_, rfl⟩
      clear ej
      go_upto_region 17 with fail
      go_region
      have ht2 : TT ((wo.setCell ⟨g, 2 + j, none⟩ (.slice (some ⟨wo.heap.size, 0, none⟩) k k)).alloc (.cells (arr k fun _ => 0) 3)).drew g bd w.heap.size k par (upd bj j wo.heap.size) (j + 1) j := (HTT.out.hang _ _).drewN 1
      have hx2 : Blk ((wo.setCell ⟨g, 2 + j, none⟩ (.slice (some ⟨wo.heap.size, 0, none⟩) k k)).alloc (.cells (arr k fun _ => 0) 3)).drew wo.heap.size 3 (ari k (pj par j 0)) := by
        have e : arr k (fun _ => 0) = ari k (pj par j 0) := by rw [arr_ari]; exact ari_congr fun i _ => by unfold pj; rw [if_neg (by omega)]; rfl
        rw [← e]
        have := (Blk.new (wo.setCell ⟨g, 2 + j, none⟩ (.slice (some ⟨wo.heap.size, 0, none⟩) k k)) 3 (arr k fun _ => 0)).drew
        rwa [setCell_size] at this
      have hb2 : Below w.heap.size w ((wo.setCell ⟨g, 2 + j, none⟩ (.slice (some ⟨wo.heap.size, 0, none⟩) k k)).alloc (.cells (arr k fun _ => 0) 3)).drew :=
        ((HB.out.setCell (p := ⟨g, 2 + j, none⟩) HTT.out.gb _).alloc (by simpa using HB.out.size) _).drewN 1
      have hsep : g ∉ [wo.heap.size] ∧ bd ∉ [wo.heap.size] ∧ ∀ i, i < j → upd bj j wo.heap.size i ∉ [wo.heap.size] := by
        obtain ⟨a1, a2, a3⟩ := HTT.out.sep (Nat.le_refl _)
        exact ⟨a1, a2, fun i hi => by rw [upd_other _ _ (by omega)]; exact a3 i hi⟩
      have hX0 : w.heap.size ≤ wo.heap.size := HB.out.size
      have hXe : upd bj j wo.heap.size j = wo.heap.size := upd_same _ _ _
      clear hmk cj zj cj' zj' hgl HTT HB
      generalize ((wo.setCell ⟨g, 2 + j, none⟩ (.slice (some ⟨wo.heap.size, 0, none⟩) k k)).alloc (.cells (arr k fun _ => 0) 3)).drew = w2 at *
      generalize upd bj j wo.heap.size = bj2 at *
      generalize wo.heap.size = X at *
      have HT2 := hide ht2
      have HX2 := hide hx2
      have HB2 := hide hb2
      have HSP := hide hsep
      have HXE := hide hXe
      clear ht2 hx2 hb2 hsep hXe
      go_wp2_with fail
      go_loopg [52] k (fun gh s wr => ∃ v : Nat, v + gh = k ∧ s = .int .i64 (v : Int) ∧ TT wr g bd w.heap.size k par bj2 (j + 1) j ∧ Blk wr X 3 (ari k (pj par j v)) ∧ Below w.heap.size w wr)
      case atStart => exact ⟨0, by omega, rfl, HT2.out, HX2.out, HB2.out⟩
      case round =>
      obtain ⟨v, hv, rfl, ht, hx, hb⟩ := hrel
      have HV := hide hv
      have HTT := hide ht
      have HX := hide hx
      have HB := hide hb
      have hvk : v ≤ k := by omega
      clear hv ht hx hb HT2 HX2 HB2
      by_cases hlv : v < k
      · have cg : wr.cell? ⟨g, 2 + j, none⟩ = some (.slice (some ⟨X, 0, none⟩) k k) := by
          have := HTT.out.cj (j := j) (by omega) hlt
          rwa [HXE.out] at this
        have cx : wr.cell? ⟨X, v, none⟩ = some (.int .i64 (pj par j v v)) := HX.out.inti hlv
        have zx : wr.frozen? ⟨X, v, none⟩ = false := HX.out.frozen v
        have hgX : g ≠ X := by have := HSP.out.1; simpa using this
        have hgX' := hgX.symm
        by_cases hj0 : j = 0
        · have hje : ((j : Int) == 0) = true := by simp [hj0]
          have cp : wr.cell? ⟨bp, v, none⟩ = some (.int .i64 (anI par (2 ^ j) (v : Int))) := by
            refine (HB.out.cell (p := ⟨bp, v, none⟩) hpw).trans ((H.out.inti hlv).trans ?_)
            rw [hj0, show anI par (2 ^ 0) (v : Int) = up1 par (v : Int) from rfl, up1_nat]
          clear hj0
          have HN := hide (pj_succ par j v)
          generalize anI par (2 ^ j) (v : Int) = y at *
          go_wp2_with fail
          go_region
          go_wp2_with fail
          go_roundg (k - (v + 1))
          case measure => have := HV.out; omega
          case rel =>
            refine ⟨v + 1, by omega, by go_num, ?_, ?_, (HB.out.setCell (p := ⟨X, v, none⟩) hX0 _).drewN 1⟩
            · exact HTT.out.fr (((Fr.refl [X] wr).setCell (p := ⟨X, v, none⟩) (.inl (by simp)) _).drewN 1) HSP.out.1 HSP.out.2.1 HSP.out.2.2
            · have := (HX.out.setInti v y).drewN 1
              rw [HN.out] at this
              exact this
        · obtain ⟨J, hJ⟩ : ∃ J, j = J + 1 := ⟨j - 1, by omega⟩
          have hje : ((j : Int) == 0) = false := by simpa using hj0
          have eJ : IntKind.i64.wrap ((j : Int) - 1) = (J : Int) := by rw [IntWalk.i64_in _ (by omega)]; omega
          have cgJ : wr.cell? ⟨g, 2 + J, none⟩ = some (.slice (some ⟨bj2 J, 0, none⟩) k k) := HTT.out.cj (by omega) (by omega)
          have cJv : wr.cell? ⟨bj2 J, v, none⟩ = some (.int .i64 (anI par (2 ^ J) (v : Int))) := HTT.out.jmp (by omega) hlv
          have hJ13 : (J : Int) < 13 := by omega
          have htwo : anI par (2 ^ j) (v : Int) = anI par (2 ^ J) (anI par (2 ^ J) (v : Int)) := by rw [hJ, anI_two]
          have HN := hide (pj_succ par j v)
          rw [htwo] at HN
          rcases anI_nat HT.out hlv (2 ^ J) with ey | ⟨y, ey, hy⟩
          · rw [ey, anI_neg] at HN
            rw [ey] at cJv
            clear ey htwo hJ hj0
            go_wp2_with fail
            go_roundg (k - (v + 1))
            case measure => have := HV.out; omega
            case rel =>
              refine ⟨v + 1, by omega, by go_num, ?_, ?_, HB.out.setCell (p := ⟨X, v, none⟩) hX0 _⟩
              · exact HTT.out.fr ((Fr.refl [X] wr).setCell (p := ⟨X, v, none⟩) (.inl (by simp)) _) HSP.out.1 HSP.out.2.1 HSP.out.2.2
              · have := HX.out.setInti v (-1)
                rw [HN.out] at this
                exact this
          · have cJy : wr.cell? ⟨bj2 J, y, none⟩ = some (.int .i64 (anI par (2 ^ J) (y : Int))) := HTT.out.jmp (by omega) hy
            rw [ey] at HN
            rw [ey] at cJv
            clear ey htwo hJ hj0
            generalize anI par (2 ^ J) (y : Int) = z at *
            go_wp2_with fail
            go_roundg (k - (v + 1))
            case measure => have := HV.out; omega
            case rel =>
              refine ⟨v + 1, by omega, by go_num, ?_, ?_, HB.out.setCell (p := ⟨X, v, none⟩) hX0 _⟩
              · exact HTT.out.fr ((Fr.refl [X] wr).setCell (p := ⟨X, v, none⟩) (.inl (by simp)) _) HSP.out.1 HSP.out.2.1 HSP.out.2.2
              · have := HX.out.setInti v z
                rw [HN.out] at this
                exact this
      · obtain rfl : v = k := by omega
        go_wp2_with fail
        go_roundg (13 - (j + 1))
        case measure => have := HJ.out; omega
        case rel => exact ⟨j + 1, bj2, by omega, by go_num, HTT.out.done (by rw [HXE.out]; exact hX0) (by rw [HXE.out]; exact HX.out), HB.out⟩
    · obtain rfl : j = 13 := by omega
      go_wp2_with fail
      go_ret2
      exact ⟨g, bd, bj, rfl, HTT.out, HB.out⟩
end Go.Proofs.YtoomcgmbaogjbaaDoor
