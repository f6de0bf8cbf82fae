import Derived.Test.YtcngfjmfgeckmaaZ11g
set_option linter.unusedSimpArgs false
set_option linter.unusedVariables false
set_option linter.unusedSectionVars false
namespace Go.Proofs.Ytcngfjmfgeckmaa
open Go
section
variable {B : Bas} {cx : Cx} {st : St} {L : Lay} {Es : List Env} {E : Env} {h : Heap} {n : Nat} {α : Type} {y : α} {g : Pg}
def Bas.ext (B : Bas) (G1 : Heap) : Bas := { B with G := G1, X := fun r i => B.X r i ∨ B.G i ≠ G1 i, H := fun i => B.H i ∧ G1 i ≠ none, HG := fun _ hi => hi.2 }
def orH (G F : Heap) : Heap := fun i => match G i with
  | some b => some b
  | none => F i
theorem orH_sub {G F h : Heap} (h1 : G.Sub h) (h2 : F.Sub h) : (orH G F).Sub h := fun i b hb => by
  unfold orH at hb
  split at hb
  · rename_i b' hg; cases hb; exact h1 i _ hg
  · exact h2 i b hb
theorem orH_l {G F : Heap} : G.Sub (orH G F) := fun i b hb => by unfold orH; rw [hb]
theorem orH_r {G F h : Heap} (h1 : G.Sub h) (h2 : F.Sub h) : F.Sub (orH G F) := fun i b hb => by
  unfold orH
  split
  · rename_i b' hg
    have := h1 i _ hg
    rw [h2 i b hb] at this
    exact this.symm
  · exact hb
theorem orH_eq {G F : Heap} {i : Nat} (hF : F i = none) : orH G F i = G i := by
  unfold orH
  split
  · rename_i b hg; exact hg.symm
  · rename_i hg; rw [hF, hg]
theorem Gam.more (H : Gam B cx st L Es E h n) : Gam (B.ext (orH B.G L.F)) cx st L Es E h n :=
  ⟨H.f0, H.fh, orH_sub H.gh H.fh, H.fr, H.rh, fun i b hb => ⟨(H.fnew i b hb).1, fun hq => (H.fnew i b hb).2 hq.1⟩, H.hlt, H.nn, H.th, H.lowT, H.ap, fun r ρ i hr hi => by
    obtain ⟨q1, q2, q3, q4, q5⟩ := H.ftF r ρ i hr hi
    have e := orH_eq (G := B.G) q1
    exact ⟨q1, q2, q3, fun hl => e.trans (q4 hl), fun hl => ⟨fun hx => hx.elim (q5 hl).1 fun hne => hne e.symm, e.trans (q5 hl).2⟩⟩,
    H.ftR, H.ftC, H.env, H.env0, H.frs, H.dj, H.frl, H.mcl, H.nd, H.lkd, H.lkc⟩
theorem Gam.hide (H : Gam B cx st L Es E h n) {R0 : Roots} (hR : ∀ r x, lkp R0 r = some x → lkp cx.roots0 r = some x ∧ B.lk r) :
    Gam B ⟨cx.env0, R0, cx.frames⟩ ⟨st.env, [], st.nx + 1, st.nx⟩ { L with R := newR (fun r => lkp R0 r) L.ft (orH B.G L.F) } Es E (orH B.G L.F) n := by
  have rt : rootOf ⟨cx.env0, R0, cx.frames⟩ ⟨st.env, [], st.nx + 1, st.nx⟩ = fun r => lkp R0 r := by funext r; rw [rootOf_jn]; rfl
  have of : ∀ r x, lkp R0 r = some x → rootOf cx st r = some x ∧ B.lk r := fun r x hx => by
    obtain ⟨h1, h2⟩ := hR r x hx
    refine ⟨?_, h2⟩
    rw [rootOf_jn]
    cases hq : lkp st.roots r with
    | none => rw [h1]; rfl
    | some z => exact absurd h2 (H.lkd r (.inl ⟨z, hq⟩))
  have hsub : (orH B.G L.F).Sub h := orH_sub H.gh H.fh
  have fsub : L.F.Sub (orH B.G L.F) := orH_r H.gh H.fh
  have foot : ∀ r x, lkp R0 r = some x → ∀ i, L.ft r i → orH B.G L.F i = h i := fun r x hx i hi => by
    obtain ⟨q1, _, _, _, q5⟩ := H.ftF r x i (of r x hx).1 hi
    exact (orH_eq q1).trans (q5 (of r x hx).2).2
  have T : Tr st.nx L { L with R := newR (fun r => lkp R0 r) L.ft (orH B.G L.F) } (rootOf cx st) (fun r => lkp R0 r) st.mc st.nx h (orH B.G L.F) :=
    ⟨fun _ _ hb => hb, fun hq => absurd hq (Nat.lt_irrefl _), fun r v w s md hl t xs hr _ _ => ⟨w, s, md, hl, xs, (of r _ hr).1, rfl, rfl, fun _ => ⟨rfl, rfl⟩, fun _ => ⟨rfl, fun i o a _ _ hc => by
      generalize hA : L.A r = A at hc
      cases A with
      | sl w' id off ln lo ex =>
        have : orH B.G L.F id = h id := by
          rcases RowOk.idIn (H.th r _ (of r _ hr).1) hA with hq | ⟨b, hq⟩
          · exact foot r _ hr _ hq
          · rw [fsub _ _ hq, H.fh _ _ hq]
        simp only [cellAt] at hc ⊢
        rw [this]; exact hc
      | _ => exact hc⟩⟩, fun c cs hr _ => ⟨cs, (of c _ hr).1, rfl, rfl⟩, fun _ _ => rfl⟩
  refine ⟨H.f0, fsub, orH_l, fun i b hb => ?_, fun i b hb => ?_, H.fnew, fun i b hb => H.hlt i b (hsub i b hb), H.nn, fun r x hx => ?_, fun r x hx => ?_, fun r r' x x' i h1 h2 h3 h4 => ?_, fun r x i hx hi => ?_, fun r v w s md hl t xs i hx hi => ?_, fun r cs i hx hi => ?_, fun t v hv => ?_, fun t v hv => ?_, fun i fr E' h1 h2 t v hv => ?_, H.dj, H.frl, Nat.lt_succ_self _, .nil, fun r hr => ?_, fun r x x0 h1 => (by cases h1)⟩
  · show newR _ _ _ _ = _
    unfold newR
    rw [if_neg]
    · exact fsub i b hb
    · rintro ⟨r, cs, k1, k2⟩
      have := (H.ftF r _ i (of r _ k1).1 k2).1
      rw [this] at hb; cases hb
  · have hb' : newR (fun r => lkp R0 r) L.ft (orH B.G L.F) i = some b := hb
    unfold newR at hb'
    split at hb'
    · cases hb'
    · exact hb'
  · rw [rt] at hx ⊢
    exact ThOk.keep T rfl rfl rfl (foot r x hx) (H.lowT r x (of r x hx).1).2 (H.th r x (of r x hx).1)
  · rw [rt] at hx
    have := H.lowT r x (of r x hx).1
    exact ⟨Nat.lt_succ_of_lt this.1, Root.low_mono (Nat.le_succ _) this.2⟩
  · rw [rt] at h1 h2
    exact H.ap r r' x x' i (of r x h1).1 (of r' x' h2).1 h3 h4
  · rw [rt] at hx
    obtain ⟨q1, q2, q3, _, q5⟩ := H.ftF r x i (of r x hx).1 hi
    exact ⟨q1, q2, q3, fun hl => absurd (of r x hx).2 hl, fun hl => ⟨(q5 hl).1, (q5 hl).2.trans (foot r x hx i hi).symm⟩⟩
  · rw [rt] at hx
    show newR _ _ _ _ = _
    unfold newR
    rw [if_neg]
    rintro ⟨r', cs, k1, k2⟩
    obtain rfl := H.ap r r' _ _ i (of r _ hx).1 (of r' _ k1).1 hi k2
    have hx' : lkp R0 r = some _ := hx
    have k1' : lkp R0 r = some (.cell cs) := k1
    rw [hx'] at k1'; cases k1'
  · rw [rt] at hx
    show newR _ _ _ _ = _
    unfold newR
    rw [if_pos ⟨r, cs, hx, hi⟩]
  · rw [rt]
    have := H.env t v hv
    exact ⟨this.1.tr T this.2, lowN_mono (Nat.le_succ _) v this.2⟩
  · rw [rt]
    have := H.env0 t v hv
    exact ⟨this.1.tr T this.2, lowN_mono (Nat.le_succ _) v this.2⟩
  · rw [rt]
    have := H.frs i fr E' h1 h2 t v hv
    exact ⟨this.1.tr T this.2, lowN_mono (Nat.le_succ _) v this.2⟩
  · rcases hr with ⟨x, hx⟩ | hr
    · cases hx
    · exact H.lkd r (.inr (Nat.le_of_succ_le hr))
theorem evS_hide (cx : Cx) (st : St) (R0 ρ : Roots) (nx mc : Nat) (x : Operand) : evS ⟨cx.env0, R0, cx.frames⟩ ⟨st.env, ρ, nx, mc⟩ x = evS cx st x := by cases x <;> rfl
theorem someB_iff {o : Option Unit} (h : someB o = true) : o = some () := by
  cases o with
  | none => cases h
  | some u => rfl
theorem hidL_ok {L' : Lay} (H : Gam B cx st L' Es E h n) {v : SV} {a : AV} (hv : TV L' (rootOf cx st) st.mc h v a) (hh : hidL cx st v = true) : ∃ s l, rdSl h s a = some l := by
  have gen : someB (asL cx st v fun _ _ _ => some ()) = true → ∃ s l, rdSl h s a = some l := fun hq => by
    obtain ⟨c, t, xs, q1, q2⟩ := H.asL hv (someB_iff hq)
    obtain ⟨es, r1, _⟩ := (H.readR q2).rd H.rh
    exact ⟨_, _, r1⟩
  unfold hidL at hh
  split at hh
  · rw [nil_inv hv]; exact ⟨0, [], rfl⟩
  · exact gen hh
theorem hidS_ok (H : Gam B cx st L Es E h n) {R0 : Roots} (hR : ∀ r x, lkp R0 r = some x → lkp cx.roots0 r = some x ∧ B.lk r) {op : Op} (hh : hidS op R0 cx st = true) : readsIn op (ev E) (orH B.G L.F) := by
  have H' := H.hide hR
  have hev := fun x => by have := H'.ev x; rw [evS_hide] at this; exact this
  cases op <;> simp only [hidS, Bool.false_eq_true] at hh <;> simp only [readsIn]
  case load t a =>
    obtain ⟨cs, off, _, o0, w, s, i, l, e, q1, q2, _⟩ := H'.derefK (hev a).1 (hev a).2 (someB_iff hh)
    exact ⟨w, s, i, _, l, q1, q2⟩
  case indexAddr t x ix => exact hidL_ok H' (hev x).1 hh
  case convert s d x =>
    have hx := hev x
    generalize evS cx st x = v at hh hx
    cases v with
    | int k m => exact .inl ⟨k, m, int_inv hx.1⟩
    | _ => exact .inr (hidL_ok H' hx.1 hh)
  case call c =>
    intro x hx
    rw [hx] at hh
    simp only at hh
    have hx := hev x
    generalize evS cx st x = v at hh hx
    cases v with
    | str b => exact .inl ⟨b, str_inv hx.1⟩
    | _ => exact .inr (hidL_ok H' hx.1 hh)
end
end Go.Proofs.Ytcngfjmfgeckmaa
namespace Go.Proofs.Ytcngfjmfgeckmaa
open Go
section
variable {B : Bas} {L L2 : Lay} {Es : List Env} {E E2 : Env} {h h2 : Heap} {n n2 : Nat} {α : Type} {y : α} {g : Pg}
variable {env0 env env2 : SEnv} {roots0 ρ ρ2 : Roots} {frames : List SEnv} {nx mc nx2 mc2 : Nat} {W : List Nat}
theorem lkp_ownW (W : List Nat) : ∀ (ρ : Roots) (r : Nat), lkp (ownW W ρ) r = if r ∈ W then lkp ρ r else none
  | [], r => by simp [ownW, lkp]
  | (a, x) :: l, r => by
    have ih := lkp_ownW W l r
    simp only [ownW]
    cases hb : hasN W a with
    | true =>
      have ha := hasN_iff.1 hb
      rw [cond_true, lkp_cons, lkp_cons, ih]
      by_cases hq : r = a
      · subst hq; rw [if_pos rfl, if_pos rfl, if_pos ha]
      · rw [if_neg hq, if_neg hq]
    | false =>
      have ha : ¬ a ∈ W := fun hq => by rw [hasN_iff.2 hq] at hb; cases hb
      rw [cond_false, ih, lkp_cons]
      by_cases hq : r = a
      · subst hq; rw [if_neg ha, if_neg ha]
      · rw [if_neg hq]
theorem lkp_restW (W : List Nat) : ∀ (ρ : Roots) (r : Nat), lkp (restW W ρ) r = if r ∈ W then none else lkp ρ r
  | [], r => by simp [restW, lkp]
  | (a, x) :: l, r => by
    have ih := lkp_restW W l r
    simp only [restW]
    cases hb : hasN W a with
    | true =>
      have ha := hasN_iff.1 hb
      rw [cond_true, ih, lkp_cons]
      by_cases hq : r = a
      · subst hq; rw [if_pos ha, if_pos ha]
      · rw [if_neg hq]
    | false =>
      have ha : ¬ a ∈ W := fun hq => by rw [hasN_iff.2 hq] at hb; cases hb
      rw [cond_false, lkp_cons, lkp_cons, ih]
      by_cases hq : r = a
      · subst hq; rw [if_pos rfl, if_pos rfl, if_neg ha]
      · rw [if_neg hq, if_neg hq]
theorem ownW_keys (W : List Nat) : ∀ (ρ : Roots), (∀ a, a ∈ (ownW W ρ).map Prod.fst → a ∈ ρ.map Prod.fst) ∧ ((ρ.map Prod.fst).Nodup → ((ownW W ρ).map Prod.fst).Nodup)
  | [] => by simp [ownW]
  | (r, x) :: l => by
    obtain ⟨i1, i2⟩ := ownW_keys W l
    simp only [ownW]
    cases hasN W r with
    | true =>
      refine ⟨fun a ha => ?_, fun hn => ?_⟩
      · simp only [cond_true, List.map_cons, List.mem_cons] at ha ⊢
        exact ha.imp id (i1 a)
      · simp only [cond_true, List.map_cons, List.nodup_cons] at hn ⊢
        exact ⟨fun hm => hn.1 (i1 r hm), i2 hn.2⟩
    | false =>
      refine ⟨fun a ha => ?_, fun hn => ?_⟩
      · simp only [List.map_cons, List.mem_cons]; exact .inr (i1 a ha)
      · simp only [List.map_cons, List.nodup_cons] at hn; exact i2 hn.2
theorem restW_keys (W : List Nat) : ∀ (ρ : Roots), (∀ a, a ∈ (restW W ρ).map Prod.fst → a ∈ ρ.map Prod.fst) ∧ ((ρ.map Prod.fst).Nodup → ((restW W ρ).map Prod.fst).Nodup)
  | [] => by simp [restW]
  | (r, x) :: l => by
    obtain ⟨i1, i2⟩ := restW_keys W l
    simp only [restW]
    cases hasN W r with
    | false =>
      refine ⟨fun a ha => ?_, fun hn => ?_⟩
      · simp only [cond_false, List.map_cons, List.mem_cons] at ha ⊢
        exact ha.imp id (i1 a)
      · simp only [cond_false, List.map_cons, List.nodup_cons] at hn ⊢
        exact ⟨fun hm => hn.1 (i1 r hm), i2 hn.2⟩
    | true =>
      refine ⟨fun a ha => ?_, fun hn => ?_⟩
      · simp only [List.map_cons, List.mem_cons]; exact .inr (i1 a ha)
      · simp only [List.map_cons, List.nodup_cons] at hn; exact i2 hn.2
theorem noneOf_iff {ρ : Roots} : ∀ {l : Roots}, noneOf ρ l = true → ∀ r x, lkp l r = some x → lkp ρ r = none
  | (a, b) :: l, hn, r, x, hx => by
    simp only [noneOf, Bool.and_eq_true] at hn
    rw [lkp_cons] at hx
    split at hx
    · rename_i hq
      subst hq
      have := hn.1
      split at this
      · cases this
      · assumption
    · exact noneOf_iff hn.2 r x hx
theorem lkp_lockR (hnd : (ρ.map Prod.fst).Nodup) (r : Nat) : lkp (fixedR [] roots0 (restW W ρ) ++ roots0) r = if r ∈ W then lkp roots0 r else jnR (lkp ρ r) (lkp roots0 r) := by
  rw [lkp_app, lkp_fixedR [] _ _ ((restW_keys W ρ).2 hnd), lkp_restW]
  by_cases hw : r ∈ W
  · rw [if_pos hw, if_pos hw]; rfl
  · rw [if_neg hw, if_neg hw]
    cases hx : lkp ρ r with
    | none => rfl
    | some x =>
      simp only [Option.bind_some]
      rw [fixedOf_jn (show modeOf [] r ≠ RM.row by simp [modeOf])]
      cases hj : jnR (some x) (lkp roots0 r) with
      | none => cases x <;> cases hz : lkp roots0 r <;> rw [hz] at hj <;> first | cases hj | (rename_i y0; cases y0 <;> cases hj)
      | some z => rfl
theorem lockRoot (hnd : (ρ.map Prod.fst).Nodup) (hrow : ∀ r v w s md hl t xs, lkp ρ r = some (.row v w s md hl t xs) → lkp roots0 r = none) (r : Nat) (nx' mc' : Nat) (env' : SEnv) :
    rootOf ⟨env0, fixedR [] roots0 (restW W ρ) ++ roots0, frames⟩ ⟨env', ownW W ρ, nx', mc'⟩ r = rootOf ⟨env0, roots0, frames⟩ ⟨env, ρ, nx, mc⟩ r := by
  rw [rootOf_jn, rootOf_jn]
  simp only
  rw [lkp_ownW, lkp_lockR hnd]
  by_cases hw : r ∈ W
  · rw [if_pos hw, if_pos hw]
  · rw [if_neg hw, if_neg hw]
    cases jnR (lkp ρ r) (lkp roots0 r) with
    | none => rfl
    | some x => rfl
open Classical in
noncomputable def lockG (ρw : Roots) (ft : Nat → Nat → Prop) (h : Heap) : Heap := fun i => if ∃ r x, lkp ρw r = some x ∧ ft r i then none else h i
theorem lockG_in {ρw : Roots} {ft : Nat → Nat → Prop} {h : Heap} {i r : Nat} {x : Root} (h1 : lkp ρw r = some x) (h2 : ft r i) : lockG ρw ft h i = none := by
  unfold lockG; rw [if_pos ⟨r, x, h1, h2⟩]
theorem lockG_out {ρw : Roots} {ft : Nat → Nat → Prop} {h : Heap} {i : Nat} (h1 : ¬ ∃ r x, lkp ρw r = some x ∧ ft r i) : lockG ρw ft h i = h i := by
  unfold lockG; rw [if_neg h1]
theorem lockG_sub {ρw : Roots} {ft : Nat → Nat → Prop} {h : Heap} : (lockG ρw ft h).Sub h := fun i b hb => by
  unfold lockG at hb
  split at hb
  · cases hb
  · exact hb
noncomputable def Bas.lock (B : Bas) (ρw : Roots) (ft : Nat → Nat → Prop) (nx : Nat) (h : Heap) : Bas where
  F0 := B.F0
  n0 := B.n0
  G := lockG ρw ft h
  lk := fun r => lkp ρw r = none ∧ r < nx
  X := fun r i => B.lk r ∧ (B.X r i ∨ B.G i ≠ lockG ρw ft h i) ∨ ¬ B.lk r ∧ B.G i ≠ none
  H := fun i => B.H i ∧ lockG ρw ft h i ≠ none
  HG := fun _ hi => hi.2
theorem Gam.lock (H : Gam B ⟨env0, roots0, frames⟩ ⟨env, ρ, nx, mc⟩ L Es E h n) (W : List Nat) :
    Gam (B.lock (ownW W ρ) L.ft nx h) ⟨env0, fixedR [] roots0 (restW W ρ) ++ roots0, frames⟩ ⟨env, ownW W ρ, nx, mc⟩ L Es E h n := by
  have rt := lockRoot (env0 := env0) (frames := frames) (W := W) (env := env) (nx := nx) (mc := mc) H.nd (fun r v w s md hl t xs hx => H.row0 hx)
  have H1 : Gam B ⟨env0, fixedR [] roots0 (restW W ρ) ++ roots0, frames⟩ ⟨env, ownW W ρ, nx, mc⟩ L Es E h n := by
    refine H.same (fun r => rt r _ _ _) rfl rfl (fun t v hv => .inl hv) (fun t v hv => .inr hv) rfl H.dj ((ownW_keys W ρ).2 H.nd) (fun r x hx => fst_lkp ((ownW_keys W ρ).1 r (lkp_fst hx))) (fun r x x0 h1 h2 => ?_)
    simp only at h1 h2
    rw [lkp_ownW] at h1
    rw [lkp_lockR H.nd] at h2
    split at h1
    · rename_i hw
      rw [if_pos hw] at h2
      exact H.lkc r x x0 h1 h2
    · cases h1
  have root : ∀ r x, lkp (ownW W ρ) r = some x → ∃ x', rootOf ⟨env0, roots0, frames⟩ ⟨env, ρ, nx, mc⟩ r = some x' := fun r x hx => by
    rw [lkp_ownW] at hx
    split at hx
    · cases x with
      | row => exact ⟨_, lkp_root hx⟩
      | cell => exact ⟨_, rootOf_cell hx⟩
    · cases hx
  refine ⟨H1.f0, H1.fh, lockG_sub, H1.fr, H1.rh, fun i b hb => ⟨(H1.fnew i b hb).1, fun hq => (H1.fnew i b hb).2 hq.1⟩, H1.hlt, H1.nn, H1.th, H1.lowT, H1.ap, fun r x i hx hi => ?_, H1.ftR, H1.ftC, H1.env, H1.env0, H1.frs, H1.dj, H1.frl, H1.mcl, H1.nd, fun r hr => ?_, H1.lkc⟩
  · obtain ⟨q1, q2, q3, q4, q5⟩ := H1.ftF r x i hx hi
    refine ⟨q1, q2, q3, fun hl => ?_, fun hl => ?_⟩
    · have hlt := (H1.lowT r x hx).1
      have : ¬ lkp (ownW W ρ) r = none := fun hq => hl ⟨hq, hlt⟩
      cases hq : lkp (ownW W ρ) r with
      | none => exact absurd hq this
      | some z => exact lockG_in hq hi
    · have hne : ¬ ∃ r x, lkp (ownW W ρ) r = some x ∧ L.ft r i := fun ⟨r', x', k1, k2⟩ => by
        obtain ⟨x2, k3⟩ := root r' x' k1
        have hx' : rootOf ⟨env0, roots0, frames⟩ ⟨env, ρ, nx, mc⟩ r = some x := by rw [← rt r nx mc env]; exact hx
        obtain rfl := H.ap r r' x x2 i hx' k3 hi k2
        rw [hl.1] at k1; cases k1
      have hG : lockG (ownW W ρ) L.ft h i = h i := lockG_out hne
      refine ⟨fun hX => ?_, hG⟩
      rcases hX with ⟨k1, k2 | k2⟩ | ⟨k1, k2⟩
      · exact (q5 k1).1 k2
      · exact k2 (by rw [(q5 k1).2]; exact hG.symm)
      · exact k2 (q4 k1)
  · rintro ⟨k1, k2⟩
    rcases hr with ⟨x, hx⟩ | hr
    · have hx' : lkp (ownW W ρ) r = some x := hx
      rw [k1] at hx'; cases hx'
    · exact absurd k2 (Nat.not_lt.2 hr)
theorem Gam.unlock (H : Gam B ⟨env0, roots0, frames⟩ ⟨env, ρ, nx, mc⟩ L Es E h n) (H2 : Gam (B.lock (ownW W ρ) L.ft nx h) ⟨env0, fixedR [] roots0 (restW W ρ) ++ roots0, frames⟩ ⟨env2, ρ2, nx2, mc2⟩ L2 Es E2 h2 n2) (hno : noneOf (restW W ρ) ρ2 = true) :
    Gam B ⟨env0, roots0, frames⟩ ⟨env2, ρ2 ++ restW W ρ, nx2, mc2⟩ L2 Es E2 h2 n2 := by
  have no := noneOf_iff hno
  have rt : rootOf ⟨env0, roots0, frames⟩ ⟨env2, ρ2 ++ restW W ρ, nx2, mc2⟩ = rootOf ⟨env0, fixedR [] roots0 (restW W ρ) ++ roots0, frames⟩ ⟨env2, ρ2, nx2, mc2⟩ := by
    funext r
    rw [rootOf_jn, rootOf_jn]
    simp only
    rw [lkp_app, lkp_lockR H.nd, lkp_restW]
    by_cases hw : r ∈ W
    · simp only [if_pos hw]
      cases lkp ρ2 r <;> rfl
    · simp only [if_neg hw]
      cases hx : lkp ρ2 r with
      | some x =>
        have h0 := no r x hx
        rw [lkp_restW, if_neg hw] at h0
        rw [h0]
        cases lkp roots0 r <;> rfl
      | none =>
        cases hj : lkp ρ r with
        | none => cases lkp roots0 r <;> rfl
        | some x =>
          cases hq : jnR (some x) (lkp roots0 r) with
          | none => cases x <;> cases hz : lkp roots0 r <;> rw [hz] at hq <;> first | cases hq | (rename_i y0; cases y0 <;> cases hq)
          | some z => rfl
  have lkB : ∀ r, B.lk r → (B.lock (ownW W ρ) L.ft nx h).lk r := fun r hr => by
    refine ⟨?_, ?_⟩
    · cases hq : lkp (ownW W ρ) r with
      | none => rfl
      | some x => exact absurd hr (H.lkd r (.inl (fst_lkp ((ownW_keys W ρ).1 r (lkp_fst hq)))))
    · rcases Nat.lt_or_ge r nx with h1 | h1
      · exact h1
      · exact absurd hr (H.lkd r (.inr h1))
  have gsub : B.G.Sub (lockG (ownW W ρ) L.ft h) := fun i b hb => by
    rw [lockG_out]
    · exact H.gh i b hb
    · rintro ⟨r, x, k1, k2⟩
      have hk := k1
      rw [lkp_ownW] at hk
      split at hk
      · have : ∃ x', rootOf ⟨env0, roots0, frames⟩ ⟨env, ρ, nx, mc⟩ r = some x' := by
          cases x with
          | row => exact ⟨_, lkp_root hk⟩
          | cell => exact ⟨_, rootOf_cell hk⟩
        obtain ⟨x', hr⟩ := this
        have := (H.ftF r x' i hr k2).2.2.2.1 (H.lkd r (.inl ⟨x, hk⟩))
        rw [this] at hb; cases hb
      · cases hk
  refine ⟨H2.f0, H2.fh, fun i b hb => H2.gh i b (gsub i b hb), H2.fr, H2.rh, fun i b hb => ⟨(H2.fnew i b hb).1, fun hq => (H2.fnew i b hb).2 ⟨hq, fun hn => by
    cases hg : B.G i with
    | none => exact B.HG i hq hg
    | some c => rw [gsub i c hg] at hn; cases hn⟩⟩, H2.hlt, H2.nn, ?_, ?_, ?_, ?_, ?_, ?_, ?_, ?_, ?_, H2.dj, H2.frl, H2.mcl, ?_, ?_, ?_⟩
  · rw [rt]; exact H2.th
  · rw [rt]; exact H2.lowT
  · rw [rt]; exact H2.ap
  · rw [rt]
    intro r x i hx hi
    obtain ⟨q1, q2, q3, q4, q5⟩ := H2.ftF r x i hx hi
    refine ⟨q1, q2, q3, fun hl => ?_, fun hl => ?_⟩
    · by_cases hk : (B.lock (ownW W ρ) L.ft nx h).lk r
      · exact Classical.byContradiction fun hne => (q5 hk).1 (.inr ⟨hl, hne⟩)
      · have h1 := q4 hk
        cases hg : B.G i with
        | none => rfl
        | some b =>
          have h3 := gsub i b hg
          have h1' : lockG (ownW W ρ) L.ft h i = none := h1
          rw [h1'] at h3; cases h3
    · obtain ⟨k1, k2⟩ := q5 (lkB r hl)
      refine ⟨fun hX => k1 (.inl ⟨hl, .inl hX⟩), ?_⟩
      have : B.G i = lockG (ownW W ρ) L.ft h i := Classical.byContradiction fun hne => k1 (.inl ⟨hl, .inr hne⟩)
      exact this.trans k2
  · rw [rt]; exact H2.ftR
  · rw [rt]; exact H2.ftC
  · rw [rt]; exact H2.env
  · rw [rt]; exact H2.env0
  · rw [rt]; exact H2.frs
  · show ((ρ2 ++ restW W ρ).map Prod.fst).Nodup
    rw [List.map_append, List.nodup_append]
    refine ⟨H2.nd, (restW_keys W ρ).2 H.nd, fun a h1 b h3 hab => ?_⟩
    subst hab
    obtain ⟨x, hx⟩ := fst_lkp h1
    obtain ⟨z, hz⟩ := fst_lkp h3
    rw [no a x hx] at hz; cases hz
  · rintro r hr hl
    rcases hr with ⟨x, hx⟩ | hr
    · have hx' : lkp (ρ2 ++ restW W ρ) r = some x := hx
      rw [lkp_app] at hx'
      cases hq : lkp ρ2 r with
      | some z => exact H2.lkd r (.inl ⟨z, hq⟩) (lkB r hl)
      | none =>
        rw [hq] at hx'
        exact H.lkd r (.inl (fst_lkp ((restW_keys W ρ).1 r (lkp_fst hx')))) hl
    · exact H2.lkd r (.inr hr) (lkB r hl)
  · intro r x x0 h1 h3
    have h1' : lkp (ρ2 ++ restW W ρ) r = some x := h1
    rw [lkp_app] at h1'
    cases hq : lkp ρ2 r with
    | some z =>
      rw [hq] at h1'
      cases h1'
      have h0 := no r _ hq
      rw [lkp_restW] at h0
      refine H2.lkc r _ x0 hq ?_
      simp only
      rw [lkp_lockR H.nd]
      by_cases hw : r ∈ W
      · rw [if_pos hw]; exact h3
      · rw [if_neg hw] at h0 ⊢
        rw [h0]
        have h3' : lkp roots0 r = some x0 := h3
        rw [h3']; rfl
    | none =>
      rw [hq] at h1'
      have h1'' : lkp (restW W ρ) r = some x := h1'
      rw [lkp_restW] at h1''
      split at h1''
      · cases h1''
      · exact H.lkc r x x0 h1'' h3
end
end Go.Proofs.Ytcngfjmfgeckmaa
namespace Go.Proofs.Ytcngfjmfgeckmaa
open Go
section
variable {F F' h : Heap}
mutual
theorem OS.anyF : ∀ {v : SV} {a : AV} {I : Ids0}, OS F h v a I → OS F' h v a I
  | _, _, _, .int k x I hI => .int k x I hI
  | _, _, _, .bool b I hI => .bool b I hI
  | _, _, _, .str s I hI => .str s I hI
  | _, _, _, .nil I hI => .nil I hI
  | _, _, _, .rdn e t I hI => .rdn e t I hI
  | _, _, _, .emp e t I hI => .emp e t I hI
  | _, _, _, .sl e t xs id off lo ex b I J hb hle hlo hc hid hI => .sl e t xs id off lo ex b I J hb hle hlo (OE.anyF hc) hid hI
theorem OE.anyF : ∀ {t : PT} {xs : List t.den} {es : List AV} {I : Ids0}, OE F h t xs es I → OE F' h t xs es I
  | _, _, _, _, .nil t I hI => .nil t I hI
  | _, _, _, _, .cons t x xs e es I J K hg hc hl hd hI => .cons t x xs e es I J K hg (OC.anyF hc) (OE.anyF hl) hd hI
theorem OC.anyF : ∀ {vs : List SV} {asl : List AV} {I : Ids0}, OC F h vs asl I → OC F' h vs asl I
  | _, _, _, .nil I hI => .nil I hI
  | _, _, _, .cons v vs a asl I J K hv hl hd hI => .cons v vs a asl I J K (OS.anyF hv) (OC.anyF hl) hd hI
end
end
section
variable {B : Bas} {cx : Cx} {st : St} {L : Lay} {Es : List Env} {E : Env} {h : Heap} {n : Nat} {α : Type} {y : α}
open Classical in
theorem Gam.grow (H : Gam B cx st L Es E h n) {F' h' : Heap} {n' : Nat} (hn : n ≤ n') (hs : ∀ i, i < n → h' i = h i) (hlt : ∀ i b, h' i = some b → i < n') (F1 : L.F.Sub F') (F2 : F'.Sub h') (F3 : ∀ i b, F' i = some b → L.F i = some b ∨ n ≤ i) :
    Gam B cx st { L with F := F', R := fun i => if i < n then L.R i else h' i } Es E h' n' ∧
      ∀ v a, TV L (rootOf cx st) st.mc h v a → v.lowN st.nx = true → TV { L with F := F', R := fun i => if i < n then L.R i else h' i } (rootOf cx st) st.mc h' v a ∧ v.lowN st.nx = true := by
  refine H.step (X := fun _ => False) ?_ H.mcl (fun i b hb => ?_) (fun i b hb => ?_) (fun r v w s md hl t xs i hr hi => ?_) (fun r cs i hr hi => ?_) (fun _ => ⟨rfl, fun i b hb => ?_⟩) (fun _ _ hX => hX.elim)
  · exact {
      nx := Nat.le_refl _
      nn := hn
      env := rfl
      F := F1
      Fh := F2
      Fnew := fun i b hb => (F3 i b hb).imp id .inl
      fr := fun i hi => .inl (hs i hi)
      lt := hlt
      old := fun r _ => ⟨rfl, rfl, rfl, rfl⟩
      U := fun _ _ => rfl
      row := fun _ _ _ _ _ _ _ _ hX => hX.elim
      cell := fun _ _ hX => hX.elim
      low := fun _ _ hX => hX.elim
      ft := fun _ _ _ hX => hX.elim
      ap := fun _ _ _ _ _ hX => hX.elim
      nd := H.nd
      xk := fun _ hX => hX.elim
      key := fun r x hx => .inl ⟨x, hx⟩
      lkc := H.lkc }
  · show (if i < n then L.R i else h' i) = some b
    have hb' : F' i = some b := hb
    split
    · rcases F3 i b hb' with k | k
      · exact H.fr i b k
      · omega
    · exact F2 i b hb'
  · have hb' : (if i < n then L.R i else h' i) = some b := hb
    split at hb'
    · rename_i hi; rw [hs i hi]; exact H.rh i b hb'
    · exact hb'
  · show (if i < n then L.R i else h' i) = h' i
    have := (H.ftF r _ i hr hi).2.2.1
    rw [if_pos this, hs i this]
    exact H.ftR r v w s md hl t xs i hr hi
  · show (if i < n then L.R i else h' i) = none
    rw [if_pos (H.ftF r _ i hr hi).2.2.1]
    exact H.ftC r cs i hr hi
  · show (if i < n then L.R i else h' i) = some b
    rw [if_pos (H.hlt i b (H.rh i b hb))]; exact hb
def Free (B : Bas) (cx : Cx) (st : St) (L : Lay) (h : Heap) (n : Nat) (I : Ids0) : Prop :=
  ∀ i, I i → L.F i = none ∧ B.n0 ≤ i ∧ i < n ∧ B.G i = none ∧ L.R i = h i ∧ ∀ r ρ, rootOf cx st r = some ρ → ¬ L.ft r i
open Classical in
theorem Gam.addRow {env : SEnv} {ρ : Roots} {nx mc : Nat} (H : Gam B cx ⟨env, ρ, nx, mc⟩ L Es E h n) {t : PT} {xs : List t.den} {a : AV} {I : Ids0} (hO : OS L.F h (.rd false t xs) a I) (hI : Free B cx ⟨env, ρ, nx, mc⟩ L h n I) :
    ∃ L', Gam B cx ⟨env, (nx, .row nx nx nx .own none t xs) :: ρ, nx + 1, mc⟩ L' Es E h n ∧ TV L' (rootOf cx ⟨env, (nx, .row nx nx nx .own none t xs) :: ρ, nx + 1, mc⟩) mc h (.row nx nx) a ∧ L'.F = L.F ∧ L'.R = L.R ∧
      (∀ v a, TV L (rootOf cx ⟨env, ρ, nx, mc⟩) mc h v a → v.lowN nx = true → TV L' (rootOf cx ⟨env, (nx, .row nx nx nx .own none t xs) :: ρ, nx + 1, mc⟩) mc h v a ∧ v.lowN (nx + 1) = true) ∧ (L'.ft nx = I ∧ ∀ r, r ≠ nx → L'.ft r = L.ft r) ∧
      ∀ J, Free B cx ⟨env, ρ, nx, mc⟩ L h n J → (∀ i, I i → ¬ J i) → Free B cx ⟨env, (nx, .row nx nx nx .own none t xs) :: ρ, nx + 1, mc⟩ L' h n J := by
  have rt := fun r => rootOf_cons (nx' := nx + 1) (mc' := mc) H (.row nx nx nx .own none t xs) env r
  let L' : Lay := { L with A := fun r => if r = nx then a else L.A r, ft := fun r => if r = nx then I else L.ft r }
  have A0 : L'.A nx = a := if_pos rfl
  have A1 : ∀ r, r ≠ nx → L'.A r = L.A r := fun r hr => if_neg hr
  have f0 : L'.ft nx = I := if_pos rfl
  have f1 : ∀ r, r ≠ nx → L'.ft r = L.ft r := fun r hr => if_neg hr
  have T : Tr nx L L' (rootOf cx ⟨env, ρ, nx, mc⟩) (rootOf cx ⟨env, (nx, .row nx nx nx .own none t xs) :: ρ, nx + 1, mc⟩) mc mc h h :=
    ⟨fun _ _ hb => hb, fun _ => ⟨rfl, fun _ _ hb => hb⟩, fun r v w s md hl t' xs' hr h1 _ => by
      rw [rt, if_neg (by omega)] at hr
      exact ⟨w, s, md, hl, xs', hr, A1 r (by omega), rfl, fun _ => ⟨rfl, rfl⟩, fun _ => ⟨rfl, fun _ _ _ _ _ hc => hc⟩⟩, fun c cs hr h1 => by
      rw [rt, if_neg (by omega)] at hr
      exact ⟨cs, hr, rfl, rfl⟩, fun _ _ => rfl⟩
  have tv : ∀ v a, TV L (rootOf cx ⟨env, ρ, nx, mc⟩) mc h v a → v.lowN nx = true → TV L' (rootOf cx ⟨env, (nx, .row nx nx nx .own none t xs) :: ρ, nx + 1, mc⟩) mc h v a ∧ v.lowN (nx + 1) = true := fun v a hv hl => ⟨hv.tr T hl, lowN_mono (Nat.le_succ _) v hl⟩
  refine ⟨L', ⟨H.f0, H.fh, H.gh, H.fr, H.rh, H.fnew, H.hlt, H.nn, fun r ρ' hr => ?_, fun r ρ' hr => ?_, fun r r' ρ1 ρ2 i h1 h2 h3 h4 => ?_, fun r ρ' i hr hi => ?_, fun r v w s md hl t' xs' i hr hi => ?_, fun r cs i hr hi => ?_, fun t v hv => ?_, fun t v hv => ?_, fun j fr E' h1 h2 t v hv => ?_, H.dj, H.frl, Nat.lt_succ_of_lt H.mcl, H.cons_nd, fun r hr => ?_, cons_lkc H _⟩, ?_, rfl, rfl, tv, ⟨f0, f1⟩, fun J hJ hd i hi => ?_⟩
  · rw [rt] at hr
    split at hr
    · rename_i hq
      subst hq
      cases hr
      show OS L.F h (.rd false t xs) (L'.A r) (L'.ft r)
      rw [A0, f0]; exact hO
    · rename_i hq
      exact ThOk.keep T (A1 r hq) rfl (f1 r hq) (fun _ _ => rfl) (H.lowT r ρ' hr).2 (H.th r ρ' hr)
  · rw [rt] at hr
    split at hr
    · rename_i hq
      subst hq
      cases hr
      exact ⟨Nat.lt_succ_self _, Nat.lt_succ_self _, Nat.lt_succ_self _, Nat.lt_succ_self _, fun u o hq => by cases hq⟩
    · have := H.lowT r ρ' hr
      exact ⟨Nat.lt_succ_of_lt this.1, Root.low_mono (Nat.le_succ _) this.2⟩
  · rw [rt] at h1 h2
    split at h1
    · rename_i q1
      subst q1
      rw [f0] at h3
      split at h2
      · rename_i q2; exact q2.symm
      · rename_i q2
        rw [f1 _ q2] at h4
        exact absurd h4 ((hI i h3).2.2.2.2.2 r' ρ2 h2)
    · rename_i q1
      rw [f1 _ q1] at h3
      split at h2
      · rename_i q2
        subst q2
        rw [f0] at h4
        exact absurd h3 ((hI i h4).2.2.2.2.2 r ρ1 h1)
      · rename_i q2
        rw [f1 _ q2] at h4
        exact H.ap r r' ρ1 ρ2 i h1 h2 h3 h4
  · rw [rt] at hr
    split at hr
    · rename_i hq
      subst hq
      rw [f0] at hi
      obtain ⟨m1, m2, m3, m4, _⟩ := hI i hi
      exact ⟨m1, m2, m3, fun _ => m4, fun hk => absurd hk (H.lkd r (.inr (Nat.le_refl _)))⟩
    · rename_i hq
      rw [f1 _ hq] at hi
      exact H.ftF r ρ' i hr hi
  · rw [rt] at hr
    split at hr
    · rename_i hq
      subst hq
      rw [f0] at hi
      exact (hI i hi).2.2.2.2.1
    · rename_i hq
      rw [f1 _ hq] at hi
      exact H.ftR r v w s md hl t' xs' i hr hi
  · rw [rt] at hr
    split at hr
    · cases hr
    · rename_i hq
      rw [f1 _ hq] at hi
      exact H.ftC r cs i hr hi
  · exact tv v _ (H.env t v hv).1 (H.env t v hv).2
  · exact tv v _ (H.env0 t v hv).1 (H.env0 t v hv).2
  · exact tv v _ (H.frs j fr E' h1 h2 t v hv).1 (H.frs j fr E' h1 h2 t v hv).2
  · refine H.lkd r ?_
    rcases hr with ⟨x, hx⟩ | hr
    · simp only at hx
      rw [lkp_cons] at hx
      split at hx
      · rename_i hq; exact .inr (Nat.le_of_eq hq.symm)
      · exact .inl ⟨x, hx⟩
    · exact .inr (Nat.le_of_succ_le hr)
  · refine .row nx nx a ?_ fun w s md hl t' xs' hr => A0.symm
    exact hO.one
  · obtain ⟨m1, m2, m3, m4, m5, m6⟩ := hJ i hi
    refine ⟨m1, m2, m3, m4, m5, fun r ρ' hr => ?_⟩
    rw [rt] at hr
    split at hr
    · rename_i hq
      subst hq
      rw [f0]
      exact fun hq => hd i hq hi
    · rename_i hq
      rw [f1 _ hq]
      exact m6 r ρ' hr
end
end Go.Proofs.Ytcngfjmfgeckmaa
namespace Go.Proofs.Ytcngfjmfgeckmaa
open Go
section
variable {B : Bas} {cx : Cx} {st : St} {L : Lay} {Es : List Env} {E : Env} {h : Heap} {n : Nat} {α : Type} {y : α} {g : Pg}
theorem Gam.weakB {B2 : Bas} (H : Gam B cx st L Es E h n) (e1 : B2.F0 = B.F0) (e2 : B2.n0 = B.n0) (e3 : B2.lk = B.lk) (hG : B2.G.Sub B.G) (hX : ∀ r i, B2.X r i → B.X r i) (hH : ∀ i, B2.H i → B.H i) (hl : ∀ r i, B.lk r → ¬ B.X r i → B2.G i = B.G i) : Gam B2 cx st L Es E h n :=
  ⟨by rw [e1]; exact H.f0, H.fh, fun i b hb => H.gh i b (hG i b hb), H.fr, H.rh, fun i b hb => by rw [e1, e2]; exact ⟨(H.fnew i b hb).1, fun hq => (H.fnew i b hb).2 (hH i hq)⟩, H.hlt, by rw [e2]; exact H.nn, H.th, H.lowT, H.ap, fun r ρ i hr hi => by
    obtain ⟨q1, q2, q3, q4, q5⟩ := H.ftF r ρ i hr hi
    rw [e2, e3]
    refine ⟨q1, q2, q3, fun hk => ?_, fun hk => ⟨fun hx => (q5 hk).1 (hX r i hx), ?_⟩⟩
    · cases hg : B2.G i with
      | none => rfl
      | some b => have := hG i b hg; rw [q4 hk] at this; cases this
    · rw [hl r i hk (q5 hk).1]; exact (q5 hk).2,
    H.ftR, H.ftC, H.env, H.env0, H.frs, H.dj, H.frl, H.mcl, H.nd, by rw [e3]; exact H.lkd, H.lkc⟩
def Bas.rmL (B : Bas) (ids : List Nat) : Bas := { B with G := fun i => if i ∈ ids then none else B.G i, H := fun i => B.H i ∧ i ∉ ids, HG := fun i hi => by rw [if_neg hi.2]; exact B.HG i hi.1 }
theorem rmL_sub {ids : List Nat} : (B.rmL ids).G.Sub B.G := fun i b hb => by
  have hb' : (if i ∈ ids then none else B.G i) = some b := hb
  split at hb'
  · cases hb'
  · exact hb'
theorem rmL_in {ids : List Nat} {i : Nat} (hi : i ∈ ids) : (B.rmL ids).G i = none := if_pos hi
theorem rmL_out {ids : List Nat} {i : Nat} (hi : i ∉ ids) : (B.rmL ids).G i = B.G i := if_neg hi
theorem Gam.rmL (H : Gam B cx st L Es E h n) {ids : List Nat} (hX : ∀ r i, i ∈ ids → B.X r i) : Gam (B.rmL ids) cx st L Es E h n :=
  H.weakB rfl rfl rfl rmL_sub (fun _ _ hx => hx) (fun _ hq => hq.1) fun r i _ hx => rmL_out fun hi => hx (hX r i hi)
theorem Gam.reE {E' : Env} (H : Gam B cx st L Es E h n) (h1 : ∀ t v, lkp st.env t = some v → E' t = E t) (h0 : ∀ t v, lkp cx.env0 t = some v → E' t = E t) : Gam B cx st L Es E' h n :=
  ⟨H.f0, H.fh, H.gh, H.fr, H.rh, H.fnew, H.hlt, H.nn, H.th, H.lowT, H.ap, H.ftF, H.ftR, H.ftC, fun t v hv => by rw [h1 t v hv]; exact H.env t v hv, fun t v hv => by rw [h0 t v hv]; exact H.env0 t v hv, H.frs, H.dj, H.frl, H.mcl, H.nd, H.lkd, H.lkc⟩
theorem res_hg {B : Bas} {id : Nat} {b : List AV} : ∀ i, B.H i ∨ i = id → B.G.upd id b i ≠ none := fun i hi => by
  unfold Heap.upd
  split
  · exact fun hq => by cases hq
  · rename_i hne; exact hi.elim (B.HG i) fun hq => absurd hq hne
def Bas.res (B : Bas) (id : Nat) (b : List AV) : Bas := { B with G := B.G.upd id b, X := fun r i => B.X r i ∨ i = id, H := fun i => B.H i ∨ i = id, HG := res_hg }
theorem Gam.pend (H : Gam B cx st L Es E h n) (b : List AV) : ∃ L', Gam (B.res n b) cx st L' Es E (h.upd n b) (n + 1) := by
  have hn : h n = none := H.hlt' (Nat.le_refl n)
  have hupd : ∀ i, i < n → (h.upd n b) i = h i := fun i hi => by unfold Heap.upd; rw [if_neg (by omega)]
  obtain ⟨G, _⟩ := H.grow (F' := L.F) (h' := h.upd n b) (n' := n + 1) (Nat.le_succ n) hupd (fun i c hc => by
    by_cases hi : i = n
    · omega
    · unfold Heap.upd at hc; rw [if_neg hi] at hc; exact Nat.lt_succ_of_lt (H.hlt i c hc)) (fun _ _ hb => hb) (fun i c hc => by
    have := H.fh i c hc
    rw [hupd i (H.hlt i c this)]; exact this) (fun i c hc => .inl hc)
  refine ⟨_, ⟨G.f0, G.fh, fun i c hc => ?_, G.fr, G.rh, fun i c hc => ⟨(H.fnew i c hc).1, fun hq => ?_⟩, G.hlt, G.nn, G.th, G.lowT, G.ap, fun r ρ i hr hi => ?_, G.ftR, G.ftC, G.env, G.env0, G.frs, G.dj, G.frl, G.mcl, G.nd, G.lkd, G.lkc⟩⟩
  · have hc' : (B.G.upd n b) i = some c := hc
    unfold Heap.upd at hc' ⊢
    split
    · rename_i hi; rw [if_pos hi] at hc'; exact hc'
    · rename_i hi; rw [if_neg hi] at hc'; exact H.gh i c hc'
  · rcases hq with hq | rfl
    · exact (H.fnew i c hc).2 hq
    · have := H.fh _ _ hc; rw [hn] at this; cases this
  · obtain ⟨q1, q2, q3, q4, q5⟩ := H.ftF r ρ i hr hi
    have hne : i ≠ n := by omega
    have e : (B.G.upd n b) i = B.G i := by unfold Heap.upd; rw [if_neg hne]
    refine ⟨q1, q2, by omega, fun hk => e.trans (q4 hk), fun hk => ⟨fun hx => hx.elim (q5 hk).1 hne, ?_⟩⟩
    show (B.G.upd n b) i = (h.upd n b) i
    rw [e, (q5 hk).2, hupd i q3]
structure FreeId (B : Bas) (cx : Cx) (st : St) (L : Lay) (h : Heap) (n id : Nat) (b : List AV) : Prop where
  h : h id = some b
  F : L.F id = none
  n0 : B.n0 ≤ id
  lt : id < n
  G : B.G id = none
  ft : ∀ r ρ, rootOf cx st r = some ρ → ¬ L.ft r id
theorem Gam.back (H : Gam B cx st L Es E h n) {id : Nat} {b : List AV} (hG : B.G id = some b) (hH : B.H id) (hX : ∀ r, B.X r id) (h0 : B.n0 ≤ id) : Gam (B.rmL [id]) cx st L Es E h n ∧ FreeId (B.rmL [id]) cx st L h n id b := by
  refine ⟨H.rmL fun r i hi => by rw [List.mem_singleton.1 hi]; exact hX r, H.gh id b hG, ?_, h0, H.hlt id b (H.gh id b hG), rmL_in (List.mem_singleton.2 rfl), fun r ρ hr hi => ?_⟩
  · cases hf : L.F id with
    | none => rfl
    | some c => exact absurd hH (H.fnew id c hf).2
  · obtain ⟨_, _, _, q4, q5⟩ := H.ftF r ρ id hr hi
    by_cases hk : B.lk r
    · exact (q5 hk).1 (hX r)
    · rw [q4 hk] at hG; cases hG
open Classical in
theorem Gam.adoptCell {env : SEnv} {ρ : Roots} {nx mc : Nat} (H : Gam B cx ⟨env, ρ, nx, mc⟩ L Es E h n) {id : Nat} {e : AV} {cs : List SV} (hf : FreeId B cx ⟨env, ρ, nx, mc⟩ L h n id [e]) (hg : e.good = true) (ho : ∀ u, u ∈ e.cells → u.one = true) (hp : 0 < cs.length)
    (hc : TVs L (rootOf cx ⟨env, ρ, nx, mc⟩) mc h cs e.cells) (hl : SV.lowNs nx cs = true) : ∃ L', Gam B cx ⟨env, (nx, .cell cs) :: ρ, nx + 2, nx + 1⟩ L' Es E h n ∧ TV L' (rootOf cx ⟨env, (nx, .cell cs) :: ρ, nx + 2, nx + 1⟩) (nx + 1) h (.cp nx 0) (.ep cs.length (.sl cs.length id 0 1 1 true) 0 0) := by
  have rt := fun r => rootOf_cons (nx' := nx + 2) (mc' := nx + 1) H (.cell cs) env r
  let L' : Lay := { L with R := fun i => if i = id then none else L.R i, C := fun c => if c = nx then id else L.C c, ft := fun r i => if r = nx then i = id else L.ft r i }
  have C0 : L'.C nx = id := if_pos rfl
  have f0 : ∀ i, L'.ft nx i ↔ i = id := fun i => by show (if nx = nx then i = id else L.ft nx i) ↔ _; rw [if_pos rfl]
  have f1 : ∀ r, r ≠ nx → L'.ft r = L.ft r := fun r hr => by funext i; exact if_neg hr
  have C1 : ∀ r, r ≠ nx → L'.C r = L.C r := fun r hr => if_neg hr
  have T : Tr nx L L' (rootOf cx ⟨env, ρ, nx, mc⟩) (rootOf cx ⟨env, (nx, .cell cs) :: ρ, nx + 2, nx + 1⟩) mc (nx + 1) h h :=
    ⟨fun _ _ hb => hb, fun hq => absurd hq (by omega), fun r v w s md hl t' xs' hr h1 _ => by
      rw [rt, if_neg (by omega)] at hr
      exact ⟨w, s, md, hl, xs', hr, rfl, rfl, fun _ => ⟨rfl, rfl⟩, fun _ => ⟨rfl, fun _ _ _ _ _ hc => hc⟩⟩, fun c cs' hr h1 => by
      rw [rt, if_neg (by omega)] at hr
      exact ⟨cs', hr, rfl, C1 c (by omega)⟩, fun _ _ => rfl⟩
  have tv : ∀ v a, TV L (rootOf cx ⟨env, ρ, nx, mc⟩) mc h v a → v.lowN nx = true → TV L' (rootOf cx ⟨env, (nx, .cell cs) :: ρ, nx + 2, nx + 1⟩) (nx + 1) h v a ∧ v.lowN (nx + 2) = true := fun v a hv hl => ⟨hv.tr T hl, lowN_mono (by omega) v hl⟩
  refine ⟨L', ⟨H.f0, H.fh, H.gh, fun i b hb => ?_, fun i b hb => ?_, H.fnew, H.hlt, H.nn, fun r ρ' hr => ?_, fun r ρ' hr => ?_, fun r r' ρ1 ρ2 i h1 h2 h3 h4 => ?_, fun r ρ' i hr hi => ?_, fun r v w s md hl t' xs' i hr hi => ?_, fun r cs' i hr hi => ?_, fun t v hv => ?_, fun t v hv => ?_, fun j fr E' h1 h2 t v hv => ?_, H.dj, H.frl, by show nx + 1 < nx + 2; omega, H.cons_nd, fun r hr => ?_, cons_lkc H _⟩, ?_⟩
  · show (if i = id then none else L.R i) = some b
    rw [if_neg]
    · exact H.fr i b hb
    · rintro rfl; have hb' : L.F i = some b := hb; rw [hf.F] at hb'; cases hb'
  · have hb' : (if i = id then none else L.R i) = some b := hb
    split at hb'
    · cases hb'
    · exact H.rh i b hb'
  · rw [rt] at hr
    split at hr
    · rename_i hq
      subst hq
      cases hr
      refine ⟨e, by rw [C0]; exact hf.h, hg, ho, hp, hc.tr T hl, fun i => by rw [f0, C0]⟩
    · rename_i hq
      exact ThOk.keep T rfl (C1 r hq) (f1 r hq) (fun _ _ => rfl) (H.lowT r ρ' hr).2 (H.th r ρ' hr)
  · rw [rt] at hr
    split at hr
    · rename_i hq
      subst hq
      cases hr
      exact ⟨by show r < r + 2; omega, lowNs_mono (by show r ≤ r + 2; omega) _ hl⟩
    · have := H.lowT r ρ' hr
      exact ⟨Nat.lt_of_lt_of_le this.1 (by show nx ≤ nx + 2; omega), Root.low_mono (by show nx ≤ nx + 2; omega) this.2⟩
  · rw [rt] at h1 h2
    split at h1
    · rename_i q1
      subst q1
      rw [f0] at h3
      split at h2
      · rename_i q2; exact q2.symm
      · rename_i q2
        rw [f1 _ q2] at h4
        subst h3
        exact absurd h4 (hf.ft r' ρ2 h2)
    · rename_i q1
      rw [f1 _ q1] at h3
      split at h2
      · rename_i q2
        subst q2
        rw [f0] at h4
        subst h4
        exact absurd h3 (hf.ft r ρ1 h1)
      · rename_i q2
        rw [f1 _ q2] at h4
        exact H.ap r r' ρ1 ρ2 i h1 h2 h3 h4
  · rw [rt] at hr
    split at hr
    · rename_i hq
      subst hq
      rw [f0] at hi
      subst hi
      exact ⟨hf.F, hf.n0, hf.lt, fun _ => hf.G, fun hk => absurd hk (H.lkd r (.inr (Nat.le_refl _)))⟩
    · rename_i hq
      rw [f1 _ hq] at hi
      exact H.ftF r ρ' i hr hi
  · rw [rt] at hr
    split at hr
    · cases hr
    · rename_i hq
      rw [f1 _ hq] at hi
      show (if i = id then none else L.R i) = h i
      rw [if_neg]
      · exact H.ftR r v w s md hl t' xs' i hr hi
      · rintro rfl; exact hf.ft r _ hr hi
  · rw [rt] at hr
    show (if i = id then none else L.R i) = none
    split at hr
    · rename_i hq
      subst hq
      rw [f0] at hi
      rw [if_pos hi]
    · rename_i hq
      rw [f1 _ hq] at hi
      split
      · rfl
      · exact H.ftC r cs' i hr hi
  · exact tv v _ (H.env t v hv).1 (H.env t v hv).2
  · exact tv v _ (H.env0 t v hv).1 (H.env0 t v hv).2
  · exact tv v _ (H.frs j fr E' h1 h2 t v hv).1 (H.frs j fr E' h1 h2 t v hv).2
  · refine H.lkd r ?_
    rcases hr with ⟨x, hx⟩ | hr
    · simp only at hx
      rw [lkp_cons] at hx
      split at hx
      · rename_i hq; exact .inr (Nat.le_of_eq hq.symm)
      · exact .inl ⟨x, hx⟩
    · exact .inr (Nat.le_trans (by show nx ≤ nx + 2; omega) hr)
  · refine .cp nx 0 _ rfl fun cs' hr => ?_
    rw [rt, if_pos rfl] at hr
    cases hr
    rw [C0]
theorem Gam.moreR (H : Gam B cx st L Es E h n) {id : Nat} {b : List AV} (hf : FreeId B cx st L h n id b) : ∃ L', Gam B cx st L' Es E h n ∧ L'.F = L.F ∧ L'.A = L.A ∧ L'.ft = L.ft ∧ L'.U = L.U ∧ L'.R id = h id ∧ ∀ v a, TV L (rootOf cx st) st.mc h v a → v.lowN st.nx = true → TV L' (rootOf cx st) st.mc h v a := by
  let L' : Lay := { L with R := fun i => if i = id then h i else L.R i }
  have T : Tr st.nx L L' (rootOf cx st) (rootOf cx st) st.mc st.mc h h :=
    ⟨fun _ _ hb => hb, fun _ => ⟨rfl, fun i c hc => by
      show (if i = id then h i else L.R i) = some c
      split
      · exact H.rh i c hc
      · exact hc⟩, fun r v w s md hl t' xs' hr _ _ => ⟨w, s, md, hl, xs', hr, rfl, rfl, fun _ => ⟨rfl, rfl⟩, fun _ => ⟨rfl, fun _ _ _ _ _ hc => hc⟩⟩, fun c cs hr _ => ⟨cs, hr, rfl, rfl⟩, fun _ _ => rfl⟩
  refine ⟨L', ⟨H.f0, H.fh, H.gh, fun i c hc => ?_, fun i c hc => ?_, H.fnew, H.hlt, H.nn, fun r ρ hr => ThOk.keep T rfl rfl rfl (fun _ _ => rfl) (H.lowT r ρ hr).2 (H.th r ρ hr), H.lowT, H.ap, H.ftF, fun r v w s md hl t xs i hr hi => ?_, fun r cs i hr hi => ?_, fun t v hv => ⟨(H.env t v hv).1.tr T (H.env t v hv).2, (H.env t v hv).2⟩, fun t v hv => ⟨(H.env0 t v hv).1.tr T (H.env0 t v hv).2, (H.env0 t v hv).2⟩, fun j fr E' h1 h2 t v hv => ⟨(H.frs j fr E' h1 h2 t v hv).1.tr T (H.frs j fr E' h1 h2 t v hv).2, (H.frs j fr E' h1 h2 t v hv).2⟩, H.dj, H.frl, H.mcl, H.nd, H.lkd, H.lkc⟩, rfl, rfl, rfl, rfl, if_pos rfl, fun v a hv hl => hv.tr T hl⟩
  · show (if i = id then h i else L.R i) = some c
    split
    · exact H.fh i c hc
    · exact H.fr i c hc
  · have hc' : (if i = id then h i else L.R i) = some c := hc
    split at hc'
    · exact hc'
    · exact H.rh i c hc'
  · show (if i = id then h i else L.R i) = h i
    split
    · rfl
    · exact H.ftR r v w s md hl t xs i hr hi
  · show (if i = id then h i else L.R i) = none
    rw [if_neg]
    · exact H.ftC r cs i hr hi
    · rintro rfl; exact hf.ft r _ hr hi
end
end Go.Proofs.Ytcngfjmfgeckmaa
namespace Go.Proofs.Ytcngfjmfgeckmaa
open Go
def pendV (T : TE) (op : Op) (e : Operand → AV) (id : Nat) : Option (AV × List AV) := match op with
  | .alloc t => some (.ep (T t).sz (.sl (T t).sz id 0 1 1 true) 0 0, [(T t).zero])
  | .buildSlice t len parts => match (T t).ty with
    | .slice u => some (.sl (T u).sz id 0 len len true, parts.toList.map fun p => e p.2)
    | _ => none
  | _ => none
theorem pendV_congr {T : TE} {op : Op} {e e' : Operand → AV} {id : Nat} (hs : ∀ x, x ∈ op.operands → e x = e' x) : pendV T op e id = pendV T op e' id := by
  cases op <;> try rfl
  case buildSlice t len parts =>
    unfold pendV
    simp only
    split
    · rename_i u hu
      congr 2
      refine List.map_congr_left fun p hp => hs _ ?_
      simp only [Op.operands]
      simpa using ⟨p.1, by simpa using hp⟩
    · rfl
section
variable {B : Bas} {cx : Cx} {L : Lay} {Es : List Env} {E : Env} {h : Heap} {n : Nat} {α : Type} {y : α} {g : Pg} {env : SEnv} {ρ : Roots} {nx mc : Nat}
theorem adoptB_ok (H : Gam B cx ⟨env, ρ, nx, mc⟩ L Es E h n) {t : TypeId} {len : Nat} {parts : Array (Nat × Operand)} {id : Nat} (hf : FreeId B cx ⟨env, ρ, nx, mc⟩ L h n id (parts.toList.map fun p => ev E p.2)) {k : SV → St → Option α} (hk : opS g cx ⟨env, ρ, nx + 1, mc⟩ (.buildSlice t len parts) k = some y) :
    ∃ e, (g.T t).ty = .slice e ∧ Done B cx Es E y k (.sl (g.T e).sz id 0 len len true) h n := by
  obtain ⟨L1, H1, mF, mA, mft, mU, mR, mtv⟩ := H.moreR hf
  obtain ⟨H2, _⟩ := H1.newU 0
  obtain ⟨e, pt, md, ys, ρ', D, Z, F', J', ht, hw, hbd, hr, hp, hy, hl, m0, R, f1, f2, f3, f4, b1, j1, kk⟩ := buildS_out H2 hk
  have F2 : (L1.setU nx 0).F = L.F := mF
  have ft2 : (L1.setU nx 0).ft = L.ft := mft
  have rt2 : rootOf cx ⟨env, ρ, nx + 1, mc⟩ = rootOf cx ⟨env, ρ, nx, mc⟩ := by funext r; rw [rootOf_jn, rootOf_jn]
  rw [F2] at f1 f3
  rw [ft2] at f3 f4 j1
  rw [rt2] at f3 j1
  have hbl : (parts.toList.map fun p => ev E p.2).length = len := by rw [List.length_map, hl]
  have hO : OS L1.F h (.rd false pt []) (.sl pt.w id 0 ([] : List pt.den).length len true) (fun i => i = id) :=
    .sl false pt [] id 0 len true _ _ (fun _ => False) hf.h (by rw [hbl]; omega) (Nat.zero_le _) (by simpa using OE.nil pt _ fun _ hq => hq) (fun hq => hq) fun i => ⟨.inl, fun hq => hq.elim _root_.id False.elim⟩
  obtain ⟨L3, H3, _, g3, g4, g5, ⟨g6, g7⟩, _⟩ := H1.addRow hO fun i hi => by
    subst hi
    exact ⟨by rw [mF]; exact hf.F, hf.n0, hf.lt, hf.G, mR, fun r ρ hr => by rw [mft]; exact hf.ft r ρ hr⟩
  have hno : lkp ρ nx = none := (H.rootHi (Nat.le_refl _)).1
  have rt3 := fun r => rootOf_cons (nx' := nx + 1) (mc' := mc) H (.row nx nx nx .own none pt []) env r
  have ne : ∀ {q}, D q ∨ Z q → q ≠ nx := fun hq => by
    rintro rfl
    rcases hq with hq | hq
    · obtain ⟨_, _, _, _, _, _, _, k⟩ := R.del _ hq; rw [hno] at k; cases k
    · obtain ⟨_, _, _, _, _, _, _, k, _⟩ := R.fz _ hq; rw [hno] at k; cases k
  have R3 : AbsR ((nx, .row nx nx nx .own none pt []) :: ρ) ρ' (fun q => D q ∨ q = nx) Z := by
    have lc : ∀ q, q ≠ nx → lkp ((nx, Root.row nx nx nx .own none pt []) :: ρ) q = lkp ρ q := fun q hq => by rw [lkp_cons, if_neg hq]
    refine ⟨R.nd, fun q hq => List.mem_cons_of_mem _ (R.sub q hq), fun q hq => ?_, fun q hq => ?_, fun q h1 h2 => ?_⟩
    · rcases hq with hq | rfl
      · rw [lc q (ne (.inl hq))]; exact R.del q hq
      · refine ⟨?_, _, _, _, _, _, _, by rw [lkp_cons, if_pos rfl]⟩
        cases hx : lkp ρ' q with
        | none => rfl
        | some x =>
          obtain ⟨b, hb⟩ := mem_lkp (R.sub q (lkp_fst hx))
          rw [hno] at hb; cases hb
    · rw [lc q (ne (.inr hq))]
      exact ⟨fun hd => hd.elim (R.fz q hq).1 (ne (.inr hq)), (R.fz q hq).2⟩
    · rw [lc q fun hq => h1 (.inr hq)]
      exact R.look q (fun hd => h1 (.inl hd)) h2
  obtain ⟨k1, k2, k3, k4⟩ := R3.new H3 (.row (nx + 1) (nx + 1) (nx + 1) md none pt ys)
  have old : ∀ {q ρq i}, (D q ∨ Z q) → rootOf cx ⟨env, ρ, nx, mc⟩ q = some ρq → L.ft q i → rootOf cx ⟨env, (nx, .row nx nx nx .own none pt []) :: ρ, nx + 1, mc⟩ q = some ρq ∧ L3.ft q i := fun hq h1 h2 => by
    rw [rt3, if_neg (ne hq), g7 _ (ne hq), mft]; exact ⟨h1, h2⟩
  have Fid : F' id = none := by
    cases hq : F' id with
    | none => rfl
    | some b =>
      rcases f3 id b hq with hx | ⟨q, ρq, _, h2, h3, _⟩
      · rw [hf.F] at hx; cases hx
      · exact absurd h3 (hf.ft q ρq h2)
  obtain ⟨L', G, a1, _⟩ := H3.absStep R3 (r0 := nx + 1) (v := nx + 1) (w := nx + 1) (s := nx + 1) (md := md) (t := pt) (xs := ys) (nx' := nx + 2) (mc' := mc) (h' := h) (n' := n) (A := .sl pt.w id 0 ys.length len true) (I := fun i => i = id ∨ J' i) (F' := F') m0 k1 k2 (.inl rfl) k3 k4
    (by rw [g3, mF]; exact f1) f2
    (fun i b hb => by
      rw [g3, mF]
      exact (f3 i b hb).imp _root_.id fun ⟨q, ρq, h1, h2, h3, h4⟩ => ⟨q, ρq, h1.elim (fun hd => .inr (.inl (.inl hd))) fun hz => .inr (.inr hz), (old h1 h2 h3).1, (old h1 h2 h3).2, h4⟩)
    (fun q i b hz hi hb => f4 q i b hz (by rw [g7 q (ne (.inr hz)), mft] at hi; exact hi) hb)
    (Nat.le_refl n) (fun _ _ => .inl rfl) H.hlt
    (.inr (.inr ⟨id, 0, len, true, _, J', rfl, hf.h, by rw [hbl]; omega, by rw [hy]; exact Nat.le_refl _, by
      rw [List.drop_zero, hy, ← hbl, List.take_length]; exact b1, fun hq => by
      obtain ⟨_, q, ρq, _, h2, h3, _⟩ := j1 id hq
      exact hf.ft q ρq h2 h3, fun i => Iff.rfl⟩))
    (fun i hi => by
      rcases hi with rfl | hi
      · exact ⟨Fid, hf.lt, .inr ⟨nx, _, .inr (.inl (.inr rfl)), by rw [rt3, if_pos rfl], by rw [g6], rfl⟩⟩
      · obtain ⟨h0, q, ρq, h1, h2, h3, h4⟩ := j1 i hi
        have h5 := old (.inl h1) h2 h3
        exact ⟨h0, (H.ftF q ρq i h2 h3).2.2.1, .inr ⟨q, ρq, .inr (.inl (.inl h1)), h5.1, h5.2, h4⟩⟩)
    (by show nx + 1 ≤ nx + 2; omega) ⟨by omega, by omega, by omega, by omega⟩ (by have : mc < nx := H.mcl; omega) (.inl ⟨rfl, fun _ _ => rfl⟩) (fun hq => absurd hq (Nat.lt_irrefl _))
  refine ⟨e, ht, _, _, L', kk, ?_, row_low (nx + 1), G⟩
  rw [hw]
  rw [hy] at a1
  exact .row _ _ _ rfl fun w s md' hl t' xs' hq => a1.symm
theorem adopt_ok (gk : POk g) {call : Callee} (H : Gam B cx ⟨env, ρ, nx, mc⟩ L Es E h n) {ops : Array Oper} {i : Nat} {o : Oper} {d : Tmp} {id : Nat} {v : AV} {b : List AV} {K : St → Option α} (hi : ops[i]? = some o) (hd : o.dst = some d) (hg : o.guard = none)
    (hv : pendV g.T o.op (ev E) id = some (v, b)) (hE : E d = v) (hf : FreeId B cx ⟨env, ρ, nx, mc⟩ L h n id b)
    (hk : (bif isBld o.op then regS g call cx ops [i] ⟨env, ρ, nx + 1, mc⟩ K else regS g call cx ops [i] ⟨env, ρ, nx, mc⟩ fun st => match st with | ⟨env, ρ, nx, _⟩ => K ⟨env, ρ, nx + 1, nx⟩) = some y) : Fin B cx Es y K E h n := by
  obtain ⟨dst, op, type, pos, after, guard⟩ := o
  simp only at hd hg hv hk
  subst hd; subst hg
  cases op <;> simp only [pendV, reduceCtorEq] at hv
  case alloc t =>
    simp only [Option.some.injEq, Prod.mk.injEq] at hv
    obtain ⟨rfl, rfl⟩ := hv
    simp only [isBld, cond_false, regS, hi, operS, opS] at hk
    obtain ⟨q1, q2⟩ := bif_some hk
    rw [Nat.blt_eq] at q1
    obtain ⟨z1, z2, z3⟩ := gk.zero t q1
    have hlen : (svsOf (g.T t).zero.cells).length = (g.T t).sz := by rw [svsOf_len, z2]
    obtain ⟨L', G, tv⟩ := H.adoptCell hf z1 z3 (by omega) (TVs.svsOf _) (svsOf_low _ _)
    rw [hlen] at tv
    have q3 : putS cx ⟨env, (nx, .cell (svsOf (g.T t).zero.cells)) :: ρ, nx + 2, nx + 1⟩ (some d) (.cp nx 0) K = some y := by
      simp only [putS] at q2 ⊢
      split at q2
      · cases q2
      · exact q2
    obtain ⟨st2, p1, p2, _⟩ := G.put tv (by simp only [SV.lowN, Nat.blt_eq]; omega) q3
    rw [put_same hE] at p2
    exact ⟨st2, _, p1, p2⟩
  case buildSlice t len parts =>
    split at hv
    · rename_i u hu
      simp only [Option.some.injEq, Prod.mk.injEq] at hv
      obtain ⟨rfl, rfl⟩ := hv
      simp only [isBld, cond_true, regS, hi, operS] at hk
      obtain ⟨e, he, ⟨v, ⟨env', ρ', nx', mc'⟩, L', q1, q2, q3, q4⟩⟩ := adoptB_ok H hf hk
      rw [hu] at he
      cases he
      obtain ⟨st2, p1, p2, _⟩ := q4.put q2 q3 q1
      rw [put_same hE] at p2
      exact ⟨st2, _, p1, p2⟩
    · cases hv
theorem idx_range : ∀ {l : List (Nat × Operand)} {m : Nat}, idxOk m l = true → l.map (fun p => p.1) = List.range' m l.length
  | [], m, _ => rfl
  | (i, x) :: l, m, hq => by
    simp only [idxOk, Bool.and_eq_true] at hq
    obtain rfl := Nat.eq_of_beq_eq_true hq.1
    simp only [List.map_cons, List.length_cons, List.range'_succ, idx_range hq.2]
theorem partOk_ok {rt : Rt} {t : PT} {v : SV} {a : AV} (hp : partOk t v = true) (hv : TV L rt mc h v a) : a.cells.length = t.w ∧ a.good = true := by
  simp only [partOk, Bool.and_eq_true, Bool.or_eq_true] at hp
  have hw := Nat.eq_of_beq_eq_true hp.1
  rcases hp.2 with hq | hq
  · cases v <;> first | cases hq; done | skip
    obtain ⟨asl, rfl, hc⟩ := agg_inv hv
    exact ⟨by rw [← hw]; exact hc.len, rfl⟩
  · have h1 := hv.one hq
    have : v.cells = [v] := by cases v <;> first | rfl | cases hq
    rw [this] at hw
    rw [one_cells h1]
    exact ⟨hw, one_good h1⟩
theorem pend_step {P : Program} {st : St} (H : Gam B cx st L Es E h n) {ops : List Oper} {o : Oper} (hg : o.guard = none) (hp : partsS g cx st o.op = true) : ∃ v b, pendV g.T o.op (ev E) n = some (v, b) ∧ ∀ K : Env → Heap → Nat → Prop, K (E.put o.dst v) (h.upd n b) (n + 1) → stepA P g.T ops o E h n K := by
  obtain ⟨dst, op, type, pos, after, guard⟩ := o
  simp only at hg hp ⊢
  subst hg
  cases op <;> simp only [partsS, Bool.false_eq_true] at hp
  case alloc t =>
    rw [Nat.blt_eq] at hp
    exact ⟨_, _, rfl, fun K hk => ⟨hp, hk⟩⟩
  case buildSlice t len parts =>
    split at hp
    · rename_i e ht
      simp only [Bool.and_eq_true] at hp
      obtain ⟨⟨⟨h1, h2⟩, h3⟩, h4⟩ := hp
      split at h4
      · rename_i pt hpt
        simp only [Bool.and_eq_true, List.all_eq_true] at h4
        have hw := Nat.eq_of_beq_eq_true h4.1
        have hlen := Nat.eq_of_beq_eq_true h1
        refine ⟨_, _, by simp only [pendV, ht], fun K hk => ⟨e, ht, by rw [hw]; exact pt.w_pos, Nat.le_of_ble_eq_true h2, by rw [idx_range h3, hlen, List.range_eq_range'], fun p hq => ?_, hk⟩⟩
        have := partOk_ok (h4.2 p hq) (H.ev p.2).1
        rw [hw]; exact this
      · cases h4
    · cases hp
end
end Go.Proofs.Ytcngfjmfgeckmaa
namespace Go.Proofs.Ytcngfjmfgeckmaa
open Go
section
variable {B : Bas} {cx : Cx} {st : St} {L : Lay} {Es : List Env} {E : Env} {h : Heap} {n : Nat} {α : Type} {y : α} {g : Pg}
theorem reg1_ok {P : Program} (gk : POk g) {call : Callee} (hcall : CallOk P call) {ops : Array Oper} {i : Nat} {o : Oper} {k : St → Option α} (hi : ops[i]? = some o) (H : Gam B cx st L Es E h n) (hk : regS g call cx ops [i] st k = some y) : stepB P g.T ops.toList o E h n (Fin B cx Es y k) := by
    simp only [regS, hi] at hk
    have next : ∀ {r : AV} {h' : Heap} {n' : Nat}, Done B cx Es E y (fun v st => putS cx st o.dst v fun st => k st) r h' n' → Fin B cx Es y k (E.put o.dst r) h' n' := fun {r h' n'} ⟨v, ⟨env', ρ', nx', mc'⟩, L', q1, q2, q3, q4⟩ => by
      obtain ⟨st2, p1, p2, _⟩ := q4.put q2 q3 q1
      exact ⟨st2, _, p1, p2⟩
    have run : ∀ {st : St} {L : Lay}, Gam B cx st L Es E h n → operS g cx st call o (fun v st => putS cx st o.dst v fun st => k st) = some y → operB P g.T o E h n (fun r h' n' => Fin B cx Es y k (E.put o.dst r) h' n') := fun {st L} H hk => by
      rcases operS_ok gk hcall H hk with hq | ⟨cl, x, z, t, t', e, ik, ik', m, a1, a2, a3, a4, a5, a6, a7, a8, a9, a10, a11⟩
      · exact .inl (callA_mono (fun r h' n' hr => next hr) hq)
      · refine .inr ⟨cl, x, z, t, t', e, ik, ik', m, a1, a2, a3, a4, a5, a6, a7, a8, a9, a10, ?_⟩
        unfold appTo at a11 ⊢
        split at a11
        · exact ⟨a11.1, a11.2.1, ite_mono next next a11.2.2⟩
        · exact ⟨a11.1, a11.2.1, a11.2.2.1, ite_mono next (fun q => ⟨q.1, next q.2⟩) a11.2.2.2⟩
        · obtain ⟨b1, b2, b3, b, b4, b5, b6⟩ := a11
          exact ⟨b1, b2, b3, b, b4, b5, ite_mono next (ite_mono next next) b6⟩
        · exact a11.elim
    have skip : ∀ {st : St} {L : Lay}, Gam B cx st L Es E h n → putS cx st o.dst (.tup []) (fun st => k st) = some y → Fin B cx Es y k (E.put o.dst (.tup [])) h n := fun {st L} H hk => by
      obtain ⟨env', ρ', nx', mc'⟩ := st
      obtain ⟨st2, p1, p2, _⟩ := H.put tup_nil rfl hk
      exact ⟨st2, _, p1, p2⟩
    unfold stepB
    cases hg : o.guard with
    | none =>
      rw [hg] at hk
      exact run H hk
    | some gw =>
      obtain ⟨j, want⟩ := gw
      rw [hg] at hk
      simp only at hk ⊢
      split at hk
      · cases hk
      · rename_i d hd2
        have hyd : yieldA ops.toList E j = match E.get d with
            | .bool b => some (some b)
            | .undef => none
            | .fn .. => none
            | _ => some none := by
          unfold yieldA
          rw [Array.getElem?_toList, hd2]
          rfl
        split at hk
        · rename_i b hb
          have hE := (H.getT d).1
          rw [hb] at hE
          have hEd : E d = .bool b := bool_inv hE
          have hy : yieldA ops.toList E j = some (some b) := by rw [hyd]; show (match E d with | .bool b => some (some b) | .undef => none | .fn .. => none | _ => some none) = _; rw [hEd]
          rw [hy]
          obtain ⟨env', ρ', nx', mc'⟩ := st
          have rb : ∀ {c : Bool} {K : St → Option α}, c = b → putS cx ⟨env', ρ', nx', mc'⟩ (some d) (.bool c) K = some y → ∃ st2, K st2 = some y ∧ Gam B cx st2 L Es E h n := fun {c K} hcb hp => by
            subst hcb
            obtain ⟨st2, p1, p2, _⟩ := H.put (TV.bool _) rfl hp
            rw [put_same hEd] at p2
            exact ⟨st2, p1, p2⟩
          cases b with
          | true =>
            rw [if_pos rfl] at hk
            obtain ⟨st2, p1, p2⟩ := rb rfl hk
            cases want with
            | true => simp only [if_true]; exact run p2 p1
            | false => simp only [Option.some.injEq, Bool.true_eq_false, if_false]; exact skip p2 p1
          | false =>
            rw [if_neg (by simp)] at hk
            obtain ⟨st2, p1, p2⟩ := rb rfl hk
            cases want with
            | true => simp only [Option.some.injEq, Bool.false_eq_true, if_false]; exact skip p2 p1
            | false => simp only [if_true]; exact run p2 p1
        · rename_i vs hb
          have hE := (H.getT d).1
          rw [hb] at hE
          obtain ⟨asl, hEd, _⟩ := tup_inv hE
          have hy : yieldA ops.toList E j = some none := by rw [hyd]; show (match E d with | .bool b => some (some b) | .undef => none | .fn .. => none | _ => some none) = _; rw [hEd]
          rw [hy]
          simp only [reduceCtorEq, if_false]
          exact skip H hk
        · cases hk
theorem stepB_A {P : Program} {T : TE} {ops : List Oper} {o : Oper} {K : Env → Heap → Nat → Prop} (hz : notZ T o = true) (hb : stepB P T ops o E h n K) : stepA P T ops o E h n K := by
  have op : ∀ {K : AV → Heap → Nat → Prop}, operB P T o E h n K → callA P T o E h n K := fun hq => by
    rcases hq with hq | ⟨cl, x, y, t, t', e, k, k', m, q1, q2, q3, q4, q5, _⟩
    · exact hq
    · exfalso
      unfold notZ at hz
      rw [q1] at hz
      simp only [q2, q4, q5] at hz
      cases hz
  unfold stepB at hb
  unfold stepA
  cases hg : o.guard with
  | none => rw [hg] at hb; exact op hb
  | some gw =>
    obtain ⟨j, want⟩ := gw
    rw [hg] at hb
    simp only at hb ⊢
    cases hy : yieldA ops E j with
    | none => rw [hy] at hb; exact hb
    | some z =>
      rw [hy] at hb
      exact ite_mono op id hb
theorem anyA_done {P : Program} {T : TE} {ops : Array Oper} {S : Array Bool → Heap → Prop} {K : Env → Heap → Nat → Prop} {listed : Array Bool} (hr : Region.ready .any ops listed = []) (hk : K E h n) : ∀ fuel, anyA P T ops S K fuel listed E h n
  | 0 => ⟨hr, hk⟩
  | fuel + 1 => ⟨fun _ => hk, fun i hi => by rw [hr] at hi; cases hi⟩
def LE (listed listedE : Array Bool) (Pd : List (Nat × Nat)) : Prop := ∀ j : Nat, listedE[j]? = (listed[j]?).map fun b => b || hasN (Pd.map Prod.fst) j
theorem hasN_mem : ∀ {l : List Nat} {j : Nat}, hasN l j = true ↔ j ∈ l
  | [], j => by simp [hasN]
  | a :: l, j => by
    simp only [hasN, List.mem_cons]
    cases hq : a.beq j with
    | true => exact ⟨fun _ => .inl (Nat.eq_of_beq_eq_true hq).symm, fun _ => rfl⟩
    | false =>
      have hne : j ≠ a := fun h => by rw [h] at hq; simp at hq
      simp only [cond_false, hasN_mem (l := l)]
      exact ⟨.inr, fun h => h.elim (fun h => absurd h hne) id⟩
theorem LE.un {listed listedE : Array Bool} {Pd : List (Nat × Nat)} (hL : LE listed listedE Pd) {j : Nat} : listedE.getD j true = false ↔ listed.getD j true = false ∧ j ∉ Pd.map Prod.fst := by
  simp only [Array.getD_eq_getD_getElem?, hL j]
  cases listed[j]? with
  | none => simp
  | some b =>
    simp only [Option.map_some, Option.getD_some, Bool.or_eq_false_iff, ← hasN_mem]
    simp
theorem LE.on {listed listedE : Array Bool} {Pd : List (Nat × Nat)} (hL : LE listed listedE Pd) {j : Nat} (h : listed.getD j false = true) : listedE.getD j false = true := by
  simp only [Array.getD_eq_getD_getElem?, hL j] at h ⊢
  cases hb : listed[j]? with
  | none => rw [hb] at h; cases h
  | some b => rw [hb] at h; simp only [Option.getD_some] at h; simp [h]
theorem LE.off {listed listedE : Array Bool} {Pd : List (Nat × Nat)} (hL : LE listed listedE Pd) {j : Nat} (h : listedE.getD j false = true) : listed.getD j false = true ∨ j ∈ Pd.map Prod.fst ∧ j < listed.size := by
  simp only [Array.getD_eq_getD_getElem?, hL j] at h ⊢
  cases hb : listed[j]? with
  | none => rw [hb] at h; cases h
  | some b =>
    rw [hb] at h
    simp only [Option.map_some, Option.getD_some, Bool.or_eq_true, hasN_mem] at h
    exact h.imp (fun h => by simpa using h) fun h => ⟨h, (Array.getElem?_eq_some_iff.1 hb).1⟩
theorem set_get {l : Array Bool} {i j : Nat} : (l.setIfInBounds i true)[j]? = (l[j]?).map fun b => b || decide (j = i) := by
  rw [Array.getElem?_setIfInBounds]
  split
  · rename_i hq
    subst hq
    split
    · rename_i hl; simp [hl]
    · rename_i hl; simp [Array.getElem?_eq_none (Nat.not_lt.1 hl)]
  · rename_i hq
    cases hb : l[j]? with
    | none => rfl
    | some b => simp [Ne.symm hq]
theorem LE.set {listed listedE : Array Bool} {Pd : List (Nat × Nat)} (hL : LE listed listedE Pd) (i : Nat) : LE (listed.setIfInBounds i true) (listedE.setIfInBounds i true) Pd := fun j => by
  rw [set_get, set_get, hL j]
  cases listed[j]? with
  | none => rfl
  | some b => simp only [Option.map_some, Option.some.injEq]; cases b <;> cases hasN (Pd.map Prod.fst) j <;> cases decide (j = i) <;> rfl
theorem LE.pend {listed listedE : Array Bool} {Pd : List (Nat × Nat)} (hL : LE listed listedE Pd) (i id : Nat) : LE listed (listedE.setIfInBounds i true) ((i, id) :: Pd) := fun j => by
  rw [set_get, hL j]
  cases listed[j]? with
  | none => rfl
  | some b =>
    have : hasN (((i, id) :: Pd).map Prod.fst) j = (decide (j = i) || hasN (Pd.map Prod.fst) j) := by
      rw [Bool.eq_iff_iff, hasN_mem, Bool.or_eq_true, hasN_mem]
      simp
    simp only [Option.map_some, Option.some.injEq, this]
    cases b <;> cases hasN (Pd.map Prod.fst) j <;> cases decide (j = i) <;> rfl
theorem LE.adopt {listed listedE : Array Bool} {Pd : List (Nat × Nat)} (hL : LE listed listedE Pd) {i : Nat} (hi : i ∈ Pd.map Prod.fst) : LE (listed.setIfInBounds i true) listedE (Pd.filter fun p => p.1 != i) := fun j => by
  rw [set_get, hL j]
  cases listed[j]? with
  | none => rfl
  | some b =>
    have : (hasN (Pd.map Prod.fst) j) = (decide (j = i) || hasN ((Pd.filter fun p => p.1 != i).map Prod.fst) j) := by
      rw [Bool.eq_iff_iff, hasN_mem, Bool.or_eq_true, hasN_mem, decide_eq_true_eq]
      simp only [List.mem_map, List.mem_filter, bne_iff_ne, ne_eq]
      constructor
      · rintro ⟨p, h1, h2⟩
        by_cases hq : j = i
        · exact .inl hq
        · exact .inr ⟨p, ⟨h1, by rw [h2]; exact hq⟩, h2⟩
      · rintro (rfl | ⟨p, ⟨h1, _⟩, h2⟩)
        · simpa using hi
        · exact ⟨p, h1, h2⟩
    simp only [Option.map_some, Option.some.injEq, this]
    cases b <;> cases hasN ((Pd.filter fun p => p.1 != i).map Prod.fst) j <;> cases decide (j = i) <;> rfl
theorem setAll_get : ∀ {js : List Nat} {l : Array Bool} {j : Nat}, (setAll js l)[j]? = (l[j]?).map fun b => b || hasN js j
  | [], l, j => by simp [setAll, hasN]
  | i :: js, l, j => by
    simp only [setAll]
    rw [setAll_get, set_get]
    cases l[j]? with
    | none => rfl
    | some b =>
      have : hasN (i :: js) j = (decide (j = i) || hasN js j) := by rw [Bool.eq_iff_iff, hasN_mem, Bool.or_eq_true, hasN_mem]; simp
      simp only [Option.map_some, this, Option.some.injEq]
      cases b <;> cases hasN js j <;> cases decide (j = i) <;> rfl
theorem delN_mem {i : Nat} : ∀ {l : List Nat} {j : Nat}, j ∈ delN i l ↔ j ∈ l ∧ j ≠ i
  | [], j => by simp [delN]
  | a :: l, j => by
    simp only [delN]
    cases hq : Nat.beq a i with
    | true =>
      have := Nat.eq_of_beq_eq_true hq
      simp only [cond_true, delN_mem (l := l), List.mem_cons]
      constructor
      · rintro ⟨h1, h2⟩; exact ⟨.inr h1, h2⟩
      · rintro ⟨h1 | h1, h2⟩
        · exact absurd (h1.trans this) h2
        · exact ⟨h1, h2⟩
    | false =>
      have hne : a ≠ i := fun hq2 => by rw [hq2] at hq; simp at hq
      simp only [cond_false, List.mem_cons, delN_mem (l := l)]
      constructor
      · rintro (rfl | ⟨h1, h2⟩)
        · exact ⟨.inl rfl, hne⟩
        · exact ⟨.inr h1, h2⟩
      · rintro ⟨h1 | h1, h2⟩
        · exact .inl h1
        · exact .inr ⟨h1, h2⟩
theorem len_sub : ∀ {l m : List Nat}, l.Nodup → (∀ x, x ∈ l → x ∈ m) → l.length ≤ m.length
  | [], m, _, _ => Nat.zero_le _
  | x :: l, m, hn, hs => by
    obtain ⟨h1, h2⟩ := List.nodup_cons.1 hn
    have hx := hs x (by simp)
    have := len_sub (m := m.erase x) h2 fun z hz => (List.mem_erase_of_ne (by rintro rfl; exact h1 hz)).2 (hs z (by simp [hz]))
    rw [List.length_erase_of_mem hx] at this
    have := List.length_pos_of_mem hx
    simp only [List.length_cons]
    omega
theorem snd_inj : ∀ {Pd : List (Nat × Nat)}, (Pd.map Prod.snd).Nodup → ∀ {p q : Nat × Nat}, p ∈ Pd → q ∈ Pd → p.2 = q.2 → p = q
  | [], _, _, _, hp, _, _ => by cases hp
  | a :: Pd, hn, p, q, hp, hq, he => by
    obtain ⟨h1, h2⟩ := List.nodup_cons.1 hn
    rcases List.mem_cons.1 hp with hp1 | hp1 <;> rcases List.mem_cons.1 hq with hq1 | hq1
    · rw [hp1, hq1]
    · exact absurd (List.mem_map.2 ⟨q, hq1, by rw [← he, hp1]⟩) h1
    · exact absurd (List.mem_map.2 ⟨p, hp1, by rw [he, hq1]⟩) h1
    · exact snd_inj h2 hp1 hq1 he
structure PdIn (T : TE) (ops : Array Oper) (pds : List Nat) (listed : Array Bool) (B : Bas) (E : Env) (p : Nat × Nat) : Prop where
  mem : p.1 ∈ pds
  un : listed.getD p.1 true = false
  rdy : p.1 ∈ Region.ready .any ops listed
  op : ∃ o d v b, ops[p.1]? = some o ∧ o.dst = some d ∧ pendV T o.op (ev E) p.2 = some (v, b) ∧ E d = v ∧ B.G p.2 = some b
  H : B.H p.2
  X : ∀ r, B.X r p.2
  n0 : B.n0 ≤ p.2
theorem PdIn.put {T : TE} {ops : Array Oper} {pds : List Nat} {listed : Array Bool} {p : Nat × Nat} (hp : PdIn T ops pds listed B E p) (hst : ∀ j, j ∈ pds → pendOk ops pds j = true) {i : Nat} {oi : Oper} (hi : ops[i]? = some oi) (hir : i ∈ Region.ready .any ops listed) (hne : i ≠ p.1) (r : AV) :
    PdIn T ops pds listed B (E.put oi.dst r) p := by
  obtain ⟨m, u, rd, ⟨o, d, v, b, q1, q2, q3, q4, q5⟩, hH, hX, hn⟩ := hp
  have h0 := hst p.1 m
  unfold pendOk at h0
  rw [q1] at h0
  simp only [Bool.and_eq_true, List.all_eq_true, List.mem_range] at h0
  have h1 := h0.2 i (Array.getElem?_eq_some_iff.1 hi).1
  rw [hi] at h1
  simp only [Bool.or_eq_true, beq_iff_eq] at h1
  have wait : ∀ {a c : Nat} {oa : Oper}, ops[a]? = some oa → a ∈ Region.ready .any ops listed → waitsFor oa c = true → listed.getD c true = false → False := fun {a c oa} ha hr hw hu => by
    obtain ⟨_, oa', ha', hall⟩ := mem_ready.1 hr
    rw [ha] at ha'
    obtain rfl := Option.some.inj ha'
    unfold waitsFor at hw
    rw [Array.any_eq_true'] at hw
    obtain ⟨e, he, hb⟩ := hw
    simp only [Bool.and_eq_true, beq_iff_eq] at hb
    have := hall e he hb.1
    rw [hb.2] at this
    exact unlisted hu this
  have hap : o.apart ops oi = true := by
    rcases h1 with h1 | h1
    · exact absurd h1 hne
    · cases hw : waitsFor o i with
      | true => exact (wait q1 rd hw (mem_ready.1 hir).1).elim
      | false =>
        rw [hw] at h1
        simp only [cond_false, Bool.or_eq_true] at h1
        rcases h1 with h1 | h1
        · exact (wait hi hir h1 u).elim
        · exact h1
  obtain ⟨a1, a2, a3⟩ := Oper.apart_spec hap
  have same : Same ops o E (E.put oi.dst r) := fun t ht => by
    cases hd : oi.dst with
    | none => rfl
    | some d' =>
      have : d' ≠ t := fun hq => a3 d' hd (hq ▸ ht)
      simp [Env.put, this]
  refine ⟨m, u, rd, ⟨o, d, v, b, q1, q2, by rw [← pendV_congr same.ev]; exact q3, ?_, q5⟩, hH, hX, hn⟩
  cases hd : oi.dst with
  | none => exact q4
  | some d' =>
    have : d' ≠ d := fun hq => a2 d q2 (by rw [hd, hq])
    simp only [Env.put]
    rw [← q4]
    simp [this]
theorem PdIn.base {T : TE} {ops : Array Oper} {pds : List Nat} {listed : Array Bool} {p : Nat × Nat} {B2 : Bas} (hp : PdIn T ops pds listed B E p) (hG : ∀ b, B.G p.2 = some b → B2.G p.2 = some b) (hH : B2.H p.2) (hX : ∀ r, B2.X r p.2) (hn : B2.n0 ≤ p.2) : PdIn T ops pds listed B2 E p := by
  obtain ⟨m, u, rd, ⟨o, d, v, b, q1, q2, q3, q4, q5⟩, _, _, _⟩ := hp
  exact ⟨m, u, rd, ⟨o, d, v, b, q1, q2, q3, q4, hG b q5⟩, hH, hX, hn⟩
theorem PdIn.set {T : TE} {ops : Array Oper} {pds : List Nat} {listed : Array Bool} {p : Nat × Nat} (hp : PdIn T ops pds listed B E p) {i : Nat} (hne : i ≠ p.1) : PdIn T ops pds (listed.setIfInBounds i true) B E p := by
  obtain ⟨m, u, rd, q, hH, hX, hn⟩ := hp
  exact ⟨m, by rw [getD_set_ne true hne]; exact u, ready_mono rd (Ne.symm hne), q, hH, hX, hn⟩
theorem drawS_ok {P : Program} (gk : POk g) {call : Callee} (hcall : CallOk P call) {ops : Array Oper} {R0 : Roots} {pds sfx : List Nat} {pre0 : List (Nat × Nat)} {k : St → Option α} {B0 : Bas} {Kf : Env → Heap → Nat → Prop} (hz : ∀ (i : Nat) o, ops[i]? = some o → notZ g.T o = true)
    (hst : ∀ j, j ∈ pds → pendOk ops pds j = true) (hsw : ∀ j, j ∈ sfx → ∀ o, ops[j]? = some o → ∀ p, p ∈ pre0 → waitsFor o p.1 = true) (hpp : ∀ j, j ∈ pds → j ∈ pre0.map Prod.fst)
    (hEnd : ∀ {f : Nat} {listed : Array Bool} {G : Heap} {E : Env} {h : Heap} {n : Nat}, sfxP ops sfx listed = true → Closed ops listed → sfx.length ≤ f → Fin B0 cx Es y k E h n → anyA P g.T ops (SB sfx G) Kf f listed E h n) :
    ∀ (s : Nat) {plan Pd : List (Nat × Nat)} {f : Nat} {listed listedE : Array Bool} {B : Bas} {st : St} {L : Lay} {E : Env} {h : Heap} {n : Nat}, plan.length + f = s → plan.length + sfx.length ≤ f + Pd.length → (∀ p, p ∈ plan → p ∈ pre0) → (∀ j, j ∈ pds → listed.getD j true = false → j ∈ plan.map Prod.fst) → (Pd.map Prod.fst).Nodup → (Pd.map Prod.snd).Nodup →
      (∀ p, p ∈ Pd → PdIn g.T ops pds listed B E p) → LE listed listedE Pd → Closed ops listedE → (∀ j, j ∈ sfx → listed.getD j true = false) → drawP ops pds sfx plan listed = true → (∀ r x, lkp R0 r = some x → lkp cx.roots0 r = some x ∧ B.lk r) →
      (∀ st L E h n, Gam (B.rmL (Pd.map Prod.snd)) cx st L Es E h n → Gam B0 cx st L Es E h n) → Gam B cx st L Es E h n → drawS g call R0 cx ops pds plan listed st k = some y → anyA P g.T ops (SB sfx (B.rmL (Pd.map Prod.snd)).G) Kf f listedE E h n := by
  intro s
  induction s using Nat.strongRecOn with
  | ind s ih =>
  intro plan Pd f listed listedE B st L E h n hs hf hpl hpd hn1 hn2 hPd hL hcl hsf hp hR hB H hk
  have hXs : ∀ r i, i ∈ Pd.map Prod.snd → B.X r i := fun r i hi => by
    obtain ⟨p, hp, rfl⟩ := List.mem_map.1 hi
    exact (hPd p hp).X r
  have wait : ∀ {l : Array Bool} {a c : Nat} {oa : Oper}, ops[a]? = some oa → a ∈ Region.ready .any ops l → waitsFor oa c = true → l.getD c false = true := fun {l a c oa} ha hr hw => by
    obtain ⟨_, oa', ha', hall⟩ := mem_ready.1 hr
    rw [ha] at ha'
    obtain rfl := Option.some.inj ha'
    unfold waitsFor at hw
    rw [Array.any_eq_true'] at hw
    obtain ⟨e, he, hb⟩ := hw
    simp only [Bool.and_eq_true, beq_iff_eq] at hb
    have := hall e he hb.1
    rwa [hb.2] at this
  have rdyE : ∀ {j : Nat}, j ∈ Region.ready .any ops listed → j ∉ Pd.map Prod.fst → j ∈ Region.ready .any ops listedE := fun {j} hj hnj => by
    obtain ⟨h0, o, ho, hall⟩ := mem_ready.1 hj
    exact mem_ready.2 ⟨hL.un.2 ⟨h0, hnj⟩, o, ho, fun e he hb => hL.on (hall e he hb)⟩
  have nsfx : ∀ {j : Nat}, j ∈ pre0.map Prod.fst → j ∈ Region.ready .any ops listed → j ∉ sfx := fun {j} hj hr hjs => by
    obtain ⟨p, hp, rfl⟩ := List.mem_map.1 hj
    obtain ⟨hun, o, ho, _⟩ := mem_ready.1 hr
    exact unlisted hun (wait ho hr (hsw p.1 hjs o ho p hp))
  have rdyP : ∀ {j : Nat}, j ∈ pds → j ∈ Region.ready .any ops listedE → j ∈ Region.ready .any ops listed ∧ j ∉ Pd.map Prod.fst := fun {j} hj hr => by
    obtain ⟨h0, o, ho, hall⟩ := mem_ready.1 hr
    obtain ⟨h1, h2⟩ := hL.un.1 h0
    refine ⟨mem_ready.2 ⟨h1, o, ho, fun e he hb => ?_⟩, h2⟩
    rcases hL.off (hall e he hb) with hq | ⟨hq, _⟩
    · exact hq
    · exfalso
      obtain ⟨p, hp, hpe⟩ := List.mem_map.1 hq
      have hpm := (hPd p hp).mem
      have h3 := hst j hj
      unfold pendOk at h3
      rw [ho] at h3
      simp only [Bool.and_eq_true, List.all_eq_true, List.mem_range] at h3
      obtain ⟨o2, _, _, _, ho2, _⟩ := (hPd p hp).op
      have h4 := h3.2 p.1 (Array.getElem?_eq_some_iff.1 ho2).1
      rw [ho2] at h4
      simp only [Bool.or_eq_true, beq_iff_eq] at h4
      have hne : p.1 ≠ j := fun hq => by rw [← hq] at h2; exact h2 (List.mem_map.2 ⟨p, hp, rfl⟩)
      have hw : waitsFor o p.1 = true := by
        unfold waitsFor
        rw [Array.any_eq_true']
        exact ⟨e, he, by simp [hb, hpe]⟩
      rcases h4 with h4 | h4
      · exact hne h4
      · rw [hw, cond_true, hasN_mem.2 hpm] at h4; cases h4
  have subP : ∀ {j : Nat}, j ∈ Pd.map Prod.fst → j ∈ pds := fun hj => by
    obtain ⟨p, hp, rfl⟩ := List.mem_map.1 hj
    exact (hPd p hp).mem
  have pendMove : ∀ {j f' : Nat} {oj : Oper}, f = f' + 1 → pendsS g cx st ops listed pds = true → j ∈ pds → ops[j]? = some oj → j ∈ Region.ready .any ops listedE →
      stepA P g.T ops.toList oj E h n (fun E' h' n' => SB sfx (B.rmL (Pd.map Prod.snd)).G (listedE.setIfInBounds j true) h' ∧ anyA P g.T ops (SB sfx (B.rmL (Pd.map Prod.snd)).G) Kf f' (listedE.setIfInBounds j true) E' h' n') := fun {j f' oj} hff hps hj hoj hr => by
    obtain ⟨hrl, hnj⟩ := rdyP hj hr
    have hun := (mem_ready.1 hrl).1
    have h0 := hst j hj
    unfold pendOk at h0
    rw [hoj] at h0
    simp only [Bool.and_eq_true] at h0
    obtain ⟨⟨⟨_, hg0⟩, hd0⟩, _⟩ := h0
    have hg : oj.guard = none := by simpa using hg0
    obtain ⟨d, hd, hself⟩ : ∃ d, oj.dst = some d ∧ d ∉ oj.looksAt ops := by
      split at hd0
      · rename_i d hd; exact ⟨d, hd, by simpa using hd0⟩
      · cases hd0
    have h1 := List.all_eq_true.1 hps j hj
    rw [hoj, hun] at h1
    simp only [Bool.false_or, Bool.and_eq_true, Bool.or_eq_true] at h1
    obtain ⟨hnt, hpt⟩ := h1
    have hpt : partsS g cx st oj.op = true := hpt.elim (fun hq => by rw [List.contains_iff_mem.2 hrl] at hq; cases hq) _root_.id
    rw [hd] at hnt
    obtain ⟨nt1, nt2⟩ : lkp st.env d = none ∧ lkp cx.env0 d = none := by
      simp only [noT, Bool.and_eq_true] at hnt
      constructor
      · cases hx : lkp st.env d with
        | none => rfl
        | some v => rw [hx] at hnt; exact absurd hnt.1 (by simp)
      · cases hx : lkp cx.env0 d with
        | none => rfl
        | some v => rw [hx] at hnt; exact absurd hnt.2 (by simp)
    obtain ⟨v, b, hv, hstep⟩ := pend_step (P := P) H (ops := ops.toList) hg hpt
    have hnone : ∀ i c, B.G i = some c → i < n := fun i c hc => H.hlt i c (H.gh i c hc)
    refine hstep _ ⟨fun _ i c hc => ?_, ?_⟩
    · have := H.gh i c (rmL_sub i c hc)
      unfold Heap.upd
      rw [if_neg (by have := H.hlt i c this; omega)]
      exact this
    rw [hd]
    have same : Same ops oj E (E.put (some d) v) := fun t ht => by
      have : d ≠ t := fun hq => hself (hq ▸ ht)
      simp [Env.put, this]
    obtain ⟨L', H'⟩ := (H.reE (E' := E.put (some d) v) (fun t w hw => by
      have : d ≠ t := fun hq => by rw [hq, hw] at nt1; cases nt1
      simp [Env.put, this]) (fun t w hw => by
      have : d ≠ t := fun hq => by rw [hq, hw] at nt2; cases nt2
      simp [Env.put, this])).pend b
    have gsub : (B.rmL (Pd.map Prod.snd)).G.Sub ((B.res n b).rmL (n :: Pd.map Prod.snd)).G := fun i c hc => by
      have hni : i ∉ Pd.map Prod.snd := fun hi => by rw [rmL_in hi] at hc; cases hc
      rw [rmL_out hni] at hc
      have hin := hnone i c hc
      rw [rmL_out (by simp only [List.mem_cons, not_or]; exact ⟨by omega, hni⟩)]
      show (B.G.upd n b) i = some c
      unfold Heap.upd
      rw [if_neg (by omega)]
      exact hc
    have hBX : ∀ st L E h n2, Gam ((B.res n b).rmL (n :: Pd.map Prod.snd)) cx st L Es E h n2 → Gam (B.rmL (Pd.map Prod.snd)) cx st L Es E h n2 := fun st L E h n2 G => G.weakB rfl rfl rfl gsub (fun r i hx => .inl hx) (fun i hi => ⟨.inl hi.1, by
      simp only [List.mem_cons, not_or]
      refine ⟨?_, hi.2⟩
      rintro rfl
      cases hg2 : B.G i with
      | none => exact B.HG i hi.1 hg2
      | some c => exact absurd (hnone i c hg2) (Nat.lt_irrefl i)⟩) fun r i _ hx => by
      have hin : i ≠ n := fun hq => hx (.inr hq)
      by_cases hi : i ∈ Pd.map Prod.snd
      · rw [rmL_in hi, rmL_in (List.mem_cons_of_mem _ hi)]
      · rw [rmL_out hi, rmL_out (by simp only [List.mem_cons, not_or]; exact ⟨hin, hi⟩)]
        show B.G i = (B.G.upd n b) i
        unfold Heap.upd
        rw [if_neg hin]
    have := ih (plan.length + f') (by omega) (plan := plan) (Pd := (j, n) :: Pd) (f := f') (listed := listed) (listedE := listedE.setIfInBounds j true) (B := B.res n b) (st := st) (L := L') (E := E.put (some d) v) (h := h.upd n b) (n := n + 1) rfl (by simp only [List.length_cons]; omega) hpl hpd
      (by simp only [List.map_cons, List.nodup_cons]; exact ⟨hnj, hn1⟩)
      (by
        simp only [List.map_cons, List.nodup_cons]
        refine ⟨fun hq => ?_, hn2⟩
        obtain ⟨p, hp, hpn⟩ := List.mem_map.1 hq
        obtain ⟨_, _, _, c, _, _, _, _, hc⟩ := (hPd p hp).op
        have := hnone _ _ hc
        omega)
      (fun p hp => by
        rcases List.mem_cons.1 hp with rfl | hp
        · exact ⟨hj, hun, hrl, ⟨oj, d, v, b, hoj, hd, by rw [← pendV_congr same.ev]; exact hv, by simp [Env.put], by show (B.G.upd n b) n = some b; simp [Heap.upd]⟩, .inr rfl, fun r => .inr rfl, H.nn⟩
        · have hne : j ≠ p.1 := fun hq => hnj (List.mem_map.2 ⟨p, hp, hq.symm⟩)
          have h2 := (hPd p hp).put hst hoj hrl hne v
          rw [hd] at h2
          refine h2.base (fun c hc => ?_) (.inl (hPd p hp).H) (fun r => .inl ((hPd p hp).X r)) (hPd p hp).n0
          show (B.G.upd n b) p.2 = some c
          unfold Heap.upd
          rw [if_neg (by have := hnone _ _ hc; omega)]
          exact hc)
      (hL.pend j n) (closed_set hcl hr) hsf hp hR (fun st L E h n2 G => hB st L E h n2 (hBX st L E h n2 G)) H' hk
    exact anyA_mono (fun l h hs hl i c hc => hs hl i c (gsub i c hc)) (fun _ _ _ hk => hk) f' this
  cases plan with
  | nil =>
    have hPn : Pd = [] := by
      cases Pd with
      | nil => rfl
      | cons p Pd =>
        have := hpd p.1 (hPd p (by simp)).mem (hPd p (by simp)).un
        cases this
    subst hPn
    have he : listedE = listed := Array.ext_getElem? fun j => by rw [hL j]; cases listed[j]? with | none => rfl | some b => simp [hasN]
    subst he
    simp only [List.length_nil, Nat.zero_add, Nat.add_zero] at hf
    exact hEnd hp hcl hf ⟨st, L, hk, hB _ _ _ _ _ (H.rmL hXs)⟩
  | cons ikd l =>
    obtain ⟨i, kd⟩ := ikd
    obtain ⟨env, ρ, nx, mc⟩ := st
    simp only [drawP, Bool.and_eq_true] at hp
    obtain ⟨hp1, hp2⟩ := hp
    simp only [drawS] at hk
    obtain ⟨g1, g2⟩ := bif_some hk
    rw [Bool.and_eq_true] at g1
    obtain ⟨gp, gh⟩ := g1
    cases hi : ops[i]? with
    | none => rw [hi] at hp1; cases hp1
    | some oi =>
      rw [hi] at hp1 gh
      simp only [Bool.and_eq_true, List.contains_iff_mem] at hp1
      obtain ⟨hir, hp1⟩ := hp1
      have hun := (mem_ready.1 hir).1
      have nz := hz i oi hi
      have hip : i ∈ pre0.map Prod.fst := List.mem_map.2 ⟨(i, kd), hpl (i, kd) List.mem_cons_self, rfl⟩
      have his := nsfx hip hir
      have hsf2 : ∀ j, j ∈ sfx → (listed.setIfInBounds i true).getD j true = false := fun j hj => by rw [getD_set_ne true (by rintro rfl; exact his hj)]; exact hsf j hj
      have hpd2 : ∀ j, j ∈ pds → (listed.setIfInBounds i true).getD j true = false → j ∈ l.map Prod.fst := fun j hj hu => by
        have hne : i ≠ j := by
          rintro rfl
          rw [Array.getD_eq_getD_getElem?, set_get] at hu
          cases hx : listed[i]? with
          | none => rw [hx] at hu; cases hu
          | some b => rw [hx] at hu; simp at hu
        rw [getD_set_ne true hne] at hu
        have := hpd j hj hu
        simp only [List.map_cons, List.mem_cons] at this
        exact this.resolve_left (Ne.symm hne)
      have fpos : i ∉ Pd.map Prod.fst → ∃ f', f = f' + 1 := fun hni => by
        cases f with
        | succ f' => exact ⟨f', rfl⟩
        | zero =>
          exfalso
          have h1 : (Pd.map Prod.fst).length ≤ (l.map Prod.fst).length := len_sub hn1 fun j hj => by
            obtain ⟨p, hp, rfl⟩ := List.mem_map.1 hj
            have := hpd p.1 (hPd p hp).mem (hPd p hp).un
            simp only [List.map_cons, List.mem_cons] at this
            exact this.resolve_left fun hq => hni (by rw [← hq]; exact hj)
          simp only [List.length_map, List.length_cons] at h1 hf
          omega
      have next : ∀ {B' : Bas} {st' : St} {L' : Lay} {E' : Env} {h' : Heap} {n' f' : Nat}, i ∉ Pd.map Prod.fst → f = f' + 1 → Gam B' cx st' L' Es E' h' n' → drawS g call R0 cx ops pds l (listed.setIfInBounds i true) st' k = some y → (∀ p, p ∈ Pd → PdIn g.T ops pds listed B' E' p) → B'.lk = B.lk →
          (∀ st L E h n, Gam (B'.rmL (Pd.map Prod.snd)) cx st L Es E h n → Gam B0 cx st L Es E h n) → anyA P g.T ops (SB sfx (B'.rmL (Pd.map Prod.snd)).G) Kf f' (listedE.setIfInBounds i true) E' h' n' := fun {B' st' L' E' h' n' f'} hni hff H' hk' hP' hlk hB' =>
        ih (l.length + f') (by simp only [List.length_cons] at hs; omega) rfl (by simp only [List.length_cons] at hf; omega) (fun p hp => hpl p (List.mem_cons_of_mem _ hp)) hpd2 hn1 hn2 (fun p hp => (hP' p hp).set fun hq => hni (List.mem_map.2 ⟨p, hp, hq.symm⟩)) (hL.set i) (closed_set hcl (rdyE hir hni)) hsf2 hp2 (fun r x hx => by rw [hlk]; exact hR r x hx) hB' H' hk'
      have putP : ∀ r, i ∉ Pd.map Prod.fst → ∀ p, p ∈ Pd → PdIn g.T ops pds listed B (E.put oi.dst r) p := fun r hni p hp => (hPd p hp).put hst hi hir (fun hq => hni (List.mem_map.2 ⟨p, hp, hq.symm⟩)) r
      have free : ((List.range ops.size).all fun j => j == i || listed.getD j true || (match ops[j]? with | none => true | some oj => waitsFor oj i || oi.apart ops oj)) = true → ∀ j oj, ops[j]? = some oj → j ≠ i → listedE.getD j true = false → (∀ e, e ∈ oj.after → Region.binds .any e = true → e.on ≠ i) → oi.apart ops oj = true := fun q5 j oj hj hne hl hno => by
        have := List.all_eq_true.1 q5 j (List.mem_range.2 (Array.getElem?_eq_some_iff.1 hj).1)
        rw [hj] at this
        simp only [Bool.or_eq_true, beq_iff_eq] at this
        rcases this with (h1 | h1) | h1 | h1
        · exact absurd h1 hne
        · rw [(hL.un.1 hl).1] at h1; cases h1
        · unfold waitsFor at h1
          rw [Array.any_eq_true'] at h1
          obtain ⟨e, he, hb⟩ := h1
          simp only [Bool.and_eq_true, beq_iff_eq] at hb
          exact absurd hb.2 (hno e he hb.1)
        · exact h1
      have hsfE : i ∉ Pd.map Prod.fst → ∀ j, j ∈ sfx → listedE.getD j true = false := fun _ j hj => hL.un.2 ⟨hsf j hj, fun hq => by
        obtain ⟨p, hp, rfl⟩ := List.mem_map.1 hq
        exact nsfx (hpp _ (hPd p hp).mem) (hPd p hp).rdy hj⟩
      have hsw2 : ∀ j oj, j ∈ sfx → ops[j]? = some oj → waitsFor oj i = true := fun j oj hj ho => hsw j hj oj ho (i, kd) (hpl (i, kd) List.mem_cons_self)
      have run : ∀ {B : Bas}, Gam B cx ⟨env, ρ, nx, mc⟩ L Es E h n → kd ≠ 3 → stepA P g.T ops.toList oi E h n (Fin B cx Es y (fun st => drawS g call R0 cx ops pds l (listed.setIfInBounds i true) st k)) := fun H hne => by
        have g3 : regS g call cx ops [i] ⟨env, ρ, nx, mc⟩ (fun st => drawS g call R0 cx ops pds l (listed.setIfInBounds i true) st k) = some y := by
          split at g2
          · exact absurd rfl hne
          · exact g2
        exact stepB_A nz (reg1_ok gk hcall hi H g3)
      have sbOf : ∀ {B' : Bas} {h' : Heap} {l : Array Bool}, B'.G.Sub h' → SB sfx (B'.rmL (Pd.map Prod.snd)).G l h' := fun hg _ j c hc => hg j c (rmL_sub j c hc)
      have only : ∀ {js : List Nat}, Region.ready .any ops (setAll js listed) = [i] → (∀ j, j ∈ Pd.map Prod.fst → j ∈ js) → ∀ j, j ∈ Region.ready .any ops listedE → j ∉ js → j = i := fun {js} hr hjs j hj hnj => by
        obtain ⟨h0, o, ho, hall⟩ := mem_ready.1 hj
        have : j ∈ Region.ready .any ops (setAll js listed) := mem_ready.2 ⟨by
          have h1 := (hL.un.1 h0).1
          rw [Array.getD_eq_getD_getElem?] at h1 ⊢
          rw [setAll_get]
          cases hx : listed[j]? with
          | none => rw [hx] at h1; cases h1
          | some b =>
            rw [hx] at h1
            simp only [Option.getD_some] at h1
            subst h1
            simp only [Option.map_some, Option.getD_some, Bool.false_or]
            cases hq : hasN js j with
            | false => rfl
            | true => exact absurd (hasN_mem.1 hq) hnj, o, ho, fun e he hb => by
          rw [Array.getD_eq_getD_getElem?, setAll_get]
          rcases hL.off (hall e he hb) with hq | ⟨hq, hlt⟩
          · rw [Array.getD_eq_getD_getElem?] at hq
            cases hx : listed[e.on]? with
            | none => rw [hx] at hq; cases hq
            | some b => rw [hx] at hq; simp only [Option.getD_some] at hq; simp [hq]
          · rw [Array.getElem?_eq_getElem hlt]
            simp [hasN_mem.2 (hjs _ hq)]⟩
        rw [hr] at this
        exact List.mem_singleton.1 this
      by_cases h3 : kd = 3
      · subst h3
        simp only [Bool.and_eq_true, hasN_mem, beq_iff_eq] at hp1
        obtain ⟨him, hrd⟩ := hp1
        by_cases hiP : i ∈ Pd.map Prod.fst
        ·
          obtain ⟨⟨i', id⟩, hpm, rfl⟩ := List.mem_map.1 hiP
          have PI := hPd _ hpm
          obtain ⟨o, d, v, b, q1, q2, q3, q4, q5⟩ := PI.op
          simp only at q1 hi
          rw [hi] at q1
          obtain rfl := Option.some.inj q1
          have hgd : oi.guard = none := by
            have h0 := hst i' him
            unfold pendOk at h0
            rw [hi] at h0
            simp only [Bool.and_eq_true] at h0
            simpa using h0.1.1.2
          obtain ⟨H2, hfree⟩ := H.back q5 PI.H PI.X PI.n0
          simp only [hi] at g2
          obtain ⟨st', L', r1, r2⟩ := adopt_ok gk H2 hi q2 hgd q3 q4 hfree g2
          have hsub : ∀ p, p ∈ Pd.filter (fun p => p.1 != i') → p ∈ Pd ∧ p.1 ≠ i' ∧ p.2 ≠ id := fun p hp => by
            simp only [List.mem_filter, bne_iff_ne, ne_eq] at hp
            refine ⟨hp.1, hp.2, fun hq => hp.2 ?_⟩
            have := snd_inj hn2 hp.1 hpm hq
            rw [this]
          have idin : id ∈ Pd.map Prod.snd := List.mem_map.2 ⟨_, hpm, rfl⟩
          have idsub : ∀ j, j ∈ (Pd.filter (fun p => p.1 != i')).map Prod.snd → j ∈ Pd.map Prod.snd := fun j hj => by
            obtain ⟨p, hp, rfl⟩ := List.mem_map.1 hj
            exact List.mem_map.2 ⟨p, (hsub p hp).1, rfl⟩
          have gsub : (B.rmL (Pd.map Prod.snd)).G.Sub ((B.rmL [id]).rmL ((Pd.filter (fun p => p.1 != i')).map Prod.snd)).G := fun j c hc => by
            have hj : j ∉ Pd.map Prod.snd := fun hj => by rw [rmL_in hj] at hc; cases hc
            rw [rmL_out hj] at hc
            rw [rmL_out fun hq => hj (idsub j hq), rmL_out fun hq => hj (by rw [List.mem_singleton.1 hq]; exact idin)]
            exact hc
          have hlen : (Pd.filter (fun p => p.1 != i')).length + 1 ≥ Pd.length := by
            have : ∀ {l : List (Nat × Nat)}, (l.map Prod.fst).Nodup → (l.filter (fun p => p.1 != i')).length + 1 ≥ l.length := fun {l} hn => by
              induction l with
              | nil => simp
              | cons p l ihl =>
                obtain ⟨m1, m2⟩ := List.nodup_cons.1 hn
                by_cases hq : p.1 = i'
                · have : l.filter (fun p => p.1 != i') = l := List.filter_eq_self.2 fun x hx => by
                    simp only [bne_iff_ne, ne_eq]
                    intro hxi
                    exact m1 (List.mem_map.2 ⟨x, hx, by rw [hxi, hq]⟩)
                  simp [List.filter_cons, hq, this]
                · have := ihl m2
                  simp only [List.filter_cons, bne_iff_ne, ne_eq, hq, not_false_eq_true, if_true, List.length_cons]
                  omega
            exact this hn1
          have := ih (l.length + f) (by simp only [List.length_cons] at hs; omega) (plan := l) (Pd := Pd.filter fun p => p.1 != i') (f := f) (listed := listed.setIfInBounds i' true) (listedE := listedE) (B := B.rmL [id]) (st := st') (L := L') (E := E) (h := h) (n := n) rfl (by simp only [List.length_cons] at hf; omega)
            (fun p hp => hpl p (List.mem_cons_of_mem _ hp)) hpd2 (hn1.sublist (List.filter_sublist.map _)) (hn2.sublist (List.filter_sublist.map _))
            (fun p hp => by
              obtain ⟨p1, p2, p3⟩ := hsub p hp
              refine ((hPd p p1).base (B2 := B.rmL [id]) (fun c hc => ?_) ⟨(hPd p p1).H, ?_⟩ (hPd p p1).X (hPd p p1).n0).set (Ne.symm p2)
              · rw [rmL_out fun hq => p3 (List.mem_singleton.1 hq)]; exact hc
              · exact fun hq => p3 (List.mem_singleton.1 hq))
            (hL.adopt hiP) hcl hsf2 hp2 hR (fun st L E h n2 G => hB st L E h n2 (G.weakB rfl rfl rfl gsub (fun _ _ hx => hx) (fun j hj => ⟨⟨hj.1, fun hq => hj.2 (by rw [List.mem_singleton.1 hq]; exact idin)⟩, fun hq => hj.2 (idsub j hq)⟩) fun r j hlk hx => by
              have hx : ¬ B.X r j := hx
              have hj : j ∉ Pd.map Prod.snd := fun hq => hx (hXs r j hq)
              rw [rmL_out hj, rmL_out fun hq => hj (idsub j hq), rmL_out fun hq => hj (by rw [List.mem_singleton.1 hq]; exact idin)])) r2 r1
          exact anyA_mono (fun l h hs hl j c hc => hs hl j c (gsub j c hc)) (fun _ _ _ hk => hk) f this
        · obtain ⟨f', rfl⟩ := fpos hiP
          have hirE := rdyE hir hiP
          refine ⟨fun h0 => (by rw [h0] at hirE; cases hirE), fun j hj oj hoj => ?_⟩
          by_cases hjp : j ∈ pds
          · exact pendMove rfl gp hjp hoj hj
          · exfalso
            have := only hrd (fun j hj => delN_mem.2 ⟨subP hj, fun hq => hiP (hq ▸ hj)⟩) j hj fun hq => hjp (delN_mem.1 hq).1
            subst this
            exact hjp him
      · have hni : i ∉ pds := by
          split at hp1
          · simp only [Bool.and_eq_true, Bool.not_eq_true'] at hp1
            exact fun hq => by rw [hasN_mem.2 hq] at hp1; exact absurd hp1.1 (by simp)
          · exact absurd rfl h3
          · simp only [Bool.and_eq_true, Bool.not_eq_true'] at hp1
            exact fun hq => by rw [hasN_mem.2 hq] at hp1; exact absurd hp1.1.1 (by simp)
        have hniP : i ∉ Pd.map Prod.fst := fun hq => hni (subP hq)
        obtain ⟨f', rfl⟩ := fpos hniP
        have hirE := rdyE hir hniP
        split at hp1
        · simp only [Bool.and_eq_true, beq_iff_eq] at hp1
          obtain ⟨_, hrd⟩ := hp1
          refine ⟨fun h0 => (by rw [h0] at hirE; cases hirE), fun j hj oj hoj => ?_⟩
          by_cases hjp : j ∈ pds
          · exact pendMove rfl gp hjp hoj hj
          · obtain rfl := only hrd (fun j hj => subP hj) j hj hjp
            rw [hi] at hoj
            obtain rfl := Option.some.inj hoj
            exact stepA_mono (fun r h' n' ⟨st', L', q1, q2⟩ => ⟨sbOf q2.gh, next hniP rfl q2 q1 (putP r hniP) rfl hB⟩) (run H h3)
        · exact absurd rfl h3
        · rename_i hne2 hne3
          simp only [Bool.and_eq_true] at hp1
          obtain ⟨⟨_, r2⟩, r3⟩ := hp1
          split at r2
          · obtain ⟨v, ⟨st', L', q1, q2⟩, v2⟩ := stepA_quiet0 r2 (run H h3)
            exact takeG (h1 := Heap.emp) (fun _ _ hb => hb) (fun _ _ hb => by cases hb) hi his hsw2 f' listedE E h n hcl (hsfE hniP) (free r3) hirE (fun E2 h' n' K hs _ hk => v2 E2 h' n' K hs hk) (fun j c hc => H.gh j c (rmL_sub j c hc)) (next hniP rfl q2 q1 (putP v hniP) rfl hB)
          · have hr : readsIn oi.op (ev E) (orH (B.rmL (Pd.map Prod.snd)).G L.F) ∨ ∃ j want, oi.guard = some (j, want) ∧ yieldA ops.toList E j ≠ some (some want) := by
              simp only [Bool.or_eq_true] at gh
              rcases gh with gh | gh
              · exact .inl (hidS_ok (H.rmL hXs) hR gh)
              · right
                unfold skipG at gh
                split at gh
                · cases gh
                · rename_i j want hgd
                  refine ⟨j, want, hgd, ?_⟩
                  split at gh
                  · cases gh
                  · rename_i d hd2
                    have hyd : yieldA ops.toList E j = match E.get d with
                        | .bool b => some (some b)
                        | .undef => none
                        | .fn .. => none
                        | _ => some none := by
                      unfold yieldA
                      rw [Array.getElem?_toList, hd2]
                      rfl
                    have hE := (H.getT d).1
                    split at gh
                    · rename_i b hb
                      rw [hb] at hE
                      have hEd : E d = .bool b := bool_inv hE
                      have hy : yieldA ops.toList E j = some (some b) := by rw [hyd]; show (match E d with | .bool b => some (some b) | .undef => none | .fn .. => none | _ => some none) = _; rw [hEd]
                      rw [hy]
                      intro hq
                      simp only [Option.some.injEq] at hq
                      rw [hq] at gh
                      simp at gh
                    · rename_i vs hb
                      rw [hb] at hE
                      obtain ⟨asl, hEd, _⟩ := tup_inv hE
                      have hy : yieldA ops.toList E j = some none := by rw [hyd]; show (match E d with | .bool b => some (some b) | .undef => none | .fn .. => none | _ => some none) = _; rw [hEd]
                      rw [hy]
                      intro hq; cases hq
                    · cases gh
            have hh1 : (orH (B.rmL (Pd.map Prod.snd)).G L.F).Sub ((B.ext (orH B.G L.F)).rmL (Pd.map Prod.snd)).G := fun j c hc => by
              have hj : j ∉ Pd.map Prod.snd := fun hj => by
                unfold orH at hc
                rw [rmL_in hj] at hc
                simp only at hc
                obtain ⟨p, hp, hpe⟩ := List.mem_map.1 hj
                exact (H.fnew j c hc).2 (by rw [← hpe]; exact (hPd p hp).H)
              rw [rmL_out hj]
              show orH B.G L.F j = some c
              unfold orH at hc ⊢
              rw [rmL_out hj] at hc
              exact hc
            have hGG : (B.rmL (Pd.map Prod.snd)).G.Sub ((B.ext (orH B.G L.F)).rmL (Pd.map Prod.snd)).G := fun j c hc => hh1 j c (orH_l j c hc)
            obtain ⟨v, ⟨st', L', q1, q2⟩, v2⟩ := stepA_quiet1 r2 (fun j c hc => orH_sub H.gh H.fh j c (rmL_sub j c (hh1 j c hc))) hr (run H.more h3)
            have hP1 : ∀ p, p ∈ Pd → PdIn g.T ops pds listed (B.ext (orH B.G L.F)) (E.put oi.dst v) p := fun p hp => by
              have h0 := putP v hniP p hp
              obtain ⟨_, _, _, c, _, _, _, _, hc⟩ := (hPd p hp).op
              have hc1 : orH B.G L.F p.2 = some c := orH_l _ _ hc
              exact h0.base (B2 := B.ext (orH B.G L.F)) (fun c hc => orH_l _ _ hc) ⟨h0.H, by show orH B.G L.F p.2 ≠ none; rw [hc1]; exact fun hq => by cases hq⟩ (fun r => .inl (h0.X r)) h0.n0
            have hBx : ∀ st L2 E h n2, Gam ((B.ext (orH B.G L.F)).rmL (Pd.map Prod.snd)) cx st L2 Es E h n2 → Gam B0 cx st L2 Es E h n2 := fun st L2 E h n2 G => hB st L2 E h n2 (G.weakB rfl rfl rfl hGG (fun r j hx => .inl hx) (fun j hj => ⟨⟨hj.1, fun hq => B.HG j hj.1 (by
                cases hg2 : B.G j with
                | none => rfl
                | some c => rw [orH_l (F := L.F) j c hg2] at hq; cases hq)⟩, hj.2⟩) fun r j _ hx => by
              have hx : ¬ (B.X r j ∨ B.G j ≠ orH B.G L.F j) := hx
              simp only [not_or, ne_eq, Classical.not_not] at hx
              by_cases hj : j ∈ Pd.map Prod.snd
              · rw [rmL_in hj, rmL_in hj]
              · rw [rmL_out hj, rmL_out hj]; exact hx.2)
            exact takeG hGG hh1 hi his hsw2 f' listedE E h n hcl (hsfE hniP) (free r3) hirE v2 (fun j c hc => orH_sub H.gh H.fh j c (rmL_sub j c hc)) (next hniP rfl q2 q1 hP1 rfl hBx)
          · cases r2
end
end Go.Proofs.Ytcngfjmfgeckmaa
namespace Go.Proofs.Ytcngfjmfgeckmaa
open Go
theorem SR.drawn {b : Base} {N : Nat} {E : Env} {h : Heap} {n : Nat} {a : Act} {w : World} (hs : SR b N E h n a w) : SR b N E h n a { w with drawn := w.drawn + 1 } := by
  obtain ⟨c, rfl, e0, hh, hf, hn, hb, hdf, hN, ht⟩ := hs
  have e1 : Ext c h (fun _ => False) ⟨c.ι, c.Fz, { c.w with drawn := c.w.drawn + 1 }⟩ h :=
    ⟨rfl, rfl, rfl, Nat.le_refl _, fun _ _ h => h, fun _ _ h => .inl h, fun _ h => h, fun _ arr _ _ h => ⟨arr, h, rfl⟩, fun _ _ _ => rfl, fun id blk x hh hx => .inr ⟨id, blk, x, hh, hx, rfl⟩, fun _ h => .inl h⟩
  have hmv : ∀ {u v}, VR c u v → VR ⟨c.ι, c.Fz, { c.w with drawn := c.w.drawn + 1 }⟩ u v := fun k => k.mono e1 hh
  refine ⟨⟨c.ι, c.Fz, { c.w with drawn := c.w.drawn + 1 }⟩, rfl, e0.trans e1 (fun i hi => hi) (fun i hi => hi.elim), ⟨fun id blk hb => ?_, hh.inj, hh.fzlt, hh.pin⟩, hf, hn, hb, hdf, hN, fun t => hmv (ht t)⟩
  obtain ⟨bb, base, sz, arr, E, hB⟩ := hh.blk id blk hb
  exact ⟨bb, base, sz, arr, E, hB.ι, hB.heap, hB.nfz, hB.size, hB.one, fun i e j u a1 a2 => by
    obtain ⟨v, q1, q2⟩ := hB.cell i e j u a1 a2
    exact ⟨v, q1, hmv q2⟩⟩
theorem resW_some {α : Type} {y : α} {cx : Cx} {st : St} : ∀ {l : List RP} {k : List Nat → Option α}, resW cx st l k = some y → ∃ W, k W = some y
  | [], k, h => ⟨[], h⟩
  | p :: l, k, h => by
    simp only [resW] at h
    split at h
    · split at h
      · obtain ⟨W, hw⟩ := resW_some h
        exact ⟨_, hw⟩
      · cases h
    · cases h
section
variable {B : Bas} {cx : Cx} {st : St} {L : Lay} {Es : List Env} {E : Env} {h : Heap} {n : Nat} {α : Type} {y : α} {g : Pg}
theorem regS_cons {call : Callee} {ops : Array Oper} {i : Nat} {l : List Nat} {k : St → Option α} : regS g call cx ops (i :: l) st k = regS g call cx ops [i] st fun st => regS g call cx ops l st k := by
  simp only [regS]
theorem sfx_ok {P : Program} (gk : POk g) {call : Callee} (hcall : CallOk P call) {ops : Array Oper} (hz : ∀ (i : Nat) o, ops[i]? = some o → notZ g.T o = true) {G : Heap} {sfx0 : List Nat} {k : St → Option α} : ∀ {sfx : List Nat} {f : Nat} {listed : Array Bool} {st : St} {L : Lay} {E : Env} {h : Heap} {n : Nat}, (∀ i, i ∈ sfx → i ∈ sfx0) → sfxP ops sfx listed = true → sfx.length ≤ f →
    Gam B cx st L Es E h n → regS g call cx ops sfx st k = some y → anyA P g.T ops (SB sfx0 G) (Fin B cx Es y k) f listed E h n
  | [], f, listed, st, L, E, h, n, _, hp, _, H, hk => anyA_done (by simpa [sfxP] using hp) ⟨st, L, hk, H⟩ f
  | i :: l, 0, listed, st, L, E, h, n, _, _, hf, _, _ => absurd hf (by simp)
  | i :: l, f + 1, listed, st, L, E, h, n, hs, hp, hf, H, hk => by
    simp only [sfxP, Bool.and_eq_true, beq_iff_eq] at hp
    obtain ⟨hr, hp⟩ := hp
    rw [regS_cons] at hk
    refine ⟨fun h0 => (by rw [hr] at h0; cases h0), fun j hj o ho => ?_⟩
    have hj2 := hj
    rw [hr] at hj
    obtain rfl := List.mem_singleton.1 hj
    refine stepA_mono (fun r h' n' ⟨st', L', q1, q2⟩ => ⟨fun hno => ?_, sfx_ok gk hcall hz (fun i hi => hs i (List.mem_cons_of_mem _ hi)) hp (by simpa using hf) q2 q1⟩) (stepB_A (hz j o ho) (reg1_ok gk hcall ho H hk))
    have := hno j (hs j (by simp))
    rw [Array.getD_eq_getD_getElem?, set_get] at this
    cases hx : listed[j]? with
    | none => rw [hx] at this; cases this
    | some b => rw [hx] at this; simp at this
theorem lkp_dropT {ops : Array Oper} {pds : List Nat} {t : Nat} {v : SV} : ∀ {env : SEnv}, (lkp (dropT ops pds env) t = some v → lkp env t = some v)
  | [], hq => hq
  | (a, b) :: env, hq => by
    simp only [dropT] at hq
    rw [lkp_cons]
    cases hb : inT ops pds a with
    | false =>
      rw [hb, cond_false, lkp_cons] at hq
      split
      · rename_i h1; rw [if_pos h1] at hq; exact hq
      · rename_i h1; rw [if_neg h1] at hq; exact lkp_dropT hq
    | true =>
      rw [hb, cond_true] at hq
      split
      · rename_i h1
        subst h1
        exfalso
        have : ∀ {env : SEnv}, lkp (dropT ops pds env) t = none := fun {env} => by
          induction env with
          | nil => rfl
          | cons p env ih =>
            obtain ⟨c, w⟩ := p
            simp only [dropT]
            cases hc : inT ops pds c with
            | true => rw [cond_true]; exact ih
            | false =>
              rw [cond_false, lkp_cons, if_neg (by rintro rfl; rw [hb] at hc; cases hc)]
              exact ih
        rw [this] at hq; cases hq
      · exact lkp_dropT hq
theorem pdsOf_mem : ∀ {l : List (Nat × Nat)} {j : Nat}, j ∈ pdsOf l → (j, 3) ∈ l
  | [], j, h => by cases h
  | (i, kd) :: l, j, h => by
    unfold pdsOf at h
    split at h
    · cases h
    · rename_i heq
      cases heq
      rcases List.mem_cons.1 h with rfl | h
      · exact List.mem_cons_self
      · exact List.mem_cons_of_mem _ (pdsOf_mem h)
    · rename_i heq
      cases heq
      exact List.mem_cons_of_mem _ (pdsOf_mem h)
theorem preOf_mem : ∀ {l : List (Nat × Nat)} {p : Nat × Nat}, p ∈ l → p.2 ≠ 4 → p ∈ preOf l
  | [], p, h, _ => by cases h
  | (i, kd) :: l, p, h, hp => by
    unfold preOf
    split
    · rename_i heq; cases heq
    · rename_i heq
      cases heq
      rcases List.mem_cons.1 h with rfl | h
      · exact absurd rfl hp
      · exact preOf_mem h hp
    · rename_i heq
      cases heq
      rcases List.mem_cons.1 h with rfl | h
      · exact List.mem_cons_self
      · exact List.mem_cons_of_mem _ (preOf_mem h hp)
theorem pre_sfx_len : ∀ {l : List (Nat × Nat)}, (preOf l).length + (sfxOf l).length = l.length
  | [] => rfl
  | (i, kd) :: l => by
    have := pre_sfx_len (l := l)
    by_cases h4 : kd = 4
    · subst h4; simp only [preOf, sfxOf, List.length_cons]; omega
    · have e1 : preOf ((i, kd) :: l) = (i, kd) :: preOf l := by
        rw [preOf.eq_3]
        intro x hq
        cases hq
        exact h4 rfl
      have e2 : sfxOf ((i, kd) :: l) = sfxOf l := by
        rw [sfxOf.eq_3]
        intro x hq
        cases hq
        exact h4 rfl
      rw [e1, e2]
      simp only [List.length_cons]; omega
end
theorem drawOk {P : Program} {g : Pg} (hT : TEOk P g.T) (hm : P.follows .mixedOrders = true) (gk : POk g) {call : Callee} (hcall : CallOk P call) {N : Nat} : DrawOk P g call N := by
  intro α B cx st L Es E h n y k id fu ops ws plan hd H hk
  obtain ⟨env0, roots0, frames⟩ := cx
  obtain ⟨env, ρ, nx, mc⟩ := st
  simp only [run] at hk
  obtain ⟨g1, g2⟩ := bif_some hk
  simp only [Bool.and_eq_true] at g1
  obtain ⟨⟨⟨⟨g3, g4⟩, g7⟩, g6⟩, g5⟩ := g1
  obtain ⟨W, hw⟩ := resW_some g2
  have H1 : Gam B ⟨env0, roots0, frames⟩ ⟨dropT ops (pdsOf plan) env, ρ, nx, mc⟩ L Es E h n := by
    have rt : ∀ r, rootOf ⟨env0, roots0, frames⟩ ⟨dropT ops (pdsOf plan) env, ρ, nx, mc⟩ r = rootOf ⟨env0, roots0, frames⟩ ⟨env, ρ, nx, mc⟩ r := fun r => by rw [rootOf_jn, rootOf_jn]
    refine H.same rt rfl rfl (fun t v hv => .inl (lkp_dropT hv)) (fun t v hv => .inr hv) rfl (fun t v hv => ?_) H.nd (fun r x hx => ⟨x, hx⟩) H.lkc
    cases hx : lkp (dropT ops (pdsOf plan) env) t with
    | none => rfl
    | some w => have h1 := lkp_dropT hx; rw [H.dj t v hv] at h1; cases h1
  have HL := H1.lock W
  have hlen : plan.length = ops.size := Nat.eq_of_beq_eq_true g3
  have nz : ∀ (i : Nat) o, ops[i]? = some o → notZ g.T o = true := fun i o ho => List.all_eq_true.1 g5 o (by simpa using Array.mem_of_getElem? ho)
  have hun : ∀ (j : Nat), j < ops.size → (Array.replicate ops.size false).getD j true = false := fun j hj => by simp [hj]
  have hsw : ∀ j, j ∈ sfxOf plan → ∀ o, ops[j]? = some o → ∀ p, p ∈ preOf plan → waitsFor o p.1 = true := fun j hj o ho p hp => by
    have := List.all_eq_true.1 g7 j hj
    rw [ho] at this
    exact List.all_eq_true.1 this p hp
  have hpp : ∀ j, j ∈ pdsOf plan → j ∈ (preOf plan).map Prod.fst := fun j hj => List.mem_map.2 ⟨(j, 3), preOf_mem (pdsOf_mem hj) (by simp), rfl⟩
  have hany := drawS_ok (P := P) (pre0 := preOf plan) (sfx := sfxOf plan) (pds := pdsOf plan) (Kf := Fin B ⟨env0, roots0, frames⟩ Es y (k .normal)) (B0 := (B.lock (ownW W ρ) L.ft nx h)) gk hcall nz (fun j hj => List.all_eq_true.1 g6 j hj) hsw hpp
    (fun {f listed G E2 h2 n2} q1 q2 q3 q4 => by
      obtain ⟨⟨env2, ρ2, nx2, mc2⟩, L2, k1, k2⟩ := q4
      obtain ⟨k3, k4⟩ := bif_some k1
      exact sfx_ok gk hcall nz (fun i hi => hi) q1 q3 (H1.unlock k2 k3) k4)
    _ (plan := preOf plan) (Pd := []) (f := ops.size) (listed := Array.replicate ops.size false) (listedE := Array.replicate ops.size false) (B := B.lock (ownW W ρ) L.ft nx h) rfl (by have := pre_sfx_len (l := plan); simp only [List.length_nil]; omega) (fun p hp => hp) (fun j hj _ => hpp j hj) List.nodup_nil List.nodup_nil (fun p hp => by cases hp)
    (fun j => by simp [hasN]) (fun j o hj hl => by
      have hlt : j < ops.size := (Array.getElem?_eq_some_iff.1 hj).1
      simp [hlt] at hl) (fun j hj => by
      have := List.all_eq_true.1 g7 j hj
      cases ho : ops[j]? with
      | none => rw [ho] at this; cases this
      | some o => exact hun j (Array.getElem?_eq_some_iff.1 ho).1) g4 (fun r x hx => by
      rw [lkp_restW] at hx
      split at hx
      · cases hx
      · rename_i hr
        have h0 : lkp (ownW W ρ) r = none := by rw [lkp_ownW, if_neg hr]
        refine ⟨hx, h0, ?_⟩
        refine (HL.lowT r x ?_).1
        rw [rootOf_jn]
        simp only
        rw [h0, hx]; rfl) (fun st L E h n G => G.weakB rfl rfl rfl (fun i c hc => ?_) (fun _ _ hx => hx) (fun i hi => ⟨hi, by simp⟩) fun r i _ _ => (rmL_out (by simp)).symm) HL hw
  · intro b a w hs
    refine wp_region_any hm ?_
    refine anyA_sound (N := N) (b := b) hT (fun i o ho => ?_) (fun E' h' n' a' w' q1 q2 => ⟨E', h', n', q1, ?_⟩) _ _ hs.drawn hany
    · exact List.all_eq_true.1 hd o (by simpa using Array.mem_of_getElem? ho)
    · obtain ⟨st2, L2, k1, k2⟩ := q2
      exact ⟨.normal, st2, L2, rfl, k1, k2⟩
  · rw [rmL_out (by simp)]; exact hc
theorem runOk {P : Program} {g : Pg} (hT : TEOk P g.T) (hm : P.follows .mixedOrders = true) (gk : POk g) {call : Callee} (hcall : CallOk P call) {N fu : Nat} (a : Ann) {α : Type} {B : Bas} {cx : Cx} {c : Code} {st : St} {k : Ex → St → Option α} {y : α} {L : Lay} {Es : List Env} {E : Env} {h : Heap} {n : Nat}
    (hc : codeIn N c = true) (H : Gam B cx st L Es E h n) (hk : run g call fu a cx c st k = some y) : WP P N c (FinC B cx Es y k) E h n := run_ok hT gk hcall (drawOk hT hm gk hcall) a hc H hk
end Go.Proofs.Ytcngfjmfgeckmaa
namespace Go.Proofs.Ytcngfjmfgeckmaa
open Go
section
variable {B : Bas} {cx : Cx} {st : St} {L L2 : Lay} {Es : List Env} {E E2 : Env} {h h2 : Heap} {n n2 : Nat} {α : Type} {y : α} {g : Pg}
theorem resS_ok (gk : POk g) (H : Gam B cx st L Es E h n) : ∀ {rs : List ResultVar} {k : List SV → Option α}, resS g cx st rs k = some y → ∃ vs l, k vs = some y ∧ resA g.T E h rs = some l ∧ TVs L (rootOf cx st) st.mc h vs l ∧ SV.lowNs st.nx vs = true
  | [], k, hk => ⟨[], [], hk, rfl, .nil, rfl⟩
  | .tmp t :: rs, k, hk => by
    simp only [resS] at hk
    obtain ⟨vs, l, q1, q2, q3, q4⟩ := resS_ok gk H (rs := rs) hk
    have ht := H.getT t
    exact ⟨_, E t :: l, q1, by simp only [resA, q2]; rfl, .cons _ _ _ _ ht.1 q3, by simp only [SV.lowNs, Bool.and_eq_true]; exact ⟨ht.2, q4⟩⟩
  | .cell a t :: rs, k, hk => by
    have ht := H.getT a
    obtain ⟨cs, off, q1, o0, w, s, i, l, e, ha, h1, h2, h3, h4, h5, h6⟩ := H.derefK ht.1 ht.2 hk
    obtain ⟨v, u, p1, p2, p3, p4⟩ := partK_ok q1 h4 h5 h6
    obtain ⟨vs, l', r1, r2, r3, r4⟩ := resS_ok gk H (rs := rs) p1
    refine ⟨_, u :: l', r1, ?_, .cons _ _ _ _ p3 r3, by simp only [SV.lowNs, Bool.and_eq_true]; exact ⟨p4, r4⟩⟩
    have hok : cellOk g.T t = true := by
      unfold cellOk
      split
      · rename_i fs hf
        simpa using (gk.pos t fs hf).1
      · rfl
    simp only [resA, hok, if_true]
    unfold cellA
    have ha' : E.get a = .ep w s i (o0 + off) := ha
    rw [ha']
    simp [h1, h2, p2, r2]
theorem resOf_ok {ρ : Rt} {mc nx : Nat} {vs : List SV} {l : List AV} (h1 : TVs L ρ mc h vs l) (h2 : SV.lowNs nx vs = true) : TV L ρ mc h (resOf vs) (resV l) ∧ (resOf vs).lowN nx = true := by
  cases h1 with
  | nil => exact ⟨.tup _ _ .nil, rfl⟩
  | cons v vs a asl hv hl =>
    cases hl with
    | nil => exact ⟨hv, by simp only [SV.lowNs, Bool.and_eq_true] at h2; exact h2.1⟩
    | cons w vs b asl hw hl => exact ⟨.tup _ _ (.cons _ _ _ _ hv (.cons _ _ _ _ hw hl)), h2⟩
theorem lkp_envN : ∀ (args : List SV) (i t : Nat) {v : SV}, lkp (envN i args) t = some v → i ≤ t ∧ args[t - i]? = some v
  | [], i, t, v, h => by cases h
  | a :: l, i, t, v, h => by
    simp only [envN] at h
    rw [lkp_cons] at h
    split at h
    · rename_i hq; subst hq; cases h; exact ⟨Nat.le_refl _, by simp⟩
    · obtain ⟨h1, h2⟩ := lkp_envN l (i + 1) t h
      refine ⟨by omega, ?_⟩
      have : t - i = (t - (i + 1)) + 1 := by omega
      rw [this]; simpa using h2
theorem Gam.into {env0 env : SEnv} {roots0 ρ : Roots} {frames : List SEnv} {nx mc : Nat} (H : Gam B ⟨env0, roots0, frames⟩ ⟨env, ρ, nx, mc⟩ L Es E h n) {args : List SV} {asl : List AV} (ha : TVs L (rootOf ⟨env0, roots0, frames⟩ ⟨env, ρ, nx, mc⟩) mc h args asl) (hl : SV.lowNs nx args = true) :
    Gam B ⟨[], roots0, (env ++ env0) :: frames⟩ ⟨envN 0 args, ρ, nx, mc⟩ L (E :: Es) (envOf asl) h n := by
  have rt : rootOf ⟨[], roots0, (env ++ env0) :: frames⟩ ⟨envN 0 args, ρ, nx, mc⟩ = rootOf ⟨env0, roots0, frames⟩ ⟨env, ρ, nx, mc⟩ := by funext r; rw [rootOf_jn, rootOf_jn]
  refine ⟨H.f0, H.fh, H.gh, H.fr, H.rh, H.fnew, H.hlt, H.nn, by rw [rt]; exact H.th, by rw [rt]; exact H.lowT, by rw [rt]; exact H.ap, by rw [rt]; exact H.ftF, by rw [rt]; exact H.ftR, by rw [rt]; exact H.ftC, fun t v hv => ?_, fun t v hv => (by cases hv), fun i fr E' h1 h2 t v hv => ?_, fun t v hv => (by cases hv), by simp [H.frl], H.mcl, H.nd, H.lkd, H.lkc⟩
  · rw [rt]
    obtain ⟨_, hv⟩ := lkp_envN args 0 t hv
    have hv : args[t]? = some v := by simpa using hv
    obtain ⟨a, q1, q2⟩ := ha.get t v hv
    refine ⟨?_, lowNs_get hl hv⟩
    show TV _ _ _ _ v ((asl[t]?).getD .undef)
    rw [q1]; exact q2
  · rw [rt]
    cases i with
    | zero =>
      simp only [List.getElem?_cons_zero, Option.some.injEq] at h1 h2
      subst h1; subst h2
      rw [lkp_app] at hv
      cases hq : lkp env t with
      | some w => rw [hq] at hv; cases hv; exact H.env t v hq
      | none => rw [hq] at hv; exact H.env0 t v hv
    | succ i => exact H.frs i fr E' (by simpa using h1) (by simpa using h2) t v hv
theorem Gam.outof {env0 env env2 : SEnv} {roots0 ρ2 : Roots} {frames : List SEnv} {nx2 mc2 : Nat} (hdj : ∀ t v, lkp env0 t = some v → lkp env t = none) (hfl : Es.length = frames.length) (H : Gam B ⟨[], roots0, (env ++ env0) :: frames⟩ ⟨env2, ρ2, nx2, mc2⟩ L (E :: Es) E2 h n) :
    Gam B ⟨env0, roots0, frames⟩ ⟨env, ρ2, nx2, mc2⟩ L Es E h n := by
  have rt : rootOf ⟨env0, roots0, frames⟩ ⟨env, ρ2, nx2, mc2⟩ = rootOf ⟨[], roots0, (env ++ env0) :: frames⟩ ⟨env2, ρ2, nx2, mc2⟩ := by funext r; rw [rootOf_jn, rootOf_jn]
  refine ⟨H.f0, H.fh, H.gh, H.fr, H.rh, H.fnew, H.hlt, H.nn, by rw [rt]; exact H.th, by rw [rt]; exact H.lowT, by rw [rt]; exact H.ap, by rw [rt]; exact H.ftF, by rw [rt]; exact H.ftR, by rw [rt]; exact H.ftC, fun t v hv => ?_, fun t v hv => ?_, fun i fr E' h1 h2 t v hv => ?_, hdj, hfl, H.mcl, H.nd, H.lkd, H.lkc⟩
  · rw [rt]
    have hv' : lkp env t = some v := hv
    exact H.frs 0 (env ++ env0) E rfl rfl t v (by rw [lkp_app, hv'])
  · rw [rt]
    have hv' : lkp env0 t = some v := hv
    exact H.frs 0 (env ++ env0) E rfl rfl t v (by rw [lkp_app, hdj t v hv]; exact hv')
  · rw [rt]
    exact H.frs (i + 1) fr E' (by simpa using h1) (by simpa using h2) t v hv
def FnOk (P : Program) (f : FuncId) (fn : FnA) : Prop := Goes P f ∧ ∃ F, P.funcs[f]? = some F ∧ F.body = some fn.code ∧ F.ntmps = fn.n ∧ F.results.toList = fn.rs ∧ codeIn fn.n fn.code = true
theorem inline_ok {P : Program} (hT : TEOk P g.T) (hm : P.follows .mixedOrders = true) (gk : POk g) {call : Callee} (hcall : CallOk P call) {fu : Nat} {f : FuncId} {fn : FnA} (hf : FnOk P f fn) (H : Gam B cx st L Es E h n) {args : List SV} {asl : List AV} {k : SV → St → Option α}
    (ha : TVs L (rootOf cx st) st.mc h args asl) (hl : SV.lowNs st.nx args = true) (hk : inline g call fu fn cx args st k = some y) : CA P f asl h n (Done B cx Es E y k) := by
  obtain ⟨env0, roots0, frames⟩ := cx
  obtain ⟨env, ρ, nx, mc⟩ := st
  obtain ⟨hg, F, h1, h2, h3, h4, h5⟩ := hf
  simp only [inline] at hk
  obtain ⟨k1, k2⟩ := bif_some hk
  refine CA.enter hT hg h1 h2 h3 (by rw [ha.len]; exact Nat.le_of_ble_eq_true k1) h4 fun hlt => ?_
  refine (runOk hT hm gk hcall fn.ann h5 (H.into ha hl) k2).mono fun e E2 h2 n2 ⟨ex, st2, L2, q1, q2, q3⟩ => ?_
  have fin : resS g ⟨[], roots0, (env ++ env0) :: frames⟩ st2 fn.rs (fun vs => match st2 with | ⟨_, ρ, nx, mc⟩ => k (resOf vs) ⟨env, ρ, nx, mc⟩) = some y → ∃ l, resA g.T E2 h2 fn.rs = some l ∧ Done B ⟨env0, roots0, frames⟩ Es E y k (resV l) h2 n2 := fun hq => by
    obtain ⟨vs, l, r1, r2, r3, r4⟩ := resS_ok gk q3 hq
    obtain ⟨env2, ρ2, nx2, mc2⟩ := st2
    obtain ⟨t1, t2⟩ := resOf_ok r3 r4
    have rt : rootOf ⟨env0, roots0, frames⟩ ⟨env, ρ2, nx2, mc2⟩ = rootOf ⟨[], roots0, (env ++ env0) :: frames⟩ ⟨env2, ρ2, nx2, mc2⟩ := by funext r; rw [rootOf_jn, rootOf_jn]
    exact ⟨l, r2, _, _, L2, r1, by rw [rt]; exact t1, t2, q3.outof H.dj H.frl⟩
  subst q1
  cases ex with
  | normal => exact fin q2
  | ret => exact fin q2
  | exit i => cases q2
end
end Go.Proofs.Ytcngfjmfgeckmaa
namespace Go.Proofs.Ytcngfjmfgeckmaa
open Go
def IsVal (t : PT) (a : AV) (cs : List AV) : Prop := (t.scal = true ∧ cs = [a]) ∨ (t.scal = false ∧ a = .agg cs)
def ParOk (R : Heap) : (p : PK) → p.t.den → AV → Prop
  | .val t, x, a => ∃ cs, IsVal t a cs ∧ FzC R (explode t x) cs
  | .ptr t, x, a => prA R (explode t x) 0 a
def ParsOk (R : Heap) : (ps : List PK) → tupT (ps.map PK.t) → List AV → Prop
  | [], _, asl => asl = []
  | [p], x, asl => ∃ a, asl = [a] ∧ ParOk R p x a
  | p :: q :: ps, x, asl => ∃ a as', asl = a :: as' ∧ ParOk R p x.1 a ∧ ParsOk R (q :: ps) x.2 as'
structure RdOk (L : Lay) (h : Heap) (q : List Src) (R : Heap) : Prop where
  F : L.F.Sub R
  own : ∀ r i b, Src.own r ∈ q → L.ft r i → h i = some b → R i = some b
  live : Src.live ∈ q → L.R.Sub R
section
variable {B : Bas} {cx : Cx} {st : St} {L : Lay} {Es : List Env} {E : Env} {h : Heap} {n : Nat} {α : Type} {y : α} {R : Heap} {q q1 q2 : List Src}
theorem RdOk.src (H : RdOk L h q R) {c : Src} (hc : c ∈ q) {ρ : Rt} {v : SV} {a : AV} (hs : SrcOk L h ρ c v a) : Fz R v a := by
  cases c with
  | fr => exact Fz.mono H.F hs
  | live => exact Fz.mono (H.live hc) hs
  | own r => exact hs.2 R H.F fun i b hi hb => H.own r i b hc hi hb
theorem RdOk.sub (H : RdOk L h q R) (hs : ∀ c, c ∈ q1 → c ∈ q) : RdOk L h q1 R := ⟨H.F, fun r i b hq => H.own r i b (hs _ hq), fun hq => H.live (hs _ hq)⟩
def ptrFr : PK → SV → Bool
  | .ptr _, .pr _ _ => true
  | .ptr _, _ => false
  | .val _, _ => true
theorem xor_agg {t : PT} {v : SV} (h : Bool.xor t.scal v.isAgg = true) : (t.scal = true ∧ v.cells = [v]) ∨ (t.scal = false ∧ ∃ cs, v = .agg cs) := by
  cases v <;> simp [SV.isAgg] at h <;> first | exact .inl ⟨h, rfl⟩ | exact .inr ⟨h, _, rfl⟩
theorem plainC (H : Gam B cx st L Es E h n) {vs : List SV} {asl : List AV} {t : PT} {k : List Src → t.den → Option α} (hv : TVs L (rootOf cx st) st.mc h vs asl) (hk : plainK cx st vs (fun q cs => match implode t cs with | some x => k q x | none => none) = some y) :
    ∃ q x, k q x = some y ∧ (∀ r, Src.own r ∈ q → ∃ w s x md t xs, rootOf cx st r = some (.row w s x md none t xs)) ∧ ∀ R, RdOk L h q R → FzC R (explode t x) asl := by
  obtain ⟨q, ws, k1, k2, k3, k4⟩ := plainK_ok H hv hk
  simp only at k1
  split at k1
  · rename_i x hx
    refine ⟨q, x, k1, k4, fun R hR => FzC.le (implode_le hx) (FzC.of (by rw [k2, hv.len]) fun o v a h1 h2 => ?_)⟩
    rcases k3 o v a h1 h2 with ⟨m1, m2⟩ | ⟨c, m1, m2⟩
    · exact m1.mono hR.F
    · exact hR.src m1 m2
  · cases k1
theorem argK_ok (H : Gam B cx st L Es E h n) {p : PK} {v : SV} {a : AV} {k : List Src → p.t.den → Option α} (hv : TV L (rootOf cx st) st.mc h v a) (hl : v.lowN st.nx = true) (hk : argK cx st p v k = some y) :
    ∃ q x, k q x = some y ∧ (∀ r, Src.own r ∈ q → ∃ w s x md t xs, rootOf cx st r = some (.row w s x md none t xs)) ∧ (Src.live ∉ q → ptrFr p v = true) ∧ ∀ R, RdOk L h q R → (ptrFr p v = true ∨ h.Sub R) → ParOk R p x a := by
  cases p with
  | val t =>
    simp only [argK] at hk
    obtain ⟨k1, k2⟩ := bif_some hk
    rcases xor_agg k1 with ⟨h1, h2⟩ | ⟨h1, cs, rfl⟩
    · rw [h2] at k2
      obtain ⟨q, x, m1, m2, m3⟩ := plainC H (.cons _ _ _ _ hv .nil) k2
      exact ⟨q, x, m1, m2, fun _ => rfl, fun R hR _ => ⟨_, .inl ⟨h1, rfl⟩, m3 R hR⟩⟩
    · obtain ⟨asl, rfl, hc⟩ := agg_inv hv
      obtain ⟨q, x, m1, m2, m3⟩ := plainC H hc k2
      exact ⟨q, x, m1, m2, fun _ => rfl, fun R hR _ => ⟨_, .inr ⟨h1, rfl⟩, m3 R hR⟩⟩
  | ptr t =>
    simp only [argK] at hk
    have gen : (ptrFr (.ptr t) v = true → ∃ cs off, v = .pr cs off) := fun hq => by cases v <;> first | cases hq; done | exact ⟨_, _, rfl⟩
    have key : ∀ {cs : List SV} {off o0 w i : Nat} {s e : AV} {l : List AV}, a = .ep w s i (o0 + off) → l[i]? = some e → e.good = true → TVs L (rootOf cx st) st.mc h cs ((e.cells.drop o0).take cs.length) → o0 + cs.length ≤ e.cells.length →
        (dropK cs off fun cs => takeK cs t.w fun cs => plainK cx st cs fun q cs => match implode t cs with
          | some x => k (q ++ ptrSrc v) x
          | none => none) = some y →
        ∃ q x, k (q ++ ptrSrc v) x = some y ∧ (∀ r, Src.own r ∈ q → ∃ w s x md t xs, rootOf cx st r = some (.row w s x md none t xs)) ∧ ∀ R, RdOk L h q R → rdSl R w s = some l → prA R (explode t x) 0 a := fun {cs off o0 w i s e l} h1 h3 h4 h5 h6 hq => by
      obtain ⟨d1, d2⟩ := dropK_ok hq
      obtain ⟨e1, e2⟩ := takeK_ok d1
      have hc := (h5.drop off).take t.w
      have hlen : ((cs.drop off).take t.w).length = t.w := by rw [List.length_take]; omega
      have hdl : (cs.drop off).length = cs.length - off := List.length_drop
      have hce : ((((e.cells.drop o0).take cs.length).drop off).take t.w) = (e.cells.drop (o0 + off)).take t.w := by
        rw [List.drop_take, List.take_take, List.drop_drop]
        congr 1; omega
      rw [hce] at hc
      obtain ⟨q, x, m1, m2, m3⟩ := plainC H hc e1
      refine ⟨q, x, m1, m2, fun R hR hr => ⟨w, s, i, l, e, o0 + off, by rw [h1]; rfl, hr, h3, h4, ?_, ?_⟩⟩
      · rw [explode_len]; omega
      · rw [explode_len]; exact m3 R hR
    obtain ⟨cs, off, k1, o0, w, s, i, l, e, d1, d2, d3, d4, d5, d6, d7⟩ := H.derefK hv hl hk
    obtain ⟨q, x, m1, m2, m3⟩ := key d1 d3 d4 d5 d6 k1
    refine ⟨q ++ ptrSrc v, x, m1, fun r hr => m2 r ?_, fun hq => ?_, fun R hR hp => ?_⟩
    rotate_left
    · cases v <;> first | rfl | exact absurd (List.mem_append.2 (.inr (List.mem_singleton.2 rfl))) hq
    rotate_left
    · rcases List.mem_append.1 hr with hr | hr
      · exact hr
      · unfold ptrSrc at hr; split at hr <;> simp at hr
    · have hR' : RdOk L h q R := hR.sub fun c hc => List.mem_append.2 (.inl hc)
      rcases hp with hp | hp
      · obtain ⟨cs', off', rfl⟩ := gen hp
        have hpr : prA L.F cs' off' a := by
          cases hv with
          | pl _ _ hv => cases hv
          | pr _ _ _ hv => exact hv
        obtain ⟨w', s', i', l', e', o', p1, p2, p3, p4, p5, p6⟩ := hpr
        rw [p1] at d1
        simp only [AV.ep.injEq] at d1
        obtain ⟨rfl, rfl, rfl, d1⟩ := d1
        have hl' : l' = l := Option.some.inj ((rdSl_sub H.fh p2).symm.trans d2)
        subst hl'
        exact m3 R hR' (rdSl_sub hR.F p2)
      · exact m3 R hR' (rdSl_sub hp d2)
theorem argsK_ok (H : Gam B cx st L Es E h n) : ∀ {ps : List PK} {vs : List SV} {asl : List AV} {k : List Src → tupT (ps.map PK.t) → Option α}, TVs L (rootOf cx st) st.mc h vs asl → SV.lowNs st.nx vs = true → argsK cx st ps vs k = some y →
    ∃ q x, k q x = some y ∧ (∀ r, Src.own r ∈ q → ∃ w s x md t xs, rootOf cx st r = some (.row w s x md none t xs)) ∧ (Src.live ∉ q → ptrsFr ps vs = true) ∧ ∀ R, RdOk L h q R → (ptrsFr ps vs = true ∨ h.Sub R) → ParsOk R ps x asl
  | [], [], _, k, .nil, _, hk => ⟨[], (), hk, fun r hr => (by cases hr), fun _ => rfl, fun R _ _ => rfl⟩
  | [], _ :: _, _, k, _, _, hk => by cases hk
  | [p], [], _, k, _, _, hk => by cases hk
  | [p], [v], _, k, .cons _ _ a _ hv .nil, hl, hk => by
    simp only [SV.lowNs, Bool.and_eq_true] at hl
    obtain ⟨q, x, m1, m2, m4, m3⟩ := argK_ok H (k := k) hv hl.1 hk
    refine ⟨q, x, m1, m2, fun hq => ?_, fun R hR hp => ⟨a, rfl, m3 R hR (hp.imp (fun hq => ?_) _root_.id)⟩⟩
    · have := m4 hq
      cases p with
      | val t => rfl
      | ptr t => cases v <;> first | rfl | cases this
    cases p with
    | val t => rfl
    | ptr t => cases v <;> first | rfl | cases hq
  | [p], v :: w :: vs, _, k, _, _, hk => by cases hk
  | p :: p2 :: ps, [], _, k, _, _, hk => by cases hk
  | p :: p2 :: ps, v :: vs, _, k, .cons _ _ a asl hv hvs, hl, hk => by
    simp only [SV.lowNs, Bool.and_eq_true] at hl
    simp only [argsK] at hk
    obtain ⟨q, x, m1, m2, m4, m3⟩ := argK_ok H hv hl.1 hk
    obtain ⟨q', x', n1, n2, n4, n3⟩ := argsK_ok H hvs hl.2 m1
    refine ⟨q ++ q', (x, x'), n1, fun r hr => (List.mem_append.1 hr).elim (m2 r) (n2 r), fun hq => ?_, fun R hR hp => ⟨a, asl, rfl, m3 R (hR.sub fun c hc => List.mem_append.2 (.inl hc)) (hp.imp (fun hq => ?_) _root_.id), n3 R (hR.sub fun c hc => List.mem_append.2 (.inr hc)) (hp.imp (fun hq => ?_) _root_.id)⟩⟩
    · have h1 := m4 fun hm => hq (List.mem_append.2 (.inl hm))
      have h2 := n4 fun hm => hq (List.mem_append.2 (.inr hm))
      cases p with
      | val t => exact h2
      | ptr t => cases v <;> first | exact h2 | cases h1
    · cases p with
      | val t => rfl
      | ptr t => cases v <;> first | rfl | cases hq
    · cases p with
      | val t => exact hq
      | ptr t => cases v <;> first | exact hq | cases hq
end
end Go.Proofs.Ytcngfjmfgeckmaa
namespace Go.Proofs.Ytcngfjmfgeckmaa
open Go
def Res1 (F h : Heap) (b : Bool) (t : PT) (x : t.den) (a : AV) (I : Ids0) : Prop :=
  ∃ cs, IsVal t a cs ∧ (b = true → OC F h (explode t x) cs I) ∧ (b = false → FzC F (explode t x) cs ∧ ∀ i, ¬ I i)
def ResA (F h : Heap) : (rs : List (Bool × PT)) → tupT (rs.map Prod.snd) → List AV → Ids0 → Prop
  | [], _, asl, I => asl = [] ∧ ∀ i, ¬ I i
  | [r], x, asl, I => ∃ a, asl = [a] ∧ Res1 F h r.1 r.2 x a I
  | r :: r2 :: rs, x, asl, I => ∃ a as' J K, asl = a :: as' ∧ Res1 F h r.1 r.2 x.1 a J ∧ ResA F h (r2 :: rs) x.2 as' K ∧ (∀ i, J i → ¬ K i) ∧ ∀ i, I i ↔ J i ∨ K i
def ConPost (R h : Heap) (n : Nat) (rs : List (Bool × PT)) (y : tupT (rs.map Prod.snd)) (r : AV) (h' : Heap) (n' : Nat) : Prop :=
  ∃ F asl I, r = resV asl ∧ R.Sub F ∧ F.Sub h' ∧ (∀ i b, F i = some b → R i = some b ∨ n ≤ i) ∧ n ≤ n' ∧ (∀ i, i < n → h' i = h i) ∧ (∀ i b, h' i = some b → i < n') ∧ ResA F h' rs y asl I ∧ ∀ i, I i → F i = none ∧ n ≤ i ∧ i < n'
def ConOk (P : Program) (f : FuncId) (c : Con) : Prop := Goes P f ∧ ∀ (R h : Heap) (n : Nat) (asl : List AV) (x : tupT (c.sg.ps.map PK.t)) (y : tupT (c.sg.rs.map Prod.snd)), (∀ i b, h i = some b → i < n) → R.Sub h → ParsOk R c.sg.ps x asl → c.m x = some y →
  CA P f asl h n (ConPost R h n c.sg.rs y)
section
variable {B : Bas} {cx : Cx} {st : St} {L : Lay} {Es : List Env} {E : Env} {h : Heap} {n : Nat} {α : Type} {y : α}
theorem Fz.scal {F F' : Heap} {v : SV} {a : AV} (hv : Fz F v a) (hq : ∀ e t xs, v ≠ .rd e t xs) : Fz F' v a := by
  cases hv with
  | int => exact .int _ _
  | bool => exact .bool _
  | str => exact .str _
  | nil => exact .nil
  | rdn => exact absurd rfl (hq _ _ _)
  | ro => exact absurd rfl (hq _ _ _)
  | sl => exact absurd rfl (hq _ _ _)
def ResGo (B : Bas) (cx : Cx) (env : SEnv) (ρ : Roots) (nx mc : Nat) (L : Lay) (Es : List Env) (E : Env) (h : Heap) (n : Nat) (y : α) (asl : List AV) (I : Ids0) (k : List SV → Roots → Nat → Option α) : Prop :=
  ∃ vs ρ' nx' L', k vs ρ' nx' = some y ∧ Gam B cx ⟨env, ρ', nx', mc⟩ L' Es E h n ∧ TVs L' (rootOf cx ⟨env, ρ', nx', mc⟩) mc h vs asl ∧ SV.lowNs nx' vs = true ∧ L'.F = L.F ∧ L'.R = L.R ∧
    (∀ v a, TV L (rootOf cx ⟨env, ρ, nx, mc⟩) mc h v a → v.lowN nx = true → TV L' (rootOf cx ⟨env, ρ', nx', mc⟩) mc h v a ∧ v.lowN nx' = true) ∧
    ∀ J, Free B cx ⟨env, ρ, nx, mc⟩ L h n J → (∀ i, I i → ¬ J i) → Free B cx ⟨env, ρ', nx', mc⟩ L' h n J
theorem resOwn_ok {env : SEnv} {mc : Nat} {F : Heap} : ∀ {cs : List SV} {asl : List AV} {I : Ids0} {ρ : Roots} {nx : Nat} {L : Lay} {k : List SV → Roots → Nat → Option α}, Gam B cx ⟨env, ρ, nx, mc⟩ L Es E h n → OC F h cs asl I → Free B cx ⟨env, ρ, nx, mc⟩ L h n I → resOwn cs ρ nx k = some y → ResGo B cx env ρ nx mc L Es E h n y asl I k
  | [], _, I, ρ, nx, L, k, H, .nil _ hI, hF, hk => ⟨[], ρ, nx, L, hk, H, .nil, rfl, rfl, rfl, fun v a hv hl => ⟨hv, hl⟩, fun J hJ _ => hJ⟩
  | v :: cs, _, I, ρ, nx, L, k, H, .cons _ _ a asl _ J K hv hl hd hI, hF, hk => by
    have sc : (∀ e t xs, v ≠ .rd e t xs) → Fz L.F v a → v.lowN nx = true → resOwn cs ρ nx (fun l ρ n => k (v :: l) ρ n) = some y → ResGo B cx env ρ nx mc L Es E h n y (a :: asl) I k := fun _ h1 h2 h3 => by
      obtain ⟨vs, ρ', nx', L', k1, k2, k3, k4, k5, k6, k7, k8⟩ := resOwn_ok H hl (fun i hi => hF i ((hI i).2 (.inr hi))) h3
      have := k7 v a (.pl _ _ h1) h2
      exact ⟨v :: vs, ρ', nx', L', k1, k2, .cons _ _ _ _ this.1 k3, by simp only [SV.lowNs, Bool.and_eq_true]; exact ⟨this.2, k4⟩, k5, k6, k7, fun J' hJ' hd' => k8 J' hJ' fun i hi => hd' i ((hI i).2 (.inr hi))⟩
    have ls : ∀ {e : Bool} {t : PT} {xs : List t.den}, v = .rd e t xs → ResGo B cx env ρ nx mc L Es E h n y (a :: asl) I k := fun {e t xs} hq => by
      subst hq
      simp only [resOwn] at hk
      have hO : OS L.F h (.rd false t xs) a J := OS.le (.rd e t xs) (OS.anyF hv)
      obtain ⟨L1, g1, g2, g3, g4, g5, _, g6⟩ := H.addRow hO fun i hi => hF i ((hI i).2 (.inl hi))
      obtain ⟨vs, ρ', nx', L', k1, k2, k3, k4, k5, k6, k7, k8⟩ := resOwn_ok g1 hl (g6 K (fun i hi => hF i ((hI i).2 (.inr hi))) hd) hk
      have := k7 _ a g2 (row_low nx)
      exact ⟨_ :: vs, ρ', nx', L', k1, k2, .cons _ _ _ _ this.1 k3, by simp only [SV.lowNs, Bool.and_eq_true]; exact ⟨this.2, k4⟩, by rw [k5, g3], by rw [k6, g4], fun v a hv hl => by
        have := g5 v a hv hl
        exact k7 v a this.1 this.2, fun J' hJ' hd' => k8 J' (g6 J' hJ' fun i hi => hd' i ((hI i).2 (.inl hi))) fun i hi => hd' i ((hI i).2 (.inr hi))⟩
    cases hv with
    | int => exact sc (by simp) (.int _ _) rfl hk
    | bool => exact sc (by simp) (.bool _) rfl hk
    | str => exact sc (by simp) (.str _) rfl hk
    | nil => exact sc (by simp) .nil rfl hk
    | rdn => exact ls rfl
    | emp => exact ls rfl
    | sl => exact ls rfl
theorem oneS_ok {ρ : Rt} {mc nx : Nat} {t : PT} {a : AV} {cs : List AV} {vs : List SV} (hi : IsVal t a cs) (hv : TVs L ρ mc h vs cs) (hl : SV.lowNs nx vs = true) : TV L ρ mc h (oneS t vs) a ∧ (oneS t vs).lowN nx = true := by
  rcases hi with ⟨h1, rfl⟩ | ⟨h1, rfl⟩
  · cases hv with
    | cons v _ _ _ hv hn =>
      cases hn
      simp only [SV.lowNs, Bool.and_eq_true] at hl
      cases t <;> first | exact ⟨hv, hl.1⟩ | cases h1
  · cases t <;> first | cases h1; done | exact ⟨.agg _ _ hv, hl⟩
theorem resRd_ok {ρ : Rt} {mc nx : Nat} (hmc : mc < nx) {F : Heap} {frame : Bool} (h1 : frame = true → F.Sub L.F) : ∀ {cs : List SV} {asl : List AV}, FzC F cs asl → (frame = false → F.Sub L.R ∨ ∀ v, v ∈ cs → ∀ e t xs, v ≠ .rd e t xs) → TVs L ρ mc h (resRd frame mc cs) asl ∧ SV.lowNs nx (resRd frame mc cs) = true
  | [], _, .nil, _ => ⟨.nil, rfl⟩
  | v :: cs, _, .cons _ _ a asl hv hl, h2 => by
    obtain ⟨q1, q2⟩ := resRd_ok hmc h1 hl fun hq => (h2 hq).imp _root_.id fun hn w hw => hn w (List.mem_cons_of_mem _ hw)
    have sc : (∀ e t xs, v ≠ .rd e t xs) → v.lowN nx = true → TVs L ρ mc h (v :: resRd frame mc cs) (a :: asl) ∧ SV.lowNs nx (v :: resRd frame mc cs) = true := fun hn hw => ⟨.cons _ _ _ _ (.pl _ _ (hv.scal hn)) q1, by simp only [SV.lowNs, Bool.and_eq_true]; exact ⟨hw, q2⟩⟩
    have ls : ∀ {e : Bool} {t : PT} {xs : List t.den}, v = .rd e t xs → TVs L ρ mc h (resRd frame mc (v :: cs)) (a :: asl) ∧ SV.lowNs nx (resRd frame mc (v :: cs)) = true := fun {e t xs} hq => by
      subst hq
      simp only [resRd]
      cases frame with
      | true => exact ⟨.cons _ _ _ _ (.pl _ _ (hv.mono (h1 rfl))) q1, by simp only [SV.lowNs, Bool.and_eq_true]; exact ⟨rfl, q2⟩⟩
      | false =>
        refine ⟨.cons _ _ _ _ (.vw _ _ _ _ _ hv.one fun _ => ?_) q1, by simp only [SV.lowNs, Bool.and_eq_true]; exact ⟨by simp only [SV.lowN, Nat.blt_eq]; exact hmc, q2⟩⟩
        rcases h2 rfl with k | k
        · exact hv.mono k
        · exact absurd rfl (k _ (by simp) e t xs)
    cases hv with
    | int => exact sc (by simp) rfl
    | bool => exact sc (by simp) rfl
    | str => exact sc (by simp) rfl
    | nil => exact sc (by simp) rfl
    | rdn => exact ls rfl
    | ro => exact ls rfl
    | sl => exact ls rfl
theorem resultK_ok {env : SEnv} {mc : Nat} {F : Heap} {frame : Bool} : ∀ {rs : List (Bool × PT)} {x : tupT (rs.map Prod.snd)} {asl : List AV} {I : Ids0} {ρ : Roots} {nx : Nat} {L : Lay} {k : List SV → Roots → Nat → Option α}, Gam B cx ⟨env, ρ, nx, mc⟩ L Es E h n → ResA F h rs x asl I → Free B cx ⟨env, ρ, nx, mc⟩ L h n I →
    (frame = true → F.Sub L.F) → (frame = false → F.Sub L.R ∨ resFlat rs = true) → resultK frame mc rs x ρ nx k = some y → ResGo B cx env ρ nx mc L Es E h n y asl I k := by
  have one : ∀ {b : Bool} {t : PT} {x : t.den} {a : AV} {I : Ids0} {ρ : Roots} {nx : Nat} {L : Lay} {k : List SV → Roots → Nat → Option α}, Gam B cx ⟨env, ρ, nx, mc⟩ L Es E h n → Res1 F h b t x a I → Free B cx ⟨env, ρ, nx, mc⟩ L h n I → (frame = true → F.Sub L.F) → (frame = false → F.Sub L.R ∨ (b || t.flat) = true) →
      (match b with
        | true => resOwn (explode t x) ρ nx fun cs ρ n => k [oneS t cs] ρ n
        | false => k [oneS t (resRd frame mc (explode t x))] ρ nx) = some y → ResGo B cx env ρ nx mc L Es E h n y [a] I k := fun {b t x a I ρ nx L k} H ⟨cs, c1, c2, c3⟩ hF h1 h2 hk => by
    cases b with
    | true =>
      obtain ⟨vs, ρ', nx', L', k1, k2, k3, k4, k5, k6, k7, k8⟩ := resOwn_ok H (c2 rfl) hF hk
      obtain ⟨t1, t2⟩ := oneS_ok c1 k3 k4
      exact ⟨_, ρ', nx', L', k1, k2, .cons _ _ _ _ t1 .nil, by simp only [SV.lowNs, Bool.and_eq_true]; exact ⟨t2, trivial⟩, k5, k6, k7, k8⟩
    | false =>
      obtain ⟨q1, q2⟩ := resRd_ok (L := L) (h := h) (ρ := rootOf cx ⟨env, ρ, nx, mc⟩) H.mcl h1 (c3 rfl).1 fun hq => (h2 hq).imp _root_.id fun hf => explode_flat (by simpa using hf) x
      obtain ⟨t1, t2⟩ := oneS_ok c1 q1 q2
      exact ⟨_, ρ, nx, L, hk, H, .cons _ _ _ _ t1 .nil, by simp only [SV.lowNs, Bool.and_eq_true]; exact ⟨t2, trivial⟩, rfl, rfl, fun v a hv hl => ⟨hv, hl⟩, fun J hJ _ => hJ⟩
  intro rs
  induction rs with
  | nil =>
    intro x asl I ρ nx L k H ⟨hA, hI⟩ hF h1 h2 hk
    subst hA
    exact ⟨[], ρ, nx, L, hk, H, .nil, rfl, rfl, rfl, fun v a hv hl => ⟨hv, hl⟩, fun J hJ _ => hJ⟩
  | cons r rs ih =>
    intro x asl I ρ nx L k H hA hF h1 h2 hk
    cases rs with
    | nil =>
      obtain ⟨a, rfl, hA⟩ := hA
      obtain ⟨b, t⟩ := r
      refine one H hA hF h1 (fun hq => (h2 hq).imp _root_.id fun hf => ?_) ?_
      · simpa [resFlat] using hf
      · cases b <;> exact hk
    | cons r2 rs =>
      obtain ⟨a, as', J, K, rfl, hA, hA2, hd, hI⟩ := hA
      obtain ⟨b, t⟩ := r
      have hq : ResGo B cx env ρ nx mc L Es E h n y [a] J (fun vs ρ nx => match vs with
          | [v] => resultK frame mc (r2 :: rs) x.2 ρ nx fun l ρ n => k (v :: l) ρ n
          | _ => none) := by
        refine one H hA (fun i hi => hF i ((hI i).2 (.inl hi))) h1 (fun hq => (h2 hq).imp _root_.id fun hf => ?_) ?_
        · simp only [resFlat, Bool.and_eq_true] at hf; exact hf.1
        · cases b <;> exact hk
      obtain ⟨vs, ρ1, nx1, L1, k1, k2, k3, k4, k5, k6, k7, k8⟩ := hq
      cases k3 with
      | cons v _ _ _ hv hn =>
        cases hn
        simp only [SV.lowNs, Bool.and_eq_true] at k4
        obtain ⟨vs2, ρ2, nx2, L2, l1, l2, l3, l4, l5, l6, l7, l8⟩ := ih k2 hA2 (k8 K (fun i hi => hF i ((hI i).2 (.inr hi))) hd) (by rw [k5]; exact h1) (fun hq => by rw [k6]; exact (h2 hq).imp _root_.id fun hf => by unfold resFlat at hf; exact (Bool.and_eq_true _ _ ▸ hf).2) k1
        have := l7 v a hv k4.1
        exact ⟨v :: vs2, ρ2, nx2, L2, l1, l2, .cons _ _ _ _ this.1 l3, by simp only [SV.lowNs, Bool.and_eq_true]; exact ⟨this.2, l4⟩, by rw [l5, k5], by rw [l6, k6], fun v a hv hl => by
          have := k7 v a hv hl
          exact l7 v a this.1 this.2, fun J' hJ' hd' => l8 J' (k8 J' hJ' fun i hi => hd' i ((hI i).2 (.inl hi))) fun i hi => hd' i ((hI i).2 (.inr hi))⟩
end
end Go.Proofs.Ytcngfjmfgeckmaa
namespace Go.Proofs.Ytcngfjmfgeckmaa
open Go
section
variable {B : Bas} {cx : Cx} {st : St} {L : Lay} {Es : List Env} {E : Env} {h : Heap} {n : Nat} {α : Type} {y : α}
theorem allFr_mem : ∀ {q : List Src}, allFr q = true → ∀ c, c ∈ q → c = .fr
  | [], _, c, hc => by cases hc
  | .fr :: q, h, c, hc => by
    rcases List.mem_cons.1 hc with rfl | hc
    · rfl
    · exact allFr_mem (q := q) h c hc
  | .live :: _, h, _, _ => by cases h
  | .own _ :: _, h, _, _ => by cases h
theorem noLive_mem : ∀ {q : List Src}, noLive q = true → Src.live ∉ q
  | [], _ => by simp
  | .live :: _, h => by cases h
  | .fr :: q, h => by
    have := noLive_mem (q := q) h
    simp [this]
  | .own _ :: q, h => by
    have := noLive_mem (q := q) h
    simp [this]
theorem freezeK_ok : ∀ {q : List Src} {ρ : Roots} {k : Roots → Option α}, freezeK q ρ k = some y →
    ∃ ρ', k ρ' = some y ∧ ρ'.map Prod.fst = ρ.map Prod.fst ∧ (∀ r, Src.own r ∈ q → ∃ v w s md t xs, lkp ρ r = some (.row v w s md none t xs) ∧ lkp ρ' r = some (.row v w s .fz none t xs)) ∧ ∀ r, Src.own r ∉ q → lkp ρ' r = lkp ρ r
  | [], ρ, k, hk => ⟨ρ, hk, rfl, fun r hr => (by cases hr), fun r _ => rfl⟩
  | .fr :: q, ρ, k, hk => by
    obtain ⟨ρ', k1, k2, k3, k4⟩ := freezeK_ok (q := q) hk
    exact ⟨ρ', k1, k2, fun r hr => k3 r (by simpa using hr), fun r hr => k4 r (by simpa using hr)⟩
  | .live :: q, ρ, k, hk => by
    obtain ⟨ρ', k1, k2, k3, k4⟩ := freezeK_ok (q := q) hk
    exact ⟨ρ', k1, k2, fun r hr => k3 r (by simpa using hr), fun r hr => k4 r (by simpa using hr)⟩
  | .own r0 :: q, ρ, k, hk => by
    simp only [freezeK] at hk
    split at hk
    · rename_i v w s md t xs hq
      obtain ⟨ρ1, u1, u2, u3, u4⟩ := updK_ok hk
      obtain ⟨ρ', k1, k2, k3, k4⟩ := freezeK_ok (q := q) u1
      have same : ∀ r, r ≠ r0 → lkp ρ1 r = lkp ρ r := fun r hr => by rw [u4, if_neg hr]
      have at0 : lkp ρ1 r0 = some (.row v w s .fz none t xs) := by rw [u4, if_pos rfl]
      refine ⟨ρ', k1, by rw [k2, u3], fun r hr => ?_, fun r hr => ?_⟩
      · by_cases hr0 : r = r0
        · subst hr0
          by_cases hm : Src.own r ∈ q
          · obtain ⟨v1, w1, s1, md1, t1, xs1, m1, m2⟩ := k3 r hm
            rw [at0] at m1
            cases m1
            exact ⟨_, _, _, _, _, _, hq, m2⟩
          · exact ⟨_, _, _, _, _, _, hq, by rw [k4 r hm]; exact at0⟩
        · have hm : Src.own r ∈ q := by
            rcases List.mem_cons.1 hr with hr | hr
            · exact absurd (by cases hr; rfl) hr0
            · exact hr
          obtain ⟨v1, w1, s1, md1, t1, xs1, m1, m2⟩ := k3 r hm
          exact ⟨v1, w1, s1, md1, t1, xs1, by rw [← same r hr0]; exact m1, m2⟩
      · simp only [List.mem_cons, not_or] at hr
        rw [k4 r hr.2, same r (by rintro rfl; exact hr.1 rfl)]
    · cases hk
theorem conDone {env : SEnv} {ρ : Roots} {nx mc : Nat} {k : SV → St → Option α} (H : Gam B cx ⟨env, ρ, nx, mc⟩ L Es E h n) {R : Heap} {frame : Bool} {rs : List (Bool × PT)} {x : tupT (rs.map Prod.snd)} (h1 : frame = true → R.Sub L.F) (h2 : frame = false → R.Sub L.R ∨ resFlat rs = true)
    (hk : resultK frame mc rs x ρ nx (fun vs ρ nx => k (resOf vs) ⟨env, ρ, nx, mc⟩) = some y) {r : AV} {h' : Heap} {n' : Nat} (hp : ConPost R h n rs x r h' n') (hR : frame = true → L.F.Sub R) : Done B cx Es E y k r h' n' := by
  obtain ⟨F, asl, I, rfl, p1, p2, p3, p4, p5, p6, p7, p8⟩ := hp
  have key : ∀ {F' : Heap}, L.F.Sub F' → F'.Sub h' → (∀ i b, F' i = some b → L.F i = some b ∨ n ≤ i) → (∀ i, I i → F' i = none) → (frame = true → F.Sub F') → Done B cx Es E y k (resV asl) h' n' := fun {F'} f1 f2 f3 f4 f5 => by
    obtain ⟨G, tv⟩ := H.grow p4 p5 p6 f1 f2 f3
    have hfree : Free B cx ⟨env, ρ, nx, mc⟩ { L with F := F', R := fun i => open Classical in if i < n then L.R i else h' i } h' n' I := fun i hi => by
      obtain ⟨m1, m2, m3⟩ := p8 i hi
      have hh : h i = none := H.hlt' m2
      refine ⟨f4 i hi, Nat.le_trans H.nn m2, m3, ?_, ?_, fun r ρ hr hi => absurd (H.ftF r ρ i hr hi).2.2.1 (by omega)⟩
      · cases hg : B.G i with
        | none => rfl
        | some b => rw [H.gh i b hg] at hh; cases hh
      · show (open Classical in if i < n then L.R i else h' i) = h' i
        rw [if_neg (by omega)]
    have h3 : frame = false → F.Sub (fun i => open Classical in if i < n then L.R i else h' i) ∨ resFlat rs = true := fun hq => by
      rcases h2 hq with k | k
      · refine .inl fun i b hb => ?_
        show (open Classical in if i < n then L.R i else h' i) = some b
        split
        · rcases p3 i b hb with m | m
          · exact k i b m
          · omega
        · exact p2 i b hb
      · exact .inr k
    obtain ⟨vs, ρ', nx', L', k1, k2, k3, k4, _⟩ := resultK_ok G p7 hfree f5 h3 hk
    obtain ⟨t1, t2⟩ := resOf_ok k3 k4
    exact ⟨_, _, L', k1, t1, t2, k2⟩
  cases frame with
  | true =>
    refine key (F' := F) (fun i b hb => p1 i b (hR rfl i b hb)) p2 (fun i b hb => (p3 i b hb).imp (h1 rfl i b) id) (fun i hi => (p8 i hi).1) fun _ _ _ hb => hb
  | false =>
    refine key (F' := L.F) (fun _ _ hb => hb) (fun i b hb => ?_) (fun i b hb => .inl hb) (fun i hi => ?_) (fun hq => by cases hq)
    · have := H.fh i b hb
      rw [p5 i (H.hlt i b this)]; exact this
    · cases hf : L.F i with
      | none => rfl
      | some b => exact absurd (H.hlt i b (H.fh i b hf)) (by have := (p8 i hi).2.1; omega)
theorem callCon_ok {P : Program} {f : FuncId} {c : Con} (hc : ConOk P f c) (H : Gam B cx st L Es E h n) {args : List SV} {asl : List AV} {k : SV → St → Option α} (ha : TVs L (rootOf cx st) st.mc h args asl) (hl : SV.lowNs st.nx args = true) (hk : callCon cx st c args k = some y) :
    CA P f asl h n (Done B cx Es E y k) := by
  obtain ⟨env, ρ, nx, mc⟩ := st
  obtain ⟨q, x, k1, k2, k0, k3⟩ := argsK_ok H ha hl hk
  cases hm : c.m x with
  | none => rw [hm] at k1; cases k1
  | some z =>
    rw [hm] at k1
    simp only [Option.bind_some] at k1
    cases hb : allFr q || !(c.fz && noLive q) with
    | true =>
      rw [hb] at k1
      simp only [cond_true] at k1
      obtain ⟨b1, b2⟩ := bif_some k1
      cases hfr : allFr q with
      | true =>
        rw [hfr] at b2
        have hR : RdOk L h q L.F := ⟨fun _ _ hb => hb, fun r i b hq => (by cases allFr_mem hfr _ hq), fun hq => (by cases allFr_mem hfr _ hq)⟩
        have hp : ptrsFr c.sg.ps args = true := k0 fun hq => by cases allFr_mem hfr _ hq
        exact (hc.2 L.F h n asl x z H.hlt H.fh (k3 L.F hR (.inl hp)) hm).mono fun r h' n' hp => conDone H (fun _ _ _ hb => hb) (fun hq => by cases hq) b2 hp fun _ _ _ hb => hb
      | false =>
        rw [hfr] at b1 b2
        simp only [Bool.false_or, Bool.or_eq_true] at b1
        rcases b1 with b1 | b1
        · have hR : RdOk L h q L.R := ⟨H.fr, fun r i b hq hi hb => by
            obtain ⟨w, s, x, md, t, xs, hr⟩ := k2 r hq
            rw [H.ftR _ _ _ _ _ _ _ _ _ hr hi]; exact hb, fun _ _ _ hb => hb⟩
          exact (hc.2 L.R h n asl x z H.hlt H.rh (k3 L.R hR (.inl b1)) hm).mono fun r h' n' hp => conDone H (fun hq => by cases hq) (fun _ => .inl fun _ _ hb => hb) b2 hp fun hq => by cases hq
        · have hR : RdOk L h q h := ⟨H.fh, fun r i b _ _ hb => hb, fun _ => H.rh⟩
          exact (hc.2 h h n asl x z H.hlt (fun _ _ hb => hb) (k3 h hR (.inr fun _ _ hb => hb)) hm).mono fun r h' n' hp => conDone H (fun hq => by cases hq) (fun _ => .inr b1) b2 hp fun hq => by cases hq
    | false =>
      rw [hb] at k1
      simp only [cond_false] at k1
      simp only [Bool.or_eq_false_iff, Bool.not_eq_false', Bool.and_eq_true] at hb
      obtain ⟨hfr, hfz, hnl⟩ := hb
      obtain ⟨ρ1, u1, u2, u3, u4⟩ := freezeK_ok k1
      have hz : ∀ r, Src.own r ∈ q → ∃ v w s md t xs, lkp ρ r = some (.row v w s md none t xs) := fun r hr => by
        obtain ⟨v, w, s, md, t, xs, m1, _⟩ := u3 r hr
        exact ⟨v, w, s, md, t, xs, m1⟩
      obtain ⟨ρ', L', hl2, hfst, G, eA, eC, eU, eF, eZ, eR, eft, etv⟩ := H.reMd (fun _ => False) (fun r => Src.own r ∈ q) (fun _ hX => hX.elim) hz (fun _ hX => hX.elim)
      have hlk : ∀ r, lkp ρ1 r = lkp ρ' r := fun r => by
        rw [hl2]
        by_cases hr : Src.own r ∈ q
        · obtain ⟨v, w, s, md, t, xs, m1, m2⟩ := u3 r hr
          simp only
          rw [m1, m2]
          simp [Go.Proofs.Ytcngfjmfgeckmaa.reMd, hr]
        · rw [u4 r hr]
          simp only
          cases hx : lkp ρ r with
          | none => rfl
          | some x => cases x with
            | cell cs => rfl
            | row v w s md hl t xs => cases hl with
              | none => simp [Go.Proofs.Ytcngfjmfgeckmaa.reMd, hr]
              | some uo => rfl
      have hrt : ∀ r, rootOf cx ⟨env, ρ1, nx, mc⟩ r = rootOf cx ⟨env, ρ', nx, mc⟩ r := fun r => by rw [rootOf_jn, rootOf_jn]; simp only [hlk]
      have G1 : Gam B cx ⟨env, ρ1, nx, mc⟩ L' Es E h n := G.same hrt rfl rfl (fun t v hv => .inl hv) (fun t v hv => .inr hv) rfl H.dj (by rw [u2]; exact H.nd) (fun r x hx => ⟨x, by rw [← hlk]; exact hx⟩) (fun r x x0 h1 h2 => G.lkc r x x0 (by simp only; rw [← hlk]; exact h1) h2)
      have hR : RdOk L h q L'.F := ⟨eF, fun r i b hq hi hb => eZ r i b hq hi hb, fun hq => absurd hq (noLive_mem hnl)⟩
      have hp : ptrsFr c.sg.ps args = true := k0 (noLive_mem hnl)
      exact (hc.2 L'.F h n asl x z H.hlt G1.fh (k3 L'.F hR (.inl hp)) hm).mono fun r h' n' hp => conDone G1 (fun _ _ _ hb => hb) (fun hq => by cases hq) u1 hp fun _ _ _ hb => hb
end
end Go.Proofs.Ytcngfjmfgeckmaa
