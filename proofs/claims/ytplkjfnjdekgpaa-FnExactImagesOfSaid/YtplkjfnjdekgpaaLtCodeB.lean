/- The code of the small logic: the rules of code. Own work. -/
import Derived.Test.YtplkjfnjdekgpaaLtCodeA
namespace Go.Proofs.Ytplkjfnjdekgpaa
open Go

section
variable {P : Program} {T : TE} {N : Nat} {E : Env} {h : Heap} {n : Nat}

theorem getD_get {a : Act} {d : Tmp} {v : Value} (hv : a.tmps.getD d undef = v) : a.tmps[d]? = some v ∨ (a.tmps[d]? = none ∧ v = .tuple #[]) := by
  rw [Array.getD_eq_getD_getElem?] at hv
  cases hx : a.tmps[d]? with
  | none => rw [hx] at hv; exact .inr ⟨rfl, hv.symm⟩
  | some u => rw [hx] at hv; exact .inl (by rw [show u = v from hv])

theorem yieldA_ok {ops : Array Oper} {c : Cfg} {a : Act} (ht : ∀ t, VR c (E.get t) (a.tmps.getD t undef)) {j : Nat} {y : Option Bool} (hy : yieldA ops.toList E j = some y) : yielded ops a.tmps j = y := by
  unfold yieldA at hy
  unfold yielded
  rw [Array.getElem?_toList] at hy
  cases hd : (ops[j]?).bind (·.dst) with
  | none => rw [hd] at hy; simp at hy; subst hy; rfl
  | some d =>
    rw [hd] at hy
    simp only [Option.bind_some]
    have hv := ht d
    obtain ⟨v, hv'⟩ : ∃ v, a.tmps.getD d undef = v := ⟨_, rfl⟩
    rw [hv'] at hv
    have hg := getD_get hv'
    simp only at hy
    generalize E.get d = x at hy hv
    cases hv <;> simp only [Option.some.injEq, reduceCtorEq] at hy <;> subst hy <;> rcases hg with hg | ⟨hg, hu⟩ <;> first | (rw [hg]; done) | (simp only [hg]; done) | cases hu

theorem stepA_sound (hT : TEOk P T) {ops : Array Oper} {o : Oper} {b : Base} {a : Act} {w : World} {K : Env → Heap → Nat → Prop} {next : Act → World → Prop} {Q : Exit → Act → World → Prop} (hdN : dstIn N o = true)
    (hs : SR b N E h n a w) (hc : stepA P T ops.toList o E h n K) (hK : ∀ E' h' n' a' w', SR b N E' h' n' a' w' → K E' h' n' → next a' w') :
    if Region.wanted o (yielded ops a.tmps) then o.wp P a w next Q else next (a.put o.dst undef) w := by
  have hd : ∀ t, o.dst = some t → t < N := fun t ht => by unfold dstIn at hdN; rw [ht] at hdN; simpa using hdN
  have hs0 := hs
  obtain ⟨c, rfl, e0, hh, hf, hn, hb, hdf, hN, ht⟩ := hs
  unfold stepA at hc
  unfold Region.wanted
  cases hg : o.guard with
  | none =>
    rw [hg] at hc
    simp only [if_true]
    exact callA_sound hT hd hs0 hc hK
  | some g =>
    obtain ⟨j, want⟩ := g
    rw [hg] at hc
    simp only at hc ⊢
    split at hc
    · rename_i y hy
      have hyd := yieldA_ok ht hy
      split at hc
      · rename_i hyw
        rw [if_pos (by simp [hyd, hyw])]
        exact callA_sound hT hd hs0 hc hK
      · rename_i hyw
        rw [if_neg (by simpa [hyd] using hyw)]
        exact hK _ _ _ _ _ (SR.put (d := o.dst) (v := undef) (r := .tup []) e0 hh hb hn hdf hN ht hd (Ext.refl c h _) hh hf (.tup _ _ rfl (fun i u v h => by simp at h)) (Nat.le_refl _) rfl) hc
    · exact hc.elim

theorem opsA_sound (hT : TEOk P T) {ops : Array Oper} {b : Base} {K : Env → Heap → Nat → Prop} {Q : Exit → Act → World → Prop} (hK : ∀ E' h' n' a' w', SR b N E' h' n' a' w' → K E' h' n' → Q .normal a' w') :
    ∀ (l : List Oper) {E : Env} {h : Heap} {n : Nat} {a : Act} {w : World}, l.all (dstIn N) = true → SR b N E h n a w → opsA P T ops.toList l E h n K → wpList P ops Q l a w
  | [], _, _, _, _, _, _, hs, hc => hK _ _ _ _ _ hs hc
  | o :: l, E, h, n, a, w, hd, hs, hc => by
    simp only [List.all_cons, Bool.and_eq_true] at hd
    refine wpList_step fun K' hK' => ?_
    exact stepA_sound hT hd.1 hs hc (fun E' h' n' a' w' hs' hc' => hK' _ _ (opsA_sound hT hK l hd.2 hs' hc'))

def thenA (next : Env → Heap → Nat → Prop) (Q : Exit → Env → Heap → Nat → Prop) : Exit → Env → Heap → Nat → Prop
  | .normal => next
  | e => Q e

def blockA (id : Nat) (Q : Exit → Env → Heap → Nat → Prop) : Exit → Env → Heap → Nat → Prop
  | .exit id' => if id' = id then Q .normal else Q (.exit id')
  | e => Q e

variable {Q : Exit → Env → Heap → Nat → Prop}

theorem WP.mono {c : Code} {Q' : Exit → Env → Heap → Nat → Prop} (hw : WP P N c Q E h n) (hq : ∀ e E h n, Q e E h n → Q' e E h n) : WP P N c Q' E h n := fun b a w hs =>
  wp_mono (hw b a w hs) fun _ _ _ ⟨E', h', n', q1, q2⟩ => ⟨E', h', n', q1, hq _ _ _ _ q2⟩

theorem WP.region (hT : TEOk P T) {id : Nat} {l : List Oper} (hd : l.all (dstIn N) = true) (hc : opsA P T l l E h n (Q .normal)) : WP P N (.region id l.toArray false) Q E h n := fun _ _ _ hs =>
  wp_region_lit (opsA_sound (ops := l.toArray) hT (fun E' h' n' _ _ q1 q2 => ⟨E', h', n', q1, q2⟩) l hd hs hc)

theorem WP.skip (hq : Q .normal E h n) : WP P N .skip Q E h n := fun _ _ _ hs => wp_skip ⟨_, _, _, hs, hq⟩
theorem WP.ret (hq : Q .ret E h n) : WP P N .ret Q E h n := fun _ _ _ hs => wp_ret ⟨_, _, _, hs, hq⟩
theorem WP.exit {id : Nat} (hq : Q (.exit id) E h n) : WP P N (.exit id) Q E h n := fun _ _ _ hs => wp_exit ⟨_, _, _, hs, hq⟩
theorem WP.label {l : Nat} (hq : Q .normal E h n) : WP P N (.label l) Q E h n := fun _ _ _ hs => wp_label ⟨_, _, _, hs, hq⟩

theorem WP.seq {x y : Code} (hx : WP P N x (thenA (WP P N y Q) Q) E h n) : WP P N (.seq x y) Q E h n := fun b a w hs =>
  wp_seq (wp_mono (hx b a w hs) fun e a' w' ⟨E', h', n', q1, q2⟩ => by
    cases e with
    | normal => exact q2 b a' w' q1
    | _ => exact ⟨E', h', n', q1, q2⟩)

theorem WP.cond {c : Operand} {x y : Code} {t : Bool} (hc : ev E c = .bool t) (ht : t = true → WP P N x Q E h n) (hf : t = false → WP P N y Q E h n) : WP P N (.cond c x y) Q E h n := fun b a w hs => by
  have hs0 := hs
  obtain ⟨cf, rfl, e0, hh, hfr, hn, hb, hdf, hN, hv⟩ := hs
  have hv := SR.eval hv c
  rw [hc] at hv
  obtain ⟨v, hv'⟩ : ∃ v, a.eval c = v := ⟨_, rfl⟩
  rw [hv'] at hv
  cases hv
  exact wp_cond_split hv' (fun q => ht q b a _ hs0) (fun q => hf q b a _ hs0)

theorem WP.block {id : Nat} {c : Code} (hc : WP P N c (blockA id Q) E h n) : WP P N (.block id c) Q E h n := fun b a w hs =>
  wp_block (wp_mono (hc b a w hs) fun e a' w' ⟨E', h', n', q1, q2⟩ => by
    cases e with
    | exit id' =>
      simp only [blockA] at q2
      simp only [Exit.inBlock]
      split
      · rename_i hid; rw [if_pos hid] at q2; exact ⟨E', h', n', q1, q2⟩
      · rename_i hid; rw [if_neg hid] at q2; exact ⟨E', h', n', q1, q2⟩
    | _ => exact ⟨E', h', n', q1, q2⟩)

/-- A loop: an invariant with a measure. -/
theorem WP.loop {c : Code} (I : Nat → Env → Heap → Nat → Prop) (m : Nat) (h0 : I m E h n) (round : ∀ m E h n, I m E h n → WP P N c (thenA (fun E' h' n' => ∃ m', m' < m ∧ I m' E' h' n') Q) E h n) : WP P N (.loop c) Q E h n := fun b a w hs => by
  intro fb k cs
  have key : ∀ m E h n a w, SR b N E h n a w → I m E h n →
      ∃ e a' w', (∃ E' h' n', SR b N E' h' n' a' w' ∧ Q e E' h' n') ∧ Arrives P (lone (fb.at a (.code c :: .inLoop c :: k)) cs w) fb k cs e a' w' := by
    intro m
    induction m using Nat.strongRecOn with
    | _ m ih =>
      intro E h n a w hs hI
      obtain ⟨e, a₁, w₁, ⟨E1, h1, n1, hq1, hq⟩, harr⟩ := round m E h n hI b a w hs fb (.inLoop c :: k) cs
      cases e with
      | normal =>
        obtain ⟨m', hlt, hI₁⟩ := hq
        obtain ⟨e₂, a₂, w₂, hq₂, harr₂⟩ := ih m' hlt E1 h1 n1 a₁ w₁ hq1 hI₁
        exact ⟨e₂, a₂, w₂, hq₂, .of_steps (Steps.trans harr (.one step_inLoop)) harr₂⟩
      | exit id => exact ⟨_, a₁, w₁, ⟨E1, h1, n1, hq1, hq⟩, .pass (x := .inLoop c) rfl (fun _ _ => .inl (by simp)) harr⟩
      | goto l => exact ⟨_, a₁, w₁, ⟨E1, h1, n1, hq1, hq⟩, .pass (x := .inLoop c) rfl (fun _ _ => .inl (by simp)) harr⟩
      | ret => exact ⟨_, a₁, w₁, ⟨E1, h1, n1, hq1, hq⟩, .pass (x := .inLoop c) rfl (fun _ _ => .inl (by simp)) harr⟩
      | panic ch => exact ⟨_, a₁, w₁, ⟨E1, h1, n1, hq1, hq⟩, .pass (x := .inLoop c) rfl (fun _ _ => .inl (by simp)) harr⟩
      | outgrown => exact ⟨_, a₁, w₁, ⟨E1, h1, n1, hq1, hq⟩, .pass (x := .inLoop c) rfl (fun _ _ => .inl (by simp)) harr⟩
  obtain ⟨e, a', w', hq, harr⟩ := key m E h n a w hs h0
  exact ⟨e, a', w', hq, .of_steps (.one step_loop) harr⟩

def cellOk (T : TE) (t : TypeId) : Bool := match (T t).ty with | .struct _ => decide (0 < (T t).sz) | _ => true

def cellA (T : TE) (E : Env) (h : Heap) (a : Tmp) (t : TypeId) : Option AV :=
  match E.get a with
  | .ep sz s i off => (rdSl h sz s).bind fun l => (l[i]?).bind fun e => part T t off e
  | _ => none

/-- What a function's results are. -/
def resA (T : TE) (E : Env) (h : Heap) : List ResultVar → Option (List AV)
  | [] => some []
  | .tmp t :: l => (resA T E h l).map (E.get t :: ·)
  | .cell a t :: l => if cellOk T t then (cellA T E h a t).bind fun v => (resA T E h l).map (v :: ·) else none

def resV : List AV → AV
  | [v] => v
  | l => .tup l

def retA (T : TE) (rs : List ResultVar) (K : AV → Heap → Nat → Prop) : Exit → Env → Heap → Nat → Prop
  | .normal | .ret => fun E h n => ∃ l, resA T E h rs = some l ∧ K (resV l) h n
  | _ => fun _ _ _ => False

def resM (a : Act) : ResultVar → Sem Value
  | .tmp t => pure (a.tmps.getD t undef)
  | .cell x t => do loadVar t (← asAddr (a.tmps.getD x undef))

theorem resA_ok (hT : TEOk P T) {c : Cfg} (hh : HR c h) {a : Act} (ht : ∀ t, VR c (E.get t) (a.tmps.getD t undef)) : ∀ (rs : List ResultVar) (l : List AV), resA T E h rs = some l →
    ∃ vs : List Value, (rs.mapM (resM a)).run P c.w = .ok vs c.w ∧ vs.length = l.length ∧ ∀ (i : Nat) (u : AV) (v : Value), l[i]? = some u → vs[i]? = some v → VR c u v
  | [], l, hr => by
    simp [resA] at hr; subst hr
    exact ⟨[], by simp, rfl, by simp⟩
  | .tmp t :: rs, l, hr => by
    simp only [resA, Option.map_eq_some_iff] at hr
    obtain ⟨l', hr', rfl⟩ := hr
    obtain ⟨vs, q1, q2, q3⟩ := resA_ok hT hh ht rs l' hr'
    refine ⟨a.tmps.getD t undef :: vs, ?_, by simp [q2], fun i u v hu hv => ?_⟩
    · simp only [List.mapM_cons, Sem.run_bind, resM, Sem.run_pure, Result.andThen_ok, q1]
    · cases i with
      | zero => simp only [List.getElem?_cons_zero, Option.some.injEq] at hu hv; subst hu; subst hv; exact ht t
      | succ i => exact q3 i u v (by simpa using hu) (by simpa using hv)
  | .cell x t :: rs, l, hr => by
    simp only [resA] at hr
    split at hr
    · rename_i hst
      obtain ⟨v, hv, hr⟩ := Option.bind_eq_some_iff.1 hr
      simp only [Option.map_eq_some_iff] at hr
      obtain ⟨l', hr', rfl⟩ := hr
      obtain ⟨vs, q1, q2, q3⟩ := resA_ok hT hh ht rs l' hr'
      unfold cellA at hv
      split at hv
      · rename_i sz s i off hx
        obtain ⟨l0, hl0, hv⟩ := Option.bind_eq_some_iff.1 hv
        obtain ⟨e, he, hv⟩ := Option.bind_eq_some_iff.1 hv
        have hp := ht x
        rw [hx] at hp
        obtain ⟨ad, hpv, hlen, hone, hc⟩ := rd_ep hh hp hl0 he
        obtain ⟨u, g1, g2⟩ := load_run (P := P) hT hv (fun fs hfs => by unfold cellOk at hst; rw [hfs] at hst; simpa using hst) hone hc
        refine ⟨u :: vs, ?_, by simp [q2], fun i u v hu hv => ?_⟩
        · simp only [List.mapM_cons, Sem.run_bind, resM, hpv, asAddr, Sem.run_pure, Result.andThen_ok, g1, q1]
        · cases i with
          | zero => simp only [List.getElem?_cons_zero, Option.some.injEq] at hu hv; subst hu; subst hv; exact g2
          | succ i => exact q3 i u v (by simpa using hu) (by simpa using hv)
      · cases hv
    · cases hr

theorem results_ok (hT : TEOk P T) {c : Cfg} (hh : HR c h) {a : Act} (ht : ∀ t, VR c (E.get t) (a.tmps.getD t undef)) {fn : Func} {l : List AV} (hr : resA T E h fn.results.toList = some l) :
    ∃ v, (results fn a.tmps).run P c.w = .ok v c.w ∧ VR c (resV l) v := by
  obtain ⟨vs, q1, q2, q3⟩ := resA_ok (P := P) hT hh ht _ l hr
  have hm : (fn.results.mapM (resM a)).run P c.w = .ok vs.toArray c.w := by
    rw [← Array.toArray_toList (xs := fn.results), List.mapM_toArray]
    simp [q1]
  refine ⟨if hs : vs.toArray.size = 1 then vs.toArray[0] else .tuple vs.toArray, ?_, ?_⟩
  · have he : results fn a.tmps = (do let vs ← fn.results.mapM (resM a); pure (if hs : vs.size = 1 then vs[0] else .tuple vs)) := by
      unfold results
      congr 1
    rw [he]
    simp only [Sem.run_bind, hm, Result.andThen_ok, Sem.run_pure]
  · match l, vs, q2 with
    | [u], [v], _ => exact q3 0 u v rfl rfl
    | [], [], _ => exact .tup _ _ rfl (fun i u v h => by simp at h)
    | u1 :: u2 :: l, v1 :: v2 :: vs, q2 =>
      refine .tup _ _ (by simpa using q2) fun i u v hu hv => q3 i u v hu (by simpa using hv)

def envOf (args : List AV) : Env := fun t => (args[t]?).getD .undef

/-- **A function is entered.** -/
theorem CA.enter (hT : TEOk P T) {f : FuncId} {fn : Func} {code : Code} {args : List AV} {K : AV → Heap → Nat → Prop} (hg : Goes P f) (hf : P.funcs[f]? = some fn) (hb : fn.body = some code) (hN : fn.ntmps = N) (hl : args.length ≤ N) {rs : List ResultVar} (hrs : fn.results.toList = rs)
    (hw : (∀ id b, h id = some b → id < n) → WP P N code (retA T rs K) (envOf args) h n) : CA P f args h n K := by
  refine ⟨hg, fun c vals hh hfr hs hv => calls_of_wp hf hb ?_⟩
  have hlt : ∀ id b, h id = some b → id < n := fun id b hid => by
    obtain ⟨b', base, sz, arr, E, hB⟩ := hh.blk id b hid
    rcases Nat.lt_or_ge id n with h1 | h1
    · exact h1
    · have := hB.ι; rw [hfr id h1] at this; cases this
  have hsr : SR ⟨c, h, n⟩ N (envOf args) h n { tmps := vals ++ Array.replicate (fn.ntmps - vals.size) undef, defers := [] } c.w := by
    refine ⟨c, rfl, Ext.refl _ _ _, hh, hfr, Nat.le_refl _, hh, rfl, by simp; omega, fun t => ?_⟩
    show VR c ((args[t]?).getD .undef) _
    by_cases ht : t < args.length
    · have h1 : args[t]? = some args[t] := List.getElem?_eq_getElem ht
      have h2 : vals[t]? = some (vals[t]'(by omega)) := Array.getElem?_eq_getElem (by omega)
      rw [Array.getD_eq_getD_getElem?, Array.getElem?_append_left (by omega), h2, h1]
      exact hv t _ _ h1 h2
    · rw [List.getElem?_eq_none (by omega)]
      exact .undef _
  refine wp_mono (hw hlt _ _ _ hsr) fun e a w ⟨E', h', n', q1, q2⟩ => ?_
  obtain ⟨c', rfl, e0, hh', hf', hn', _, hd, hN', ht'⟩ := q1
  have fin : ∀ l, resA T E' h' rs = some l → K (resV l) h' n' → a.defers = [] ∧ ∃ v, (results fn a.tmps).run P c'.w = .ok v c'.w ∧ ∃ v_1 r h'_1 n'_1, Ending.returned v = .returned v_1 ∧ PostR c h n v_1 c'.w r h'_1 n'_1 ∧ K r h'_1 n'_1 := fun l h1 h2 => by
    subst hrs
    obtain ⟨v, g1, g2⟩ := results_ok (P := P) hT hh' ht' h1
    exact ⟨hd, v, g1, v, _, _, _, rfl, ⟨c', rfl, e0, hh', hf', g2, hn'⟩, h2⟩
  cases e with
  | normal => obtain ⟨l, h1, h2⟩ := q2; exact fin l h1 h2
  | ret => obtain ⟨l, h1, h2⟩ := q2; exact fin l h1 h2
  | _ => exact q2.elim

end
end Go.Proofs.Ytplkjfnjdekgpaa
