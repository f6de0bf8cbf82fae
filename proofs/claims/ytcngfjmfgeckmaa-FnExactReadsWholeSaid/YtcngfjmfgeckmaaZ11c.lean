import Derived.Test.YtcngfjmfgeckmaaZ11b
set_option linter.unusedSimpArgs false
set_option linter.unusedVariables false
set_option linter.unusedSectionVars false
namespace Go.Proofs.Ytcngfjmfgeckmaa
open Go
section
variable {P : Program} {T : TE} {N : Nat} {h : Heap} {n : Nat}
theorem buildP_congr {fs : List (Nat × TypeId)} {e e' : Operand → AV} : ∀ (ps : List (Nat × Operand)) (cells : List AV) {R : List AV → Prop}, (∀ p, p ∈ ps → e p.2 = e' p.2) → buildP T fs cells e ps R = buildP T fs cells e' ps R
  | [], _, _, _ => rfl
  | (i, x) :: rest, cells, R, hp => by
    simp only [buildP]
    rw [show e x = e' x from hp (i, x) (by simp)]
    congr 1; funext p
    rw [buildP_congr rest _ (fun p hpm => hp p (by simp [hpm]))]
theorem opP_congr {op : Op} {e e' : Operand → AV} {K : AV → Heap → Nat → Prop} (he : ∀ x, x ∈ op.operands → e x = e' x) : opP T op e h n K = opP T op e' h n K := by
  cases op <;> simp only [Op.operands] at he <;> simp only [opP]
  case build t ps =>
    have hp : ∀ p, p ∈ ps.toList → e p.2 = e' p.2 := fun p hp => he p.2 (by simp; exact ⟨p.1, by simpa using hp⟩)
    have hb : ∀ fs cells (R : List AV → Prop), buildP T fs cells e ps.toList R = buildP T fs cells e' ps.toList R := fun fs cells R => buildP_congr _ _ hp
    simp only [hb]
  case buildSlice t m ps =>
    have hp : ∀ p, p ∈ ps.toList → e p.2 = e' p.2 := fun p hp => he p.2 (by simp; exact ⟨p.1, by simpa using hp⟩)
    have hmap : (ps.toList.map fun p => e p.2) = (ps.toList.map fun p => e' p.2) := List.map_congr_left hp
    have hall : (∀ p, p ∈ ps.toList → (e p.2).cells.length = (T t).sz ∧ (e p.2).good = true) ↔ (∀ p, p ∈ ps.toList → (e' p.2).cells.length = (T t).sz ∧ (e' p.2).good = true) :=
      ⟨fun q p hpm => by rw [← hp p hpm]; exact q p hpm, fun q p hpm => by rw [hp p hpm]; exact q p hpm⟩
    congr 1; funext el
    have hall' : (∀ p, p ∈ ps.toList → (e p.2).cells.length = (T el).sz ∧ (e p.2).good = true) = (∀ p, p ∈ ps.toList → (e' p.2).cells.length = (T el).sz ∧ (e' p.2).good = true) :=
      propext ⟨fun q p hpm => by rw [← hp p hpm]; exact q p hpm, fun q p hpm => by rw [hp p hpm]; exact q p hpm⟩
    rw [hmap, hall']
  case makeFunc f first cap =>
    cases f <;> simp only
    case func =>
      have hmap : cap.toList.map e = cap.toList.map e' := List.map_congr_left fun x hx => he x (by simp at hx ⊢; exact .inr hx)
      rw [hmap]
  case slice t x lo hi mx =>
    have hx : e x = e' x := he x (by simp)
    have hl : lo.map e = lo.map e' := by cases lo with
      | none => rfl
      | some y => simp [he y (by simp)]
    have hh : hi.map e = hi.map e' := by cases hi with
      | none => rfl
      | some y => simp [he y (by simp)]
    have hm : mx.map e = mx.map e' := by cases mx with
      | none => rfl
      | some y => simp [he y (by simp)]
    rw [hx, hl, hh, hm]
  case call c =>
    cases hc : c.callee <;> simp only
    case builtin b =>
      have hmap : c.args.toList.map e = c.args.toList.map e' := List.map_congr_left fun x hx => he x (by simp at hx; simp [Call.operands, hx])
      rw [hmap]
  all_goals first
    | rfl
    | (rw [he _ (by simp)]; done)
    | (rw [he _ (by simp), he _ (by simp)]; done)
    | simp_all
theorem callA_congr {o : Oper} {E E' : Env} {K : AV → Heap → Nat → Prop} (he : ∀ x, x ∈ o.op.operands → ev E x = ev E' x) : callA P T o E h n K = callA P T o E' h n K := by
  have hop := opP_congr (T := T) (h := h) (n := n) (K := K) he
  unfold callA
  split
  · rename_i c hc
    split
    · rename_i f hf
      rw [hc] at he
      have h1 : ev E f = ev E' f := he f (by simp [Op.operands, Call.operands, hf])
      have hmap : c.args.toList.map (ev E) = c.args.toList.map (ev E') := List.map_congr_left fun x hx => he x (by simp at hx; simp [Op.operands, Call.operands, hx])
      rw [h1, hmap]
    · exact hop
  · exact hop
theorem callA_mono {o : Oper} {E : Env} {K K' : AV → Heap → Nat → Prop} (hk : ∀ r h' n', K r h' n' → K' r h' n') (hc : callA P T o E h n K) : callA P T o E h n K' := by
  obtain ⟨dst, op, type, pos, after, guard⟩ := o
  cases op
  case call c =>
    unfold callA at hc ⊢
    simp only at hc ⊢
    cases hf : c.callee with
    | value f =>
      rw [hf] at hc
      simp only at hc ⊢
      cases hg : ev E f
      case fn g cap => rw [hg] at hc; exact hc.mono hk
      all_goals rw [hg] at hc; exact hc.elim
    | builtin b => rw [hf] at hc; exact opP_mono hk hc
    | invoke r m => rw [hf] at hc; exact opP_mono hk hc
  all_goals
    unfold callA at hc ⊢
    exact opP_mono hk hc
def Same (ops : Array Oper) (o : Oper) (E E' : Env) : Prop := ∀ t, t ∈ o.looksAt ops → E t = E' t
theorem Same.ev {ops : Array Oper} {o : Oper} {E E' : Env} (hs : Same ops o E E') : ∀ x, x ∈ o.op.operands → ev E x = ev E' x := fun x hx => by
  cases x with
  | tmp t => exact hs t (by
      unfold Oper.looksAt
      exact List.mem_append_left _ (List.mem_filterMap.2 ⟨.tmp t, by simpa using hx, rfl⟩))
  | _ => rfl
theorem Same.yield {ops : Array Oper} {o : Oper} {E E' : Env} (hs : Same ops o E E') {j : Nat} {want : Bool} (hg : o.guard = some (j, want)) : yieldA ops.toList E j = yieldA ops.toList E' j := by
  unfold yieldA
  rw [Array.getElem?_toList]
  cases hd : (ops[j]?).bind (·.dst) with
  | none => rfl
  | some d =>
    have h1 : E.get d = E'.get d := hs d (by
      unfold Oper.looksAt
      refine List.mem_append_right _ ?_
      rw [hg]
      simp only
      rw [hd]; simp)
    simp only [h1]
theorem stepA_mono {ops : List Oper} {o : Oper} {E : Env} {K K' : Env → Heap → Nat → Prop} (hk : ∀ r h' n', K (E.put o.dst r) h' n' → K' (E.put o.dst r) h' n') (hc : stepA P T ops o E h n K) : stepA P T ops o E h n K' := by
  unfold stepA at hc ⊢
  cases hg : o.guard with
  | none => rw [hg] at hc; exact callA_mono (fun r h' n' => hk r h' n') hc
  | some g =>
    obtain ⟨j, want⟩ := g
    rw [hg] at hc
    simp only at hc ⊢
    cases hy : yieldA ops E j with
    | none => rw [hy] at hc; exact hc.elim
    | some y => rw [hy] at hc; exact ite_mono (callA_mono fun r h' n' => hk r h' n') (hk _ _ _) hc
theorem stepA_same {ops : Array Oper} {o : Oper} {E E' : Env} (hs : Same ops o E E') {K K' : Env → Heap → Nat → Prop} (hk : ∀ r h' n', K (E.put o.dst r) h' n' → K' (E'.put o.dst r) h' n') (hc : stepA P T ops.toList o E h n K) : stepA P T ops.toList o E' h n K' := by
  unfold stepA at hc ⊢
  cases hg : o.guard with
  | none =>
    rw [hg] at hc
    simp only at hc ⊢
    rw [← callA_congr hs.ev]
    exact callA_mono (fun r h' n' => hk r h' n') hc
  | some g =>
    obtain ⟨j, want⟩ := g
    rw [hg] at hc
    simp only at hc ⊢
    rw [← hs.yield hg]
    cases hy : yieldA ops.toList E j with
    | none => rw [hy] at hc; exact hc.elim
    | some y =>
      rw [hy] at hc
      simp only at hc ⊢
      rw [← callA_congr hs.ev]
      exact ite_mono (callA_mono fun r h' n' => hk r h' n') (hk _ _ _) hc
theorem callA_quiet {o : Oper} {E : Env} {K : AV → Heap → Nat → Prop} (hq : quietOp o.op = true) : callA P T o E h n K = opP T o.op (ev E) h n K := by
  unfold callA
  split
  · rename_i c hc
    split
    · rename_i f hf
      rw [hc] at hq
      simp [quietOp, hf] at hq
    · rfl
  · rfl
theorem stepA_quiet {ops : Array Oper} {o : Oper} {E : Env} {hS : Heap} (hq : quietOp o.op = true) {Φ : Env → Prop} (hc : stepA P T ops.toList o E hS n (fun E' _ _ => Φ E')) :
    ∃ v, Φ (E.put o.dst v) ∧ ∀ (E2 : Env) (h' : Heap) (n' : Nat) (K : Env → Heap → Nat → Prop), Same ops o E E2 → hS.Sub h' → K (E2.put o.dst v) h' n' → stepA P T ops.toList o E2 h' n' K := by
  unfold stepA at hc
  cases hg : o.guard with
  | none =>
    rw [hg] at hc
    simp only at hc
    rw [callA_quiet hq] at hc
    obtain ⟨v, q1, q2⟩ := quiet_det (Φ := fun r => Φ (E.put o.dst r)) hq hc
    refine ⟨v, q1, fun E2 h' n' K hs hsub hk => ?_⟩
    unfold stepA
    rw [hg]
    simp only
    rw [callA_quiet hq, ← opP_congr hs.ev]
    exact q2 h' n' _ hsub hk
  | some g =>
    obtain ⟨j, want⟩ := g
    rw [hg] at hc
    simp only at hc
    cases hy : yieldA ops.toList E j with
    | none => rw [hy] at hc; exact hc.elim
    | some y =>
      rw [hy] at hc
      simp only at hc
      by_cases hyw : y = some want
      · rw [if_pos hyw, callA_quiet hq] at hc
        obtain ⟨v, q1, q2⟩ := quiet_det (Φ := fun r => Φ (E.put o.dst r)) hq hc
        refine ⟨v, q1, fun E2 h' n' K hs hsub hk => ?_⟩
        unfold stepA
        rw [hg]
        simp only
        rw [← hs.yield hg, hy]
        simp only
        rw [if_pos hyw, callA_quiet hq, ← opP_congr hs.ev]
        exact q2 h' n' _ hsub hk
      · rw [if_neg hyw] at hc
        refine ⟨_, hc, fun E2 h' n' K hs hsub hk => ?_⟩
        unfold stepA
        rw [hg]
        simp only
        rw [← hs.yield hg, hy]
        simp only
        rw [if_neg hyw]
        exact hk
theorem put_comm (E : Env) {x y : Option Tmp} (v u : AV) (hxy : ∀ d, x = some d → y ≠ some d) : (E.put x v).put y u = (E.put y u).put x v := by
  cases x with
  | none => rfl
  | some d =>
    cases y with
    | none => rfl
    | some e =>
      have hne : d ≠ e := fun he => hxy d rfl (he ▸ rfl)
      funext t
      simp only [Env.put]
      by_cases h1 : e = t
      · subst h1; simp [hne]
      · simp [h1]
def anyA (P : Program) (T : TE) (ops : Array Oper) (S : Array Bool → Heap → Prop) (K : Env → Heap → Nat → Prop) : Nat → Array Bool → Env → Heap → Nat → Prop
  | 0, listed, E, h, n => Region.ready .any ops listed = [] ∧ K E h n
  | fuel + 1, listed, E, h, n => (Region.ready .any ops listed = [] → K E h n) ∧
    ∀ i, i ∈ Region.ready .any ops listed → ∀ o, ops[i]? = some o → stepA P T ops.toList o E h n (fun E' h' n' => S (listed.setIfInBounds i true) h' ∧ anyA P T ops S K fuel (listed.setIfInBounds i true) E' h' n')
theorem anyA_sound (hT : TEOk P T) {ops : Array Oper} {S : Array Bool → Heap → Prop} {b : Base} {K : Env → Heap → Nat → Prop} {Q : Exit → Act → World → Prop} (hd : ∀ (i : Nat) o, ops[i]? = some o → dstIn N o = true) (hK : ∀ E' h' n' a' w', SR b N E' h' n' a' w' → K E' h' n' → Q .normal a' w') :
    ∀ (fuel : Nat) (listed : Array Bool) {E : Env} {h : Heap} {n : Nat} {a : Act} {w : World}, SR b N E h n a w → anyA P T ops S K fuel listed E h n → wpAny P .any ops Q fuel listed a w
  | 0, _, _, _, _, _, _, hs, hc => ⟨hc.1, hK _ _ _ _ _ hs hc.2⟩
  | fuel + 1, listed, E, h, n, a, w, hs, hc => ⟨fun hr => hK _ _ _ _ _ hs (hc.1 hr), fun i hi => by
      obtain ⟨_, o, ho, _⟩ := mem_ready.1 hi
      have hst := stepA_sound (next := wpAny P .any ops Q fuel (listed.setIfInBounds i true)) (Q := Q) hT (hd i o ho) hs (hc.2 i hi o ho) (fun E' h' n' a' w' q1 q2 => anyA_sound hT hd hK fuel _ q1 q2.2)
      unfold wpOp
      rw [ho]
      simp only
      split at hst
      · rename_i hw; rw [if_pos hw]; exact .inl hst
      · rename_i hw; rw [if_neg hw]; exact hst⟩
def Closed (ops : Array Oper) (listed : Array Bool) : Prop := ∀ (j : Nat) (o : Oper), ops[j]? = some o → listed.getD j true = true → ∀ e, e ∈ o.after → Region.binds .any e = true → listed.getD e.on false = true
def StandsBy (D : List Nat) (hS : Heap) (listed : Array Bool) (h : Heap) : Prop := (∀ j, j ∈ D → listed.getD j true = false) → hS.Sub h
theorem closed_set {ops : Array Oper} {listed : Array Bool} (hc : Closed ops listed) {i : Nat} (hi : i ∈ Region.ready .any ops listed) : Closed ops (listed.setIfInBounds i true) := fun j o hj hl e he hb => by
  obtain ⟨h0, oi, hoi, hall⟩ := mem_ready.1 hi
  by_cases hji : j = i
  · subst hji
    rw [hoi] at hj
    obtain rfl := Option.some.inj hj
    exact getD_set_true (hall e he hb)
  · rw [getD_set_ne true (Ne.symm hji)] at hl
    exact getD_set_true (hc j o hj hl e he hb)
theorem takeA {ops : Array Oper} {D : List Nat} {hS : Heap} {K : Env → Heap → Nat → Prop} {i : Nat} {oi : Oper} (hi : ops[i]? = some oi) (hiD : i ∉ D) {v : AV} {h1 : Heap}
    (hsub : ∀ listed h', Closed ops listed → listed.getD i true = false → StandsBy D hS listed h' → h1.Sub h') :
    ∀ (fuel : Nat) (listed : Array Bool) (E : Env) (h : Heap) (n : Nat), Closed ops listed →
      (∀ j oj, ops[j]? = some oj → j ≠ i → listed.getD j true = false → (∀ e, e ∈ oj.after → Region.binds .any e = true → e.on ≠ i) → oi.apart ops oj = true) →
      i ∈ Region.ready .any ops listed →
      (∀ (E2 : Env) (h' : Heap) (n' : Nat) (K : Env → Heap → Nat → Prop), Same ops oi E E2 → h1.Sub h' → K (E2.put oi.dst v) h' n' → stepA P T ops.toList oi E2 h' n' K) →
      StandsBy D hS listed h → anyA P T ops (StandsBy D hS) K fuel (listed.setIfInBounds i true) (E.put oi.dst v) h n → anyA P T ops (StandsBy D hS) K (fuel + 1) listed E h n := by
  have more : ∀ (listed : Array Bool) h', StandsBy D hS listed h' → StandsBy D hS (listed.setIfInBounds i true) h' := fun listed h' hs hD => hs fun j hj => by
    have := hD j hj
    have hne : i ≠ j := fun he => hiD (by rw [he]; exact hj)
    rwa [getD_set_ne true hne] at this
  intro fuel
  induction fuel with
  | zero =>
    intro listed E h n hcl _ hr hy hSb H
    refine ⟨fun h => (by rw [h] at hr; cases hr), fun j hj o ho => ?_⟩
    by_cases hji : j = i
    · subst hji
      rw [hi] at ho
      obtain rfl := Option.some.inj ho
      exact hy E h n _ (fun _ _ => rfl) (hsub listed h hcl (mem_ready.1 hr).1 hSb) ⟨more _ _ hSb, H⟩
    · have := ready_mono hj hji
      rw [H.1] at this
      cases this
  | succ fuel ih =>
    intro listed E h n hcl hfree hr hy hSb H
    refine ⟨fun h => (by rw [h] at hr; cases hr), fun j hj oj hoj => ?_⟩
    by_cases hji : j = i
    · subst hji
      rw [hi] at hoj
      obtain rfl := Option.some.inj hoj
      exact hy E h n _ (fun _ _ => rfl) (hsub listed h hcl (mem_ready.1 hr).1 hSb) ⟨more _ _ hSb, H⟩
    · have h2 := H.2 j (ready_mono hj hji) oj hoj
      obtain ⟨hjun, oj', hoj', hall⟩ := mem_ready.1 hj
      rw [hoj] at hoj'
      obtain rfl := Option.some.inj hoj'
      have hnot : ∀ e, e ∈ oj.after → Region.binds .any e = true → e.on ≠ i := fun e he hb heq => by
        have h1 := hall e he hb
        have h0 := (mem_ready.1 hr).1
        rw [heq] at h1
        rcases Nat.lt_or_ge i listed.size with h' | h'
        · simp [h'] at h0 h1; rw [h0] at h1; cases h1
        · simp [Array.getElem?_eq_none h'] at h1
      obtain ⟨a1, a2, a3⟩ := Oper.apart_spec (hfree j oj hoj hji hjun hnot)
      have same : Same ops oj (E.put oi.dst v) E := fun t ht => by
        cases hd : oi.dst with
        | none => rfl
        | some d =>
          have hne : d ≠ t := fun hq => a1 d hd (hq ▸ ht)
          simp [Env.put, hne]
      refine stepA_same same (fun r h' n' hk => ?_) h2
      obtain ⟨k1, k2⟩ := hk
      have hSj : StandsBy D hS (listed.setIfInBounds j true) h' := fun hD => k1 fun k hk => by
        have := hD k hk
        have hne : i ≠ k := fun he => hiD (by rw [he]; exact hk)
        by_cases hjk : j = k
        · subst hjk
          by_cases hs : j < listed.size
          · simp [hs] at this
          · simp [hs] at this
        · rw [getD_set_ne true hjk, getD_set_ne true hne]
          rwa [getD_set_ne true hjk] at this
      refine ⟨hSj, ?_⟩
      have keep : Same ops oi E (E.put oj.dst r) := fun t ht => by
        cases hd : oj.dst with
        | none => rfl
        | some d =>
          have hne : d ≠ t := fun hq => a3 d hd (hq ▸ ht)
          simp [Env.put, hne]
      refine ih (listed.setIfInBounds j true) (E.put oj.dst r) h' n' (closed_set hcl hj) (fun k ok hk hki hun hno => ?_) (ready_mono hr (Ne.symm hji)) (fun E2 h3 n3 K3 hs3 hsub3 hk3 => hy E2 h3 n3 K3 (fun t ht => (keep t ht).trans (hs3 t ht)) hsub3 hk3) hSj ?_
      · refine hfree k ok hk hki ?_ hno
        by_cases hjk : j = k
        · subst hjk; exact hjun
        · rw [getD_set_ne true hjk] at hun; exact hun
      · rw [put_comm _ _ _ (fun d hd => fun hq => a2 d hq hd)]
        rw [Array.setIfInBounds_comm _ _ hji]
        exact k2
end
end Go.Proofs.Ytcngfjmfgeckmaa
namespace Go.Proofs.Ytcngfjmfgeckmaa
open Go
section
variable {P : Program} {T : TE} {N : Nat} {h : Heap} {n : Nat}
def waitsFor (o : Oper) (i : Nat) : Bool := o.after.any fun e => Region.binds .any e && e.on == i
def planOk (ops : Array Oper) (D : List Nat) : List (Nat × Nat) → Array Bool → Bool
  | [], listed => (Region.ready .any ops listed).isEmpty
  | (i, k) :: rest, listed => (match ops[i]? with
    | none => false
    | some oi => if k = 2 then (Region.ready .any ops listed) == [i] else
        (Region.ready .any ops listed).contains i && quietOp oi.op && !D.contains i && (k == 0 || (k == 1 && D.all fun j => match ops[j]? with | none => false | some oj => waitsFor oj i)) &&
        (List.range ops.size).all fun j => j == i || listed.getD j true || (match ops[j]? with | none => true | some oj => waitsFor oj i || oi.apart ops oj)) &&
    planOk ops D rest (listed.setIfInBounds i true)
def planA (P : Program) (T : TE) (ops : Array Oper) (D : List Nat) (hS : Heap) (K : Env → Heap → Nat → Prop) : List (Nat × Nat) → Bool → Env → Heap → Nat → Prop
  | [], _, E, h, n => K E h n
  | (i, 0) :: rest, dirty, E, h, n => match ops[i]? with
    | some o => stepA P T ops.toList o E Heap.emp n (fun E' _ _ => planA P T ops D hS K rest dirty E' h n)
    | none => False
  | (i, 1) :: rest, dirty, E, h, n => match ops[i]? with
    | some o => stepA P T ops.toList o E hS n (fun E' _ _ => planA P T ops D hS K rest dirty E' h n)
    | none => False
  | (i, _) :: rest, dirty, E, h, n => match ops[i]? with
    | some o => if (dirty || D.contains i) = true then stepA P T ops.toList o E h n (fun E' h' n' => planA P T ops D hS K rest true E' h' n')
        else stepA P T ops.toList o E h n (fun E' h' n' => hS.Sub h' ∧ planA P T ops D hS K rest false E' h' n')
    | none => False
theorem planA_sound {ops : Array Oper} {D : List Nat} {hS : Heap} {K : Env → Heap → Nat → Prop} : ∀ (plan : List (Nat × Nat)) (listed : Array Bool) (dirty : Bool) (E : Env) (h : Heap) (n : Nat), planOk ops D plan listed = true → Closed ops listed → listed.size = ops.size →
    (dirty = true → ∃ j, j ∈ D ∧ listed.getD j true = true) → StandsBy D hS listed h → planA P T ops D hS K plan dirty E h n → anyA P T ops (StandsBy D hS) K plan.length listed E h n
  | [], listed, dirty, E, h, n, hp, hcl, hsz, hd, hS, hc => ⟨by simpa [planOk] using hp, hc⟩
  | (i, k) :: rest, listed, dirty, E, h, n, hp, hcl, hsz, hd, hSb, hc => by
    simp only [planOk, Bool.and_eq_true] at hp
    obtain ⟨hp1, hp2⟩ := hp
    cases hi : ops[i]? with
    | none => rw [hi] at hp1; cases hp1
    | some oi =>
      rw [hi] at hp1
      simp only at hp1
      have dirty' : dirty = true → ∃ j, j ∈ D ∧ (listed.setIfInBounds i true).getD j true = true := fun hq => by
        obtain ⟨j, hj, hl⟩ := hd hq
        refine ⟨j, hj, ?_⟩
        by_cases hij : i = j
        · subst hij
          by_cases hs : i < listed.size
          · simp [hs]
          · simp [hs]
        · rw [getD_set_ne true hij]; exact hl
      by_cases hk : k = 2
      · subst hk
        rw [if_pos rfl] at hp1
        have hr : Region.ready .any ops listed = [i] := by simpa using hp1
        have hir : i ∈ Region.ready .any ops listed := by rw [hr]; simp
        simp only [planA, hi] at hc
        refine ⟨fun h0 => (by rw [hr] at h0; cases h0), fun j hj o ho => ?_⟩
        rw [hr] at hj
        obtain rfl := List.mem_singleton.1 hj
        rw [hi] at ho
        obtain rfl := Option.some.inj ho
        have hjs : j < listed.size := by rw [hsz]; exact (Array.getElem?_eq_some_iff.1 hi).1
        split at hc
        · rename_i hdd
          have hdir : ∃ k, k ∈ D ∧ (listed.setIfInBounds j true).getD k true = true := by
            simp only [Bool.or_eq_true, List.contains_iff_mem] at hdd
            rcases hdd with hq | hq
            · exact dirty' hq
            · exact ⟨j, hq, by simp [hjs]⟩
          have hst : ∀ h', StandsBy D hS (listed.setIfInBounds j true) h' := fun h' hD => by
            obtain ⟨k, k1, k2⟩ := hdir
            rw [hD k k1] at k2; cases k2
          exact stepA_mono (fun r h' n' hk => ⟨hst h', planA_sound rest _ true _ h' n' hp2 (closed_set hcl hir) (by simpa using hsz) (fun _ => hdir) (hst h') hk⟩) hc
        · rename_i hdd
          have hdf : dirty = false := by cases dirty <;> simp_all
          exact stepA_mono (fun r h' n' hk => ⟨fun _ => hk.1, planA_sound rest _ false _ h' n' hp2 (closed_set hcl hir) (by simpa using hsz) (fun hq => by cases hq) (fun _ => hk.1) hk.2⟩) hc
      · rw [if_neg hk] at hp1
        simp only [Bool.and_eq_true, Bool.or_eq_true, List.all_eq_true, List.contains_iff_mem, Bool.not_eq_true', List.mem_range, beq_iff_eq] at hp1
        obtain ⟨⟨⟨⟨q1, q2⟩, q3⟩, q4⟩, q5⟩ := hp1
        have hiD : i ∉ D := by intro hq; simp [hq] at q3
        have wf : ∀ o j, waitsFor o j = true → ∃ e, e ∈ o.after ∧ Region.binds .any e = true ∧ e.on = j := fun o j hw => by
          unfold waitsFor at hw
          rw [Array.any_eq_true'] at hw
          obtain ⟨e, he, hb⟩ := hw
          simp only [Bool.and_eq_true, beq_iff_eq] at hb
          exact ⟨e, he, hb.1, hb.2⟩
        have hfree : ∀ j oj, ops[j]? = some oj → j ≠ i → listed.getD j true = false → (∀ e, e ∈ oj.after → Region.binds .any e = true → e.on ≠ i) → oi.apart ops oj = true := fun j oj hj hne hl hno => by
          have := q5 j (Array.getElem?_eq_some_iff.1 hj).1
          rw [hj] at this
          rcases this with (h1 | h1) | h1
          · exact absurd h1 hne
          · rw [hl] at h1; cases h1
          · simp only [Bool.or_eq_true] at h1
            rcases h1 with h1 | h1
            · obtain ⟨e, e1, e2, e3⟩ := wf _ _ h1
              exact absurd e3 (hno e e1 e2)
            · exact h1
        have more : StandsBy D hS (listed.setIfInBounds i true) h := fun hD => hSb fun j hj => by
          have := hD j hj
          have hne : i ≠ j := fun he => hiD (by rw [he]; exact hj)
          rwa [getD_set_ne true hne] at this
        have hk01 : ∃ h1 : Heap, (∀ listed h', Closed ops listed → listed.getD i true = false → StandsBy D hS listed h' → h1.Sub h') ∧ stepA P T ops.toList oi E h1 n (fun E' _ _ => planA P T ops D hS K rest dirty E' h n) := by
          match k, hk with
          | 0, _ => simp only [planA, hi] at hc; exact ⟨Heap.emp, fun _ h' _ _ _ => Heap.Sub.emp h', hc⟩
          | 1, _ =>
            simp only [planA, hi] at hc
            refine ⟨hS, fun listed' h' hcl' hl' hs => hs fun j hj => ?_, hc⟩
            rcases q4 with h0 | h0
            · cases h0
            · have := h0.2 j hj
              split at this
              · cases this
              · rename_i oj hoj
                obtain ⟨e, e1, e2, e3⟩ := wf _ _ this
                cases hlj : listed'.getD j true with
                | false => rfl
                | true =>
                  have h5 := hcl' j oj hoj hlj e e1 e2
                  rw [e3] at h5
                  rcases Nat.lt_or_ge i listed'.size with h' | h'
                  · simp [h'] at h5 hl'; rw [h5] at hl'; cases hl'
                  · simp [Array.getElem?_eq_none h'] at h5
          | k + 2, _ =>
            exfalso
            rcases q4 with h0 | h0
            · omega
            · have := h0.1
              omega
        obtain ⟨h1, hsub, hc1⟩ := hk01
        obtain ⟨v, v1, v2⟩ := stepA_quiet q2 hc1
        exact takeA hi hiD hsub rest.length listed E h n hcl hfree q1 v2 hSb (planA_sound rest _ dirty _ h n hp2 (closed_set hcl q1) (by simpa using hsz) dirty' more v1)
theorem WP.draw {Q : Exit → Env → Heap → Nat → Prop} {E : Env} (hT : TEOk P T) (hm : P.follows .mixedOrders = true) {id : Nat} {l : List Oper} (plan : List (Nat × Nat)) (D : List Nat) (hS : Heap) (hp : (plan.length == l.length && planOk l.toArray D plan (Array.replicate l.toArray.size false)) = true) (hd : l.all (dstIn N) = true)
    (hsub : hS.Sub h) (hc : (∀ id b, h id = some b → id < n) → planA P T l.toArray D hS (Q .normal) plan false E h n) : WP P N (.region id l.toArray true) Q E h n := fun b a w hs => by
  simp only [Bool.and_eq_true, beq_iff_eq] at hp
  obtain ⟨hp1, hp2⟩ := hp
  refine wp_region_any hm ?_
  have hlt : ∀ id b, h id = some b → id < n := fun id b hid => by
    obtain ⟨c, rfl, e0, hh, hf, _⟩ := hs
    obtain ⟨b', base, sz, arr, E, hB⟩ := hh.blk id b hid
    rcases Nat.lt_or_ge id n with h1 | h1
    · exact h1
    · have := hB.ι; rw [hf id h1] at this; cases this
  have hs' : SR b N E h n a { w with drawn := w.drawn + 1 } := by
    obtain ⟨c, rfl, e0, hh, hf, hn, hb, hdf, hN, ht⟩ := hs
    have hmv : ∀ {u v}, VR c u v → VR ⟨c.ι, c.Fz, { c.w with drawn := c.w.drawn + 1 }⟩ u v := fun k => by
      have e1 : Ext c h (fun _ => False) ⟨c.ι, c.Fz, { c.w with drawn := c.w.drawn + 1 }⟩ h :=
        ⟨rfl, rfl, rfl, Nat.le_refl _, fun _ _ h => h, fun _ _ h => .inl h, fun _ h => h, fun _ arr _ _ h => ⟨arr, h, rfl⟩, fun _ _ _ => rfl, fun id blk x hh hx => .inr ⟨id, blk, x, hh, hx, rfl⟩, fun _ h => .inl h⟩
      exact k.mono e1 hh
    have e1 : Ext c h (fun _ => False) ⟨c.ι, c.Fz, { c.w with drawn := c.w.drawn + 1 }⟩ h :=
      ⟨rfl, rfl, rfl, Nat.le_refl _, fun _ _ h => h, fun _ _ h => .inl h, fun _ h => h, fun _ arr _ _ h => ⟨arr, h, rfl⟩, fun _ _ _ => rfl, fun id blk x hh hx => .inr ⟨id, blk, x, hh, hx, rfl⟩, fun _ h => .inl h⟩
    refine ⟨⟨c.ι, c.Fz, { c.w with drawn := c.w.drawn + 1 }⟩, rfl, e0.trans e1 (fun i hi => hi) (fun i hi => hi.elim), ⟨fun id blk hb => ?_, hh.inj, hh.fzlt, hh.pin⟩, hf, hn, hb, hdf, hN, fun t => hmv (ht t)⟩
    obtain ⟨bb, base, sz, arr, E, hB⟩ := hh.blk id blk hb
    exact ⟨bb, base, sz, arr, E, hB.ι, hB.heap, hB.nfz, hB.size, hB.one, fun i e j u a1 a2 => by
      obtain ⟨v, q1, q2⟩ := hB.cell i e j u a1 a2
      exact ⟨v, q1, hmv q2⟩⟩
  have hany := planA_sound plan (Array.replicate l.toArray.size false) false E h n hp2 (fun j o hj hl => by
    have hlt : j < l.toArray.size := (Array.getElem?_eq_some_iff.1 hj).1
    simp at hlt
    simp [hlt] at hl) (by simp) (fun hq => by cases hq) (fun _ => hsub) (hc hlt)
  rw [hp1] at hany
  refine anyA_sound (N := N) (b := b) hT (fun i o ho => ?_) (fun E' h' n' a' w' q1 q2 => ⟨E', h', n', q1, q2⟩) _ _ hs' (by simpa using hany)
  exact List.all_eq_true.1 hd o (by simpa using Array.mem_of_getElem? ho)
end
end Go.Proofs.Ytcngfjmfgeckmaa
namespace Go.Proofs.Ytcngfjmfgeckmaa
open Go
def insS : Int → List Int → List Int
  | x, [] => [x]
  | x, y :: l => if x ≤ y then x :: y :: l else y :: insS x l
def sortI : List Int → List Int
  | [] => []
  | x :: l => insS x (sortI l)
def insF {α : Type} (f : α → α → Option Int) : α → List α → Option (List α)
  | x, [] => some [x]
  | x, y :: l => Option.bind (f x y) fun c => if c ≤ 0 then some (x :: y :: l) else Option.bind (insF f x l) fun l => some (y :: l)
def sortF {α : Type} (f : α → α → Option Int) : List α → Option (List α)
  | [] => some []
  | x :: l => Option.bind (sortF f l) fun l => insF f x l
def compactI {α : Type} [DecidableEq α] : List α → List α
  | [] => []
  | [x] => [x]
  | x :: y :: l => if x = y then compactI (y :: l) else x :: compactI (y :: l)
abbrev tupT : List PT → Type
  | [] => Unit
  | [t] => t.den
  | t :: u :: l => t.den × tupT (u :: l)
inductive DV where
  | mk (t : PT) (x : t.den)
def toD : (ts : List PT) → tupT ts → List DV
  | [], _ => []
  | [t], x => [⟨t, x⟩]
  | t :: u :: l, x => ⟨t, x.1⟩ :: toD (u :: l) x.2
def castD (t' t : PT) (x : t'.den) : Option t.den := match PT.eq? t' t with
  | some ⟨h⟩ => some (h ▸ x)
  | none => none
def ofD {α : Type} : (ts : List PT) → List DV → (tupT ts → Option α) → Option α
  | [], [], k => k ()
  | [t], [⟨t', x⟩], k => match castD t' t x with
    | some y => k y
    | none => none
  | t :: u :: l, ⟨t', x⟩ :: ds, k => match castD t' t x with
    | some y => ofD (u :: l) ds fun z => k (y, z)
    | none => none
  | _, _, _ => none
inductive PK where
  | val (t : PT)
  | ptr (t : PT)
def PK.t : PK → PT
  | .val t => t
  | .ptr t => t
structure Sg where
  ps : List PK
  rs : List (Bool × PT)
structure Con where
  sg : Sg
  fz : Bool
  m : tupT (sg.ps.map PK.t) → Option (tupT (sg.rs.map Prod.snd))
structure Fn0 where
  n : Nat
  code : Code
  rs : List ResultVar
inductive Ex where
  | normal
  | exit (id : Nat)
  | ret
inductive SK where
  | int (k : IntKind)
  | bool
  | str
  | nil
  | rd (t : PT)
  | vw (t : PT)
  | rcd (k : RK)
  | pr (t : PT)
  | row (q : Nat)
  | cpN (q off : Nat)
  | rowK (j : Nat)
  | ep (j off : Nat)
  | cp (j off : Nat)
  | lk
  | agg (l : List SK)
  | tup (l : List SK)
  | fn (f : FuncId) (l : List SK)
  | nilp
  | nilf
  | und
inductive RS where
  | cell (j : Nat) (l : List SK)
  | cellN (q : Nat) (l : List SK)
  | row (q : Nat) (own : Bool) (t : PT)
  | rowK (j : Nat) (keepw : Bool)
structure Shape where
  env : List (Nat × SK)
  roots : List RS
inductive RP where
  | tmp (t : Nat)
  | fld (p : RP) (off : Nat)
inductive RM where
  | ro
  | row
  | cell (offs : List Nat)
def RM.isRo : RM → Bool
  | .ro => true
  | _ => false
structure Scp where
  ds : List Nat
  rs : List (RM × RP)
  keep : Bool
  exits : List (Ex × Shape)
inductive Ann where
  | leaf
  | reg (order : List Nat)
  | draw (ws : List RP) (plan : List (Nat × Nat))
  | seq (a b : Ann)
  | cond (a b : Ann)
  | block (a : Ann)
  | join (s : Scp) (a : Ann)
  | loop (s : Scp) (hd : Shape) (a : Ann)
structure FnA extends Fn0 where
  ann : Ann
abbrev Callee := ∀ {α : Type}, Cx → FuncId → List SV → St → (SV → St → Option α) → Option α
section
variable {α : Type} (g : Pg) (cx : Cx) (st : St)
def allFr : List Src → Bool
  | [] => true
  | .fr :: l => allFr l
  | _ => false
def SV.isAgg : SV → Bool
  | .agg _ => true
  | _ => false
def ptrSrc : SV → List Src
  | .pr _ _ => []
  | _ => [.live]
def argK (p : PK) (v : SV) (k : List Src → p.t.den → Option α) : Option α := match p with
  | .val t => bif Bool.xor t.scal v.isAgg then plainK cx st v.cells fun q cs => match implode t cs with
    | some x => k q x
    | none => none
    else none
  | .ptr t => derefK cx st v fun cs off => dropK cs off fun cs => takeK cs t.w fun cs => plainK cx st cs fun q cs => match implode t cs with
    | some x => k (q ++ ptrSrc v) x
    | none => none
def argsK : (ps : List PK) → List SV → (List Src → tupT (ps.map PK.t) → Option α) → Option α
  | [], [], k => k [] ()
  | [p], [v], k => argK cx st p v k
  | p :: q :: ps, v :: vs, k => argK cx st p v fun b x => argsK (q :: ps) vs fun b' y => k (b ++ b') (x, y)
  | _, _, _ => none
def ptrsFr : List PK → List SV → Bool
  | .ptr _ :: ps, .pr _ _ :: vs => ptrsFr ps vs
  | .ptr _ :: _, _ => false
  | .val _ :: ps, _ :: vs => ptrsFr ps vs
  | _, _ => true
def resFlat : List (Bool × PT) → Bool
  | [] => true
  | (b, t) :: l => (b || t.flat) && resFlat l
def noLive : List Src → Bool
  | [] => true
  | .live :: _ => false
  | _ :: l => noLive l
def freezeK : List Src → Roots → (Roots → Option α) → Option α
  | [], ρ, k => k ρ
  | .own r :: l, ρ, k => match lkp ρ r with
    | some (.row v w s _ none t xs) => updK ρ r (.row v w s .fz none t xs) fun ρ => freezeK l ρ k
    | _ => none
  | _ :: l, ρ, k => freezeK l ρ k
def resOwn : List SV → Roots → Nat → (List SV → Roots → Nat → Option α) → Option α
  | [], ρ, n, k => k [] ρ n
  | .rd _ t xs :: l, ρ, n, k => resOwn l ((n, .row n n n .own none t xs) :: ρ) (n + 1) fun l ρ n' => k (.row n n :: l) ρ n'
  | v :: l, ρ, n, k => resOwn l ρ n fun l ρ n => k (v :: l) ρ n
def resRd (frame : Bool) (mc : Nat) : List SV → List SV
  | [] => []
  | .rd e t xs :: l => (match frame with | true => SV.rd e t xs | false => .vw e mc t xs) :: resRd frame mc l
  | v :: l => v :: resRd frame mc l
def oneS (t : PT) (cs : List SV) : SV := match t with
  | .rcd _ => .agg cs
  | _ => match cs with
    | [v] => v
    | _ => .undef
def resultK (frame : Bool) (mc : Nat) : (rs : List (Bool × PT)) → tupT (rs.map Prod.snd) → Roots → Nat → (List SV → Roots → Nat → Option α) → Option α
  | [], _, ρ, n, k => k [] ρ n
  | [(true, t)], x, ρ, n, k => resOwn (explode t x) ρ n fun cs ρ n => k [oneS t cs] ρ n
  | [(false, t)], x, ρ, n, k => k [oneS t (resRd frame mc (explode t x))] ρ n
  | (true, t) :: r :: rs, x, ρ, n, k => resOwn (explode t x.1) ρ n fun cs ρ n => resultK frame mc (r :: rs) x.2 ρ n fun l ρ n => k (oneS t cs :: l) ρ n
  | (false, t) :: r :: rs, x, ρ, n, k => resultK frame mc (r :: rs) x.2 ρ n fun l ρ n => k (oneS t (resRd frame mc (explode t x.1)) :: l) ρ n
def resOf : List SV → SV
  | [v] => v
  | l => .tup l
def callCon (c : Con) (args : List SV) (k : SV → St → Option α) : Option α :=
  argsK cx st c.sg.ps args fun q x => Option.bind (c.m x) fun y => match st with
    | ⟨env, ρ, nx, mc⟩ => bif allFr q || !(c.fz && noLive q) then (bif allFr q || ptrsFr c.sg.ps args || resFlat c.sg.rs then resultK (allFr q) mc c.sg.rs y ρ nx fun vs ρ nx => k (resOf vs) ⟨env, ρ, nx, mc⟩ else none)
      else freezeK q ρ fun ρ => resultK true mc c.sg.rs y ρ nx fun vs ρ nx => k (resOf vs) ⟨env, ρ, nx, mc⟩
def srcK (flat : Bool) (v : SV) (t : PT) (ρ : Roots) (k : Bool → List t.den → Roots → Option α) : Option α := match v with
  | .nil => k true [] ρ
  | .row q w => match lkp ρ q, flat with
    | some (.row w' _ _ .fz none t' xs), false => bif w.beq w' then (match castL t' t xs with
      | some xs => k false xs ρ
      | none => none) else none
    | some (.row w' _ _ md none t' xs), false => bif w.beq w' then (match castL t' t xs with
      | some xs => delK ρ q fun ρ => k md.isOwn xs ρ
      | none => none) else none
    | _, true => asL cx st v fun _ t' xs => match castL t' t xs with
      | some xs => k true xs ρ
      | none => none
    | _, false => none
  | v => asL cx st v fun c t' xs => match castL t' t xs with
    | some xs => (match flat with
      | true => k true xs ρ
      | false => match c with
        | .fr => k false xs ρ
        | _ => none)
    | none => none
def appendS (e : TypeId) (x y : SV) (k : SV → St → Option α) : Option α := match st with
  | ⟨env, ρ, nx, mc⟩ => match x with
    | .nil => match g.tp e with
      | some t => bif Nat.beq (g.T e).sz t.w then srcK cx st t.flat y t ρ fun own ys ρ => Option.bind (appI (g.T e).bytes [] ys) fun zs => k (.row nx nx) ⟨env, (nx, .row nx nx nx (Md.of own) none t zs) :: ρ, nx + 1, mc⟩ else none
      | none => none
    | .rd true t xs => bif Nat.beq (g.T e).sz t.w && t.flat then srcK cx st t.flat y t ρ fun _ ys ρ => Option.bind (appI (g.T e).bytes xs ys) fun zs => if ys.isEmpty = true then none else k (.row nx nx) ⟨env, (nx, .row nx nx nx .own none t zs) :: ρ, nx + 1, mc⟩ else none
    | .row r v => match lkp ρ r with
      | some (.row v' w _ md none t xs) => bif Nat.beq (g.T e).sz t.w && v.beq v' && !md.isFz then srcK cx st t.flat y t ρ fun own' ys ρ => Option.bind (appI (g.T e).bytes xs ys) fun zs => updK ρ r (.row nx nx nx (Md.of (md.isOwn && own')) none t zs) fun ρ => k (.row r nx) ⟨env, ρ, nx + 1, nx⟩ else none
      | _ => none
    | .sub r v s i j false t ys => match lkp ρ r with
      | some (.row v' w s' md none _ _) => bif Nat.beq (g.T e).sz t.w && v.beq v' && s.beq s' && !md.isFz then srcK cx st t.flat y t ρ fun own' zs ρ => Option.bind (appI (g.T e).bytes ys zs) fun zs => updK ρ r (.row nx nx nx (Md.of (md.isOwn && own')) none t zs) fun ρ => k (.row r nx) ⟨env, ρ, nx + 1, nx⟩ else none
      | _ => none
    | .nst r v w u s i off t ys => match lkp ρ r with
      | some (.row v' w' s' .own none t' xs) => bif Nat.beq (g.T e).sz t.w && v.beq v' && w.beq w' && s.beq s' then srcK cx st t.flat y t ρ fun own' zs ρ => Option.bind (appI (g.T e).bytes ys zs) fun zs => bif own' then updK ρ r (.row v nx nx .own (some (u, off)) t' xs) fun ρ => k (.row nx (nx + 1)) ⟨env, (nx, .row (nx + 1) (nx + 1) (nx + 1) .own none t zs) :: ρ, nx + 2, nx + 1⟩ else none else none
      | _ => none
    | _ => none
def appendZ (e : TypeId) (x n : SV) (k : SV → St → Option α) : Option α := match x, n, st with
  | .row r v, .int _ n, ⟨env, ρ, nx, _⟩ => match lkp ρ r with
    | some (.row v' w _ md none t xs) => bif Nat.beq (g.T e).sz t.w && v.beq v' && !md.isFz && (!t.scal || (g.T e).zero.one) then (match implode t (svsOf (g.T e).zero.cells) with
      | some z => Option.bind (appZ (g.T e).bytes xs n z) fun zs => updK ρ r (.row nx nx nx md none t zs) fun ρ => k (.row r nx) ⟨env, ρ, nx + 1, nx⟩
      | none => none) else none
    | _ => none
  | _, _, _ => none
def copyS (sz : Nat) (x y : SV) (k : SV → St → Option α) : Option α := match x with
  | .row r v => match lkp st.roots r with
    | some (.row v' w _ md none t xs) => bif v.beq v' && t.flat && !md.isFz && Nat.beq sz t.w then (srcK cx st true y t st.roots fun _ ys _ => match st with
      | ⟨env, ρ, nx, _⟩ => updK ρ r (.row v w nx md none t (cpyI xs 0 xs.length ys)) fun ρ => k (.int .i64 (min (ys.length : Int) xs.length)) ⟨env, ρ, nx + 1, nx⟩) else none
    | _ => none
  | .sub r v s i j _ t _ => match lkp st.roots r with
    | some (.row v' w _ md none t' xs) => bif v.beq v' && t'.flat && !md.isFz && Nat.beq sz t'.w then (srcK cx st true y t' st.roots fun _ ys _ => match st with
      | ⟨env, ρ, nx, _⟩ => updK ρ r (.row v w nx md none t' (cpyI xs i j ys)) fun ρ => k (.int .i64 (min (ys.length : Int) (j - i))) ⟨env, ρ, nx + 1, nx⟩) else none
    | _ => none
  | .nsub r v w u s i off a b t _ => match lkp st.roots r with
    | some (.row v' w' s' .own none t' xs) => bif v.beq v' && w.beq w' && s.beq s' then (Option.bind (atI xs i) fun x => match nthS (explode t' x) off with
      | some (.rd _ t2 zs) => bif !(Nat.beq sz t2.w && t2.flat) then none else srcK cx st true y t2 st.roots fun _ ys _ => match st with
        | ⟨env, ρ, nx, _⟩ => splK (explode t' x) off [.rd false t2 (cpyI zs a b ys)] fun cs => match implode t' cs with
          | some x' => updK ρ r (.row v w nx .own none t' (setI xs i x')) fun ρ => k (.int .i64 (min (ys.length : Int) (b - a))) ⟨env, ρ, nx + 1, nx⟩
          | none => none
      | _ => none) else none
    | _ => none
  | .nst r v w u s i off t _ => match lkp st.roots r with
    | some (.row v' w' _ .own none t' xs) => bif v.beq v' && w.beq w' then (Option.bind (atI xs i) fun x => match nthS (explode t' x) off with
      | some (.rd _ t2 zs) => bif !(Nat.beq sz t2.w && t2.flat) then none else srcK cx st true y t2 st.roots fun _ ys _ => match st with
        | ⟨env, ρ, nx, _⟩ => splK (explode t' x) off [.rd false t2 (cpyI zs 0 zs.length ys)] fun cs => match implode t' cs with
          | some x' => updK ρ r (.row v w nx .own none t' (setI xs i x')) fun ρ => k (.int .i64 (min (ys.length : Int) zs.length)) ⟨env, ρ, nx + 1, nx⟩
          | none => none
      | _ => none) else none
    | _ => none
  | _ => none
def builtinS (b : Builtin) (ts : List TypeId) (xs : List SV) (k : SV → St → Option α) : Option α := match b, ts, xs with
  | .len, [t], [x] => match (g.T t).ty, x with
    | .str, .str s => k (.int .i64 s.size) st
    | .slice _, .nil => k (.int .i64 0) st
    | .slice e, v => asL cx st v fun _ t' xs => bif Nat.beq (g.T e).sz t'.w then k (.int .i64 xs.length) st else none
    | _, _ => none
  | .min, _, [.int i a, .int j b] => bif Nat.beq (kindNum i) (kindNum j) then k (.int i (if b < a then b else a)) st else none
  | .max, _, [.int i a, .int j b] => bif Nat.beq (kindNum i) (kindNum j) then k (.int i (if a < b then b else a)) st else none
  | .append, [t, u], [x, y] => match (g.T t).ty with
    | .slice e => (match (g.T u).ty with
      | .int _ => appendZ g st e x y k
      | _ => bif Nat.beq t u then appendS g cx st e x y k else none)
    | _ => none
  | .copy, [t, _], [x, y] => match (g.T t).ty with
    | .slice e => copyS cx st (g.T e).sz x y k
    | _ => none
  | _, _, _ => none
def operS (call : Callee) (o : Oper) (k : SV → St → Option α) : Option α := match o.op with
  | .call c => match c.callee with
    | .value f => match evS cx st f with
      | .fn f cap => call cx f (c.args.toList.map (evS cx st) ++ cap) st k
      | _ => none
    | .builtin b => builtinS g cx st b c.argTypes.toList (c.args.toList.map (evS cx st)) k
    | _ => none
  | op => opS g cx st op k
end
def regS {α : Type} (g : Pg) (call : Callee) (cx : Cx) (ops : Array Oper) : List Nat → St → (St → Option α) → Option α
  | [], st, k => k st
  | i :: l, st, k => match ops[i]? with
    | none => none
    | some o => match o.guard with
      | none => operS g cx st call o fun v st => putS cx st o.dst v fun st => regS g call cx ops l st k
      | some (j, want) => match (ops[j]?).bind (·.dst) with
        | none => none
        | some d => match getT cx st d with
          | .bool b => if b = true then
              putS cx st (some d) (.bool true) fun st => (match want with
                | true => operS g cx st call o fun v st => putS cx st o.dst v fun st => regS g call cx ops l st k
                | false => putS cx st o.dst (.tup []) fun st => regS g call cx ops l st k)
            else putS cx st (some d) (.bool false) fun st => (match want with
                | false => operS g cx st call o fun v st => putS cx st o.dst v fun st => regS g call cx ops l st k
                | true => putS cx st o.dst (.tup []) fun st => regS g call cx ops l st k)
          | .tup _ => putS cx st o.dst (.tup []) fun st => regS g call cx ops l st k
          | _ => none
def hasN : List Nat → Nat → Bool
  | [], _ => false
  | a :: l, x => bif a.beq x then true else hasN l x
def svRoot : SV → Option Nat
  | .cp c _ => some c
  | .row r _ => some r
  | .sub r _ _ _ _ _ _ _ => some r
  | .ep r _ _ _ _ _ _ => some r
  | .en r _ _ _ _ _ _ _ _ _ => some r
  | .nst r _ _ _ _ _ _ _ _ => some r
  | _ => none
def RP.res (cx : Cx) (st : St) : RP → Option SV
  | .tmp t => some (getT cx st t)
  | .fld p off => match RP.res cx st p with
    | some (.agg cs) => nthS cs off
    | some (.cp c _) => match rootOf cx st c with
      | some (.cell cs) => nthS cs off
      | _ => none
    | _ => none
structure Idn where
  r : Nat
  v : Nat
  w : Nat
  m : RM
  md : Md
  t : PT
abbrev Ids := List Idn
def resK {α : Type} (cx : Cx) (st : St) : List (RM × RP) → (Ids → Option α) → Option α
  | [], k => k []
  | (m, p) :: l, k => match RP.res cx st p with
    | some sv => match svRoot sv with
      | some r => match rootOf cx st r, m with
        | some (.row _ _ _ _ _ _ _), .cell _ => none
        | some (.row v w _ md _ t _), m => resK cx st l fun ids => k (⟨r, v, w, m, md, t⟩ :: ids)
        | some (.cell _), .row => none
        | some (.cell _), m => resK cx st l fun ids => k (⟨r, 0, 0, m, .flat, .bool⟩ :: ids)
        | none, _ => none
      | none => none
    | none => none
def nthI : Ids → Nat → Option Idn
  | [], _ => none
  | a :: _, 0 => some a
  | _ :: l, n + 1 => nthI l n
mutual
def SK.ty : SK → List PT
  | .int k => [.int k]
  | .bool => [.bool]
  | .str => [.str]
  | .rd t => [.list t]
  | .vw t => [.list t]
  | .rcd k => [.rcd k]
  | .pr t => [t]
  | .ep _ _ => [.int .i64]
  | .agg l => SK.tys l
  | .tup l => SK.tys l
  | .fn _ l => SK.tys l
  | _ => []
def SK.tys : List SK → List PT
  | [] => []
  | a :: l => a.ty ++ SK.tys l
end
def RS.ty (ids : Ids) : RS → List PT
  | .cell _ l => SK.tys l
  | .cellN _ l => SK.tys l
  | .row _ _ t => [.list t]
  | .rowK j _ => match nthI ids j with
    | some i => [.list i.t]
    | none => []
def Shape.tyE : List (Nat × SK) → List PT
  | [] => []
  | (_, s) :: l => s.ty ++ Shape.tyE l
def Shape.tyR (ids : Ids) : List RS → List PT
  | [] => []
  | s :: l => s.ty ids ++ Shape.tyR ids l
def Shape.ty (ids : Ids) (Γ : Shape) : List PT := Shape.tyE Γ.env ++ Shape.tyR ids Γ.roots
def lockC (offs : List Nat) : Nat → List SV → List SV
  | _, [] => []
  | o, v :: l => (bif hasN offs o then v else .lk) :: lockC offs (o + 1) l
def modeOf : Ids → Nat → RM
  | [], _ => .ro
  | i :: l, r => bif i.r.beq r then (match i.m with | .ro => modeOf l r | m => m) else modeOf l r
def looseR (ids : Ids) : Roots → Roots
  | [] => []
  | (r, ρ) :: l => match modeOf ids r, ρ with
    | .row, ρ => (r, ρ) :: looseR ids l
    | .cell offs, .cell cs => (r, .cell (lockC offs 0 cs)) :: looseR ids l
    | _, _ => looseR ids l
def fixedR (ids : Ids) (r0 : Roots) : Roots → Roots
  | [] => []
  | (r, ρ) :: l => match modeOf ids r, ρ with
    | .row, _ => fixedR ids r0 l
    | _, .cell cs => (match lkp r0 r with
      | some (.cell cs0) => (r, .cell (ovl cs cs0)) :: fixedR ids r0 l
      | _ => (r, .cell cs) :: fixedR ids r0 l)
    | _, ρ => (r, ρ) :: fixedR ids r0 l
def restR (ids : Ids) : Roots → Roots
  | [] => []
  | (r, ρ) :: l => match modeOf ids r with
    | .ro => (r, ρ) :: restR ids l
    | _ => restR ids l
structure NmR where
  r : Option Nat
  pc : Bool
  own : Bool
  d : DV
structure Nm where
  rows : List (Nat × NmR)
  cells : List (Nat × Nat)
  fz : List Src
def ownLe (want have_ : Bool) : Bool := match want with
  | true => have_
  | false => true
def mdLe : Md → Md → Bool
  | .own, .own => true
  | .flat, .own => true
  | .flat, .flat => true
  | .fz, .fz => true
  | _, _ => false
section
variable {α : Type} (ids : Ids) (cx : Cx) (st : St)
mutual
def SK.pack : SK → SV → Nm → (List DV → Nm → Option α) → Option α
  | .int k, .int k' x, nm, K => bif Nat.beq (kindNum k) (kindNum k') then K [⟨.int k, x⟩] nm else none
  | .bool, .bool x, nm, K => K [⟨.bool, x⟩] nm
  | .str, .str x, nm, K => K [⟨.str, x⟩] nm
  | .nil, .nil, nm, K => K [] nm
  | .rd t, .nil, nm, K => K [⟨.list t, []⟩] nm
  | .rd t, v, nm, K => asL cx st v fun c t' xs => match castL t' t xs, nm with
    | some xs, ⟨n, cl, z⟩ => K [⟨.list t, xs⟩] ⟨n, cl, c :: z⟩
    | none, _ => none
  | .vw t, .nil, nm, K => K [⟨.list t, []⟩] nm
  | .vw t, v, nm, K => asL cx st v fun _ t' xs => match castL t' t xs with
    | some xs => K [⟨.list t, xs⟩] nm
    | none => none
  | .rcd k, .agg cs, nm, K => plainK cx st cs fun c cs => match implodeR k cs, nm with
    | some x, ⟨n, cl, z⟩ => K [⟨.rcd k, x⟩] ⟨n, cl, c ++ z⟩
    | none, _ => none
  | .pr t, .pr cs 0, nm, K => match implode t cs with
    | some x => K [⟨t, x⟩] nm
    | none => none
  | .row q, .row r v, nm, K => match nm with
    | ⟨n, cl, z⟩ => match lkp st.roots r with
      | some (.row v' _ _ md none t xs) => bif v.beq v' && !md.isFz then (match lkp n q with
        | some ⟨some r', false, _, _⟩ => bif r.beq r' then K [] ⟨n, cl, z⟩ else none
        | some _ => none
        | none => K [] ⟨(q, ⟨some r, false, md.isOwn, ⟨.list t, xs⟩⟩) :: n, cl, z⟩) else none
      | _ => none
  | .row q, .sub r v s _ _ _ t ys, nm, K => match nm with
    | ⟨n, cl, z⟩ => match lkp st.roots r with
      | some (.row v' _ s' md none _ _) => bif v.beq v' && s.beq s' && !md.isFz then (match lkp n q with
        | some _ => none
        | none => K [] ⟨(q, ⟨some r, true, md.isOwn, ⟨.list t, ys⟩⟩) :: n, cl, z⟩) else none
      | _ => none
  | .row q, .nil, nm, K => match nm with
    | ⟨n, cl, z⟩ => match lkp n q with
      | some ⟨none, _, _, _⟩ => K [] ⟨n, cl, z⟩
      | some _ => none
      | none => K [] ⟨(q, ⟨none, false, true, ⟨.bool, false⟩⟩) :: n, cl, z⟩
  | .cpN q off, .cp c off', nm, K => bif off.beq off' then (match nm with
    | ⟨n, cl, z⟩ => match lkp cl q with
      | some c' => bif c.beq c' then K [] ⟨n, cl, z⟩ else none
      | none => K [] ⟨n, (q, c) :: cl, z⟩) else none
  | .rowK j, .row r' v', nm, K => match nthI ids j with
    | some i => bif i.r.beq r' && i.v.beq v' then K [] nm else none
    | none => none
  | .ep j off, .ep r' v' _ _ i off' _, nm, K => match nthI ids j with
    | some d => bif d.r.beq r' && d.v.beq v' && off.beq off' then K [⟨.int .i64, i⟩] nm else none
    | none => none
  | .cp j off, .cp c' off', nm, K => match nthI ids j with
    | some i => bif i.r.beq c' && off.beq off' then K [] nm else none
    | none => none
  | .lk, .lk, nm, K => K [] nm
  | .agg l, .agg cs, nm, K => SK.packs l cs nm K
  | .tup l, .tup cs, nm, K => SK.packs l cs nm K
  | .fn f l, .fn f' cs, nm, K => bif Nat.beq f f' then SK.packs l cs nm K else none
  | .nilp, .nilp, nm, K => K [] nm
  | .nilf, .nilf, nm, K => K [] nm
  | .und, _, nm, K => K [] nm
  | _, _, _, _ => none
def SK.packs : List SK → List SV → Nm → (List DV → Nm → Option α) → Option α
  | [], [], nm, K => K [] nm
  | s :: l, v :: vs, nm, K => SK.pack s v nm fun ds nm => SK.packs l vs nm fun es nm => K (ds ++ es) nm
  | _, _, _, _ => none
end
def packE : List (Nat × SK) → Nm → (List DV → Nm → Option α) → Option α
  | [], nm, K => K [] nm
  | (t, s) :: l, nm, K => SK.pack ids cx st s (getT cx st t) nm fun ds nm => packE l nm fun es nm => K (ds ++ es) nm
def noLk : List SK → Bool
  | [] => true
  | .lk :: _ => false
  | _ :: l => noLk l
def packR : List RS → Nm → (List DV → Nm → Option α) → Option α
  | [], nm, K => K [] nm
  | .cell j l :: r, nm, K => match nthI ids j with
    | some i => match lkp st.roots i.r with
      | some (.cell cs) => bif (modeOf ids i.r).isRo then none else SK.packs ids cx st l cs nm fun ds nm => packR r nm fun es nm => K (ds ++ es) nm
      | _ => none
    | none => none
  | .cellN q l :: r, nm, K => match lkp nm.cells q with
    | some c => match lkp st.roots c with
      | some (.cell cs) => bif !noLk l then none else SK.packs ids cx st l cs nm fun ds nm => packR r nm fun es nm => K (ds ++ es) nm
      | _ => none
    | none => none
  | .row q own t :: r, nm, K => match lkp nm.rows q with
    | none => none
    | some ⟨none, _, _, _⟩ => packR r nm fun es nm => K (⟨.list t, []⟩ :: es) nm
    | some ⟨some _, _, own', ⟨.list t', xs⟩⟩ => match castL t' t xs with
      | some xs => bif ownLe own own' then packR r nm fun es nm => K (⟨.list t, xs⟩ :: es) nm else none
      | none => none
    | _ => none
  | .rowK j kw :: r, nm, K => match nthI ids j with
    | some i => match lkp st.roots i.r with
      | some (.row v' w' _ md' none t' xs) => match castL t' i.t xs with
        | some xs => bif i.v.beq v' && mdLe i.md md' && ownLe kw (i.w.beq w') && !(modeOf ids i.r).isRo then packR r nm fun es nm => K (⟨.list i.t, xs⟩ :: es) nm else none
        | none => none
      | _ => none
    | none => none
def nodupN : List Nat → Bool
  | [] => true
  | a :: l => bif hasN l a then false else nodupN l
def fzOk (ρ : Roots) (rs : List Nat) : List Src → Bool
  | [] => true
  | .fr :: l => fzOk ρ rs l
  | .live :: _ => false
  | .own r :: l => match lkp ρ r with
    | some _ => bif hasN rs r then false else fzOk ρ rs l
    | none => false
def keepIds : List RS → List Nat
  | [] => []
  | .rowK j _ :: l => (match nthI ids j with | some i => i.r | none => 0) :: keepIds l
  | .cell j _ :: l => (match nthI ids j with | some i => i.r | none => 0) :: keepIds l
  | _ :: l => keepIds l
def nmIds : List (Nat × NmR) → List Nat
  | [] => []
  | (_, ⟨some r, _, _, _⟩) :: l => r :: nmIds l
  | _ :: l => nmIds l
def nmCs : List (Nat × Nat) → List Nat
  | [] => []
  | (_, c) :: l => c :: nmCs l
def rsNames : List RS → List Nat
  | [] => []
  | .row q _ _ :: l => q :: rsNames l
  | .cellN q _ :: l => q :: rsNames l
  | _ :: l => rsNames l
def Shape.pack (Γ : Shape) (K : List DV → Option α) : Option α :=
  packE ids cx st Γ.env ⟨[], [], []⟩ fun ds nm => packR ids cx st Γ.roots nm fun es nm =>
    bif nodupN (keepIds ids Γ.roots ++ nmIds nm.rows ++ nmCs nm.cells) && fzOk st.roots (keepIds ids Γ.roots ++ nmIds nm.rows ++ nmCs nm.cells) nm.fz && nodupN (rsNames Γ.roots) then K (ds ++ es) else none
end
section
variable {α : Type} (ids : Ids)
mutual
def SK.unpack (nx mc : Nat) : SK → List DV → (SV → List DV → Option α) → Option α
  | .int _, ⟨.int k, x⟩ :: ds, K => K (.int k x) ds
  | .bool, ⟨.bool, x⟩ :: ds, K => K (.bool x) ds
  | .str, ⟨.str, x⟩ :: ds, K => K (.str x) ds
  | .nil, ds, K => K .nil ds
  | .rd _, ⟨.list t, x⟩ :: ds, K => K (.rd false t x) ds
  | .vw _, ⟨.list t, x⟩ :: ds, K => K (.vw false mc t x) ds
  | .rcd _, ⟨.rcd k, x⟩ :: ds, K => K (.agg (explodeR k x)) ds
  | .pr _, ⟨t, x⟩ :: ds, K => K (.pr (explode t x) 0) ds
  | .row q, ds, K => K (.row (nx + 1 + q) (nx + 1 + q)) ds
  | .cpN q off, ds, K => K (.cp (nx + 1 + q) off) ds
  | .rowK j, ds, K => match nthI ids j with
    | some i => K (.row i.r i.v) ds
    | none => none
  | .ep j off, ⟨.int _, i⟩ :: ds, K => match nthI ids j with
    | some d => K (.ep d.r d.v (nx + 1 + ds.length) nx i off []) ds
    | none => none
  | .cp j off, ds, K => match nthI ids j with
    | some i => K (.cp i.r off) ds
    | none => none
  | .lk, ds, K => K .lk ds
  | .agg l, ds, K => SK.unpacks nx mc l ds fun cs ds => K (.agg cs) ds
  | .tup l, ds, K => SK.unpacks nx mc l ds fun cs ds => K (.tup cs) ds
  | .fn f l, ds, K => SK.unpacks nx mc l ds fun cs ds => K (.fn f cs) ds
  | .nilp, ds, K => K .nilp ds
  | .nilf, ds, K => K .nilf ds
  | .und, ds, K => K .undef ds
  | _, _, _ => none
def SK.unpacks (nx mc : Nat) : List SK → List DV → (List SV → List DV → Option α) → Option α
  | [], ds, K => K [] ds
  | s :: l, ds, K => SK.unpack nx mc s ds fun v ds => SK.unpacks nx mc l ds fun vs ds => K (v :: vs) ds
end
def unpackE (nx mc : Nat) : List (Nat × SK) → SEnv → List DV → (SEnv → List DV → Option α) → Option α
  | [], env, ds, K => K env ds
  | (t, s) :: l, env, ds, K => SK.unpack ids nx mc s ds fun v ds => unpackE nx mc l env ds fun env ds => K ((t, v) :: env) ds
def rawC : List SV → List SV → List SV
  | .lk :: l, v :: r => v :: rawC l r
  | a :: l, _ :: r => a :: rawC l r
  | l, _ => l
def rawOf : Option Roots → Nat → List SV
  | none, _ => []
  | some ρ, r => match lkp ρ r with
    | some (.cell cs) => cs
    | _ => []
mutual
def SK.sm : SK → Nat
  | .row q => q + 1
  | .cpN q _ => q + 1
  | .agg l => SK.sms l
  | .tup l => SK.sms l
  | .fn _ l => SK.sms l
  | _ => 0
def SK.sms : List SK → Nat
  | [] => 0
  | a :: l => a.sm + SK.sms l
end
def smE : List (Nat × SK) → Nat
  | [] => 0
  | (_, s) :: l => s.sm + smE l
def smR : List RS → Nat
  | [] => 0
  | .cell _ l :: r => SK.sms l + smR r
  | .cellN q l :: r => q + 1 + SK.sms l + smR r
  | .row q _ _ :: r => q + 1 + smR r
  | .rowK _ _ :: r => smR r
def unpackR (nx mc : Nat) (raw : Option Roots) : List RS → Roots → List DV → (Roots → Option α) → Option α
  | [], ρ, [], K => K ρ
  | .cell j l :: r, ρ, ds, K => match nthI ids j with
    | some i => SK.unpacks ids nx mc l ds fun cs ds => unpackR nx mc raw r ρ ds fun ρ => K ((i.r, .cell (rawC cs (rawOf raw i.r))) :: ρ)
    | none => none
  | .cellN q l :: r, ρ, ds, K => SK.unpacks ids nx mc l ds fun cs ds => unpackR nx mc raw r ρ ds fun ρ => K ((nx + 1 + q, .cell cs) :: ρ)
  | .row q own _ :: r, ρ, ⟨.list t, xs⟩ :: ds, K => unpackR nx mc raw r ρ ds fun ρ => K ((nx + 1 + q, .row (nx + 1 + q) (nx + 1 + q) (nx + 1 + q) (Md.of own) none t xs) :: ρ)
  | .rowK j kw :: r, ρ, ⟨.list t, xs⟩ :: ds, K => match nthI ids j with
    | some i => unpackR nx mc raw r ρ ds fun ρ => K ((i.r, .row i.v (match kw with | true => i.w | false => nx + 1) (nx + 1) i.md none t xs) :: ρ)
    | none => none
  | _, _, _, _ => none
def Shape.unpack (Γ : Shape) (env : SEnv) (ρ : Roots) (raw : Option Roots) (nx mc : Nat) (ds : List DV) (K : St → Option α) : Option α :=
  unpackE ids nx mc Γ.env env ds fun env ds' => unpackR ids nx mc raw Γ.roots ρ ds' fun ρ => K ⟨env, ρ, nx + 2 + ds.length + (smE Γ.env + smR Γ.roots), mc⟩
abbrev sumT (ids : Ids) : List (Ex × Shape) → Type
  | [] => Empty
  | [e] => tupT (e.2.ty ids)
  | e :: f :: l => tupT (e.2.ty ids) ⊕ sumT ids (f :: l)
def Ex.is : Ex → Ex → Bool
  | .normal, .normal => true
  | .exit i, .exit j => i.beq j
  | .ret, .ret => true
  | _, _ => false
def inj {β : Type} (cx : Cx) (e : Ex) (st : St) : (l : List (Ex × Shape)) → (sumT ids l → Option β) → Option β
  | [], _ => none
  | [x], K => bif e.is x.1 then Shape.pack ids cx st x.2 fun ds => ofD (x.2.ty ids) ds K else none
  | x :: y :: l, K => bif e.is x.1 then Shape.pack ids cx st x.2 fun ds => ofD (x.2.ty ids) ds fun s => K (Sum.inl s) else inj cx e st (y :: l) fun s => K (Sum.inr s)
def outj (K : Ex → Shape → List DV → Option α) : (l : List (Ex × Shape)) → sumT ids l → Option α
  | [], s => nomatch s
  | [x], s => K x.1 x.2 (toD (x.2.ty ids) s)
  | x :: y :: l, s => Sum.elim (fun a => K x.1 x.2 (toD (x.2.ty ids) a)) (fun b => outj K (y :: l) b) s
def inDs (ds : List Nat) : SEnv → SEnv
  | [] => []
  | (t, v) :: l => bif hasN ds t then (t, v) :: inDs ds l else inDs ds l
def outDs (ds : List Nat) : SEnv → SEnv
  | [] => []
  | (t, v) :: l => bif hasN ds t then outDs ds l else (t, v) :: outDs ds l
def iterO {σ ρ : Type} (step : σ → Option (σ ⊕ ρ)) : Nat → σ → Option ρ
  | 0, _ => none
  | n + 1, s => Option.bind (step s) fun r => Sum.elim (fun s => iterO step n s) some r
def mcOf (keep : Bool) (mc nx : Nat) : Nat := match keep with
  | true => mc
  | false => nx
def keepOk : Bool → Nat → Nat → Bool
  | true, mc, mc' => mc.beq mc'
  | false, _, _ => true
def keysOk (ids : Ids) (ρ : Roots) (nx : Nat) : Roots → Bool
  | [] => true
  | (r, _) :: l => (match lkp ρ r with
    | some _ => !(modeOf ids r).isRo
    | none => Nat.ble nx r) && keysOk ids ρ nx l
def envFree (env0 : SEnv) : List (Nat × SK) → Bool
  | [] => true
  | (t, _) :: l => (match lkp env0 t with
    | some _ => false
    | none => true) && envFree env0 l
def heldOk (ids : Ids) (roots0 : Roots) (keep : List Nat) : Roots → Bool
  | [] => true
  | (r, _) :: l => (match lkp roots0 r with
    | some _ => (modeOf ids r).isRo || hasN keep r
    | none => true) && heldOk ids roots0 keep l
mutual
def SV.lowN (n : Nat) : SV → Bool
  | .vw _ m _ _ => Nat.blt m n
  | .row r v => Nat.blt r n && Nat.blt v n
  | .sub r v s _ _ _ _ _ => Nat.blt r n && Nat.blt v n && Nat.blt s n
  | .nst r v w u s _ _ _ _ => Nat.blt r n && Nat.blt v n && Nat.blt w n && Nat.blt u n && Nat.blt s n
  | .nsub r v w u s _ _ _ _ _ _ => Nat.blt r n && Nat.blt v n && Nat.blt w n && Nat.blt u n && Nat.blt s n
  | .pr cs _ => SV.lowNs n cs
  | .pv m cs _ => Nat.blt m n && SV.lowNs n cs
  | .cp c _ => Nat.blt c n
  | .ep r v u s _ _ cs => Nat.blt r n && Nat.blt v n && Nat.blt u n && Nat.blt s n && SV.lowNs n cs
  | .en r v w u s _ _ _ _ cs => Nat.blt r n && Nat.blt v n && Nat.blt w n && Nat.blt u n && Nat.blt s n && SV.lowNs n cs
  | .agg cs => SV.lowNs n cs
  | .tup cs => SV.lowNs n cs
  | .fn _ cs => SV.lowNs n cs
  | _ => true
def SV.lowNs (n : Nat) : List SV → Bool
  | [] => true
  | v :: l => SV.lowN n v && SV.lowNs n l
end
end
def natOrd : Nat → List Nat → Bool
  | _, [] => true
  | n, a :: l => a.beq n && natOrd (n + 1) l
def quiet0 : Op → Bool
  | .move _ | .assign _ | .pick _ _ _ | .build _ _ | .nilCheck _ | .binOp _ _ _ _ _ | .unOp _ _ _ | .makeFunc _ _ _ | .slice _ _ _ _ _ | .fieldAddr _ _ _ | .field _ _ _ | .index _ _ _ | .extract _ _ => true
  | .call c => match c.callee with
    | .builtin .min | .builtin .max => true
    | _ => false
  | _ => false
def quiet1 : Op → Bool
  | .load _ _ | .convert _ _ _ | .indexAddr _ _ _ => true
  | .call c => match c.callee with
    | .builtin .len => true
    | _ => false
  | _ => false
def notZ (T : TE) (o : Oper) : Bool := match o.op with
  | .call c => match c.callee with
    | .builtin .append => match c.argTypes.toList with
      | [_, t] => match (T t).ty with
        | .int _ => false
        | _ => true
      | _ => true
    | _ => true
  | _ => true
def pendOp : Op → Bool
  | .alloc _ => true
  | .buildSlice _ _ _ => true
  | _ => false
def pdsOf : List (Nat × Nat) → List Nat
  | [] => []
  | (i, 3) :: l => i :: pdsOf l
  | _ :: l => pdsOf l
def pendOk (ops : Array Oper) (pds : List Nat) (j : Nat) : Bool := match ops[j]? with
  | none => false
  | some o => pendOp o.op && o.guard.isNone && (match o.dst with | some d => !(o.looksAt ops).contains d | none => false) && (List.range ops.size).all fun k => k == j || (match ops[k]? with
    | none => true
    | some ok => bif waitsFor o k then !hasN pds k else waitsFor ok j || o.apart ops ok)
def setAll : List Nat → Array Bool → Array Bool
  | [], l => l
  | j :: js, l => setAll js (l.setIfInBounds j true)
def delN (i : Nat) : List Nat → List Nat
  | [] => []
  | j :: l => bif Nat.beq j i then delN i l else j :: delN i l
def preOf : List (Nat × Nat) → List (Nat × Nat)
  | [] => []
  | (_, 4) :: l => preOf l
  | p :: l => p :: preOf l
def sfxOf : List (Nat × Nat) → List Nat
  | [] => []
  | (i, 4) :: l => i :: sfxOf l
  | _ :: l => sfxOf l
def sfxP (ops : Array Oper) : List Nat → Array Bool → Bool
  | [], listed => (Region.ready .any ops listed).isEmpty
  | i :: l, listed => Region.ready .any ops listed == [i] && sfxP ops l (listed.setIfInBounds i true)
def sfxOk (ops : Array Oper) (pre : List (Nat × Nat)) (sfx : List Nat) : Bool := sfx.all fun i => match ops[i]? with
  | none => false
  | some o => pre.all fun p => waitsFor o p.1
def drawP (ops : Array Oper) (pds sfx : List Nat) : List (Nat × Nat) → Array Bool → Bool
  | [], listed => sfxP ops sfx listed
  | (i, kd) :: l, listed => (match ops[i]? with
    | none => false
    | some oi => (Region.ready .any ops listed).contains i && (match kd with
      | 2 => !hasN pds i && Region.ready .any ops (setAll pds listed) == [i]
      | 3 => hasN pds i && Region.ready .any ops (setAll (delN i pds) listed) == [i]
      | kd => !hasN pds i && (match kd with | 0 => quiet0 oi.op | 1 => quiet1 oi.op | _ => false) &&
        (List.range ops.size).all fun j => j == i || listed.getD j true || (match ops[j]? with | none => true | some oj => waitsFor oj i || oi.apart ops oj))) &&
    drawP ops pds sfx l (listed.setIfInBounds i true)
def ownW (W : List Nat) : Roots → Roots
  | [] => []
  | (r, x) :: l => bif hasN W r then (r, x) :: ownW W l else ownW W l
def restW (W : List Nat) : Roots → Roots
  | [] => []
  | (r, x) :: l => bif hasN W r then restW W l else (r, x) :: restW W l
def noneOf (ρ : Roots) : Roots → Bool
  | [] => true
  | (r, _) :: l => (match lkp ρ r with
    | some _ => false
    | none => true) && noneOf ρ l
def resW {α : Type} (cx : Cx) (st : St) : List RP → (List Nat → Option α) → Option α
  | [], k => k []
  | p :: l, k => match RP.res cx st p with
    | some sv => match svRoot sv with
      | some r => resW cx st l fun W => k (r :: W)
      | none => none
    | none => none
def someB : Option Unit → Bool
  | some _ => true
  | none => false
def hidL (cx : Cx) (st : St) : SV → Bool
  | .nil => true
  | v => someB (asL cx st v fun _ _ _ => some ())
def hidS (op : Op) (R0 : Roots) (cx : Cx) (st : St) : Bool := match op with
  | .load _ a => someB (derefK ⟨cx.env0, R0, cx.frames⟩ ⟨st.env, [], st.nx + 1, st.nx⟩ (evS cx st a) fun _ _ => some ())
  | .indexAddr _ x _ => hidL ⟨cx.env0, R0, cx.frames⟩ ⟨st.env, [], st.nx + 1, st.nx⟩ (evS cx st x)
  | .convert _ _ x => match evS cx st x with
    | .int _ _ => true
    | v => hidL ⟨cx.env0, R0, cx.frames⟩ ⟨st.env, [], st.nx + 1, st.nx⟩ v
  | .call c => match c.args.toList with
    | [x] => match evS cx st x with
      | .str _ => true
      | v => hidL ⟨cx.env0, R0, cx.frames⟩ ⟨st.env, [], st.nx + 1, st.nx⟩ v
    | _ => false
  | _ => false
def partOk (t : PT) (v : SV) : Bool := Nat.beq v.cells.length t.w && (v.isAgg || v.oneV)
def idxOk : Nat → List (Nat × Operand) → Bool
  | _, [] => true
  | n, (i, _) :: l => Nat.beq i n && idxOk (n + 1) l
def partsS (g : Pg) (cx : Cx) (st : St) : Op → Bool
  | .alloc e => Nat.blt 0 (g.T e).sz
  | .buildSlice t len parts => match (g.T t).ty with
    | .slice e => Nat.beq len parts.toList.length && Nat.ble (len * (g.T e).sz) 16777216 && idxOk 0 parts.toList && (match g.tp e with
      | some pt => Nat.beq (g.T e).sz pt.w && parts.toList.all fun p => partOk pt (evS cx st p.2)
      | none => false)
    | _ => false
  | _ => false
def noT (cx : Cx) (st : St) : Option Tmp → Bool
  | none => true
  | some d => (match lkp st.env d with | some _ => false | none => true) && (match lkp cx.env0 d with | some _ => false | none => true)
def pendsS (g : Pg) (cx : Cx) (st : St) (ops : Array Oper) (listed : Array Bool) (pds : List Nat) : Bool := pds.all fun j => listed.getD j true || (match ops[j]? with
  | none => false
  | some o => noT cx st o.dst && (!(Region.ready .any ops listed).contains j || partsS g cx st o.op))
def inT (ops : Array Oper) (pds : List Nat) (t : Nat) : Bool := pds.any fun j => match ops[j]? with | some o => (match o.dst with | some d => Nat.beq d t | none => false) | none => false
def dropT (ops : Array Oper) (pds : List Nat) : SEnv → SEnv
  | [] => []
  | (t, v) :: l => bif inT ops pds t then dropT ops pds l else (t, v) :: dropT ops pds l
def skipG (cx : Cx) (st : St) (ops : Array Oper) (o : Oper) : Bool := match o.guard with
  | none => false
  | some (j, want) => match (ops[j]?).bind (·.dst) with
    | none => false
    | some d => match getT cx st d with
      | .bool b => !(b == want)
      | .tup _ => true
      | _ => false
def isBld : Op → Bool
  | .buildSlice _ _ _ => true
  | _ => false
def drawS {α : Type} (g : Pg) (call : Callee) (R0 : Roots) (cx : Cx) (ops : Array Oper) (pds : List Nat) : List (Nat × Nat) → Array Bool → St → (St → Option α) → Option α
  | [], _, st, k => k st
  | (i, kd) :: l, listed, ⟨env, ρ, nx, mc⟩, k => bif pendsS g cx ⟨env, ρ, nx, mc⟩ ops listed pds && (match kd with | 1 => (match ops[i]? with | some o => hidS o.op R0 cx ⟨env, ρ, nx, mc⟩ || skipG cx ⟨env, ρ, nx, mc⟩ ops o | none => false) | _ => true) then (match kd with
    | 3 => (match ops[i]? with
      | none => none
      | some o => bif isBld o.op then regS g call cx ops [i] ⟨env, ρ, nx + 1, mc⟩ fun st => drawS g call R0 cx ops pds l (listed.setIfInBounds i true) st k
        else regS g call cx ops [i] ⟨env, ρ, nx, mc⟩ fun st => match st with
          | ⟨env, ρ, nx, _⟩ => drawS g call R0 cx ops pds l (listed.setIfInBounds i true) ⟨env, ρ, nx + 1, nx⟩ k)
    | _ => regS g call cx ops [i] ⟨env, ρ, nx, mc⟩ fun st => drawS g call R0 cx ops pds l (listed.setIfInBounds i true) st k) else none
def run (g : Pg) (call : Callee) (fu : Nat) : Ann → {α : Type} → Cx → Code → St → (Ex → St → Option α) → Option α
  | .leaf, _, _, .skip, st, k => k .normal st
  | .leaf, _, _, .ret, st, k => k .ret st
  | .leaf, _, _, .exit i, st, k => k (.exit i) st
  | .leaf, _, _, .label _, st, k => k .normal st
  | .reg order, _, cx, .region _ ops false, st, k => bif natOrd 0 order && Nat.beq order.length ops.size then regS g call cx ops order st (k .normal) else none
  | .draw ws plan, _, ⟨env0, roots0, frames⟩, .region _ ops true, ⟨env, ρ, nx, mc⟩, k => bif Nat.beq plan.length ops.size && drawP ops (pdsOf plan) (sfxOf plan) (preOf plan) (Array.replicate ops.size false) && sfxOk ops (preOf plan) (sfxOf plan) && (pdsOf plan).all (pendOk ops (pdsOf plan)) && ops.toList.all (notZ g.T) then
      resW ⟨env0, roots0, frames⟩ ⟨env, ρ, nx, mc⟩ ws fun W =>
      drawS g call (restW W (fixedR [] roots0 (restW W ρ) ++ roots0)) ⟨env0, fixedR [] roots0 (restW W ρ) ++ roots0, frames⟩ ops (pdsOf plan) (preOf plan) (Array.replicate ops.size false) ⟨dropT ops (pdsOf plan) env, ownW W ρ, nx, mc⟩ fun st => match st with
        | ⟨env2, ρ2, nx2, mc2⟩ => bif noneOf (restW W ρ) ρ2 then regS g call ⟨env0, roots0, frames⟩ ops (sfxOf plan) ⟨env2, ρ2 ++ restW W ρ, nx2, mc2⟩ (k .normal) else none
    else none
  | .seq a b, _, cx, .seq x y, st, k => run g call fu a cx x st fun e st => match e with
    | .normal => run g call fu b cx y st k
    | e => k e st
  | .cond a b, _, cx, .cond c x y, st, k => match evS cx st c with
    | .bool c => if c = true then run g call fu a cx x st k else run g call fu b cx y st k
    | _ => none
  | .block a, _, cx, .block i x, st, k => run g call fu a cx x st fun e st => match e with
    | .exit j => bif j.beq i then k .normal st else k (.exit j) st
    | e => k e st
  | .join s a, _, ⟨env0, roots0, frames⟩, c, ⟨env, ρ, nx, mc⟩, k =>
    resK ⟨env0, roots0, frames⟩ ⟨env, ρ, nx, mc⟩ s.rs fun ids =>
    Option.bind (run g call fu a ⟨outDs s.ds env ++ env0, fixedR ids roots0 ρ ++ roots0, frames⟩ c ⟨inDs s.ds env, looseR ids ρ, nx, mc⟩ fun e st =>
      bif keepOk s.keep mc st.mc && keysOk ids ρ nx st.roots then inj ids (β := sumT ids s.exits) ⟨outDs s.ds env ++ env0, fixedR ids roots0 ρ ++ roots0, frames⟩ e st s.exits some else none) fun j =>
      outj ids (fun e Γ ds => bif heldOk ids roots0 (keepIds ids Γ.roots) ρ && envFree env0 Γ.env then Shape.unpack ids Γ (outDs s.ds env) (restR ids ρ) (some ρ) nx (mcOf s.keep mc nx) ds fun st => k e st else none) s.exits j
  | .loop s hd a, _, ⟨env0, roots0, frames⟩, .loop c, ⟨env, ρ, nx, mc⟩, k =>
    resK ⟨env0, roots0, frames⟩ ⟨env, ρ, nx, mc⟩ s.rs fun ids =>
    bif heldOk ids (fixedR ids roots0 ρ ++ roots0) (keepIds ids hd.roots) (looseR ids ρ) && envFree (outDs s.ds env ++ env0) hd.env then
    Shape.pack ids ⟨outDs s.ds env ++ env0, fixedR ids roots0 ρ ++ roots0, frames⟩ ⟨inDs s.ds env, looseR ids ρ, nx, mc⟩ hd fun ds => ofD (hd.ty ids) ds fun s0 =>
      Option.bind (iterO (fun (z : tupT (hd.ty ids)) => Shape.unpack ids hd [] [] none nx (mcOf s.keep mc nx) (toD (hd.ty ids) z) fun st =>
          run g call fu a ⟨outDs s.ds env ++ env0, fixedR ids roots0 ρ ++ roots0, frames⟩ c st fun e st => bif keepOk s.keep mc st.mc && keysOk ids ρ nx st.roots then (match e with
            | .normal => Shape.pack ids ⟨outDs s.ds env ++ env0, fixedR ids roots0 ρ ++ roots0, frames⟩ st hd fun ds => ofD (hd.ty ids) ds fun z => some (Sum.inl z)
            | e => inj ids (β := tupT (hd.ty ids) ⊕ sumT ids s.exits) ⟨outDs s.ds env ++ env0, fixedR ids roots0 ρ ++ roots0, frames⟩ e st s.exits fun j => some (Sum.inr j)) else none) fu s0) fun j =>
        outj ids (fun e Γ ds => bif heldOk ids roots0 (keepIds ids Γ.roots) ρ && envFree env0 Γ.env then Shape.unpack ids Γ (outDs s.ds env) (restR ids ρ) (some ρ) nx (mcOf s.keep mc nx) ds fun st => k e st else none) s.exits j else none
  | _, _, _, _, _, _ => none
def resS {α : Type} (g : Pg) (cx : Cx) (st : St) : List ResultVar → (List SV → Option α) → Option α
  | [], k => k []
  | .tmp t :: l, k => resS g cx st l fun vs => k (getT cx st t :: vs)
  | .cell a t :: l, k => derefK cx st (getT cx st a) fun cs off => partK g t off cs fun v => resS g cx st l fun vs => k (v :: vs)
def envN : Nat → List SV → SEnv
  | _, [] => []
  | n, v :: l => (n, v) :: envN (n + 1) l
def inline {α : Type} (g : Pg) (call : Callee) (fu : Nat) (f : FnA) : Cx → List SV → St → (SV → St → Option α) → Option α
  | ⟨env0, roots0, frames⟩, args, ⟨env, ρ, nx, mc⟩, k =>
    bif Nat.ble args.length f.n then run g call fu f.ann ⟨[], roots0, (env ++ env0) :: frames⟩ f.code ⟨envN 0 args, ρ, nx, mc⟩ fun e st => match e with
      | .exit _ => none
      | _ => resS g ⟨[], roots0, (env ++ env0) :: frames⟩ st f.rs fun vs => match st with
        | ⟨_, ρ, nx, mc⟩ => k (resOf vs) ⟨env, ρ, nx, mc⟩ else none
def lkF {α : Type} : List (FuncId × α) → FuncId → Option α
  | [], _ => none
  | (a, b) :: l, x => bif Nat.beq a x then some b else lkF l x
def SV.num : SV → Nat
  | .int _ _ => 0 | .bool _ => 1 | .str _ => 2 | .nil => 3 | .rd _ _ _ => 4 | .vw _ _ _ _ => 5 | .row _ _ => 6 | .sub _ _ _ _ _ _ _ _ => 7 | .nst _ _ _ _ _ _ _ _ _ => 8
  | .nsub _ _ _ _ _ _ _ _ _ _ _ => 9 | .pr _ _ => 10 | .pv _ _ _ => 11 | .cp _ _ => 12 | .ep _ _ _ _ _ _ _ => 13 | .en _ _ _ _ _ _ _ _ _ _ => 14 | .agg _ => 15 | .tup _ => 16 | .fn _ _ => 17
  | .nilp => 18 | .nilf => 19 | .undef => 20 | .lk => 21
def numsOf (cx : Cx) (st : St) : List SV → List Nat
  | [] => []
  | v :: l => v.num :: (match v with
    | .row r v => (match rootOf cx st r with
      | some (.row v' _ _ md _ _ _) => bif v.beq v' then (match md with | .own => 0 | .flat => 1 | .fz => 2) else 3
      | _ => 3) :: numsOf cx st l
    | _ => numsOf cx st l)
def kindsOf (cx : Cx) (st : St) : List SV → List Nat
  | [] => []
  | .cp c o :: l => 12 :: (match rootOf cx st c with
    | some (.cell cs) => numsOf cx st cs ++ kindsOf cx st l
    | _ => kindsOf cx st l)
  | v :: l => v.num :: kindsOf cx st l
def eqN : List Nat → List Nat → Bool
  | [], [] => true
  | a :: l, b :: m => bif a.beq b then eqN l m else false
  | _, _ => false
def lkV : List (FuncId × List Nat × FnA) → FuncId → List Nat → Option FnA
  | [], _, _ => none
  | (a, ks, b) :: l, x, vs => bif Nat.beq a x && eqN ks vs then some b else lkV l x vs
inductive Spc where
  | sort
  | reverse
  | sortF
  | del
  | delF
  | compact
  | ins (bytes : Nat) (t : PT)
def clos1 (call : Callee) : Cx → St → FuncId → List SV → (t : PT) → t.den → Option Bool
  | ⟨env0, roots0, frames⟩, ⟨env, ρ, nx, mc⟩, f, cap, t, x => call ⟨[], fixedR [] roots0 ρ ++ roots0, (env ++ env0) :: frames⟩ f (oneS t (explode t x) :: cap) ⟨[], [], nx, mc⟩ fun v _ => match v with
    | .bool b => some b
    | _ => none
def clos2 (call : Callee) : Cx → St → FuncId → List SV → (t : PT) → t.den → t.den → Option Int
  | ⟨env0, roots0, frames⟩, ⟨env, ρ, nx, mc⟩, f, cap, t, x, y => call ⟨[], fixedR [] roots0 ρ ++ roots0, (env ++ env0) :: frames⟩ f (oneS t (explode t x) :: oneS t (explode t y) :: cap) ⟨[], [], nx, mc⟩ fun v _ => match v with
    | .int _ n => some n
    | _ => none
section
variable {α : Type} (cx : Cx) (st : St)
def keepR (r : Nat) (xs' : (t : PT) → List t.den → (List t.den → Option α) → Option α) (v0 : Nat) (ret : SV) (k : SV → St → Option α) : Option α := match st with
  | ⟨env, ρ, nx, _⟩ => match lkp ρ r with
    | some (.row v _ _ md none t xs) => bif v.beq v0 && !md.isFz then xs' t xs fun ys => updK ρ r (.row v nx nx md none t ys) fun ρ => k ret ⟨env, ρ, nx + 1, nx⟩ else none
    | _ => none
def turnR (r : Nat) (xs' : (t : PT) → List t.den → (List t.den → Option α) → Option α) (v0 : Nat) (k : SV → St → Option α) : Option α := match st with
  | ⟨env, ρ, nx, _⟩ => match lkp ρ r with
    | some (.row v _ _ md none t xs) => bif v.beq v0 && !md.isFz then xs' t xs fun ys => updK ρ r (.row nx nx nx md none t ys) fun ρ => k (.row r nx) ⟨env, ρ, nx + 1, nx⟩ else none
    | _ => none
def spS (call : Callee) (sp : Spc) (args : List SV) (k : SV → St → Option α) : Option α := match sp, args with
  | .sort, [.nil] => k (.tup []) st
  | .sort, [.row r v] => keepR st r (fun t xs k => match t, xs with | .int _, xs => k (sortI xs) | _, _ => none) v (.tup []) k
  | .reverse, [.nil] => k (.tup []) st
  | .reverse, [.row r v] => keepR st r (fun _ xs k => k xs.reverse) v (.tup []) k
  | .sortF, [.nil, _] => k (.tup []) st
  | .sortF, [.row r v, .fn f cap] => keepR st r (fun t xs k => Option.bind (sortF (clos2 call cx st f cap t) xs) k) v (.tup []) k
  | .del, [.row r v, .int _ i, .int _ j] => turnR st r (fun _ xs k => Option.bind (delI xs i j) k) v k
  | .delF, [.nil, _] => k .nil st
  | .delF, [.row r v, .fn f cap] => turnR st r (fun t xs k => Option.bind (delF (clos1 call cx st f cap t) xs) k) v k
  | .compact, [.nil] => k .nil st
  | .compact, [.row r v] => turnR st r (fun t xs k => match t, xs with | .int _, xs => k (compactI xs) | .rcd .pair, xs => k (compactI xs) | _, _ => none) v k
  | .ins b t, [.nil, .int _ i, y] => match st with
    | ⟨env, ρ, nx, mc⟩ => srcK cx ⟨env, ρ, nx, mc⟩ t.flat y t ρ fun own ys ρ => Option.bind (insI b [] i ys) fun zs => k (.row nx nx) ⟨env, (nx, .row nx nx nx (Md.of own) none t zs) :: ρ, nx + 1, mc⟩
  | .ins b _, [.row r v, .int _ i, y] => match st with
    | ⟨env, ρ, nx, mc⟩ => match lkp ρ r with
      | some (.row v' _ _ md none t xs) => bif v'.beq v && !md.isFz then srcK cx ⟨env, ρ, nx, mc⟩ t.flat y t ρ fun own' ys ρ => Option.bind (insI b xs i ys) fun zs => updK ρ r (.row nx nx nx (Md.of (md.isOwn && own')) none t zs) fun ρ => k (.row r nx) ⟨env, ρ, nx + 1, nx⟩ else none
      | _ => none
  | _, _ => none
end
structure Tb where
  cons : List (FuncId × Con)
  sps : List (FuncId × Spc)
  fns : List (FuncId × List Nat × FnA)
def callN (g : Pg) (fu : Nat) (tb : Tb) : Nat → Callee
  | 0, _, cx, f, args, st, k => match lkF tb.cons f with
    | some c => callCon cx st c args k
    | none => none
  | d + 1, _, cx, f, args, st, k => match lkF tb.cons f with
    | some c => callCon cx st c args k
    | none => match lkF tb.sps f with
      | some sp => spS cx st (callN g fu tb d) sp args k
      | none => match lkV tb.fns f (kindsOf cx st args) with
        | some fn => inline g (callN g fu tb d) fu fn cx args st k
        | none => none
def parS (p : PK) (x : p.t.den) : SV := match p with
  | .val t => oneS t (explode t x)
  | .ptr t => .pr (explode t x) 0
def parsS : (ps : List PK) → tupT (ps.map PK.t) → List SV
  | [], _ => []
  | [p], x => [parS p x]
  | p :: q :: ps, x => parS p x.1 :: parsS (q :: ps) x.2
def out1 {α : Type} (cx : Cx) (st : St) (b : Bool) (t : PT) (v : SV) (ρ : Roots) (k : t.den → Roots → Option α) : Option α := bif Bool.xor t.scal v.isAgg then (match b with
  | true => absorbK st.nx st.nx true t.flat 0 v.cells v.cells ρ fun own cs ρ => bif own then (match implode t cs with | some x => k x ρ | none => none) else none
  | false => plainK cx st v.cells fun q cs => bif noLive q then freezeK q ρ fun ρ => (match implode t cs with | some x => k x ρ | none => none) else none) else none
def outK {α : Type} (cx : Cx) (st : St) : (rs : List (Bool × PT)) → List SV → Roots → (tupT (rs.map Prod.snd) → Option α) → Option α
  | [], [], _, k => k ()
  | [(b, t)], [v], ρ, k => out1 cx st b t v ρ fun x _ => k x
  | (b, t) :: r :: rs, v :: vs, ρ, k => out1 cx st b t v ρ fun x ρ => outK cx st (r :: rs) vs ρ fun y => k (x, y)
  | _, _, _, _ => none
def model (g : Pg) (call : Callee) (fu : Nat) (f : FnA) (sg : Sg) (x : tupT (sg.ps.map PK.t)) : Option (tupT (sg.rs.map Prod.snd)) :=
  bif Nat.ble sg.ps.length f.n then run g call fu f.ann ⟨[], [], []⟩ f.code ⟨envN 0 (parsS sg.ps x), [], 1, 0⟩ fun e st => match e with
    | .exit _ => none
    | _ => resS g ⟨[], [], []⟩ st f.rs fun vs => outK ⟨[], [], []⟩ st sg.rs vs st.roots some else none
end Go.Proofs.Ytcngfjmfgeckmaa
section
namespace Go.Proofs.Ytcngfjmfgeckmaa
open Go
set_option linter.unusedVariables false
noncomputable section
def m_l_szByteS (fu : Nat) (a0 : List Int) (a1 : Int) : Option (Int) :=
  (if (decide (IntKind.i64.wrap (a1 - (a0.length : Int)) < 0)) = true then some (-1) else some (IntKind.i64.wrap (a1 - (a0.length : Int))))
def l_szByteSS_l1 (fu : Nat) (p0 : List (List Int)) (z : Int × Int) : Option ((Int × Int) ⊕ ((Int) ⊕ (Int))) :=
  (if (decide (z.2 < (p0.length : Int))) = true then (Option.bind (atI p0 z.2) fun x0 => (Option.bind (m_l_szByteS fu x0 z.1) fun x1 => (if (decide (x1 < 0)) = true then some (Sum.inr (Sum.inr (-1))) else some (Sum.inl (x1, IntKind.i64.wrap (z.2 + 1)))))) else some (Sum.inr (Sum.inl z.1)))
def m_l_szByteSS (fu : Nat) (a0 : List (List Int)) (a1 : Int) : Option (Int) :=
  (if (decide (IntKind.i64.wrap (a1 - (a0.length : Int)) < 0)) = true then some (-1) else (Option.bind (iterO (l_szByteSS_l1 fu a0) fu (IntKind.i64.wrap (a1 - (a0.length : Int)), 0)) fun j30 => (Sum.elim (fun x31 => some x31) (fun x32 => some x32) j30)))
def m_l_szLoose (fu : Nat) (a0 : LooseD) (a1 : Int) : Option (Int) :=
  (Option.bind (m_l_szByteS fu a0.data a1) fun x42 => (if (decide (x42 < 0)) = true then some (-1) else some x42))
def l_szLooseS_l1 (fu : Nat) (p0 : List LooseD) (z : Int × Int) : Option ((Int × Int) ⊕ ((Int) ⊕ (Int))) :=
  (if (decide (z.2 < (p0.length : Int))) = true then (Option.bind (atI p0 z.2) fun x0 => (Option.bind (m_l_szLoose fu x0 z.1) fun x1 => (if (decide (x1 < 0)) = true then some (Sum.inr (Sum.inr (-1))) else some (Sum.inl (x1, IntKind.i64.wrap (z.2 + 1)))))) else some (Sum.inr (Sum.inl z.1)))
def m_l_szLooseS (fu : Nat) (a0 : List LooseD) (a1 : Int) : Option (Int) :=
  (if (decide (IntKind.i64.wrap (a1 - (a0.length : Int)) < 0)) = true then some (-1) else (Option.bind (iterO (l_szLooseS_l1 fu a0) fu (IntKind.i64.wrap (a1 - (a0.length : Int)), 0)) fun j63 => (Sum.elim (fun x64 => some x64) (fun x65 => some x65) j63)))
def m_l_szDisk (fu : Nat) (a0 : DiskD) (a1 : Int) : Option (Int) :=
  (Option.bind (m_l_szByteSS fu a0.pages a1) fun x68 => (if (decide (x68 < 0)) = true then some (-1) else (Option.bind (m_l_szLooseS fu a0.loose x68) fun x69 => (if (decide (x69 < 0)) = true then some (-1) else some x69))))
def l_toByteS_l1 (fu : Nat) (p0 : List Int) (z : Int × (List Int)) : Option ((Int × (List Int)) ⊕ ((List Int))) :=
  (if (decide (z.1 < (p0.length : Int))) = true then (Option.bind (atI p0 z.1) fun x0 => (Option.bind (atI z.2 z.1) fun x1 => some (Sum.inl (IntKind.i64.wrap (z.1 + 1), setI z.2 z.1 x0)))) else some (Sum.inr z.2))
def m_l_toByteS (fu : Nat) (a0 : List Int) : Option ((List Int)) :=
  (Option.bind (mkI 1 (a0.length : Int) (a0.length : Int) 0) fun x98 => (Option.bind (iterO (l_toByteS_l1 fu a0) fu (0, x98)) fun j102 => some j102))
def l_toByteSS_l1 (fu : Nat) (p0 : List (List Int)) (z : Int × (List (List Int))) : Option ((Int × (List (List Int))) ⊕ ((List (List Int)))) :=
  (if (decide (z.1 < (p0.length : Int))) = true then (Option.bind (atI p0 z.1) fun x0 => (Option.bind (m_l_toByteS fu x0) fun x1 => (Option.bind (atI z.2 z.1) fun x2 => some (Sum.inl (IntKind.i64.wrap (z.1 + 1), setI z.2 z.1 x1))))) else some (Sum.inr z.2))
def m_l_toByteSS (fu : Nat) (a0 : List (List Int)) : Option ((List (List Int))) :=
  (Option.bind (mkI 24 (a0.length : Int) (a0.length : Int) []) fun x130 => (Option.bind (iterO (l_toByteSS_l1 fu a0) fu (0, x130)) fun j135 => some j135))
def m_l_toLoose (fu : Nat) (a0 : LooseD) : Option (LooseD) :=
  (Option.bind (m_l_toByteS fu a0.data) fun x145 => some (LooseD.mk a0.page a0.part x145))
def l_toLooseS_l1 (fu : Nat) (p0 : List LooseD) (z : Int × (List LooseD)) : Option ((Int × (List LooseD)) ⊕ ((List LooseD))) :=
  (if (decide (z.1 < (p0.length : Int))) = true then (Option.bind (atI p0 z.1) fun x0 => (Option.bind (m_l_toLoose fu x0) fun x1 => (Option.bind (atI z.2 z.1) fun x2 => some (Sum.inl (IntKind.i64.wrap (z.1 + 1), setI z.2 z.1 x1))))) else some (Sum.inr z.2))
def m_l_toLooseS (fu : Nat) (a0 : List LooseD) : Option ((List LooseD)) :=
  (Option.bind (mkI 40 (a0.length : Int) (a0.length : Int) (LooseD.mk 0 0 [])) fun x173 => (Option.bind (iterO (l_toLooseS_l1 fu a0) fu (0, x173)) fun j178 => some j178))
def m_l_toDisk (fu : Nat) (a0 : DiskD) : Option (DiskD) :=
  (Option.bind (m_l_toByteSS fu a0.pages) fun x181 => (Option.bind (m_l_toLooseS fu a0.loose) fun x182 => some (DiskD.mk x181 x182)))
def m_s_l1In (fu : Nat) (a0 : Int) (a1 : Int) (a2 : Int) : Option (Bool) :=
  (Option.bind ((if (decide (a1 ≤ a0)) = true then some (decide (a0 ≤ a2)) else some false)) fun j208 => some j208)
def s_DiskFault_l1 (fu : Nat) (p0 : DiskD) (z : Int) : Option ((Int) ⊕ ((Unit) ⊕ (Int))) :=
  (if (decide (z < (p0.pages.length : Int))) = true then (Option.bind (atI p0.pages z) fun x0 => (if (decide ((x0.length : Int) ≠ 48)) = true then some (Sum.inr (Sum.inr 1)) else some (Sum.inl (IntKind.i64.wrap (z + 1))))) else some (Sum.inr (Sum.inl ())))
def s_DiskFault_j1 (fu : Nat) (p0 : DiskD) (p1 : Int) : Option (Bool) :=
  (Option.bind (atI p0.loose p1) fun x0 => (Option.bind (m_s_l1In fu x0.page 0 (IntKind.i64.wrap ((p0.pages.length : Int) - 1))) fun x1 => (if (!x1) = true then some true else (Option.bind (atI p0.loose p1) fun x2 => (Option.bind (m_s_l1In fu x2.part 0 2) fun x3 => some (!x3))))))
def s_DiskFault_l2 (fu : Nat) (p0 : DiskD) (z : Int) : Option ((Int) ⊕ ((Unit) ⊕ (Int))) :=
  (if (decide (z < (p0.loose.length : Int))) = true then (Option.bind (s_DiskFault_j1 fu p0 z) fun x0 => (if x0 = true then some (Sum.inr (Sum.inr 3)) else (Option.bind (atI p0.loose z) fun x1 => (if (decide ((x1.data.length : Int) ≠ 16)) = true then some (Sum.inr (Sum.inr 1)) else some (Sum.inl (IntKind.i64.wrap (z + 1))))))) else some (Sum.inr (Sum.inl ())))
def m_s_DiskFault (fu : Nat) (a0 : DiskD) : Option (Int) :=
  (Option.bind ((if (decide ((a0.pages.length : Int) < 1)) = true then some true else some (decide (8 < (a0.pages.length : Int))))) fun j262 => (if j262 = true then some 1 else (Option.bind (iterO (s_DiskFault_l1 fu a0) fu 0) fun j265 => (Sum.elim (fun x266 => (if (decide (60 < (a0.loose.length : Int))) = true then some 2 else (Option.bind (iterO (s_DiskFault_l2 fu a0) fu 0) fun j275 => (Sum.elim (fun x276 => some 0) (fun x277 => some x277) j275)))) (fun x267 => some x267) j265))))
def s_l2Copy_l1 (fu : Nat) (p0 : DiskD) (z : Int × (List (List Int))) : Option ((Int × (List (List Int))) ⊕ ((List (List Int)))) :=
  (if (decide (z.1 < (p0.pages.length : Int))) = true then (Option.bind (atI p0.pages z.1) fun x0 => (Option.bind (appI 1 [] x0) fun x1 => (Option.bind (appI 24 z.2 [x1]) fun x2 => some (Sum.inl (IntKind.i64.wrap (z.1 + 1), x2))))) else some (Sum.inr z.2))
def s_l2Copy_l2 (fu : Nat) (p0 : DiskD) (z : Int × (List LooseD)) : Option ((Int × (List LooseD)) ⊕ ((List LooseD))) :=
  (if (decide (z.1 < (p0.loose.length : Int))) = true then (Option.bind (atI p0.loose z.1) fun x0 => (Option.bind (appI 1 [] x0.data) fun x1 => (Option.bind (appI 40 z.2 [(LooseD.mk x0.page x0.part x1)]) fun x2 => some (Sum.inl (IntKind.i64.wrap (z.1 + 1), x2))))) else some (Sum.inr z.2))
def m_s_l2Copy (fu : Nat) (a0 : DiskD) : Option (DiskD) :=
  (Option.bind (iterO (s_l2Copy_l1 fu a0) fu (0, [])) fun j371 => (Option.bind (iterO (s_l2Copy_l2 fu a0) fu (0, [])) fun j376 => some (DiskD.mk j371 j376)))
def s_l2Sync_l1 (fu : Nat) (p0 : LooseD) (z : Int × (List (List Int))) : Option ((Int × (List (List Int))) ⊕ ((List (List Int)))) :=
  (if (decide (z.1 < 16)) = true then (Option.bind (atI z.2 p0.page) fun x0 => (Option.bind (atI p0.data z.1) fun x1 => (Option.bind (atI x0 (IntKind.i64.wrap ((IntKind.i64.wrap (p0.part * 16)) + z.1))) fun x2 => (Option.bind (atI z.2 p0.page) fun x3 => (Option.bind (atI x3 (IntKind.i64.wrap ((IntKind.i64.wrap (p0.part * 16)) + z.1))) fun x4 => some (Sum.inl (IntKind.i64.wrap (z.1 + 1), setI z.2 p0.page (setI x3 (IntKind.i64.wrap ((IntKind.i64.wrap (p0.part * 16)) + z.1)) x1)))))))) else some (Sum.inr z.2))
def s_l2Sync_l2 (fu : Nat) (p0 : DiskD) (z : Int × (List (List Int))) : Option ((Int × (List (List Int))) ⊕ ((List (List Int)))) :=
  (if (decide (z.1 < (p0.loose.length : Int))) = true then (Option.bind (atI p0.loose z.1) fun x0 => (Option.bind (iterO (s_l2Sync_l1 fu x0) fu (0, z.2)) fun x1 => some (Sum.inl (IntKind.i64.wrap (z.1 + 1), x1)))) else some (Sum.inr z.2))
def m_s_l2Sync (fu : Nat) (a0 : DiskD) : Option (DiskD) :=
  (Option.bind (m_s_l2Copy fu a0) fun x513 => (Option.bind (iterO (s_l2Sync_l2 fu a0) fu (0, x513.pages)) fun j523 => some (DiskD.mk j523 [])))
def s_l1Take_l1 (fu : Nat) (p0 : Int) (p1 : List Int) (p2 : Int) (z : Int × Int) : Option ((Int × Int) ⊕ (Int)) :=
  (if (decide (z.2 < p0)) = true then (Option.bind (atI p1 (IntKind.i64.wrap (p2 + z.2))) fun x0 => some (Sum.inl (IntKind.i64.wrap ((IntKind.i64.wrap (z.1 * 256)) + (IntKind.i64.wrap (x0))), IntKind.i64.wrap (z.2 + 1)))) else some (Sum.inr z.1))
def m_s_l1Take (fu : Nat) (a0 : List Int) (a1 : Int) (a2 : Int) : Option (Int) :=
  (Option.bind (iterO (s_l1Take_l1 fu a2 a0 a1) fu (0, 0)) fun j545 => some j545)
def s_SumBytes_l1 (fu : Nat) (p0 : List Int) (z : Int × Int) : Option ((Int × Int) ⊕ (Int)) :=
  (if (decide (z.2 < (p0.length : Int))) = true then (Option.bind (atI p0 z.2) fun x0 => some (Sum.inl ((IntKind.i64.wrap ((IntKind.i64.wrap ((IntKind.i64.wrap (z.1 * 269)) + (IntKind.i64.wrap (x0)))) + 1)).tmod 65521, IntKind.i64.wrap (z.2 + 1)))) else some (Sum.inr z.1))
def m_s_SumBytes (fu : Nat) (a0 : List Int) : Option (Int) :=
  (Option.bind (iterO (s_SumBytes_l1 fu a0) fu (9, 0)) fun j558 => some j558)
def m_s_l1Lsn (fu : Nat) (a0 : Int) : Option (Bool) :=
  (Option.bind (m_s_l1In fu a0 0 1000000) fun x653 => some x653)
def m_s_l1Key (fu : Nat) (a0 : Int) : Option (Bool) :=
  (Option.bind (m_s_l1In fu a0 0 31) fun x667 => some x667)
def m_s_l1Value (fu : Nat) (a0 : Int) : Option (Bool) :=
  (Option.bind (m_s_l1In fu a0 0 9999) fun x673 => some x673)
def s_PageFault_j1 (fu : Nat) (p0 : PageD) : Option (Bool) :=
  (Option.bind (m_s_l1In fu p0.id 0 7) fun x0 => (if (!x0) = true then some true else (Option.bind (m_s_l1Lsn fu p0.lsn) fun x1 => some (!x1))))
def s_PageFault_j2 (fu : Nat) (p0 : PageD) (p1 : Int) : Option (Bool) :=
  (Option.bind (atI p0.cells p1) fun x0 => (Option.bind (m_s_l1Key fu x0.key) fun x1 => (if (!x1) = true then some true else (Option.bind (atI p0.cells p1) fun x2 => (Option.bind (m_s_l1Value fu x2.value) fun x3 => some (!x3))))))
def s_PageFault_j3 (fu : Nat) (p0 : Int) (p1 : PageD) : Option (Bool) :=
  (if (decide (0 < p0)) = true then (Option.bind (atI p1.cells p0) fun x0 => (Option.bind (atI p1.cells (IntKind.i64.wrap (p0 - 1))) fun x1 => some (decide (x0.key ≤ x1.key)))) else some false)
def s_PageFault_l1 (fu : Nat) (p0 : PageD) (z : Int) : Option ((Int) ⊕ ((Unit) ⊕ (Int))) :=
  (if (decide (z < (p0.cells.length : Int))) = true then (Option.bind (s_PageFault_j2 fu p0 z) fun x0 => (if x0 = true then some (Sum.inr (Sum.inr 3)) else (Option.bind (s_PageFault_j3 fu z p0) fun x1 => (if x1 = true then some (Sum.inr (Sum.inr 1)) else some (Sum.inl (IntKind.i64.wrap (z + 1))))))) else some (Sum.inr (Sum.inl ())))
def m_s_PageFault (fu : Nat) (a0 : PageD) : Option (Int) :=
  (Option.bind (s_PageFault_j1 fu a0) fun j734 => (if j734 = true then some 3 else (if (decide (12 < (a0.cells.length : Int))) = true then some 2 else (Option.bind (iterO (s_PageFault_l1 fu a0) fu 0) fun j744 => (Sum.elim (fun x745 => some 0) (fun x746 => some x746) j744)))))
def s_l1Bytes_l1 (fu : Nat) (p0 : Int) (z : Int × (List Int)) : Option ((Int × (List Int)) ⊕ ((List Int))) :=
  (if (decide (0 ≤ z.1)) = true then (if 0 ≤ IntKind.u64.wrap (IntKind.i64.wrap (8 * z.1)) then (Option.bind (appI 1 z.2 [IntKind.u8.wrap (p0.fdiv (2 ^ (min (IntKind.u64.wrap (IntKind.i64.wrap (8 * z.1))).toNat (IntKind.i64).bits)))]) fun x0 => some (Sum.inl (IntKind.i64.wrap (z.1 - 1), x0))) else none) else some (Sum.inr z.2))
def m_s_l1Bytes (fu : Nat) (a0 : Int) (a1 : Int) : Option ((List Int)) :=
  (Option.bind (iterO (s_l1Bytes_l1 fu a0) fu (IntKind.i64.wrap (a1 - 1), [])) fun j765 => some j765)
def s_l1Pack_l1 (fu : Nat) (p0 : PageD) (z : Int × (List Int)) : Option ((Int × (List Int)) ⊕ ((List Int))) :=
  (if (decide (z.1 < (p0.cells.length : Int))) = true then (Option.bind (atI p0.cells z.1) fun x0 => (Option.bind (atI p0.cells z.1) fun x1 => (Option.bind (appI 1 z.2 [IntKind.u8.wrap (x0.key)]) fun x2 => (Option.bind (m_s_l1Bytes fu x1.value 2) fun x3 => (Option.bind (appI 1 x2 x3) fun x4 => some (Sum.inl (IntKind.i64.wrap (z.1 + 1), x4))))))) else some (Sum.inr z.2))
def s_l1Pack_l2 (fu : Nat) (z : (List Int)) : Option (((List Int)) ⊕ ((List Int))) :=
  (if (decide ((z.length : Int) < 46)) = true then (Option.bind (appI 1 z [0]) fun x0 => some (Sum.inl x0)) else some (Sum.inr z))
def m_s_l1Pack (fu : Nat) (a0 : PageD) : Option ((List Int)) :=
  (Option.bind (m_s_l1Bytes fu a0.lsn 4) fun x865 => (Option.bind (appI 1 [IntKind.u8.wrap (a0.id)] x865) fun x866 => (Option.bind (appI 1 x866 [IntKind.u8.wrap ((a0.cells.length : Int))]) fun x867 => (Option.bind (iterO (s_l1Pack_l1 fu a0) fu (0, x867)) fun j874 => (Option.bind (iterO (s_l1Pack_l2 fu) fu j874) fun j877 => (Option.bind (m_s_SumBytes fu j877) fun x878 => (Option.bind (m_s_l1Bytes fu x878 2) fun x879 => (Option.bind (appI 1 j877 x879) fun x880 => some x880))))))))
def s_UnpackPage_j1 (fu : Nat) (p0 : List Int) (p1 : Int × (List CellD)) : Option (Bool) :=
  (Option.bind (atI p0 5) fun x0 => (if (decide (p1.1 < IntKind.i64.wrap (x0))) = true then some (decide (IntKind.i64.wrap (9 + (IntKind.i64.wrap (3 * p1.1))) < 46)) else some false))
def s_UnpackPage_l1 (fu : Nat) (p0 : List Int) (z : Int × (List CellD)) : Option ((Int × (List CellD)) ⊕ ((List CellD))) :=
  (Option.bind (s_UnpackPage_j1 fu p0 z) fun x0 => (if x0 = true then (Option.bind (atI p0 (IntKind.i64.wrap (6 + (IntKind.i64.wrap (3 * z.1))))) fun x1 => (Option.bind (m_s_l1Take fu p0 (IntKind.i64.wrap (7 + (IntKind.i64.wrap (3 * z.1)))) 2) fun x2 => (Option.bind (appI 16 z.2 [(CellD.mk (IntKind.i64.wrap (x1)) x2)]) fun x3 => some (Sum.inl (IntKind.i64.wrap (z.1 + 1), x3))))) else some (Sum.inr z.2)))
def s_UnpackPage_j2 (fu : Nat) (p0 : Int) (p1 : Int) (p2 : (List CellD)) (p3 : List Int) : Option (Bool) :=
  (Option.bind (m_s_PageFault fu (PageD.mk (IntKind.i64.wrap (p0)) p1 p2)) fun x0 => (if (decide (x0 ≠ 0)) = true then some true else (Option.bind (m_s_l1Pack fu (PageD.mk (IntKind.i64.wrap (p0)) p1 p2)) fun x1 => some (decide ((bytesStr x1) ≠ (bytesStr p3))))))
def m_s_UnpackPage (fu : Nat) (a0 : List Int) : Option (PageResultD) :=
  (if (decide ((a0.length : Int) ≠ 48)) = true then some (PageResultD.mk 1 (PageD.mk 0 0 [])) else (Option.bind (slcI a0 0 46) fun x898 => (Option.bind (m_s_l1Take fu a0 46 2) fun x899 => (Option.bind (m_s_SumBytes fu x898) fun x900 => (if (decide (x899 ≠ x900)) = true then some (PageResultD.mk 6 (PageD.mk 0 0 [])) else (Option.bind (atI a0 0) fun x901 => (Option.bind (m_s_l1Take fu a0 1 4) fun x902 => (Option.bind (iterO (s_UnpackPage_l1 fu a0) fu (0, [])) fun j909 => (Option.bind (s_UnpackPage_j2 fu x901 x902 j909 a0) fun j912 => (if j912 = true then some (PageResultD.mk 5 (PageD.mk 0 0 [])) else some (PageResultD.mk 0 (PageD.mk (IntKind.i64.wrap (x901)) x902 j909))))))))))))
def m_s_l2Read (fu : Nat) (a0 : DiskD) (a1 : Int) : Option (PageResultD) :=
  (Option.bind (m_s_l2Sync fu a0) fun x919 => (Option.bind (atI x919.pages a1) fun x920 => (Option.bind (m_s_UnpackPage fu x920) fun x921 => (Option.bind ((if (decide (x921.code = 0)) = true then some (decide (x921.page.id ≠ a1)) else some false)) fun j922 => (if j922 = true then some (PageResultD.mk 1 (PageD.mk 0 0 [])) else some x921)))))
def s_ReadsWhole_j1 (fu : Nat) (p0 : DiskD) (p1 : DiskD) : Option (Bool) :=
  (Option.bind (m_s_DiskFault fu p0) fun x0 => (if (decide (x0 ≠ 0)) = true then some true else (Option.bind (m_s_DiskFault fu p1) fun x1 => (if (decide (x1 ≠ 0)) = true then some true else some (decide ((p0.pages.length : Int) ≠ (p1.pages.length : Int)))))))
def s_ReadsWhole_j2 (fu : Nat) (p0 : LooseD) (p1 : Int) (p2 : LooseD) (p3 : LooseD) : Option (Bool) :=
  (if (decide (p0.page = p1)) = true then (if (decide (p2.page = p1)) = true then (if (decide (p3.page = p1)) = true then (if (decide (p0.part = 0)) = true then (if (decide (p2.part = 1)) = true then some (decide (p3.part = 2)) else some false) else some false) else some false) else some false) else some false)
def s_ReadsWhole_j3 (fu : Nat) (p0 : DiskD) (p1 : Int × (List (List Int))) (p2 : Int) : Option ((List (List Int))) :=
  (Option.bind (atI p0.loose p1.1) fun x0 => (Option.bind (atI p0.loose (IntKind.i64.wrap (p1.1 + 1))) fun x1 => (Option.bind (atI p0.loose (IntKind.i64.wrap (p1.1 + 2))) fun x2 => (Option.bind (s_ReadsWhole_j2 fu x0 p2 x1 x2) fun x3 => (if x3 = true then (Option.bind (appI 1 [] x0.data) fun x4 => (Option.bind (appI 1 x4 x1.data) fun x5 => (Option.bind (appI 1 x5 x2.data) fun x6 => (Option.bind (appI 24 p1.2 [x6]) fun x7 => some x7)))) else some p1.2)))))
def s_ReadsWhole_l1 (fu : Nat) (p0 : DiskD) (p1 : Int) (z : Int × (List (List Int))) : Option ((Int × (List (List Int))) ⊕ ((List (List Int)))) :=
  (if (decide (IntKind.i64.wrap (z.1 + 2) < (p0.loose.length : Int))) = true then (Option.bind (s_ReadsWhole_j3 fu p0 z p1) fun x0 => some (Sum.inl (IntKind.i64.wrap (z.1 + 1), x0))) else some (Sum.inr z.2))
def s_ReadsWhole_j4 (fu : Nat) (p0 : Bool × Int) (p1 : (List (List Int))) (p2 : DiskD) (p3 : Int) : Option (Bool) :=
  (if p0.1 = true then some true else (Option.bind (atI p1 p0.2) fun x0 => (Option.bind (atI p2.pages p3) fun x1 => some (decide ((bytesStr x0) = (bytesStr x1))))))
def s_ReadsWhole_l2 (fu : Nat) (p0 : (List (List Int))) (p1 : DiskD) (p2 : Int) (z : Bool × Int) : Option ((Bool × Int) ⊕ (Bool)) :=
  (if (decide (z.2 < (p0.length : Int))) = true then (Option.bind (s_ReadsWhole_j4 fu z p0 p1 p2) fun x0 => some (Sum.inl (x0, IntKind.i64.wrap (z.2 + 1)))) else some (Sum.inr z.1))
def s_ReadsWhole_j5 (fu : Nat) (p0 : DiskD) (p1 : Int) (p2 : DiskD) (p3 : DiskD) : Option ((Unit) ⊕ (Bool)) :=
  (Option.bind (m_s_l2Read fu p0 p1) fun x0 => (if (decide (x0.code ≠ 0)) = true then some (Sum.inl ()) else (Option.bind (atI p2.pages p1) fun x1 => (Option.bind (appI 1 [] x1) fun x2 => (Option.bind (iterO (s_ReadsWhole_l1 fu p2 p1) fu (0, [x2])) fun x3 => (Option.bind (iterO (s_ReadsWhole_l2 fu x3 p3 p1) fu (false, 0)) fun x4 => (if (!x4) = true then some (Sum.inr false) else some (Sum.inl ()))))))))
def s_ReadsWhole_l3 (fu : Nat) (p0 : DiskD) (p1 : DiskD) (p2 : DiskD) (z : Int) : Option ((Int) ⊕ ((Unit) ⊕ (Bool))) :=
  (if (decide (z < (p0.pages.length : Int))) = true then (Option.bind (s_ReadsWhole_j5 fu p1 z p0 p2) fun x0 => (Sum.elim (fun x1 => some (Sum.inl (IntKind.i64.wrap (z + 1)))) (fun x2 => some (Sum.inr (Sum.inr x2))) x0)) else some (Sum.inr (Sum.inl ())))
def m_s_ReadsWhole (fu : Nat) (a0 : DiskD) (a1 : DiskD) : Option (Bool) :=
  (Option.bind (s_ReadsWhole_j1 fu a0 a1) fun j1193 => (if j1193 = true then some false else (Option.bind (m_s_l2Sync fu a1) fun x1194 => (Option.bind (iterO (s_ReadsWhole_l3 fu a0 a1 x1194) fu 0) fun j1218 => (Sum.elim (fun x1219 => some true) (fun x1220 => some x1220) j1218)))))
def m_i_within (fu : Nat) (a0 : Int) (a1 : Int) (a2 : Int) : Option (Bool) :=
  (Option.bind ((if (decide (a1 ≤ a0)) = true then some (decide (a0 ≤ a2)) else some false)) fun j1301 => some j1301)
def m_i_Disk_hasPage (fu : Nat) (a0 : DiskD) (a1 : Int) : Option (Bool) :=
  (Option.bind (m_i_within fu a1 0 (IntKind.i64.wrap ((a0.pages.length : Int) - 1))) fun x1304 => some x1304)
def i_DiskFault_l1 (fu : Nat) (p0 : DiskD) (z : Int) : Option ((Int) ⊕ ((Unit) ⊕ (Int))) :=
  (if (decide (z < (p0.pages.length : Int))) = true then (Option.bind (atI p0.pages z) fun x0 => (if (decide ((x0.length : Int) ≠ 48)) = true then some (Sum.inr (Sum.inr z)) else some (Sum.inl (IntKind.i64.wrap (z + 1))))) else some (Sum.inr (Sum.inl ())))
def i_DiskFault_j1 (fu : Nat) (p0 : DiskD) : Option (Int) :=
  (Option.bind (iterO (i_DiskFault_l1 fu p0) fu 0) fun x0 => (Sum.elim (fun x1 => some (-1)) (fun x2 => some x2) x0))
def i_DiskFault_j2 (fu : Nat) (p0 : DiskD) : Option (Bool) :=
  (if (decide ((p0.pages.length : Int) < 1)) = true then some true else (if (decide (8 < (p0.pages.length : Int))) = true then some true else (Option.bind (i_DiskFault_j1 fu p0) fun x0 => some (decide (0 ≤ x0)))))
def i_DiskFault_j3 (fu : Nat) (p0 : DiskD) (p1 : LooseD) : Option (Bool) :=
  (Option.bind (m_i_Disk_hasPage fu p0 p1.page) fun x0 => (if (!x0) = true then some true else (Option.bind (m_i_within fu p1.part 0 2) fun x1 => some (!x1))))
def i_DiskFault_l2 (fu : Nat) (p0 : DiskD) (z : Int) : Option ((Int) ⊕ ((Unit) ⊕ (Int))) :=
  (if (decide (z < (p0.loose.length : Int))) = true then (Option.bind (atI p0.loose z) fun x0 => (Option.bind (i_DiskFault_j3 fu p0 x0) fun x1 => (if x1 = true then some (Sum.inr (Sum.inr 3)) else (if (decide ((x0.data.length : Int) ≠ 16)) = true then some (Sum.inr (Sum.inr 1)) else some (Sum.inl (IntKind.i64.wrap (z + 1))))))) else some (Sum.inr (Sum.inl ())))
def m_i_DiskFault (fu : Nat) (a0 : DiskD) : Option (Int) :=
  (Option.bind (i_DiskFault_j2 fu a0) fun j1338 => (if j1338 = true then some 1 else (if (decide (60 < (a0.loose.length : Int))) = true then some 2 else (Option.bind (iterO (i_DiskFault_l2 fu a0) fu 0) fun j1344 => (Sum.elim (fun x1345 => some 0) (fun x1346 => some x1346) j1344)))))
def i_Disk_copied_l1 (fu : Nat) (p0 : DiskD) (z : Int × (List (List Int))) : Option ((Int × (List (List Int))) ⊕ ((List (List Int)))) :=
  (if (decide (z.1 < (p0.pages.length : Int))) = true then (Option.bind (atI p0.pages z.1) fun x0 => (Option.bind (cloneI 1 fu x0) fun x1 => (Option.bind (appI 24 z.2 [x1]) fun x2 => some (Sum.inl (IntKind.i64.wrap (z.1 + 1), x2))))) else some (Sum.inr z.2))
def i_Disk_copied_l2 (fu : Nat) (p0 : DiskD) (z : Int × (List LooseD)) : Option ((Int × (List LooseD)) ⊕ ((List LooseD))) :=
  (if (decide (z.1 < (p0.loose.length : Int))) = true then (Option.bind (atI p0.loose z.1) fun x0 => (Option.bind (cloneI 1 fu x0.data) fun x1 => (Option.bind (appI 40 z.2 [(LooseD.mk x0.page x0.part x1)]) fun x2 => some (Sum.inl (IntKind.i64.wrap (z.1 + 1), x2))))) else some (Sum.inr z.2))
def m_i_Disk_copied (fu : Nat) (a0 : DiskD) : Option (DiskD) :=
  (Option.bind (iterO (i_Disk_copied_l1 fu a0) fu (0, [])) fun j1435 => (Option.bind (iterO (i_Disk_copied_l2 fu a0) fu (0, [])) fun j1440 => some (DiskD.mk j1435 j1440)))
def i_Disk_done_l1 (fu : Nat) (p0 : List LooseD) (z : Int × (List (List Int))) : Option ((Int × (List (List Int))) ⊕ ((List (List Int)))) :=
  (if (decide (z.1 < (p0.length : Int))) = true then (Option.bind (atI p0 z.1) fun x0 => (Option.bind (atI z.2 x0.page) fun x1 => (Option.bind (slcI x1 (IntKind.i64.wrap (16 * x0.part)) (x1.length : Int)) fun x2 => (Option.bind (atI z.2 x0.page) fun x3 => some (Sum.inl (IntKind.i64.wrap (z.1 + 1), setI z.2 x0.page (cpyI x3 (IntKind.i64.wrap (16 * x0.part)) (x1.length : Int) x0.data))))))) else some (Sum.inr z.2))
def m_i_Disk_done (fu : Nat) (a0 : DiskD) (a1 : List LooseD) : Option (DiskD) :=
  (Option.bind (m_i_Disk_copied fu a0) fun x1497 => (Option.bind (iterO (i_Disk_done_l1 fu a1) fu (0, x1497.pages)) fun j1503 => some (DiskD.mk j1503 [])))
def i_take_l1 (fu : Nat) (p0 : List Int) (z : Int × Int) : Option ((Int × Int) ⊕ (Int)) :=
  (if (decide (z.2 < (p0.length : Int))) = true then (Option.bind (atI p0 z.2) fun x0 => (if 0 ≤ 8 then some (Sum.inl (bitA .or .i64 (IntKind.i64.wrap (z.1 * 2 ^ (min (8 : Int).toNat (IntKind.i64).bits))) (IntKind.i64.wrap (x0)), IntKind.i64.wrap (z.2 + 1))) else none)) else some (Sum.inr z.1))
def m_i_take (fu : Nat) (a0 : List Int) : Option (Int) :=
  (Option.bind (iterO (i_take_l1 fu a0) fu (0, 0)) fun j1523 => some j1523)
def i_SumBytes_l1 (fu : Nat) (p0 : List Int) (z : Int × Int) : Option ((Int × Int) ⊕ (Int)) :=
  (if (decide (z.2 < (p0.length : Int))) = true then (Option.bind (atI p0 z.2) fun x0 => some (Sum.inl ((IntKind.i64.wrap ((IntKind.i64.wrap ((IntKind.i64.wrap (z.1 * 269)) + (IntKind.i64.wrap (x0)))) + 1)).tmod 65521, IntKind.i64.wrap (z.2 + 1)))) else some (Sum.inr z.1))
def m_i_SumBytes (fu : Nat) (a0 : List Int) : Option (Int) :=
  (Option.bind (iterO (i_SumBytes_l1 fu a0) fu (9, 0)) fun j1536 => some j1536)
def m_i_isLsn (fu : Nat) (a0 : Int) : Option (Bool) :=
  (Option.bind (m_i_within fu a0 0 1000000) fun x1656 => some x1656)
def m_i_isKey (fu : Nat) (a0 : Int) : Option (Bool) :=
  (Option.bind (m_i_within fu a0 0 31) fun x1671 => some x1671)
def m_i_isValue (fu : Nat) (a0 : Int) : Option (Bool) :=
  (Option.bind (m_i_within fu a0 0 9999) fun x1676 => some x1676)
def i_cellsFault_j1 (fu : Nat) (p0 : CellD) : Option (Bool) :=
  (Option.bind (m_i_isKey fu p0.key) fun x0 => (if (!x0) = true then some true else (Option.bind (m_i_isValue fu p0.value) fun x1 => some (!x1))))
def i_cellsFault_j2 (fu : Nat) (p0 : Int) (p1 : List CellD) (p2 : CellD) : Option (Bool) :=
  (if (decide (0 < p0)) = true then (Option.bind (atI p1 (IntKind.i64.wrap (p0 - 1))) fun x0 => some (decide (p2.key ≤ x0.key))) else some false)
def i_cellsFault_l1 (fu : Nat) (p0 : List CellD) (z : Int) : Option ((Int) ⊕ ((Unit) ⊕ (Int))) :=
  (if (decide (z < (p0.length : Int))) = true then (Option.bind (atI p0 z) fun x0 => (Option.bind (i_cellsFault_j1 fu x0) fun x1 => (if x1 = true then some (Sum.inr (Sum.inr 3)) else (Option.bind (i_cellsFault_j2 fu z p0 x0) fun x2 => (if x2 = true then some (Sum.inr (Sum.inr 1)) else some (Sum.inl (IntKind.i64.wrap (z + 1)))))))) else some (Sum.inr (Sum.inl ())))
def m_i_cellsFault (fu : Nat) (a0 : List CellD) : Option (Int) :=
  (Option.bind (iterO (i_cellsFault_l1 fu a0) fu 0) fun j1722 => (Sum.elim (fun x1723 => some 0) (fun x1724 => some x1724) j1722))
def i_PageFault_j1 (fu : Nat) (p0 : PageD) : Option (Bool) :=
  (Option.bind (m_i_within fu p0.id 0 7) fun x0 => (if (!x0) = true then some true else (Option.bind (m_i_isLsn fu p0.lsn) fun x1 => some (!x1))))
def m_i_PageFault (fu : Nat) (a0 : PageD) : Option (Int) :=
  (Option.bind (i_PageFault_j1 fu a0) fun j1729 => (if j1729 = true then some 3 else (if (decide (12 < (a0.cells.length : Int))) = true then some 2 else (Option.bind (m_i_cellsFault fu a0.cells) fun x1730 => some x1730))))
def i_Page_pack_l1 (fu : Nat) (p0 : PageD) (z : Int × (List Int)) : Option ((Int × (List Int)) ⊕ ((List Int))) :=
  (if (decide (0 ≤ z.1)) = true then (if 0 ≤ IntKind.i64.wrap (8 * z.1) then (Option.bind (appI 1 z.2 [IntKind.u8.wrap (p0.id.fdiv (2 ^ (min (IntKind.i64.wrap (8 * z.1)).toNat (IntKind.i64).bits)))]) fun x0 => some (Sum.inl (IntKind.i64.wrap (z.1 - 1), x0))) else none) else some (Sum.inr z.2))
def i_Page_pack_l2 (fu : Nat) (p0 : PageD) (z : Int × (List Int)) : Option ((Int × (List Int)) ⊕ ((List Int))) :=
  (if (decide (0 ≤ z.1)) = true then (if 0 ≤ IntKind.i64.wrap (8 * z.1) then (Option.bind (appI 1 z.2 [IntKind.u8.wrap (p0.lsn.fdiv (2 ^ (min (IntKind.i64.wrap (8 * z.1)).toNat (IntKind.i64).bits)))]) fun x0 => some (Sum.inl (IntKind.i64.wrap (z.1 - 1), x0))) else none) else some (Sum.inr z.2))
def i_Page_pack_l3 (fu : Nat) (p0 : PageD) (z : Int × (List Int)) : Option ((Int × (List Int)) ⊕ ((List Int))) :=
  (if (decide (0 ≤ z.1)) = true then (if 0 ≤ IntKind.i64.wrap (8 * z.1) then (Option.bind (appI 1 z.2 [IntKind.u8.wrap ((p0.cells.length : Int).fdiv (2 ^ (min (IntKind.i64.wrap (8 * z.1)).toNat (IntKind.i64).bits)))]) fun x0 => some (Sum.inl (IntKind.i64.wrap (z.1 - 1), x0))) else none) else some (Sum.inr z.2))
def i_Page_pack_l4 (fu : Nat) (p0 : CellD) (z : Int × (List Int)) : Option ((Int × (List Int)) ⊕ ((List Int))) :=
  (if (decide (0 ≤ z.1)) = true then (if 0 ≤ IntKind.i64.wrap (8 * z.1) then (Option.bind (appI 1 z.2 [IntKind.u8.wrap (p0.key.fdiv (2 ^ (min (IntKind.i64.wrap (8 * z.1)).toNat (IntKind.i64).bits)))]) fun x0 => some (Sum.inl (IntKind.i64.wrap (z.1 - 1), x0))) else none) else some (Sum.inr z.2))
def i_Page_pack_l5 (fu : Nat) (p0 : CellD) (z : Int × (List Int)) : Option ((Int × (List Int)) ⊕ ((List Int))) :=
  (if (decide (0 ≤ z.1)) = true then (if 0 ≤ IntKind.i64.wrap (8 * z.1) then (Option.bind (appI 1 z.2 [IntKind.u8.wrap (p0.value.fdiv (2 ^ (min (IntKind.i64.wrap (8 * z.1)).toNat (IntKind.i64).bits)))]) fun x0 => some (Sum.inl (IntKind.i64.wrap (z.1 - 1), x0))) else none) else some (Sum.inr z.2))
def i_Page_pack_l6 (fu : Nat) (p0 : PageD) (z : Int × (List Int)) : Option ((Int × (List Int)) ⊕ ((List Int))) :=
  (if (decide (z.1 < (p0.cells.length : Int))) = true then (Option.bind (atI p0.cells z.1) fun x0 => (Option.bind (iterO (i_Page_pack_l4 fu x0) fu (IntKind.i64.wrap (1 - 1), z.2)) fun x1 => (Option.bind (iterO (i_Page_pack_l5 fu x0) fu (IntKind.i64.wrap (2 - 1), x1)) fun x2 => some (Sum.inl (IntKind.i64.wrap (z.1 + 1), x2))))) else some (Sum.inr z.2))
def i_Page_pack_l7 (fu : Nat) (p0 : Int) (z : Int × (List Int)) : Option ((Int × (List Int)) ⊕ ((List Int))) :=
  (if (decide (0 ≤ z.1)) = true then (if 0 ≤ IntKind.i64.wrap (8 * z.1) then (Option.bind (appI 1 z.2 [IntKind.u8.wrap (p0.fdiv (2 ^ (min (IntKind.i64.wrap (8 * z.1)).toNat (IntKind.i64).bits)))]) fun x0 => some (Sum.inl (IntKind.i64.wrap (z.1 - 1), x0))) else none) else some (Sum.inr z.2))
def m_i_Page_pack (fu : Nat) (a0 : PageD) : Option ((List Int)) :=
  (Option.bind (iterO (i_Page_pack_l1 fu a0) fu (IntKind.i64.wrap (1 - 1), [])) fun j1899 => (Option.bind (iterO (i_Page_pack_l2 fu a0) fu (IntKind.i64.wrap (4 - 1), j1899)) fun j1902 => (Option.bind (iterO (i_Page_pack_l3 fu a0) fu (IntKind.i64.wrap (1 - 1), j1902)) fun j1905 => (Option.bind (iterO (i_Page_pack_l6 fu a0) fu (0, j1905)) fun j1914 => (Option.bind (appZ 1 j1914 (IntKind.i64.wrap (46 - (j1914.length : Int))) 0) fun x1915 => (Option.bind (m_i_SumBytes fu x1915) fun x1916 => (Option.bind (iterO (i_Page_pack_l7 fu x1916) fu (IntKind.i64.wrap (2 - 1), x1915)) fun j1919 => some j1919)))))))
def i_UnpackPage_l1 (fu : Nat) (p0 : Int) (p1 : List Int) (z : Int × Int × Int × Int × (List CellD)) : Option ((Int × Int × Int × Int × (List CellD)) ⊕ ((Int × Int × Int × (List CellD)) ⊕ (Int × Int × Int × (List CellD)))) :=
  (if (decide (z.1 < (if 13 < IntKind.i64.wrap (p0) then 13 else IntKind.i64.wrap (p0)))) = true then (if (decide (46 < IntKind.i64.wrap ((IntKind.i64.wrap (6 + (IntKind.i64.wrap (3 * z.1)))) + 3))) = true then some (Sum.inr (Sum.inr (5, 0, 0, z.2.2.2.2))) else (Option.bind (slcI p1 (IntKind.i64.wrap (6 + (IntKind.i64.wrap (3 * z.1)))) (IntKind.i64.wrap ((IntKind.i64.wrap (6 + (IntKind.i64.wrap (3 * z.1)))) + 1))) fun x0 => (Option.bind (slcI p1 (IntKind.i64.wrap ((IntKind.i64.wrap (6 + (IntKind.i64.wrap (3 * z.1)))) + 1)) (IntKind.i64.wrap ((IntKind.i64.wrap (6 + (IntKind.i64.wrap (3 * z.1)))) + 3))) fun x1 => (Option.bind (m_i_take fu x0) fun x2 => (Option.bind (m_i_take fu x1) fun x3 => (Option.bind (appI 16 z.2.2.2.2 [(CellD.mk x2 x3)]) fun x4 => some (Sum.inl (IntKind.i64.wrap (z.1 + 1), z.2.1, z.2.2.1, z.2.2.2.1, x4)))))))) else some (Sum.inr (Sum.inl (z.2.1, z.2.2.1, z.2.2.2.1, z.2.2.2.2))))
def i_UnpackPage_l2 (fu : Nat) (p0 : (List Int)) (p1 : List Int) (z : Int) : Option ((Int) ⊕ ((Unit) ⊕ (Bool))) :=
  (if (decide (z < (p0.length : Int))) = true then (Option.bind (atI p0 z) fun x0 => (Option.bind (atI p1 z) fun x1 => (if (decide (x0 ≠ x1)) = true then some (Sum.inr (Sum.inr false)) else some (Sum.inl (IntKind.i64.wrap (z + 1)))))) else some (Sum.inr (Sum.inl ())))
def i_UnpackPage_j1 (fu : Nat) (p0 : (List Int)) (p1 : List Int) : Option (Bool) :=
  (if (decide ((p0.length : Int) ≠ (p1.length : Int))) = true then some false else (Option.bind (iterO (i_UnpackPage_l2 fu p0 p1) fu 0) fun x0 => (Sum.elim (fun x1 => some true) (fun x2 => some x2) x0)))
def i_UnpackPage_j2 (fu : Nat) (p0 : Int) (p1 : Int) (p2 : Int × Int × Int × (List CellD)) (p3 : List Int) : Option (Bool) :=
  (Option.bind (m_i_PageFault fu (PageD.mk p0 p1 p2.2.2.2)) fun x0 => (if (decide (x0 ≠ 0)) = true then some true else (Option.bind (m_i_Page_pack fu (PageD.mk p0 p1 p2.2.2.2)) fun x1 => (Option.bind (i_UnpackPage_j1 fu x1 p3) fun x2 => some (!x2)))))
def m_i_UnpackPage (fu : Nat) (a0 : List Int) : Option (PageResultD) :=
  (if (decide ((a0.length : Int) ≠ 48)) = true then some (PageResultD.mk 1 (PageD.mk 0 0 [])) else (Option.bind (slcI a0 46 (a0.length : Int)) fun x1983 => (Option.bind (slcI a0 0 46) fun x1984 => (Option.bind (m_i_take fu x1983) fun x1985 => (Option.bind (m_i_SumBytes fu x1984) fun x1986 => (if (decide (x1985 ≠ x1986)) = true then some (PageResultD.mk 6 (PageD.mk 0 0 [])) else (Option.bind (slcI a0 0 1) fun x1987 => (Option.bind (slcI a0 1 5) fun x1988 => (Option.bind (m_i_take fu x1987) fun x1989 => (Option.bind (m_i_take fu x1988) fun x1990 => (Option.bind (atI a0 5) fun x1991 => (Option.bind (iterO (i_UnpackPage_l1 fu x1991 a0) fu (0, 0, 0, 0, [])) fun j1998 => (Sum.elim (fun x1999 => (Option.bind (i_UnpackPage_j2 fu x1989 x1990 x1999 a0) fun j2010 => (if j2010 = true then some (PageResultD.mk 5 (PageD.mk 0 0 [])) else some (PageResultD.mk 0 (PageD.mk x1989 x1990 x1999.2.2.2))))) (fun x2000 => some (PageResultD.mk x2000.1 (PageD.mk x2000.2.1 x2000.2.2.1 []))) j1998)))))))))))))
def m_i_Disk_read (fu : Nat) (a0 : DiskD) (a1 : Int) : Option (PageResultD) :=
  (Option.bind (atI a0.pages a1) fun x2016 => (Option.bind (m_i_UnpackPage fu x2016) fun x2017 => (Option.bind ((if (decide (x2017.code = 0)) = true then some (decide (x2017.page.id ≠ a1)) else some false)) fun j2018 => (if j2018 = true then some (PageResultD.mk 1 (PageD.mk 0 0 [])) else some x2017))))
def i_Disk_images_j1 (fu : Nat) (p0 : Bool × Int × (List Int)) (p1 : LooseD) (p2 : Int) : Option (Bool) :=
  (if p0.1 = true then (if (decide (p1.page = p2)) = true then some (decide (p1.part = p0.2.1)) else some false) else some false)
def i_Disk_images_l1 (fu : Nat) (p0 : List LooseD) (p1 : Int) (z : Bool × Int × (List Int)) : Option ((Bool × Int × (List Int)) ⊕ (Bool × (List Int))) :=
  (if (decide (z.2.1 < (p0.length : Int))) = true then (Option.bind (atI p0 z.2.1) fun x0 => (Option.bind (i_Disk_images_j1 fu z x0 p1) fun x1 => (Option.bind (appI 1 z.2.2 x0.data) fun x2 => some (Sum.inl (x1, IntKind.i64.wrap (z.2.1 + 1), x2))))) else some (Sum.inr (z.1, z.2.2)))
def i_Disk_images_j2 (fu : Nat) (p0 : DiskD) (p1 : Int × (List (List Int))) (p2 : Int) : Option ((List (List Int))) :=
  (Option.bind (slcI p0.loose p1.1 (IntKind.i64.wrap (p1.1 + 3))) fun x0 => (Option.bind (iterO (i_Disk_images_l1 fu x0 p2) fu (true, 0, [])) fun x1 => (if x1.1 = true then (Option.bind (appI 24 p1.2 [x1.2]) fun x2 => some x2) else some p1.2)))
def i_Disk_images_l2 (fu : Nat) (p0 : DiskD) (p1 : Int) (z : Int × (List (List Int))) : Option ((Int × (List (List Int))) ⊕ ((List (List Int)))) :=
  (if (decide (IntKind.i64.wrap (z.1 + 2) < (p0.loose.length : Int))) = true then (Option.bind (i_Disk_images_j2 fu p0 z p1) fun x0 => some (Sum.inl (IntKind.i64.wrap (z.1 + 1), x0))) else some (Sum.inr z.2))
def m_i_Disk_images (fu : Nat) (a0 : DiskD) (a1 : Int) : Option ((List (List Int))) :=
  (Option.bind (atI a0.pages a1) fun x2187 => (Option.bind (cloneI 1 fu x2187) fun x2188 => (Option.bind (iterO (i_Disk_images_l2 fu a0 a1) fu (0, [x2188])) fun j2198 => some j2198)))
def i_ReadsWhole_j1 (fu : Nat) (p0 : DiskD) (p1 : DiskD) : Option (Bool) :=
  (Option.bind (m_i_DiskFault fu p0) fun x0 => (if (decide (x0 ≠ 0)) = true then some true else (Option.bind (m_i_DiskFault fu p1) fun x1 => (if (decide (x1 ≠ 0)) = true then some true else some (decide ((p0.pages.length : Int) ≠ (p1.pages.length : Int)))))))
def i_ReadsWhole_l1 (fu : Nat) (p0 : List Int) (p1 : List Int) (z : Int) : Option ((Int) ⊕ ((Unit) ⊕ (Bool))) :=
  (if (decide (z < (p0.length : Int))) = true then (Option.bind (atI p0 z) fun x0 => (Option.bind (atI p1 z) fun x1 => (if (decide (x0 ≠ x1)) = true then some (Sum.inr (Sum.inr false)) else some (Sum.inl (IntKind.i64.wrap (z + 1)))))) else some (Sum.inr (Sum.inl ())))
def i_ReadsWhole_j2 (fu : Nat) (p0 : List Int) (p1 : List Int) : Option (Bool) :=
  (if (decide ((p0.length : Int) ≠ (p1.length : Int))) = true then some false else (Option.bind (iterO (i_ReadsWhole_l1 fu p0 p1) fu 0) fun x0 => (Sum.elim (fun x1 => some true) (fun x2 => some x2) x0)))
def i_ReadsWhole_l2 (fu : Nat) (p0 : (List (List Int))) (p1 : DiskD) (p2 : Int) (z : Int) : Option ((Int) ⊕ ((Unit) ⊕ (Int))) :=
  (if (decide (z < (p0.length : Int))) = true then (Option.bind (atI p0 z) fun x0 => (Option.bind (atI p1.pages p2) fun x1 => (Option.bind (i_ReadsWhole_j2 fu x0 x1) fun x2 => (if x2 = true then some (Sum.inr (Sum.inr z)) else some (Sum.inl (IntKind.i64.wrap (z + 1))))))) else some (Sum.inr (Sum.inl ())))
def i_ReadsWhole_j3 (fu : Nat) (p0 : (List (List Int))) (p1 : DiskD) (p2 : Int) : Option (Int) :=
  (Option.bind (iterO (i_ReadsWhole_l2 fu p0 p1 p2) fu 0) fun x0 => (Sum.elim (fun x1 => some (-1)) (fun x2 => some x2) x0))
def i_ReadsWhole_j4 (fu : Nat) (p0 : DiskD) (p1 : Int) (p2 : DiskD) : Option (Bool) :=
  (Option.bind (m_i_Disk_read fu p0 p1) fun x0 => (if (decide (x0.code = 0)) = true then (Option.bind (m_i_Disk_images fu p2 p1) fun x1 => (Option.bind (i_ReadsWhole_j3 fu x1 p0 p1) fun x2 => some (!(decide (0 ≤ x2))))) else some false))
def i_ReadsWhole_l3 (fu : Nat) (p0 : DiskD) (p1 : DiskD) (z : Int) : Option ((Int) ⊕ ((Unit) ⊕ (Bool))) :=
  (if (decide (z < (p0.pages.length : Int))) = true then (Option.bind (i_ReadsWhole_j4 fu p1 z p0) fun x0 => (if x0 = true then some (Sum.inr (Sum.inr false)) else some (Sum.inl (IntKind.i64.wrap (z + 1))))) else some (Sum.inr (Sum.inl ())))
def m_i_ReadsWhole (fu : Nat) (a0 : DiskD) (a1 : DiskD) : Option (Bool) :=
  (Option.bind (i_ReadsWhole_j1 fu a0 a1) fun j2444 => (if j2444 = true then some false else (Option.bind (m_i_Disk_done fu a1 a1.loose) fun x2445 => (Option.bind (iterO (i_ReadsWhole_l3 fu a0 x2445) fu 0) fun j2464 => (Sum.elim (fun x2465 => some true) (fun x2466 => some x2466) j2464)))))
def l_eqByteS_l1 (fu : Nat) (p0 : List Int) (p1 : List Int) (z : Int) : Option ((Int) ⊕ ((Unit) ⊕ (Bool))) :=
  (if (decide (z < (p0.length : Int))) = true then (Option.bind (atI p0 z) fun x0 => (Option.bind (atI p1 z) fun x1 => (if (decide (x0 ≠ x1)) = true then some (Sum.inr (Sum.inr false)) else some (Sum.inl (IntKind.i64.wrap (z + 1)))))) else some (Sum.inr (Sum.inl ())))
def m_l_eqByteS (fu : Nat) (a0 : List Int) (a1 : List Int) : Option (Bool) :=
  (if (decide ((a0.length : Int) ≠ (a1.length : Int))) = true then some false else (Option.bind (iterO (l_eqByteS_l1 fu a0 a1) fu 0) fun j2501 => (Sum.elim (fun x2502 => some true) (fun x2503 => some x2503) j2501)))
def l_eqByteSS_l1 (fu : Nat) (p0 : List (List Int)) (p1 : List (List Int)) (z : Int) : Option ((Int) ⊕ ((Unit) ⊕ (Bool))) :=
  (if (decide (z < (p0.length : Int))) = true then (Option.bind (atI p0 z) fun x0 => (Option.bind (atI p1 z) fun x1 => (Option.bind (m_l_eqByteS fu x0 x1) fun x2 => (if (!x2) = true then some (Sum.inr (Sum.inr false)) else some (Sum.inl (IntKind.i64.wrap (z + 1))))))) else some (Sum.inr (Sum.inl ())))
def m_l_eqByteSS (fu : Nat) (a0 : List (List Int)) (a1 : List (List Int)) : Option (Bool) :=
  (if (decide ((a0.length : Int) ≠ (a1.length : Int))) = true then some false else (Option.bind (iterO (l_eqByteSS_l1 fu a0 a1) fu 0) fun j2535 => (Sum.elim (fun x2536 => some true) (fun x2537 => some x2537) j2535)))
def m_l_eqLoose (fu : Nat) (a0 : LooseD) (a1 : LooseD) : Option (Bool) :=
  (if (decide (a0.page ≠ a1.page)) = true then some false else (if (decide (a0.part ≠ a1.part)) = true then some false else (Option.bind (m_l_eqByteS fu a0.data a1.data) fun x2550 => (if (!x2550) = true then some false else some true))))
def l_eqLooseS_l1 (fu : Nat) (p0 : List LooseD) (p1 : List LooseD) (z : Int) : Option ((Int) ⊕ ((Unit) ⊕ (Bool))) :=
  (if (decide (z < (p0.length : Int))) = true then (Option.bind (atI p0 z) fun x0 => (Option.bind (atI p1 z) fun x1 => (Option.bind (m_l_eqLoose fu x0 x1) fun x2 => (if (!x2) = true then some (Sum.inr (Sum.inr false)) else some (Sum.inl (IntKind.i64.wrap (z + 1))))))) else some (Sum.inr (Sum.inl ())))
def m_l_eqLooseS (fu : Nat) (a0 : List LooseD) (a1 : List LooseD) : Option (Bool) :=
  (if (decide ((a0.length : Int) ≠ (a1.length : Int))) = true then some false else (Option.bind (iterO (l_eqLooseS_l1 fu a0 a1) fu 0) fun j2582 => (Sum.elim (fun x2583 => some true) (fun x2584 => some x2584) j2582)))
def m_l_eqDisk (fu : Nat) (a0 : DiskD) (a1 : DiskD) : Option (Bool) :=
  (Option.bind (m_l_eqByteSS fu a0.pages a1.pages) fun x2588 => (if (!x2588) = true then some false else (Option.bind (m_l_eqLooseS fu a0.loose a1.loose) fun x2589 => (if (!x2589) = true then some false else some true))))
def m_l_FnExactReadsWhole (fu : Nat) (a0 : DiskD) (a1 : DiskD) : Option (Bool) :=
  (Option.bind (m_l_szDisk fu a0 1048576) fun x2609 => (if (decide (x2609 < 0)) = true then some true else (Option.bind (m_l_szDisk fu a1 x2609) fun x2610 => (if (decide (x2610 < 0)) = true then some true else (Option.bind (m_l_toDisk fu a0) fun x2611 => (Option.bind (m_l_toDisk fu a1) fun x2612 => (Option.bind (m_s_ReadsWhole fu x2611 x2612) fun x2613 => (Option.bind (m_l_toDisk fu a0) fun x2614 => (Option.bind (m_l_toDisk fu a1) fun x2615 => (Option.bind (m_i_ReadsWhole fu x2614 x2615) fun x2616 => (if (!(x2616 == x2613)) = true then some false else (Option.bind (m_l_toDisk fu a0) fun x2617 => (Option.bind (m_l_eqDisk fu x2614 x2617) fun x2618 => (if (!x2618) = true then some false else (Option.bind (m_l_toDisk fu a1) fun x2619 => (Option.bind (m_l_eqDisk fu x2615 x2619) fun x2620 => (if (!x2620) = true then some false else some true)))))))))))))))))
end
end Go.Proofs.Ytcngfjmfgeckmaa
end
namespace Go.Proofs.Ytcngfjmfgeckmaa
open Go
theorem explodeR_ex (k : RK) (x : k.den) : ∀ v, v ∈ explodeR k x → ∀ e t xs, v = .rd e t xs → e = false := by
  intro v hv e t xs he
  subst he
  cases k <;> simp only [explodeR, List.mem_cons, List.not_mem_nil, or_false, SV.rd.injEq, reduceCtorEq, false_or] at hv
  all_goals (first | exact hv.1 | (rcases hv with hv | hv <;> first | exact hv.1 | (rcases hv with hv | hv <;> first | exact hv.1 | (rcases hv with hv | hv <;> first | exact hv.1 | (rcases hv with hv | hv <;> first | exact hv.1 | (rcases hv with hv | hv <;> first | exact hv.1 | (rcases hv with hv | hv <;> exact hv.1)))))))
theorem explode_ex (t : PT) (x : t.den) : ∀ v, v ∈ explode t x → ∀ e t xs, v = .rd e t xs → e = false := by
  cases t with
  | rcd k => exact explodeR_ex k x
  | list t => intro v hv e t2 xs he; subst he; simp [explode] at hv; exact hv.1
  | int k => intro v hv e t2 xs he; subst he; simp [explode] at hv
  | bool => intro v hv e t2 xs he; subst he; simp [explode] at hv
  | str => intro v hv e t2 xs he; subst he; simp [explode] at hv
theorem explodeR_len (k : RK) (x : k.den) : (explodeR k x).length = k.w := by cases k <;> rfl
theorem explode_len (t : PT) (x : t.den) : (explode t x).length = t.w := by
  cases t with
  | rcd k => exact explodeR_len k x
  | _ => rfl
theorem RK.w_pos (k : RK) : 0 < k.w := by cases k <;> decide
theorem PT.w_pos (t : PT) : 0 < t.w := by
  cases t with
  | rcd k => exact k.w_pos
  | _ => exact Nat.one_pos
theorem nthS_get : ∀ (l : List SV) (n : Nat), nthS l n = l[n]?
  | [], n => by cases n <;> rfl
  | a :: l, 0 => rfl
  | a :: l, n + 1 => by simp [nthS, nthS_get l n]
def listAt (t : PT) (o : Nat) : Prop := ∀ x : t.den, ∃ t2 zs, nthS (explode t x) o = some (.rd false t2 zs)
inductive CK where
  | int (k : IntKind)
  | bool
  | str
  | list (t : PT)
def ckOf : SV → Option CK
  | .int k _ => some (.int k)
  | .bool _ => some .bool
  | .str _ => some .str
  | .rd false t _ => some (.list t)
  | _ => none
theorem explodeR_ck (k : RK) (x y : k.den) : (explodeR k x).map ckOf = (explodeR k y).map ckOf := by cases k <;> rfl
theorem explode_ck (t : PT) (x y : t.den) : (explode t x).map ckOf = (explode t y).map ckOf := by
  cases t with
  | rcd k => exact explodeR_ck k x y
  | _ => rfl
theorem explodeR_some (k : RK) (x : k.den) (i : Nat) : ((explodeR k x).map ckOf)[i]? ≠ some none := by
  intro h
  have := List.mem_of_getElem? h
  cases k <;> simp [explodeR, ckOf] at this
theorem explode_some (t : PT) (x : t.den) (i : Nat) : ((explode t x).map ckOf)[i]? ≠ some none := by
  cases t with
  | rcd k => exact explodeR_some k x i
  | _ => intro h; have := List.mem_of_getElem? h; simp [explode, ckOf] at this
theorem listAt_of {t : PT} {x : t.den} {o : Nat} {e : Bool} {t2 : PT} {ys : List t2.den} (h : nthS (explode t x) o = some (.rd e t2 ys)) : listAt t o := by
  intro y
  rw [nthS_get] at h
  have he : e = false := explode_ex t x _ (List.mem_of_getElem? h) e t2 ys rfl
  subst he
  have h1 : ((explode t x).map ckOf)[o]? = some (some (.list t2)) := by rw [List.getElem?_map, h]; rfl
  rw [explode_ck t x y, List.getElem?_map] at h1
  rw [nthS_get]
  cases hz : (explode t y)[o]? with
  | none => rw [hz] at h1; cases h1
  | some v =>
    rw [hz] at h1
    simp only [Option.map_some, Option.some.injEq] at h1
    unfold ckOf at h1
    split at h1 <;> simp only [Option.some.injEq, reduceCtorEq] at h1
    rename_i t3 zs
    exact ⟨t3, zs, rfl⟩
inductive LeV : SV → SV → Prop
  | refl (v : SV) : LeV v v
  | rd (e : Bool) (t : PT) (xs : List t.den) : LeV (.rd e t xs) (.rd false t xs)
  | nil (t : PT) : LeV .nil (.rd false t [])
inductive LeL : List SV → List SV → Prop
  | nil : LeL [] []
  | cons (v w : SV) (vs ws : List SV) (hv : LeV v w) (hl : LeL vs ws) : LeL (v :: vs) (w :: ws)
section
variable {α : Type} {x : α}
theorem tI_ok {k : IntKind} {f : Int → List SV → Option α} {l : List SV} (h : tI k f l = some x) : ∃ v r, l = .int k v :: r ∧ f v r = some x := by
  unfold tI at h
  split at h
  · rename_i k' v r
    cases hb : Nat.beq (kindNum k') (kindNum k) with
    | true => rw [hb] at h; rw [kindNum_inj (Nat.eq_of_beq_eq_true hb)]; exact ⟨v, r, rfl, h⟩
    | false => rw [hb] at h; cases h
  · cases h
theorem tB_ok {f : Bool → List SV → Option α} {l : List SV} (h : tB f l = some x) : ∃ v r, l = .bool v :: r ∧ f v r = some x := by
  unfold tB at h
  split at h
  · exact ⟨_, _, rfl, h⟩
  · cases h
theorem tS_ok {f : ByteArray → List SV → Option α} {l : List SV} (h : tS f l = some x) : ∃ v r, l = .str v :: r ∧ f v r = some x := by
  unfold tS at h
  split at h
  · exact ⟨_, _, rfl, h⟩
  · cases h
theorem castL_ok {t' t : PT} {xs : List t'.den} {ys : List t.den} (h : castL t' t xs = some ys) : ∃ e : t' = t, e ▸ xs = ys := by
  unfold castL at h
  split at h
  · rename_i e _; exact ⟨e, Option.some.inj h⟩
  · cases h
theorem tL_ok {t : PT} {f : List t.den → List SV → Option α} {l : List SV} (h : tL t f l = some x) : ∃ v xs r, l = v :: r ∧ LeV v (.rd false t xs) ∧ f xs r = some x := by
  unfold tL at h
  split at h
  · rename_i e t' xs r
    split at h
    · rename_i ys hy
      obtain ⟨rfl, rfl⟩ := castL_ok hy
      exact ⟨_, _, r, rfl, .rd e t' xs, h⟩
    · cases h
  · exact ⟨_, _, _, rfl, .nil t, h⟩
  · cases h
theorem tE_ok {a : α} {l : List SV} (h : tE a l = some x) : l = [] ∧ a = x := by
  unfold tE at h
  split at h
  · exact ⟨rfl, Option.some.inj h⟩
  · cases h
end
theorem implodeR_le {k : RK} {cs : List SV} {x : k.den} (h : implodeR k cs = some x) : LeL cs (explodeR k x) := by
  cases k <;> simp only [implodeR] at h <;>
  repeat (first
    | (have h1 := tE_ok h; clear h; obtain ⟨rfl, rfl⟩ := h1)
    | (have h1 := tI_ok h; clear h; obtain ⟨_, _, rfl, h⟩ := h1)
    | (have h1 := tB_ok h; clear h; obtain ⟨_, _, rfl, h⟩ := h1)
    | (have h1 := tS_ok h; clear h; obtain ⟨_, _, rfl, h⟩ := h1)
    | (have h1 := tL_ok h; clear h; obtain ⟨_, _, _, rfl, _, h⟩ := h1))
  all_goals simp only [explodeR]
  all_goals repeat (first | exact LeL.nil | (refine LeL.cons _ _ _ _ (by first | assumption | exact LeV.refl _) ?_))
theorem implode_le {t : PT} {cs : List SV} {x : t.den} (h : implode t cs = some x) : LeL cs (explode t x) := by
  cases t with
  | rcd k => exact implodeR_le h
  | int k => have h1 := tI_ok h; clear h; obtain ⟨v, r, rfl, h⟩ := h1; obtain ⟨rfl, rfl⟩ := tE_ok h; exact .cons _ _ _ _ (.refl _) .nil
  | bool => have h1 := tB_ok h; clear h; obtain ⟨v, r, rfl, h⟩ := h1; obtain ⟨rfl, rfl⟩ := tE_ok h; exact .cons _ _ _ _ (.refl _) .nil
  | str => have h1 := tS_ok h; clear h; obtain ⟨v, r, rfl, h⟩ := h1; obtain ⟨rfl, rfl⟩ := tE_ok h; exact .cons _ _ _ _ (.refl _) .nil
  | list t => have h1 := tL_ok h; clear h; obtain ⟨v, xs, r, rfl, hv, h⟩ := h1; obtain ⟨rfl, rfl⟩ := tE_ok h; exact .cons _ _ _ _ hv .nil
theorem LeL.len {vs ws : List SV} (h : LeL vs ws) : ws.length = vs.length := by induction h <;> simp_all
end Go.Proofs.Ytcngfjmfgeckmaa
namespace Go.Proofs.Ytcngfjmfgeckmaa
open Go
def eOk (t : PT) (e : AV) : Prop := e.good = true ∧ (t.scal = true → e.one = true)
mutual
inductive Fz (F : Heap) : SV → AV → Prop
  | int (k : IntKind) (x : Int) : Fz F (.int k x) (.int k x)
  | bool (b : Bool) : Fz F (.bool b) (.bool b)
  | str (s : ByteArray) : Fz F (.str s) (.str s)
  | nil : Fz F .nil .nils
  | rdn (e : Bool) (t : PT) : Fz F (.rd e t []) .nils
  | ro (e ex : Bool) (t : PT) (xs : List t.den) (l : List AV) (he : e = true → ex = true) (hc : FzL F t xs l) : Fz F (.rd e t xs) (.ro t.w ex l)
  | sl (e : Bool) (t : PT) (xs : List t.den) (id off lo : Nat) (ex : Bool) (b : List AV) (hb : F id = some b) (hle : off + lo ≤ b.length) (hlo : xs.length ≤ lo) (he : e = true → ex = true ∧ lo = xs.length)
      (hc : FzL F t xs ((b.drop off).take xs.length)) : Fz F (.rd e t xs) (.sl t.w id off xs.length lo ex)
inductive FzL (F : Heap) : (t : PT) → List t.den → List AV → Prop
  | nil (t : PT) : FzL F t [] []
  | cons (t : PT) (x : t.den) (xs : List t.den) (e : AV) (es : List AV) (hg : eOk t e) (hc : FzC F (explode t x) e.cells) (hl : FzL F t xs es) : FzL F t (x :: xs) (e :: es)
inductive FzC (F : Heap) : List SV → List AV → Prop
  | nil : FzC F [] []
  | cons (v : SV) (vs : List SV) (a : AV) (asl : List AV) (hv : Fz F v a) (hl : FzC F vs asl) : FzC F (v :: vs) (a :: asl)
end
abbrev Ids0 := Nat → Prop
mutual
inductive OS (F h : Heap) : SV → AV → Ids0 → Prop
  | int (k : IntKind) (x : Int) (I : Ids0) (hI : ∀ i, ¬ I i) : OS F h (.int k x) (.int k x) I
  | bool (b : Bool) (I : Ids0) (hI : ∀ i, ¬ I i) : OS F h (.bool b) (.bool b) I
  | str (s : ByteArray) (I : Ids0) (hI : ∀ i, ¬ I i) : OS F h (.str s) (.str s) I
  | nil (I : Ids0) (hI : ∀ i, ¬ I i) : OS F h .nil .nils I
  | rdn (e : Bool) (t : PT) (I : Ids0) (hI : ∀ i, ¬ I i) : OS F h (.rd e t []) .nils I
  | emp (e : Bool) (t : PT) (I : Ids0) (hI : ∀ i, ¬ I i) : OS F h (.rd e t []) (.ro t.w true []) I
  | sl (e : Bool) (t : PT) (xs : List t.den) (id off lo : Nat) (ex : Bool) (b : List AV) (I J : Ids0) (hb : h id = some b) (hle : off + lo ≤ b.length) (hlo : xs.length ≤ lo)
      (hc : OE F h t xs ((b.drop off).take xs.length) J) (hid : ¬ J id) (hI : ∀ i, I i ↔ i = id ∨ J i) : OS F h (.rd e t xs) (.sl t.w id off xs.length lo ex) I
inductive OE (F h : Heap) : (t : PT) → List t.den → List AV → Ids0 → Prop
  | nil (t : PT) (I : Ids0) (hI : ∀ i, ¬ I i) : OE F h t [] [] I
  | cons (t : PT) (x : t.den) (xs : List t.den) (e : AV) (es : List AV) (I J K : Ids0) (hg : eOk t e) (hc : OC F h (explode t x) e.cells J) (hl : OE F h t xs es K) (hd : ∀ i, J i → ¬ K i) (hI : ∀ i, I i ↔ J i ∨ K i) : OE F h t (x :: xs) (e :: es) I
inductive OC (F h : Heap) : List SV → List AV → Ids0 → Prop
  | nil (I : Ids0) (hI : ∀ i, ¬ I i) : OC F h [] [] I
  | cons (v : SV) (vs : List SV) (a : AV) (asl : List AV) (I J K : Ids0) (hv : OS F h v a J) (hl : OC F h vs asl K) (hd : ∀ i, J i → ¬ K i) (hI : ∀ i, I i ↔ J i ∨ K i) : OC F h (v :: vs) (a :: asl) I
end
section
variable {F F' h h' : Heap}
mutual
theorem Fz.mono (hs : F.Sub F') : ∀ {v : SV} {a : AV}, Fz F v a → Fz F' v a
  | _, _, .int k x => .int k x
  | _, _, .bool b => .bool b
  | _, _, .str s => .str s
  | _, _, .nil => .nil
  | _, _, .rdn e t => .rdn e t
  | _, _, .ro e ex t xs l he hc => .ro e ex t xs l he (FzL.mono hs hc)
  | _, _, .sl e t xs id off lo ex b hb hle hlo he hc => .sl e t xs id off lo ex b (hs _ _ hb) hle hlo he (FzL.mono hs hc)
theorem FzL.mono (hs : F.Sub F') : ∀ {t : PT} {xs : List t.den} {es : List AV}, FzL F t xs es → FzL F' t xs es
  | _, _, _, .nil t => .nil t
  | _, _, _, .cons t x xs e es hg hc hl => .cons t x xs e es hg (FzC.mono hs hc) (FzL.mono hs hl)
theorem FzC.mono (hs : F.Sub F') : ∀ {vs : List SV} {asl : List AV}, FzC F vs asl → FzC F' vs asl
  | _, _, .nil => .nil
  | _, _, .cons v vs a asl hv hl => .cons v vs a asl (Fz.mono hs hv) (FzC.mono hs hl)
end
theorem Fz.one {v : SV} {a : AV} (hv : Fz F v a) : a.one = true := by cases hv <;> rfl
theorem Fz.cells {v : SV} {a : AV} (hv : Fz F v a) : a.cells = [a] := by cases hv <;> rfl
theorem Fz.good {v : SV} {a : AV} (hv : Fz F v a) : a.good = true := by cases hv <;> rfl
theorem OS.one {v : SV} {a : AV} {I : Ids0} (hv : OS F h v a I) : a.one = true := by cases hv <;> rfl
theorem FzL.len : ∀ {t : PT} {xs : List t.den} {es : List AV}, FzL F t xs es → es.length = xs.length
  | _, _, _, .nil t => rfl
  | _, _, _, .cons t x xs e es hg hc hl => by simp [FzL.len hl]
theorem FzC.len : ∀ {vs : List SV} {asl : List AV}, FzC F vs asl → asl.length = vs.length
  | _, _, .nil => rfl
  | _, _, .cons v vs a asl hv hl => by simp [FzC.len hl]
theorem OE.len : ∀ {t : PT} {xs : List t.den} {es : List AV} {I : Ids0}, OE F h t xs es I → es.length = xs.length
  | _, _, _, _, .nil t I hI => rfl
  | _, _, _, _, .cons t x xs e es I J K hg hc hl hd hI => by simp [OE.len hl]
theorem OC.len : ∀ {vs : List SV} {asl : List AV} {I : Ids0}, OC F h vs asl I → asl.length = vs.length
  | _, _, _, .nil I hI => rfl
  | _, _, _, .cons v vs a asl I J K hv hl hd hI => by simp [OC.len hl]
mutual
theorem OS.keep (hs : F.Sub F') : ∀ {v : SV} {a : AV} {I : Ids0}, OS F h v a I → (∀ i, I i → h' i = h i) → OS F' h' v a I
  | _, _, _, .int k x I hI, _ => .int k x I hI
  | _, _, _, .bool b I hI, _ => .bool b I hI
  | _, _, _, .str s I hI, _ => .str s I hI
  | _, _, _, .nil I hI, _ => .nil I hI
  | _, _, _, .rdn e t I hI, _ => .rdn e t I hI
  | _, _, _, .emp e t I hI, _ => .emp e t I hI
  | _, _, _, .sl e t xs id off lo ex b I J hb hle hlo hc hid hI, hk => .sl e t xs id off lo ex b I J ((hk id ((hI id).2 (.inl rfl))).trans hb) hle hlo (OE.keep hs hc fun i hi => hk i ((hI i).2 (.inr hi))) hid hI
theorem OE.keep (hs : F.Sub F') : ∀ {t : PT} {xs : List t.den} {es : List AV} {I : Ids0}, OE F h t xs es I → (∀ i, I i → h' i = h i) → OE F' h' t xs es I
  | _, _, _, _, .nil t I hI, _ => .nil t I hI
  | _, _, _, _, .cons t x xs e es I J K hg hc hl hd hI, hk => .cons t x xs e es I J K hg (OC.keep hs hc fun i hi => hk i ((hI i).2 (.inl hi))) (OE.keep hs hl fun i hi => hk i ((hI i).2 (.inr hi))) hd hI
theorem OC.keep (hs : F.Sub F') : ∀ {vs : List SV} {asl : List AV} {I : Ids0}, OC F h vs asl I → (∀ i, I i → h' i = h i) → OC F' h' vs asl I
  | _, _, _, .nil I hI, _ => .nil I hI
  | _, _, _, .cons v vs a asl I J K hv hl hd hI, hk => .cons v vs a asl I J K (OS.keep hs hv fun i hi => hk i ((hI i).2 (.inl hi))) (OC.keep hs hl fun i hi => hk i ((hI i).2 (.inr hi))) hd hI
end
mutual
theorem OS.frz (hs : F.Sub F') : ∀ {v : SV} {a : AV} {I : Ids0}, OS F h v a I → (∀ i b, I i → h i = some b → F' i = some b) → (∀ e t xs, v = .rd e t xs → e = false) → Fz F' v a
  | _, _, _, .int k x I hI, _, _ => .int k x
  | _, _, _, .bool b I hI, _, _ => .bool b
  | _, _, _, .str s I hI, _, _ => .str s
  | _, _, _, .nil I hI, _, _ => .nil
  | _, _, _, .rdn e t I hI, _, _ => .rdn e t
  | _, _, _, .emp e t I hI, _, he => .ro e true t [] [] (fun _ => rfl) (.nil t)
  | _, _, _, .sl e t xs id off lo ex b I J hb hle hlo hc hid hI, hk, he => .sl e t xs id off lo ex b (hk id b ((hI id).2 (.inl rfl)) hb) hle hlo (fun hq => by rw [he e t xs rfl] at hq; cases hq) (OE.frz hs hc fun i b hi hb => hk i b ((hI i).2 (.inr hi)) hb)
theorem OE.frz (hs : F.Sub F') : ∀ {t : PT} {xs : List t.den} {es : List AV} {I : Ids0}, OE F h t xs es I → (∀ i b, I i → h i = some b → F' i = some b) → FzL F' t xs es
  | _, _, _, _, .nil t I hI, _ => .nil t
  | _, _, _, _, .cons t x xs e es I J K hg hc hl hd hI, hk => .cons t x xs e es hg (OC.frz hs hc (fun i b hi hb => hk i b ((hI i).2 (.inl hi)) hb) (explode_ex t x)) (OE.frz hs hl fun i b hi hb => hk i b ((hI i).2 (.inr hi)) hb)
theorem OC.frz (hs : F.Sub F') : ∀ {vs : List SV} {asl : List AV} {I : Ids0}, OC F h vs asl I → (∀ i b, I i → h i = some b → F' i = some b) → (∀ v, v ∈ vs → ∀ e t xs, v = .rd e t xs → e = false) → FzC F' vs asl
  | _, _, _, .nil I hI, _, _ => .nil
  | _, _, _, .cons v vs a asl I J K hv hl hd hI, hk, he => .cons v vs a asl (OS.frz hs hv (fun i b hi hb => hk i b ((hI i).2 (.inl hi)) hb) (he v (by simp))) (OC.frz hs hl (fun i b hi hb => hk i b ((hI i).2 (.inr hi)) hb) fun w hw => he w (by simp [hw]))
end
end
end Go.Proofs.Ytcngfjmfgeckmaa
namespace Go.Proofs.Ytcngfjmfgeckmaa
open Go
section
variable {F F' h h' : Heap}
theorem OS.eqv {v : SV} {a : AV} {I I' : Ids0} (hv : OS F h v a I) (hq : ∀ i, I i ↔ I' i) : OS F h v a I' := by
  obtain rfl : I = I' := funext fun i => propext (hq i)
  exact hv
theorem OC.eqv {vs : List SV} {asl : List AV} {I I' : Ids0} (hv : OC F h vs asl I) (hq : ∀ i, I i ↔ I' i) : OC F h vs asl I' := by
  obtain rfl : I = I' := funext fun i => propext (hq i)
  exact hv
theorem OE.eqv {t : PT} {xs : List t.den} {es : List AV} {I I' : Ids0} (hv : OE F h t xs es I) (hq : ∀ i, I i ↔ I' i) : OE F h t xs es I' := by
  obtain rfl : I = I' := funext fun i => propext (hq i)
  exact hv
structure Vec (F h : Heap) (vs : List SV) (asl : List AV) (J : Nat → Ids0) : Prop where
  len : asl.length = vs.length
  cell : ∀ (o : Nat) (v : SV) (a : AV), vs[o]? = some v → asl[o]? = some a → OS F h v a (J o)
  dis : ∀ o o' i, J o i → J o' i → o = o'
  sup : ∀ o i, J o i → o < vs.length
theorem OC.vec : ∀ {vs : List SV} {asl : List AV} {I : Ids0}, OC F h vs asl I → ∃ J, Vec F h vs asl J ∧ ∀ i, I i ↔ ∃ o, J o i
  | _, _, _, .nil I hI => ⟨fun _ _ => False, ⟨rfl, fun o v a hv => by simp at hv, fun _ _ _ hj => hj.elim, fun _ _ hj => hj.elim⟩, fun i => ⟨fun hi => (hI i hi).elim, fun ⟨_, hj⟩ => hj.elim⟩⟩
  | _, _, _, .cons v vs a asl I J K hv hl hd hI => by
    obtain ⟨J', V, hJ⟩ := OC.vec hl
    refine ⟨fun o => match o with | 0 => J | o + 1 => J' o, ⟨by simp [V.len], fun o v' a' h1 h2 => ?_, fun o o' i h1 h2 => ?_, fun o i h1 => ?_⟩, fun i => ⟨fun hi => ?_, fun ⟨o, ho⟩ => ?_⟩⟩
    · cases o with
      | zero => simp at h1 h2; subst h1; subst h2; exact hv
      | succ o => exact V.cell o v' a' (by simpa using h1) (by simpa using h2)
    · cases o with
      | zero => cases o' with
        | zero => rfl
        | succ o' => exact (hd i h1 ((hJ i).2 ⟨_, h2⟩)).elim
      | succ o => cases o' with
        | zero => exact (hd i h2 ((hJ i).2 ⟨_, h1⟩)).elim
        | succ o' => rw [V.dis o o' i h1 h2]
    · cases o with
      | zero => simp
      | succ o => have := V.sup o i h1; simpa using this
    · rcases (hI i).1 hi with h1 | h1
      · exact ⟨0, h1⟩
      · obtain ⟨o, ho⟩ := (hJ i).1 h1
        exact ⟨o + 1, ho⟩
    · cases o with
      | zero => exact (hI i).2 (.inl ho)
      | succ o => exact (hI i).2 (.inr ((hJ i).2 ⟨o, ho⟩))
theorem Vec.tail {v : SV} {vs : List SV} {a : AV} {asl : List AV} {J : Nat → Ids0} (V : Vec F h (v :: vs) (a :: asl) J) : Vec F h vs asl (fun o => J (o + 1)) where
  len := by simpa using V.len
  cell := fun o w b h1 h2 => V.cell (o + 1) w b (by simpa using h1) (by simpa using h2)
  dis := fun o o' i h1 h2 => by have := V.dis _ _ i h1 h2; omega
  sup := fun o i h1 => by have := V.sup _ i h1; simpa using this
theorem Vec.oc : ∀ {vs : List SV} {asl : List AV} {J : Nat → Ids0}, Vec F h vs asl J → OC F h vs asl (fun i => ∃ o, J o i)
  | [], [], J, V => .nil _ fun i ⟨o, ho⟩ => absurd (V.sup o i ho) (Nat.not_lt_zero _)
  | [], _ :: _, J, V => absurd V.len (by simp)
  | _ :: _, [], J, V => absurd V.len (by simp)
  | v :: vs, a :: asl, J, V => .cons v vs a asl _ (J 0) (fun i => ∃ o, J (o + 1) i) (V.cell 0 v a rfl rfl) (Vec.oc V.tail) (fun i h1 ⟨o, h2⟩ => by have := V.dis _ _ i h1 h2; omega)
    fun i => ⟨fun ⟨o, ho⟩ => by cases o with | zero => exact .inl ho | succ o => exact .inr ⟨o, ho⟩, fun hq => hq.elim (fun h1 => ⟨0, h1⟩) fun ⟨o, ho⟩ => ⟨o + 1, ho⟩⟩
structure Mat (F h : Heap) (t : PT) (xs : List t.den) (es : List AV) (J : Nat → Nat → Ids0) (ex : Nat → Nat → Prop) : Prop where
  len : es.length = xs.length
  el : ∀ (j : Nat) (e : AV), es[j]? = some e → eOk t e ∧ e.cells.length = t.w ∧ ∀ u, u ∈ e.cells → u.one = true
  cell : ∀ (j : Nat) (x : t.den) (e : AV) (o : Nat) (v : SV) (a : AV), xs[j]? = some x → es[j]? = some e → (explode t x)[o]? = some v → e.cells[o]? = some a → ¬ ex j o → OS F h v a (J j o)
  dis : ∀ j o j' o' i, J j o i → J j' o' i → j = j' ∧ o = o'
  sup : ∀ j o i, J j o i → j < xs.length ∧ o < t.w ∧ ¬ ex j o
theorem OC.one : ∀ {vs : List SV} {asl : List AV} {I : Ids0}, OC F h vs asl I → ∀ u, u ∈ asl → u.one = true
  | _, _, _, .nil _ _, u, hu => by cases hu
  | _, _, _, .cons v vs a asl I J K hv hl hd hI, u, hu => by
    rcases List.mem_cons.1 hu with rfl | hu
    · exact hv.one
    · exact OC.one hl u hu
theorem FzC.one : ∀ {vs : List SV} {asl : List AV}, FzC F vs asl → ∀ u, u ∈ asl → u.one = true
  | _, _, .nil, u, hu => by cases hu
  | _, _, .cons v vs a asl hv hl, u, hu => by
    rcases List.mem_cons.1 hu with rfl | hu
    · exact hv.one
    · exact FzC.one hl u hu
theorem OE.mat : ∀ {t : PT} {xs : List t.den} {es : List AV} {I : Ids0}, OE F h t xs es I → ∃ J, Mat F h t xs es J (fun _ _ => False) ∧ ∀ i, I i ↔ ∃ j o, J j o i
  | _, _, _, _, .nil t I hI => ⟨fun _ _ _ => False, ⟨rfl, fun j e hv => by simp at hv, fun j x e o v a hv => by simp at hv, fun _ _ _ _ _ hj => hj.elim, fun _ _ _ hj => hj.elim⟩, fun i => ⟨fun hi => (hI i hi).elim, fun ⟨_, _, hj⟩ => hj.elim⟩⟩
  | _, _, _, _, .cons t x xs e es I J K hg hc hl hd hI => by
    obtain ⟨J', M, hJ⟩ := OE.mat hl
    obtain ⟨J0, V, hJ0⟩ := hc.vec
    refine ⟨fun j => match j with | 0 => J0 | j + 1 => J' j, ⟨by simp [M.len], fun j e' h1 => ?_, fun j x' e' o v a h1 h2 h3 h4 h5 => ?_, fun j o j' o' i h1 h2 => ?_, fun j o i h1 => ?_⟩, fun i => ⟨fun hi => ?_, fun ⟨j, o, ho⟩ => ?_⟩⟩
    · cases j with
      | zero => simp at h1; subst h1; exact ⟨hg, by rw [hc.len, explode_len], hc.one⟩
      | succ j => exact M.el j e' (by simpa using h1)
    · cases j with
      | zero => simp at h1 h2; subst h1; subst h2; exact V.cell o v a h3 h4
      | succ j => exact M.cell j x' e' o v a (by simpa using h1) (by simpa using h2) h3 h4 h5
    · cases j with
      | zero => cases j' with
        | zero => exact ⟨rfl, V.dis _ _ i h1 h2⟩
        | succ j' => exact (hd i ((hJ0 i).2 ⟨_, h1⟩) ((hJ i).2 ⟨_, _, h2⟩)).elim
      | succ j => cases j' with
        | zero => exact (hd i ((hJ0 i).2 ⟨_, h2⟩) ((hJ i).2 ⟨_, _, h1⟩)).elim
        | succ j' => obtain ⟨q1, q2⟩ := M.dis _ _ _ _ i h1 h2; exact ⟨by rw [q1], q2⟩
    · cases j with
      | zero => have := V.sup o i h1; rw [explode_len] at this; exact ⟨by simp, this, id⟩
      | succ j => obtain ⟨q1, q2, q3⟩ := M.sup j o i h1; exact ⟨by simpa using q1, q2, q3⟩
    · rcases (hI i).1 hi with h1 | h1
      · obtain ⟨o, ho⟩ := (hJ0 i).1 h1; exact ⟨0, o, ho⟩
      · obtain ⟨j, o, ho⟩ := (hJ i).1 h1; exact ⟨j + 1, o, ho⟩
    · cases j with
      | zero => exact (hI i).2 (.inl ((hJ0 i).2 ⟨o, ho⟩))
      | succ j => exact (hI i).2 (.inr ((hJ i).2 ⟨j, o, ho⟩))
theorem Mat.oe : ∀ {t : PT} {xs : List t.den} {es : List AV} {J : Nat → Nat → Ids0}, Mat F h t xs es J (fun _ _ => False) → OE F h t xs es (fun i => ∃ j o, J j o i)
  | t, [], [], J, M => .nil t _ fun i ⟨j, o, ho⟩ => absurd (M.sup j o i ho).1 (Nat.not_lt_zero _)
  | t, [], _ :: _, J, M => absurd M.len (by simp)
  | t, _ :: _, [], J, M => absurd M.len (by simp)
  | t, x :: xs, e :: es, J, M => by
    obtain ⟨q1, q2, q3⟩ := M.el 0 e rfl
    have V : Vec F h (explode t x) e.cells (J 0) := ⟨by rw [q2, explode_len], fun o v a h1 h2 => M.cell 0 x e o v a rfl rfl h1 h2 id, fun o o' i h1 h2 => (M.dis _ _ _ _ i h1 h2).2, fun o i h1 => by rw [explode_len]; exact (M.sup 0 o i h1).2.1⟩
    have M' : Mat F h t xs es (fun j => J (j + 1)) (fun _ _ => False) := ⟨by simpa using M.len, fun j e' h1 => M.el (j + 1) e' (by simpa using h1), fun j x' e' o v a h1 h2 => M.cell (j + 1) x' e' o v a (by simpa using h1) (by simpa using h2),
      fun j o j' o' i h1 h2 => by obtain ⟨q1, q2⟩ := M.dis _ _ _ _ i h1 h2; exact ⟨by omega, q2⟩, fun j o i h1 => by obtain ⟨q1, q2, q3⟩ := M.sup _ o i h1; exact ⟨by simpa using q1, q2, q3⟩⟩
    exact .cons t x xs e es _ (fun i => ∃ o, J 0 o i) (fun i => ∃ j o, J (j + 1) o i) q1 V.oc (Mat.oe M') (fun i ⟨o, h1⟩ ⟨j, o', h2⟩ => by have := (M.dis _ _ _ _ i h1 h2).1; omega)
      fun i => ⟨fun ⟨j, o, ho⟩ => by cases j with | zero => exact .inl ⟨o, ho⟩ | succ j => exact .inr ⟨j, o, ho⟩, fun hq => hq.elim (fun ⟨o, ho⟩ => ⟨0, o, ho⟩) fun ⟨j, o, ho⟩ => ⟨j + 1, o, ho⟩⟩
theorem Mat.keep {t : PT} {xs : List t.den} {es : List AV} {J : Nat → Nat → Ids0} {ex : Nat → Nat → Prop} (hs : F.Sub F') (M : Mat F h t xs es J ex) (hh : ∀ j o i, J j o i → h' i = h i) : Mat F' h' t xs es J ex :=
  ⟨M.len, M.el, fun j x e o v a h1 h2 h3 h4 h5 => (M.cell j x e o v a h1 h2 h3 h4 h5).keep hs fun i hi => hh j o i hi, M.dis, M.sup⟩
theorem FzC.of : ∀ {vs : List SV} {asl : List AV}, asl.length = vs.length → (∀ (o : Nat) (v : SV) (a : AV), vs[o]? = some v → asl[o]? = some a → Fz F v a) → FzC F vs asl
  | [], [], _, _ => .nil
  | [], _ :: _, hl, _ => absurd hl (by simp)
  | _ :: _, [], hl, _ => absurd hl (by simp)
  | v :: vs, a :: asl, hl, hc => .cons v vs a asl (hc 0 v a rfl rfl) (FzC.of (by simpa using hl) fun o w b h1 h2 => hc (o + 1) w b (by simpa using h1) (by simpa using h2))
theorem FzL.of : ∀ {t : PT} {xs : List t.den} {es : List AV}, es.length = xs.length → (∀ (j : Nat) (x : t.den) (e : AV), xs[j]? = some x → es[j]? = some e → eOk t e ∧ FzC F (explode t x) e.cells) → FzL F t xs es
  | t, [], [], _, _ => .nil t
  | _, [], _ :: _, hl, _ => absurd hl (by simp)
  | _, _ :: _, [], hl, _ => absurd hl (by simp)
  | t, x :: xs, e :: es, hl, hc => .cons t x xs e es (hc 0 x e rfl rfl).1 (hc 0 x e rfl rfl).2 (FzL.of (by simpa using hl) fun j y b h1 h2 => hc (j + 1) y b (by simpa using h1) (by simpa using h2))
theorem Mat.frz {t : PT} {xs : List t.den} {es : List AV} {J : Nat → Nat → Ids0} (M : Mat F h t xs es J (fun _ _ => False)) (hs : F.Sub F') (hk : ∀ j o i b, J j o i → h i = some b → F' i = some b) : FzL F' t xs es :=
  OE.frz hs M.oe fun i b ⟨j, o, hj⟩ hb => hk j o i b hj hb
theorem FzL.getE : ∀ {t : PT} {xs : List t.den} {es : List AV}, FzL F t xs es → ∀ (j : Nat) (x : t.den) (e : AV), xs[j]? = some x → es[j]? = some e → eOk t e ∧ FzC F (explode t x) e.cells
  | _, _, _, .nil t, j, x, e, h1, _ => by simp at h1
  | _, _, _, .cons t x xs e es hg hc hl, 0, y, e', h1, h2 => by simp at h1 h2; subst h1; subst h2; exact ⟨hg, hc⟩
  | _, _, _, .cons t x xs e es hg hc hl, j + 1, y, e', h1, h2 => FzL.getE hl j y e' (by simpa using h1) (by simpa using h2)
theorem FzC.getA : ∀ {vs : List SV} {asl : List AV}, FzC F vs asl → ∀ (o : Nat) (v : SV) (a : AV), vs[o]? = some v → asl[o]? = some a → Fz F v a
  | _, _, .nil, o, v, a, h1, _ => by simp at h1
  | _, _, .cons v vs a asl hv hl, 0, w, b, h1, h2 => by simp at h1 h2; subst h1; subst h2; exact hv
  | _, _, .cons v vs a asl hv hl, o + 1, w, b, h1, h2 => FzC.getA hl o w b (by simpa using h1) (by simpa using h2)
theorem explode_flat {t : PT} (ht : t.flat = true) (x : t.den) : ∀ v, v ∈ explode t x → ∀ e t2 ys, v ≠ .rd e t2 ys := by
  intro v hv e t2 ys hq
  subst hq
  cases t with
  | rcd k => cases k <;> first | (cases ht; done) | simp [explode, explodeR] at hv
  | list t => cases ht
  | int k => simp [explode] at hv
  | bool => simp [explode] at hv
  | str => simp [explode] at hv
theorem Fz.os {v : SV} {a : AV} {R : Heap} (hv : Fz R v a) (hq : ∀ e t2 ys, v ≠ .rd e t2 ys) : OS F h v a (fun _ => False) := by
  cases hv with
  | int => exact .int _ _ _ fun _ => id
  | bool => exact .bool _ _ fun _ => id
  | str => exact .str _ _ fun _ => id
  | nil => exact .nil _ fun _ => id
  | rdn => exact absurd rfl (hq _ _ _)
  | ro => exact absurd rfl (hq _ _ _)
  | sl => exact absurd rfl (hq _ _ _)
theorem FzL.mat {t : PT} (ht : t.flat = true) {xs : List t.den} {es : List AV} {R : Heap} (hl : FzL R t xs es) : Mat F h t xs es (fun _ _ _ => False) (fun _ _ => False) := by
  refine ⟨hl.len, fun j e he => ?_, fun j x e o v a h1 h2 h3 h4 _ => ?_, fun _ _ _ _ _ hj => hj.elim, fun _ _ _ hj => hj.elim⟩
  · have hj : j < xs.length := by have := (List.getElem?_eq_some_iff.1 he).1; rw [hl.len] at this; exact this
    obtain ⟨q1, q2⟩ := hl.getE j _ e (List.getElem?_eq_getElem hj) he
    exact ⟨q1, by rw [q2.len, explode_len], q2.one⟩
  · obtain ⟨q1, q2⟩ := hl.getE j x e h1 h2
    have hm := q2.getA o v a h3 h4
    exact hm.os (explode_flat ht x v (List.mem_of_getElem? h3))
end
end Go.Proofs.Ytcngfjmfgeckmaa
