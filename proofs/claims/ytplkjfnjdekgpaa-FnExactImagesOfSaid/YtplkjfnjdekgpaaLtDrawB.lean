/- Operations in whatever order: a plan. Own work. -/
import Derived.Test.YtplkjfnjdekgpaaLtDrawA
namespace Go.Proofs.Ytplkjfnjdekgpaa
open Go

section
variable {P : Program} {T : TE} {N : Nat} {h : Heap} {n : Nat}

theorem buildP_congr {fs : List (Nat × TypeId)} {e e' : Operand → AV} : ∀ (ps : List (Nat × Operand)) (cells : List AV) {R : List AV → Prop}, (∀ p, p ∈ ps → e p.2 = e' p.2) → buildP T fs cells e ps R = buildP T fs cells e' ps R
  | [], _, _, _ => rfl
  | (i, x) :: rest, cells, R, hp => by
    simp only [buildP]
    rw [show e x = e' x from hp (i, x) (by simp)]
    congr 1; funext p
    rw [buildP_congr rest _ (fun p hpm => hp p (by simp [hpm]))]

theorem opP_congr {op : Op} {e e' : Operand → AV} {K : AV → Heap → Nat → Prop} (he : ∀ x, x ∈ op.operands → e x = e' x) : opP T op e h n K = opP T op e' h n K := by
  cases op <;> simp only [Op.operands] at he <;> simp only [opP]
  case build t ps =>
    have hp : ∀ p, p ∈ ps.toList → e p.2 = e' p.2 := fun p hp => he p.2 (by simp; exact ⟨p.1, by simpa using hp⟩)
    have hb : ∀ fs cells (R : List AV → Prop), buildP T fs cells e ps.toList R = buildP T fs cells e' ps.toList R := fun fs cells R => buildP_congr _ _ hp
    simp only [hb]
  case buildSlice t m ps =>
    have hp : ∀ p, p ∈ ps.toList → e p.2 = e' p.2 := fun p hp => he p.2 (by simp; exact ⟨p.1, by simpa using hp⟩)
    have hmap : (ps.toList.map fun p => e p.2) = (ps.toList.map fun p => e' p.2) := List.map_congr_left hp
    have hall : (∀ p, p ∈ ps.toList → (e p.2).cells.length = (T t).sz ∧ (e p.2).good = true) ↔ (∀ p, p ∈ ps.toList → (e' p.2).cells.length = (T t).sz ∧ (e' p.2).good = true) :=
      ⟨fun q p hpm => by rw [← hp p hpm]; exact q p hpm, fun q p hpm => by rw [hp p hpm]; exact q p hpm⟩
    congr 1; funext el
    have hall' : (∀ p, p ∈ ps.toList → (e p.2).cells.length = (T el).sz ∧ (e p.2).good = true) = (∀ p, p ∈ ps.toList → (e' p.2).cells.length = (T el).sz ∧ (e' p.2).good = true) :=
      propext ⟨fun q p hpm => by rw [← hp p hpm]; exact q p hpm, fun q p hpm => by rw [hp p hpm]; exact q p hpm⟩
    rw [hmap, hall']
  case makeFunc f first cap =>
    cases f <;> simp only
    case func =>
      have hmap : cap.toList.map e = cap.toList.map e' := List.map_congr_left fun x hx => he x (by simp at hx ⊢; exact .inr hx)
      rw [hmap]
  case slice t x lo hi mx =>
    have hx : e x = e' x := he x (by simp)
    have hl : lo.map e = lo.map e' := by cases lo with
      | none => rfl
      | some y => simp [he y (by simp)]
    have hh : hi.map e = hi.map e' := by cases hi with
      | none => rfl
      | some y => simp [he y (by simp)]
    have hm : mx.map e = mx.map e' := by cases mx with
      | none => rfl
      | some y => simp [he y (by simp)]
    rw [hx, hl, hh, hm]
  case call c =>
    cases hc : c.callee <;> simp only
    case builtin b =>
      have hmap : c.args.toList.map e = c.args.toList.map e' := List.map_congr_left fun x hx => he x (by simp at hx; simp [Call.operands, hx])
      rw [hmap]
  all_goals first
    | rfl
    | (rw [he _ (by simp)]; done)
    | (rw [he _ (by simp), he _ (by simp)]; done)
    | simp_all

theorem callA_congr {o : Oper} {E E' : Env} {K : AV → Heap → Nat → Prop} (he : ∀ x, x ∈ o.op.operands → ev E x = ev E' x) : callA P T o E h n K = callA P T o E' h n K := by
  have hop := opP_congr (T := T) (h := h) (n := n) (K := K) he
  unfold callA
  split
  · rename_i c hc
    split
    · rename_i f hf
      rw [hc] at he
      have h1 : ev E f = ev E' f := he f (by simp [Op.operands, Call.operands, hf])
      have hmap : c.args.toList.map (ev E) = c.args.toList.map (ev E') := List.map_congr_left fun x hx => he x (by simp at hx; simp [Op.operands, Call.operands, hx])
      rw [h1, hmap]
    · exact hop
  · exact hop

theorem callA_mono {o : Oper} {E : Env} {K K' : AV → Heap → Nat → Prop} (hk : ∀ r h' n', K r h' n' → K' r h' n') (hc : callA P T o E h n K) : callA P T o E h n K' := by
  obtain ⟨dst, op, type, pos, after, guard⟩ := o
  cases op
  case call c =>
    unfold callA at hc ⊢
    simp only at hc ⊢
    cases hf : c.callee with
    | value f =>
      rw [hf] at hc
      simp only at hc ⊢
      cases hg : ev E f
      case fn g cap => rw [hg] at hc; exact hc.mono hk
      all_goals rw [hg] at hc; exact hc.elim
    | builtin b => rw [hf] at hc; exact opP_mono hk hc
    | invoke r m => rw [hf] at hc; exact opP_mono hk hc
  all_goals
    unfold callA at hc ⊢
    exact opP_mono hk hc

/-- Two states that an operation cannot tell apart. -/
def Same (ops : Array Oper) (o : Oper) (E E' : Env) : Prop := ∀ t, t ∈ o.looksAt ops → E t = E' t

theorem Same.ev {ops : Array Oper} {o : Oper} {E E' : Env} (hs : Same ops o E E') : ∀ x, x ∈ o.op.operands → ev E x = ev E' x := fun x hx => by
  cases x with
  | tmp t => exact hs t (by
      unfold Oper.looksAt
      exact List.mem_append_left _ (List.mem_filterMap.2 ⟨.tmp t, by simpa using hx, rfl⟩))
  | _ => rfl

theorem Same.yield {ops : Array Oper} {o : Oper} {E E' : Env} (hs : Same ops o E E') {j : Nat} {want : Bool} (hg : o.guard = some (j, want)) : yieldA ops.toList E j = yieldA ops.toList E' j := by
  unfold yieldA
  rw [Array.getElem?_toList]
  cases hd : (ops[j]?).bind (·.dst) with
  | none => rfl
  | some d =>
    have h1 : E.get d = E'.get d := hs d (by
      unfold Oper.looksAt
      refine List.mem_append_right _ ?_
      rw [hg]
      simp only
      rw [hd]; simp)
    simp only [h1]

theorem stepA_mono {ops : List Oper} {o : Oper} {E : Env} {K K' : Env → Heap → Nat → Prop} (hk : ∀ r h' n', K (E.put o.dst r) h' n' → K' (E.put o.dst r) h' n') (hc : stepA P T ops o E h n K) : stepA P T ops o E h n K' := by
  unfold stepA at hc ⊢
  cases hg : o.guard with
  | none => rw [hg] at hc; exact callA_mono (fun r h' n' => hk r h' n') hc
  | some g =>
    obtain ⟨j, want⟩ := g
    rw [hg] at hc
    simp only at hc ⊢
    cases hy : yieldA ops E j with
    | none => rw [hy] at hc; exact hc.elim
    | some y => rw [hy] at hc; exact ite_mono (callA_mono fun r h' n' => hk r h' n') (hk _ _ _) hc

/-- What an operation does in a state that it cannot tell from another. -/
theorem stepA_same {ops : Array Oper} {o : Oper} {E E' : Env} (hs : Same ops o E E') {K K' : Env → Heap → Nat → Prop} (hk : ∀ r h' n', K (E.put o.dst r) h' n' → K' (E'.put o.dst r) h' n') (hc : stepA P T ops.toList o E h n K) : stepA P T ops.toList o E' h n K' := by
  unfold stepA at hc ⊢
  cases hg : o.guard with
  | none =>
    rw [hg] at hc
    simp only at hc ⊢
    rw [← callA_congr hs.ev]
    exact callA_mono (fun r h' n' => hk r h' n') hc
  | some g =>
    obtain ⟨j, want⟩ := g
    rw [hg] at hc
    simp only at hc ⊢
    rw [← hs.yield hg]
    cases hy : yieldA ops.toList E j with
    | none => rw [hy] at hc; exact hc.elim
    | some y =>
      rw [hy] at hc
      simp only at hc ⊢
      rw [← callA_congr hs.ev]
      exact ite_mono (callA_mono fun r h' n' => hk r h' n') (hk _ _ _) hc

theorem callA_quiet {o : Oper} {E : Env} {K : AV → Heap → Nat → Prop} (hq : quietOp o.op = true) : callA P T o E h n K = opP T o.op (ev E) h n K := by
  unfold callA
  split
  · rename_i c hc
    split
    · rename_i f hf
      rw [hc] at hq
      simp [quietOp, hf] at hq
    · rfl
  · rfl

/-- A quiet operation: its value, wherever it looks at the same and the heap holds as much. -/
theorem stepA_quiet {ops : Array Oper} {o : Oper} {E : Env} {hS : Heap} (hq : quietOp o.op = true) {Φ : Env → Prop} (hc : stepA P T ops.toList o E hS n (fun E' _ _ => Φ E')) :
    ∃ v, Φ (E.put o.dst v) ∧ ∀ (E2 : Env) (h' : Heap) (n' : Nat) (K : Env → Heap → Nat → Prop), Same ops o E E2 → hS.Sub h' → K (E2.put o.dst v) h' n' → stepA P T ops.toList o E2 h' n' K := by
  unfold stepA at hc
  cases hg : o.guard with
  | none =>
    rw [hg] at hc
    simp only at hc
    rw [callA_quiet hq] at hc
    obtain ⟨v, q1, q2⟩ := quiet_det (Φ := fun r => Φ (E.put o.dst r)) hq hc
    refine ⟨v, q1, fun E2 h' n' K hs hsub hk => ?_⟩
    unfold stepA
    rw [hg]
    simp only
    rw [callA_quiet hq, ← opP_congr hs.ev]
    exact q2 h' n' _ hsub hk
  | some g =>
    obtain ⟨j, want⟩ := g
    rw [hg] at hc
    simp only at hc
    cases hy : yieldA ops.toList E j with
    | none => rw [hy] at hc; exact hc.elim
    | some y =>
      rw [hy] at hc
      simp only at hc
      by_cases hyw : y = some want
      · rw [if_pos hyw, callA_quiet hq] at hc
        obtain ⟨v, q1, q2⟩ := quiet_det (Φ := fun r => Φ (E.put o.dst r)) hq hc
        refine ⟨v, q1, fun E2 h' n' K hs hsub hk => ?_⟩
        unfold stepA
        rw [hg]
        simp only
        rw [← hs.yield hg, hy]
        simp only
        rw [if_pos hyw, callA_quiet hq, ← opP_congr hs.ev]
        exact q2 h' n' _ hsub hk
      · rw [if_neg hyw] at hc
        refine ⟨_, hc, fun E2 h' n' K hs hsub hk => ?_⟩
        unfold stepA
        rw [hg]
        simp only
        rw [← hs.yield hg, hy]
        simp only
        rw [if_neg hyw]
        exact hk

theorem put_comm (E : Env) {x y : Option Tmp} (v u : AV) (hxy : ∀ d, x = some d → y ≠ some d) : (E.put x v).put y u = (E.put y u).put x v := by
  cases x with
  | none => rfl
  | some d =>
    cases y with
    | none => rfl
    | some e =>
      have hne : d ≠ e := fun he => hxy d rfl (he ▸ rfl)
      funext t
      simp only [Env.put]
      by_cases h1 : e = t
      · subst h1; simp [hne]
      · simp [h1]

/-- Whatever order is picked from here on. S: what holds behind every operation. -/
def anyA (P : Program) (T : TE) (ops : Array Oper) (S : Array Bool → Heap → Prop) (K : Env → Heap → Nat → Prop) : Nat → Array Bool → Env → Heap → Nat → Prop
  | 0, listed, E, h, n => Region.ready .any ops listed = [] ∧ K E h n
  | fuel + 1, listed, E, h, n => (Region.ready .any ops listed = [] → K E h n) ∧
    ∀ i, i ∈ Region.ready .any ops listed → ∀ o, ops[i]? = some o → stepA P T ops.toList o E h n (fun E' h' n' => S (listed.setIfInBounds i true) h' ∧ anyA P T ops S K fuel (listed.setIfInBounds i true) E' h' n')

theorem anyA_sound (hT : TEOk P T) {ops : Array Oper} {S : Array Bool → Heap → Prop} {b : Base} {K : Env → Heap → Nat → Prop} {Q : Exit → Act → World → Prop} (hd : ∀ (i : Nat) o, ops[i]? = some o → dstIn N o = true) (hK : ∀ E' h' n' a' w', SR b N E' h' n' a' w' → K E' h' n' → Q .normal a' w') :
    ∀ (fuel : Nat) (listed : Array Bool) {E : Env} {h : Heap} {n : Nat} {a : Act} {w : World}, SR b N E h n a w → anyA P T ops S K fuel listed E h n → wpAny P .any ops Q fuel listed a w
  | 0, _, _, _, _, _, _, hs, hc => ⟨hc.1, hK _ _ _ _ _ hs hc.2⟩
  | fuel + 1, listed, E, h, n, a, w, hs, hc => ⟨fun hr => hK _ _ _ _ _ hs (hc.1 hr), fun i hi => by
      obtain ⟨_, o, ho, _⟩ := mem_ready.1 hi
      have hst := stepA_sound (next := wpAny P .any ops Q fuel (listed.setIfInBounds i true)) (Q := Q) hT (hd i o ho) hs (hc.2 i hi o ho) (fun E' h' n' a' w' q1 q2 => anyA_sound hT hd hK fuel _ q1 q2.2)
      unfold wpOp
      rw [ho]
      simp only
      split at hst
      · rename_i hw; rw [if_pos hw]; exact .inl hst
      · rename_i hw; rw [if_neg hw]; exact hst⟩

/-- What waits for what is listed in that order. -/
def Closed (ops : Array Oper) (listed : Array Bool) : Prop := ∀ (j : Nat) (o : Oper), ops[j]? = some o → listed.getD j true = true → ∀ e, e ∈ o.after → Region.binds .any e = true → listed.getD e.on false = true

/-- hS is in the heap until an operation of D has been carried out. -/
def StandsBy (D : List Nat) (hS : Heap) (listed : Array Bool) (h : Heap) : Prop := (∀ j, j ∈ D → listed.getD j true = false) → hS.Sub h

theorem closed_set {ops : Array Oper} {listed : Array Bool} (hc : Closed ops listed) {i : Nat} (hi : i ∈ Region.ready .any ops listed) : Closed ops (listed.setIfInBounds i true) := fun j o hj hl e he hb => by
  obtain ⟨h0, oi, hoi, hall⟩ := mem_ready.1 hi
  by_cases hji : j = i
  · subst hji
    rw [hoi] at hj
    obtain rfl := Option.some.inj hj
    exact getD_set_true (hall e he hb)
  · rw [getD_set_ne true (Ne.symm hji)] at hl
    exact getD_set_true (hc j o hj hl e he hb)

/-- A quiet operation may be taken first. -/
theorem takeA {ops : Array Oper} {D : List Nat} {hS : Heap} {K : Env → Heap → Nat → Prop} {i : Nat} {oi : Oper} (hi : ops[i]? = some oi) (hiD : i ∉ D) {v : AV} {h1 : Heap}
    (hsub : ∀ listed h', Closed ops listed → listed.getD i true = false → StandsBy D hS listed h' → h1.Sub h') :
    ∀ (fuel : Nat) (listed : Array Bool) (E : Env) (h : Heap) (n : Nat), Closed ops listed →
      (∀ j oj, ops[j]? = some oj → j ≠ i → listed.getD j true = false → (∀ e, e ∈ oj.after → Region.binds .any e = true → e.on ≠ i) → oi.apart ops oj = true) →
      i ∈ Region.ready .any ops listed →
      (∀ (E2 : Env) (h' : Heap) (n' : Nat) (K : Env → Heap → Nat → Prop), Same ops oi E E2 → h1.Sub h' → K (E2.put oi.dst v) h' n' → stepA P T ops.toList oi E2 h' n' K) →
      StandsBy D hS listed h → anyA P T ops (StandsBy D hS) K fuel (listed.setIfInBounds i true) (E.put oi.dst v) h n → anyA P T ops (StandsBy D hS) K (fuel + 1) listed E h n := by
  have more : ∀ (listed : Array Bool) h', StandsBy D hS listed h' → StandsBy D hS (listed.setIfInBounds i true) h' := fun listed h' hs hD => hs fun j hj => by
    have := hD j hj
    have hne : i ≠ j := fun he => hiD (by rw [he]; exact hj)
    rwa [getD_set_ne true hne] at this
  intro fuel
  induction fuel with
  | zero =>
    intro listed E h n hcl _ hr hy hSb H
    refine ⟨fun h => (by rw [h] at hr; cases hr), fun j hj o ho => ?_⟩
    by_cases hji : j = i
    · subst hji
      rw [hi] at ho
      obtain rfl := Option.some.inj ho
      exact hy E h n _ (fun _ _ => rfl) (hsub listed h hcl (mem_ready.1 hr).1 hSb) ⟨more _ _ hSb, H⟩
    · have := ready_mono hj hji
      rw [H.1] at this
      cases this
  | succ fuel ih =>
    intro listed E h n hcl hfree hr hy hSb H
    refine ⟨fun h => (by rw [h] at hr; cases hr), fun j hj oj hoj => ?_⟩
    by_cases hji : j = i
    · subst hji
      rw [hi] at hoj
      obtain rfl := Option.some.inj hoj
      exact hy E h n _ (fun _ _ => rfl) (hsub listed h hcl (mem_ready.1 hr).1 hSb) ⟨more _ _ hSb, H⟩
    · have h2 := H.2 j (ready_mono hj hji) oj hoj
      obtain ⟨hjun, oj', hoj', hall⟩ := mem_ready.1 hj
      rw [hoj] at hoj'
      obtain rfl := Option.some.inj hoj'
      have hnot : ∀ e, e ∈ oj.after → Region.binds .any e = true → e.on ≠ i := fun e he hb heq => by
        have h1 := hall e he hb
        have h0 := (mem_ready.1 hr).1
        rw [heq] at h1
        rcases Nat.lt_or_ge i listed.size with h' | h'
        · simp [h'] at h0 h1; rw [h0] at h1; cases h1
        · simp [Array.getElem?_eq_none h'] at h1
      obtain ⟨a1, a2, a3⟩ := Oper.apart_spec (hfree j oj hoj hji hjun hnot)
      have same : Same ops oj (E.put oi.dst v) E := fun t ht => by
        cases hd : oi.dst with
        | none => rfl
        | some d =>
          have hne : d ≠ t := fun hq => a1 d hd (hq ▸ ht)
          simp [Env.put, hne]
      refine stepA_same same (fun r h' n' hk => ?_) h2
      obtain ⟨k1, k2⟩ := hk
      have hSj : StandsBy D hS (listed.setIfInBounds j true) h' := fun hD => k1 fun k hk => by
        have := hD k hk
        have hne : i ≠ k := fun he => hiD (by rw [he]; exact hk)
        by_cases hjk : j = k
        · subst hjk
          by_cases hs : j < listed.size
          · simp [hs] at this
          · simp [hs] at this
        · rw [getD_set_ne true hjk, getD_set_ne true hne]
          rwa [getD_set_ne true hjk] at this
      refine ⟨hSj, ?_⟩
      have keep : Same ops oi E (E.put oj.dst r) := fun t ht => by
        cases hd : oj.dst with
        | none => rfl
        | some d =>
          have hne : d ≠ t := fun hq => a3 d hd (hq ▸ ht)
          simp [Env.put, hne]
      refine ih (listed.setIfInBounds j true) (E.put oj.dst r) h' n' (closed_set hcl hj) (fun k ok hk hki hun hno => ?_) (ready_mono hr (Ne.symm hji)) (fun E2 h3 n3 K3 hs3 hsub3 hk3 => hy E2 h3 n3 K3 (fun t ht => (keep t ht).trans (hs3 t ht)) hsub3 hk3) hSj ?_
      · refine hfree k ok hk hki ?_ hno
        by_cases hjk : j = k
        · subst hjk; exact hjun
        · rw [getD_set_ne true hjk] at hun; exact hun
      · rw [put_comm _ _ _ (fun d hd => fun hq => a2 d hq hd)]
        rw [Array.setIfInBounds_comm _ _ hji]
        exact k2

end
end Go.Proofs.Ytplkjfnjdekgpaa
