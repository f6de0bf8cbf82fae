/- A region that draws its order, by a plan that forks where rows are made. Own work. -/
import Derived.Test.YtplkjfnjdekgpaaLtEval
namespace Go.Proofs.Ytplkjfnjdekgpaa
open Go

/-- op: an operation (kinds as in a plan); alt: one of several that may come up. -/
inductive PlanT
  | nil
  | op (i k : Nat) (r : PlanT)
  | alt (i : Nat) (a r : PlanT)

def PlanT.alts : PlanT → List Nat
  | .alt i _ r => i :: r.alts
  | _ => []

def opOk (ops : Array Oper) (D : List Nat) (listed : Array Bool) (i k : Nat) : Bool := match ops[i]? with
  | none => false
  | some oi => if k = 2 then (Region.ready .any ops listed) == [i] else
    (Region.ready .any ops listed).contains i && quietOp oi.op && !D.contains i && (k == 0 || (k == 1 && D.all fun j => match ops[j]? with | none => false | some oj => waitsFor oj i)) &&
    (List.range ops.size).all fun j => j == i || listed.getD j true || (match ops[j]? with | none => true | some oj => waitsFor oj i || oi.apart ops oj)

def PlanT.ok (ops : Array Oper) (D : List Nat) : PlanT → Bool → Nat → Array Bool → Bool
  | .nil, true, fuel, listed => fuel == 0 && (Region.ready .any ops listed).isEmpty
  | .nil, false, _, _ => true
  | .op _ _ _, false, _, _ => false
  | .op _ _ _, true, 0, _ => false
  | .op i k r, true, fuel + 1, listed => opOk ops D listed i k && r.ok ops D true fuel (listed.setIfInBounds i true)
  | .alt _ _ _, _, 0, _ => false
  | .alt i a r, hd, fuel + 1, listed => (!hd || (Region.ready .any ops listed) == i :: r.alts) && a.ok ops D true fuel (listed.setIfInBounds i true) && r.ok ops D false (fuel + 1) listed

def planT (P : Program) (T : TE) (l : List Oper) (D : List Nat) (hS : Heap) (K : Env → Heap → Nat → Prop) : PlanT → Bool → Bool → Env → Heap → Nat → Prop
  | .nil, true, _, E, h, n => K E h n
  | .nil, false, _, _, _, _ => True
  | .op i k r, _, dirty, E, h, n => match l[i]? with
    | none => False
    | some o => match k with
      | 0 => stepA P T l o E Heap.emp n (fun E' _ _ => planT P T l D hS K r true dirty E' h n)
      | 1 => stepA P T l o E hS n (fun E' _ _ => planT P T l D hS K r true dirty E' h n)
      | _ => match dirty || D.contains i with
        | true => stepA P T l o E h n (fun E' h' n' => planT P T l D hS K r true true E' h' n')
        | false => stepA P T l o E h n (fun E' h' n' => hS.Sub h' ∧ planT P T l D hS K r true false E' h' n')
  | .alt i a r, _, dirty, E, h, n => (match l[i]? with
    | none => False
    | some o => match dirty || D.contains i with
      | true => stepA P T l o E h n (fun E' h' n' => planT P T l D hS K a true true E' h' n')
      | false => stepA P T l o E h n (fun E' h' n' => hS.Sub h' ∧ planT P T l D hS K a true false E' h' n')) ∧ planT P T l D hS K r false dirty E h n

section
variable {P : Program} {T : TE} {N : Nat} {h : Heap} {n : Nat}

theorem planT_nil (l : List Oper) (D : List Nat) (hS : Heap) (dirty : Bool) (E : Env) (K : Env → Heap → Nat → Prop) : planT P T l D hS K .nil true dirty E h n = K E h n := rfl
theorem planT_nil' (l : List Oper) (D : List Nat) (hS : Heap) (dirty : Bool) (E : Env) (K : Env → Heap → Nat → Prop) : planT P T l D hS K .nil false dirty E h n = True := rfl

/-- One step of a plan, whatever follows. -/
theorem step_sound {ops : Array Oper} {D : List Nat} {hS : Heap} {K : Env → Heap → Nat → Prop} {Φ : Bool → Env → Heap → Nat → Prop} {fuel : Nat} {listed : Array Bool} {dirty : Bool} {E : Env} {i : Nat} {o : Oper} (hi : ops[i]? = some o) (_ : i ∈ Region.ready .any ops listed) (_ : Closed ops listed) (hsz : listed.size = ops.size)
    (hd : dirty = true → ∃ j, j ∈ D ∧ listed.getD j true = true)
    (hΦ : ∀ dirty' E h n, (dirty' = true → ∃ j, j ∈ D ∧ (listed.setIfInBounds i true).getD j true = true) → StandsBy D hS (listed.setIfInBounds i true) h → Φ dirty' E h n → anyA P T ops (StandsBy D hS) K fuel (listed.setIfInBounds i true) E h n)
    (hc : match dirty || D.contains i with
      | true => stepA P T ops.toList o E h n (fun E' h' n' => Φ true E' h' n')
      | false => stepA P T ops.toList o E h n (fun E' h' n' => hS.Sub h' ∧ Φ false E' h' n')) :
    stepA P T ops.toList o E h n (fun E' h' n' => StandsBy D hS (listed.setIfInBounds i true) h' ∧ anyA P T ops (StandsBy D hS) K fuel (listed.setIfInBounds i true) E' h' n') := by
  have hjs : i < listed.size := by rw [hsz]; exact (Array.getElem?_eq_some_iff.1 hi).1
  cases hdd : (dirty || D.contains i) with
  | true =>
    rw [hdd] at hc
    have hdir : ∃ k, k ∈ D ∧ (listed.setIfInBounds i true).getD k true = true := by
      simp only [Bool.or_eq_true, List.contains_iff_mem] at hdd
      rcases hdd with hq | hq
      · obtain ⟨j, hj, hl⟩ := hd hq
        refine ⟨j, hj, ?_⟩
        by_cases hij : i = j
        · subst hij; simp [hjs]
        · rw [getD_set_ne true hij]; exact hl
      · exact ⟨i, hq, by simp [hjs]⟩
    have hst : ∀ h', StandsBy D hS (listed.setIfInBounds i true) h' := fun h' hD => by
      obtain ⟨k, k1, k2⟩ := hdir
      rw [hD k k1] at k2; cases k2
    exact stepA_mono (fun r h' n' hk => ⟨hst h', hΦ true _ h' n' (fun _ => hdir) (hst h') hk⟩) hc
  | false =>
    rw [hdd] at hc
    exact stepA_mono (fun r h' n' hk => ⟨fun _ => hk.1, hΦ false _ h' n' (fun hq => by cases hq) (fun _ => hk.1) hk.2⟩) hc

theorem planT_sound {ops : Array Oper} {D : List Nat} {hS : Heap} {K : Env → Heap → Nat → Prop} : ∀ (plan : PlanT) (fuel : Nat) (listed : Array Bool) (dirty : Bool) (E : Env) (h : Heap) (n : Nat), Closed ops listed → listed.size = ops.size →
    (dirty = true → ∃ j, j ∈ D ∧ listed.getD j true = true) → StandsBy D hS listed h →
    (plan.ok ops D true fuel listed = true → planT P T ops.toList D hS K plan true dirty E h n → anyA P T ops (StandsBy D hS) K fuel listed E h n) ∧
    (∀ i, i ∈ plan.alts → ∀ f, fuel = f + 1 → plan.ok ops D false fuel listed = true → planT P T ops.toList D hS K plan false dirty E h n → ∀ o, ops[i]? = some o → i ∈ Region.ready .any ops listed →
      stepA P T ops.toList o E h n (fun E' h' n' => StandsBy D hS (listed.setIfInBounds i true) h' ∧ anyA P T ops (StandsBy D hS) K f (listed.setIfInBounds i true) E' h' n'))
  | .nil, fuel, listed, dirty, E, h, n, hcl, hsz, hd, hSb => ⟨fun hp hc => by
      simp only [PlanT.ok, Bool.and_eq_true, beq_iff_eq] at hp
      obtain ⟨rfl, hr⟩ := hp
      exact ⟨by simpa using hr, hc⟩, fun i hi => by cases hi⟩
  | .op i k r, fuel, listed, dirty, E, h, n, hcl, hsz, hd, hSb => ⟨fun hp hc => by
      cases fuel with
      | zero => simp [PlanT.ok] at hp
      | succ fuel =>
      simp only [PlanT.ok, Bool.and_eq_true] at hp
      obtain ⟨hp1, hp2⟩ := hp
      unfold opOk at hp1
      cases hi : ops[i]? with
      | none => rw [hi] at hp1; cases hp1
      | some oi =>
        rw [hi] at hp1
        simp only at hp1
        have hi' : ops.toList[i]? = some oi := by rw [Array.getElem?_toList]; exact hi
        have dirty' : dirty = true → ∃ j, j ∈ D ∧ (listed.setIfInBounds i true).getD j true = true := fun hq => by
          obtain ⟨j, hj, hl⟩ := hd hq
          refine ⟨j, hj, ?_⟩
          by_cases hij : i = j
          · subst hij
            by_cases hs : i < listed.size
            · simp [hs]
            · simp [hs]
          · rw [getD_set_ne true hij]; exact hl
        by_cases hk : k = 2
        · subst hk
          rw [if_pos rfl] at hp1
          have hr : Region.ready .any ops listed = [i] := by simpa using hp1
          have hir : i ∈ Region.ready .any ops listed := by rw [hr]; simp
          simp only [planT, hi'] at hc
          refine ⟨fun h0 => (by rw [hr] at h0; cases h0), fun j hj o ho => ?_⟩
          rw [hr] at hj
          obtain rfl := List.mem_singleton.1 hj
          rw [hi] at ho
          obtain rfl := Option.some.inj ho
          exact step_sound (Φ := fun d E h n => planT P T ops.toList D hS K r true d E h n) hi hir hcl hsz hd (fun d E h n a b c => (planT_sound r fuel _ d E h n (closed_set hcl hir) (by simpa using hsz) a b).1 hp2 c) hc
        · rw [if_neg hk] at hp1
          simp only [Bool.and_eq_true, Bool.or_eq_true, List.all_eq_true, List.contains_iff_mem, Bool.not_eq_true', List.mem_range, beq_iff_eq] at hp1
          obtain ⟨⟨⟨⟨q1, q2⟩, q3⟩, q4⟩, q5⟩ := hp1
          have hiD : i ∉ D := by intro hq; simp [hq] at q3
          have wf : ∀ o j, waitsFor o j = true → ∃ e, e ∈ o.after ∧ Region.binds .any e = true ∧ e.on = j := fun o j hw => by
            unfold waitsFor at hw
            rw [Array.any_eq_true'] at hw
            obtain ⟨e, he, hb⟩ := hw
            simp only [Bool.and_eq_true, beq_iff_eq] at hb
            exact ⟨e, he, hb.1, hb.2⟩
          have hfree : ∀ j oj, ops[j]? = some oj → j ≠ i → listed.getD j true = false → (∀ e, e ∈ oj.after → Region.binds .any e = true → e.on ≠ i) → oi.apart ops oj = true := fun j oj hj hne hl hno => by
            have := q5 j (Array.getElem?_eq_some_iff.1 hj).1
            rw [hj] at this
            rcases this with (h1 | h1) | h1
            · exact absurd h1 hne
            · rw [hl] at h1; cases h1
            · simp only [Bool.or_eq_true] at h1
              rcases h1 with h1 | h1
              · obtain ⟨e, e1, e2, e3⟩ := wf _ _ h1
                exact absurd e3 (hno e e1 e2)
              · exact h1
          have more : StandsBy D hS (listed.setIfInBounds i true) h := fun hD => hSb fun j hj => by
            have := hD j hj
            have hne : i ≠ j := fun he => hiD (by rw [he]; exact hj)
            rwa [getD_set_ne true hne] at this
          have hk01 : ∃ h1 : Heap, (∀ listed h', Closed ops listed → listed.getD i true = false → StandsBy D hS listed h' → h1.Sub h') ∧ stepA P T ops.toList oi E h1 n (fun E' _ _ => planT P T ops.toList D hS K r true dirty E' h n) := by
            match k, hk with
            | 0, _ => simp only [planT, hi'] at hc; exact ⟨Heap.emp, fun _ h' _ _ _ => Heap.Sub.emp h', hc⟩
            | 1, _ =>
              simp only [planT, hi'] at hc
              refine ⟨hS, fun listed' h' hcl' hl' hs => hs fun j hj => ?_, hc⟩
              rcases q4 with h0 | h0
              · cases h0
              · have := h0.2 j hj
                split at this
                · cases this
                · rename_i oj hoj
                  obtain ⟨e, e1, e2, e3⟩ := wf _ _ this
                  cases hlj : listed'.getD j true with
                  | false => rfl
                  | true =>
                    have h5 := hcl' j oj hoj hlj e e1 e2
                    rw [e3] at h5
                    rcases Nat.lt_or_ge i listed'.size with h' | h'
                    · simp [h'] at h5 hl'; rw [h5] at hl'; cases hl'
                    · simp [Array.getElem?_eq_none h'] at h5
            | k + 2, _ =>
              exfalso
              rcases q4 with h0 | h0
              · omega
              · have := h0.1
                omega
          obtain ⟨h1, hsub, hc1⟩ := hk01
          obtain ⟨v, v1, v2⟩ := stepA_quiet q2 hc1
          exact takeA hi hiD hsub fuel listed E h n hcl hfree q1 v2 hSb ((planT_sound r fuel _ dirty _ h n (closed_set hcl q1) (by simpa using hsz) dirty' more).1 hp2 v1), fun i hi => by cases hi⟩
  | .alt i a r, fuel, listed, dirty, E, h, n, hcl, hsz, hd, hSb => by
    have each : ∀ hd', ∀ j, j ∈ (PlanT.alt i a r).alts → ∀ f, fuel = f + 1 → (PlanT.alt i a r).ok ops D hd' fuel listed = true → planT P T ops.toList D hS K (.alt i a r) hd' dirty E h n → ∀ o, ops[j]? = some o → j ∈ Region.ready .any ops listed →
      stepA P T ops.toList o E h n (fun E' h' n' => StandsBy D hS (listed.setIfInBounds j true) h' ∧ anyA P T ops (StandsBy D hS) K f (listed.setIfInBounds j true) E' h' n') := by
      intro hd' j hj f hf hp hc o ho hjr
      subst hf
      simp only [PlanT.ok, Bool.and_eq_true] at hp
      obtain ⟨⟨_, hp2⟩, hp3⟩ := hp
      simp only [planT] at hc
      obtain ⟨hc1, hc2⟩ := hc
      rcases List.mem_cons.1 hj with rfl | hj
      · have hi' : ops.toList[j]? = some o := by rw [Array.getElem?_toList]; exact ho
        rw [hi'] at hc1
        exact step_sound (Φ := fun d E h n => planT P T ops.toList D hS K a true d E h n) ho hjr hcl hsz hd (fun d E h n x y z => (planT_sound a f _ d E h n (closed_set hcl hjr) (by simpa using hsz) x y).1 hp2 z) hc1
      · exact (planT_sound r (f + 1) listed dirty E h n hcl hsz hd hSb).2 j hj f rfl hp3 hc2 o ho hjr
    refine ⟨fun hp hc => ?_, each false⟩
    cases fuel with
    | zero => simp [PlanT.ok] at hp
    | succ fuel =>
    have hr : Region.ready .any ops listed = i :: r.alts := by
      simp only [PlanT.ok, Bool.and_eq_true, Bool.not_true, Bool.false_or, beq_iff_eq] at hp
      exact hp.1.1
    refine ⟨fun h0 => (by rw [hr] at h0; cases h0), fun j hj o ho => each true j (by rw [hr] at hj; exact hj) fuel rfl hp hc o ho hj⟩

theorem WP.drawT {Q : Exit → Env → Heap → Nat → Prop} {E : Env} (hT : TEOk P T) (hm : P.follows .mixedOrders = true) {id : Nat} {l : List Oper} (plan : PlanT) (D : List Nat) (hS : Heap) (hp : plan.ok l.toArray D true l.length (Array.replicate l.toArray.size false) = true) (hd : l.all (dstIn N) = true)
    (hsub : hS.Sub h) (hc : (∀ id b, h id = some b → id < n) → planT P T l D hS (Q .normal) plan true false E h n) : WP P N (.region id l.toArray true) Q E h n := fun b a w hs => by
  refine wp_region_any hm ?_
  have hlt : ∀ id b, h id = some b → id < n := fun id b hid => by
    obtain ⟨c, rfl, e0, hh, hf, _⟩ := hs
    obtain ⟨b', base, sz, arr, E, hB⟩ := hh.blk id b hid
    rcases Nat.lt_or_ge id n with h1 | h1
    · exact h1
    · have := hB.ι; rw [hf id h1] at this; cases this
  have hs' : SR b N E h n a { w with drawn := w.drawn + 1 } := by
    obtain ⟨c, rfl, e0, hh, hf, hn, hb, hdf, hN, ht⟩ := hs
    have hmv : ∀ {u v}, VR c u v → VR ⟨c.ι, c.Fz, { c.w with drawn := c.w.drawn + 1 }⟩ u v := fun k => by
      have e1 : Ext c h (fun _ => False) ⟨c.ι, c.Fz, { c.w with drawn := c.w.drawn + 1 }⟩ h :=
        ⟨rfl, rfl, rfl, Nat.le_refl _, fun _ _ h => h, fun _ _ h => .inl h, fun _ h => h, fun _ arr _ _ h => ⟨arr, h, rfl⟩, fun _ _ _ => rfl, fun id blk x hh hx => .inr ⟨id, blk, x, hh, hx, rfl⟩, fun _ h => .inl h⟩
      exact k.mono e1 hh
    have e1 : Ext c h (fun _ => False) ⟨c.ι, c.Fz, { c.w with drawn := c.w.drawn + 1 }⟩ h :=
      ⟨rfl, rfl, rfl, Nat.le_refl _, fun _ _ h => h, fun _ _ h => .inl h, fun _ h => h, fun _ arr _ _ h => ⟨arr, h, rfl⟩, fun _ _ _ => rfl, fun id blk x hh hx => .inr ⟨id, blk, x, hh, hx, rfl⟩, fun _ h => .inl h⟩
    refine ⟨⟨c.ι, c.Fz, { c.w with drawn := c.w.drawn + 1 }⟩, rfl, e0.trans e1 (fun i hi => hi) (fun i hi => hi.elim), ⟨fun id blk hb => ?_, hh.inj, hh.fzlt⟩, hf, hn, hb, hdf, hN, fun t => hmv (ht t)⟩
    obtain ⟨bb, base, sz, arr, E, hB⟩ := hh.blk id blk hb
    exact ⟨bb, base, sz, arr, E, hB.ι, hB.heap, hB.nfz, hB.size, hB.one, fun i e j u a1 a2 => by
      obtain ⟨v, q1, q2⟩ := hB.cell i e j u a1 a2
      exact ⟨v, q1, hmv q2⟩⟩
  have hany := (planT_sound plan l.length (Array.replicate l.toArray.size false) false E h n (fun j o hj hl => by
    have hlt : j < l.toArray.size := (Array.getElem?_eq_some_iff.1 hj).1
    simp at hlt
    simp [hlt] at hl) (by simp) (fun hq => by cases hq) (fun _ => hsub)).1 hp (hc hlt)
  refine anyA_sound (N := N) (b := b) hT (fun i o ho => ?_) (fun E' h' n' a' w' q1 q2 => ⟨E', h', n', q1, q2⟩) _ _ hs' (by simpa using hany)
  exact List.all_eq_true.1 hd o (by simpa using Array.mem_of_getElem? ho)

end
end Go.Proofs.Ytplkjfnjdekgpaa
