/- A region that draws its order, by a plan. Own work. -/
import Derived.Test.YtplkjfnjdekgpaaLtDrawB
namespace Go.Proofs.Ytplkjfnjdekgpaa
open Go

section
variable {P : Program} {T : TE} {N : Nat} {h : Heap} {n : Nat}

def waitsFor (o : Oper) (i : Nat) : Bool := o.after.any fun e => Region.binds .any e && e.on == i

/-- A plan: the operations in an order; 0: quiet, it looks at no heap; 1: quiet, it looks at hS; 2: nothing else may come up. -/
def planOk (ops : Array Oper) (D : List Nat) : List (Nat × Nat) → Array Bool → Bool
  | [], listed => (Region.ready .any ops listed).isEmpty
  | (i, k) :: rest, listed => (match ops[i]? with
    | none => false
    | some oi => if k = 2 then (Region.ready .any ops listed) == [i] else
        (Region.ready .any ops listed).contains i && quietOp oi.op && !D.contains i && (k == 0 || (k == 1 && D.all fun j => match ops[j]? with | none => false | some oj => waitsFor oj i)) &&
        (List.range ops.size).all fun j => j == i || listed.getD j true || (match ops[j]? with | none => true | some oj => waitsFor oj i || oi.apart ops oj)) &&
    planOk ops D rest (listed.setIfInBounds i true)

def planA (P : Program) (T : TE) (ops : Array Oper) (D : List Nat) (hS : Heap) (K : Env → Heap → Nat → Prop) : List (Nat × Nat) → Bool → Env → Heap → Nat → Prop
  | [], _, E, h, n => K E h n
  | (i, 0) :: rest, dirty, E, h, n => match ops[i]? with
    | some o => stepA P T ops.toList o E Heap.emp n (fun E' _ _ => planA P T ops D hS K rest dirty E' h n)
    | none => False
  | (i, 1) :: rest, dirty, E, h, n => match ops[i]? with
    | some o => stepA P T ops.toList o E hS n (fun E' _ _ => planA P T ops D hS K rest dirty E' h n)
    | none => False
  | (i, _) :: rest, dirty, E, h, n => match ops[i]? with
    | some o => if (dirty || D.contains i) = true then stepA P T ops.toList o E h n (fun E' h' n' => planA P T ops D hS K rest true E' h' n')
        else stepA P T ops.toList o E h n (fun E' h' n' => hS.Sub h' ∧ planA P T ops D hS K rest false E' h' n')
    | none => False

theorem planA_sound {ops : Array Oper} {D : List Nat} {hS : Heap} {K : Env → Heap → Nat → Prop} : ∀ (plan : List (Nat × Nat)) (listed : Array Bool) (dirty : Bool) (E : Env) (h : Heap) (n : Nat), planOk ops D plan listed = true → Closed ops listed → listed.size = ops.size →
    (dirty = true → ∃ j, j ∈ D ∧ listed.getD j true = true) → StandsBy D hS listed h → planA P T ops D hS K plan dirty E h n → anyA P T ops (StandsBy D hS) K plan.length listed E h n
  | [], listed, dirty, E, h, n, hp, hcl, hsz, hd, hS, hc => ⟨by simpa [planOk] using hp, hc⟩
  | (i, k) :: rest, listed, dirty, E, h, n, hp, hcl, hsz, hd, hSb, hc => by
    simp only [planOk, Bool.and_eq_true] at hp
    obtain ⟨hp1, hp2⟩ := hp
    cases hi : ops[i]? with
    | none => rw [hi] at hp1; cases hp1
    | some oi =>
      rw [hi] at hp1
      simp only at hp1
      have dirty' : dirty = true → ∃ j, j ∈ D ∧ (listed.setIfInBounds i true).getD j true = true := fun hq => by
        obtain ⟨j, hj, hl⟩ := hd hq
        refine ⟨j, hj, ?_⟩
        by_cases hij : i = j
        · subst hij
          by_cases hs : i < listed.size
          · simp [hs]
          · simp [hs]
        · rw [getD_set_ne true hij]; exact hl
      by_cases hk : k = 2
      · subst hk
        rw [if_pos rfl] at hp1
        have hr : Region.ready .any ops listed = [i] := by simpa using hp1
        have hir : i ∈ Region.ready .any ops listed := by rw [hr]; simp
        simp only [planA, hi] at hc
        refine ⟨fun h0 => (by rw [hr] at h0; cases h0), fun j hj o ho => ?_⟩
        rw [hr] at hj
        obtain rfl := List.mem_singleton.1 hj
        rw [hi] at ho
        obtain rfl := Option.some.inj ho
        have hjs : j < listed.size := by rw [hsz]; exact (Array.getElem?_eq_some_iff.1 hi).1
        split at hc
        · rename_i hdd
          have hdir : ∃ k, k ∈ D ∧ (listed.setIfInBounds j true).getD k true = true := by
            simp only [Bool.or_eq_true, List.contains_iff_mem] at hdd
            rcases hdd with hq | hq
            · exact dirty' hq
            · exact ⟨j, hq, by simp [hjs]⟩
          have hst : ∀ h', StandsBy D hS (listed.setIfInBounds j true) h' := fun h' hD => by
            obtain ⟨k, k1, k2⟩ := hdir
            rw [hD k k1] at k2; cases k2
          exact stepA_mono (fun r h' n' hk => ⟨hst h', planA_sound rest _ true _ h' n' hp2 (closed_set hcl hir) (by simpa using hsz) (fun _ => hdir) (hst h') hk⟩) hc
        · rename_i hdd
          have hdf : dirty = false := by cases dirty <;> simp_all
          exact stepA_mono (fun r h' n' hk => ⟨fun _ => hk.1, planA_sound rest _ false _ h' n' hp2 (closed_set hcl hir) (by simpa using hsz) (fun hq => by cases hq) (fun _ => hk.1) hk.2⟩) hc
      · rw [if_neg hk] at hp1
        simp only [Bool.and_eq_true, Bool.or_eq_true, List.all_eq_true, List.contains_iff_mem, Bool.not_eq_true', List.mem_range, beq_iff_eq] at hp1
        obtain ⟨⟨⟨⟨q1, q2⟩, q3⟩, q4⟩, q5⟩ := hp1
        have hiD : i ∉ D := by intro hq; simp [hq] at q3
        have wf : ∀ o j, waitsFor o j = true → ∃ e, e ∈ o.after ∧ Region.binds .any e = true ∧ e.on = j := fun o j hw => by
          unfold waitsFor at hw
          rw [Array.any_eq_true'] at hw
          obtain ⟨e, he, hb⟩ := hw
          simp only [Bool.and_eq_true, beq_iff_eq] at hb
          exact ⟨e, he, hb.1, hb.2⟩
        have hfree : ∀ j oj, ops[j]? = some oj → j ≠ i → listed.getD j true = false → (∀ e, e ∈ oj.after → Region.binds .any e = true → e.on ≠ i) → oi.apart ops oj = true := fun j oj hj hne hl hno => by
          have := q5 j (Array.getElem?_eq_some_iff.1 hj).1
          rw [hj] at this
          rcases this with (h1 | h1) | h1
          · exact absurd h1 hne
          · rw [hl] at h1; cases h1
          · simp only [Bool.or_eq_true] at h1
            rcases h1 with h1 | h1
            · obtain ⟨e, e1, e2, e3⟩ := wf _ _ h1
              exact absurd e3 (hno e e1 e2)
            · exact h1
        have more : StandsBy D hS (listed.setIfInBounds i true) h := fun hD => hSb fun j hj => by
          have := hD j hj
          have hne : i ≠ j := fun he => hiD (by rw [he]; exact hj)
          rwa [getD_set_ne true hne] at this
        have hk01 : ∃ h1 : Heap, (∀ listed h', Closed ops listed → listed.getD i true = false → StandsBy D hS listed h' → h1.Sub h') ∧ stepA P T ops.toList oi E h1 n (fun E' _ _ => planA P T ops D hS K rest dirty E' h n) := by
          match k, hk with
          | 0, _ => simp only [planA, hi] at hc; exact ⟨Heap.emp, fun _ h' _ _ _ => Heap.Sub.emp h', hc⟩
          | 1, _ =>
            simp only [planA, hi] at hc
            refine ⟨hS, fun listed' h' hcl' hl' hs => hs fun j hj => ?_, hc⟩
            rcases q4 with h0 | h0
            · cases h0
            · have := h0.2 j hj
              split at this
              · cases this
              · rename_i oj hoj
                obtain ⟨e, e1, e2, e3⟩ := wf _ _ this
                cases hlj : listed'.getD j true with
                | false => rfl
                | true =>
                  have h5 := hcl' j oj hoj hlj e e1 e2
                  rw [e3] at h5
                  rcases Nat.lt_or_ge i listed'.size with h' | h'
                  · simp [h'] at h5 hl'; rw [h5] at hl'; cases hl'
                  · simp [Array.getElem?_eq_none h'] at h5
          | k + 2, _ => 
            exfalso
            rcases q4 with h0 | h0
            · omega
            · have := h0.1
              omega
        obtain ⟨h1, hsub, hc1⟩ := hk01
        obtain ⟨v, v1, v2⟩ := stepA_quiet q2 hc1
        exact takeA hi hiD hsub rest.length listed E h n hcl hfree q1 v2 hSb (planA_sound rest _ dirty _ h n hp2 (closed_set hcl q1) (by simpa using hsz) dirty' more v1)

/-- **A region that draws its order.** -/
theorem WP.draw {Q : Exit → Env → Heap → Nat → Prop} {E : Env} (hT : TEOk P T) (hm : P.follows .mixedOrders = true) {id : Nat} {l : List Oper} (plan : List (Nat × Nat)) (D : List Nat) (hS : Heap) (hp : (plan.length == l.length && planOk l.toArray D plan (Array.replicate l.toArray.size false)) = true) (hd : l.all (dstIn N) = true)
    (hsub : hS.Sub h) (hc : (∀ id b, h id = some b → id < n) → planA P T l.toArray D hS (Q .normal) plan false E h n) : WP P N (.region id l.toArray true) Q E h n := fun b a w hs => by
  simp only [Bool.and_eq_true, beq_iff_eq] at hp
  obtain ⟨hp1, hp2⟩ := hp
  refine wp_region_any hm ?_
  have hlt : ∀ id b, h id = some b → id < n := fun id b hid => by
    obtain ⟨c, rfl, e0, hh, hf, _⟩ := hs
    obtain ⟨b', base, sz, arr, E, hB⟩ := hh.blk id b hid
    rcases Nat.lt_or_ge id n with h1 | h1
    · exact h1
    · have := hB.ι; rw [hf id h1] at this; cases this
  have hs' : SR b N E h n a { w with drawn := w.drawn + 1 } := by
    obtain ⟨c, rfl, e0, hh, hf, hn, hb, hdf, hN, ht⟩ := hs
    have hmv : ∀ {u v}, VR c u v → VR ⟨c.ι, c.Fz, { c.w with drawn := c.w.drawn + 1 }⟩ u v := fun k => by
      have e1 : Ext c h (fun _ => False) ⟨c.ι, c.Fz, { c.w with drawn := c.w.drawn + 1 }⟩ h :=
        ⟨rfl, rfl, rfl, Nat.le_refl _, fun _ _ h => h, fun _ _ h => .inl h, fun _ h => h, fun _ arr _ _ h => ⟨arr, h, rfl⟩, fun _ _ _ => rfl, fun id blk x hh hx => .inr ⟨id, blk, x, hh, hx, rfl⟩, fun _ h => .inl h⟩
      exact k.mono e1 hh
    have e1 : Ext c h (fun _ => False) ⟨c.ι, c.Fz, { c.w with drawn := c.w.drawn + 1 }⟩ h :=
      ⟨rfl, rfl, rfl, Nat.le_refl _, fun _ _ h => h, fun _ _ h => .inl h, fun _ h => h, fun _ arr _ _ h => ⟨arr, h, rfl⟩, fun _ _ _ => rfl, fun id blk x hh hx => .inr ⟨id, blk, x, hh, hx, rfl⟩, fun _ h => .inl h⟩
    refine ⟨⟨c.ι, c.Fz, { c.w with drawn := c.w.drawn + 1 }⟩, rfl, e0.trans e1 (fun i hi => hi) (fun i hi => hi.elim), ⟨fun id blk hb => ?_, hh.inj, hh.fzlt⟩, hf, hn, hb, hdf, hN, fun t => hmv (ht t)⟩
    obtain ⟨bb, base, sz, arr, E, hB⟩ := hh.blk id blk hb
    exact ⟨bb, base, sz, arr, E, hB.ι, hB.heap, hB.nfz, hB.size, hB.one, fun i e j u a1 a2 => by
      obtain ⟨v, q1, q2⟩ := hB.cell i e j u a1 a2
      exact ⟨v, q1, hmv q2⟩⟩
  have hany := planA_sound plan (Array.replicate l.toArray.size false) false E h n hp2 (fun j o hj hl => by
    have hlt : j < l.toArray.size := (Array.getElem?_eq_some_iff.1 hj).1
    simp at hlt
    simp [hlt] at hl) (by simp) (fun hq => by cases hq) (fun _ => hsub) (hc hlt)
  rw [hp1] at hany
  refine anyA_sound (N := N) (b := b) hT (fun i o ho => ?_) (fun E' h' n' a' w' q1 q2 => ⟨E', h', n', q1, q2⟩) _ _ hs' (by simpa using hany)
  exact List.all_eq_true.1 hd o (by simpa using Array.mem_of_getElem? ho)

end
end Go.Proofs.Ytplkjfnjdekgpaa
