/- A call to which rows are lent: frozen for it, one's own again behind it. Own work. -/
import Derived.Test.YtplkjfnjdekgpaaLtHeap
namespace Go.Proofs.Ytplkjfnjdekgpaa
open Go

/-- No frozen row is in the value. -/
inductive NoRo : AV → Prop
  | bool (b) : NoRo (.bool b)
  | int (k m) : NoRo (.int k m)
  | str (s) : NoRo (.str s)
  | nils : NoRo .nils
  | sl (sz id off len lo ex) : NoRo (.sl sz id off len lo ex)
  | eps (sz sz2 id o len lo ex i off) : NoRo (.ep sz (.sl sz2 id o len lo ex) i off)
  | nilp : NoRo .nilp
  | nilf : NoRo .nilf
  | fn (f cap) (hl : ∀ (i : Nat) (u : AV), cap[i]? = some u → NoRo u) : NoRo (.fn f cap)
  | agg (cs) (hl : ∀ (i : Nat) (u : AV), cs[i]? = some u → NoRo u) : NoRo (.agg cs)
  | tup (cs) (hl : ∀ (i : Nat) (u : AV), cs[i]? = some u → NoRo u) : NoRo (.tup cs)
  | undef : NoRo .undef

def Heap.minus (h : Heap) (I : Nat → Bool) : Heap := fun x => if I x = true then none else h x
def Heap.only (h : Heap) (I : Nat → Bool) : Heap := fun x => if I x = true then h x else none
def Heap.join (h' : Heap) (I : Nat → Bool) (h : Heap) : Heap := fun x => if I x = true then h x else h' x

section
variable {c c' : Cfg} {h h' : Heap} {n n' : Nat} {u : AV} {v : Value}

theorem VR.noRo (hu : VR c u v) (hn : NoRo u) (hw : c'.w = c.w) (hi : c'.ι = c.ι) : VR c' u v := by
  induction hu with
  | bool b => exact .bool b
  | int k n => exact .int k n
  | str s => exact .str s
  | nils => exact .nils
  | ro sz ex l a cap f hcap hmax hex hfz hsz hone hc hv ih => cases hn
  | sl sz id off len lo ex b base cap hι hlen hlo hex hmax hroom a ha => exact .sl sz id off len lo ex b base cap (by rw [hi]; exact hι) hlen hlo hex hmax (by rw [hw]; exact hroom) a ha
  | ep_ro sz ex l i off a cap ha hi' ih => cases hn
  | ep_sl sz id o len lo ex i off b base hι => exact .ep_sl sz id o len lo ex i off b base (by rw [hi]; exact hι)
  | nilp => exact .nilp
  | nilf => exact .nilf
  | fn f cap vs hs hv ih => cases hn with | fn _ _ hl => exact .fn f cap vs hs (fun i u v h1 h2 => ih i u v h1 h2 (hl i u h1))
  | agg cs vs hs hone hv ih => cases hn with | agg _ hl => exact .agg cs vs hs hone (fun i u v h1 h2 => ih i u v h1 h2 (hl i u h1))
  | tup cs vs hs hv ih => cases hn with | tup _ hl => exact .tup cs vs hs (fun i u v h1 h2 => ih i u v h1 h2 (hl i u h1))
  | undef v => exact .undef v

theorem VR.widen (hu : VR c u v) (hw : c'.w = c.w) (hz : ∀ b, c.Fz b → c'.Fz b) (hi : c'.ι = c.ι) : VR c' u v := by
  induction hu with
  | bool b => exact .bool b
  | int k n => exact .int k n
  | str s => exact .str s
  | nils => exact .nils
  | ro sz ex l a cap f hcap hmax hex hfz hsz hone hc hv ih => exact .ro sz ex l a cap f hcap hmax hex (fun q => hz _ (hfz q)) hsz hone (fun i e j u h1 h2 => by rw [hw]; exact hc i e j u h1 h2) ih
  | sl sz id off len lo ex b base cap hι hlen hlo hex hmax hroom a ha => exact .sl sz id off len lo ex b base cap (by rw [hi]; exact hι) hlen hlo hex hmax (by rw [hw]; exact hroom) a ha
  | ep_ro sz ex l i off a cap ha hi' ih => exact .ep_ro sz ex l i off a cap ih hi'
  | ep_sl sz id o len lo ex i off b base hι => exact .ep_sl sz id o len lo ex i off b base (by rw [hi]; exact hι)
  | nilp => exact .nilp
  | nilf => exact .nilf
  | fn f cap vs hs hv ih => exact .fn f cap vs hs ih
  | agg cs vs hs hone hv ih => exact .agg cs vs hs hone ih
  | tup cs vs hs hv ih => exact .tup cs vs hs ih
  | undef v => exact .undef v

theorem CA.borrow {P : Program} {f : FuncId} {args args' : List AV} {K : AV → Heap → Nat → Prop} (I : Nat → Bool) (hl : args.length = args'.length) (ha : ∀ (i : Nat) (u u' : AV), args[i]? = some u → args'[i]? = some u' → u = u' ∨ Frz 0 (h.only I) u u')
    (hc : CA P f args' (h.minus I) n (fun r h' n' => NoRo r ∧ (∀ id b, h' id = some b → ∀ e, e ∈ b → ∀ u, u ∈ e.cells → NoRo u) ∧ K r (h'.join I h) n')) : CA P f args h n K := by
  refine ⟨hc.1, fun c vals hh hf hs hv => ?_⟩
  let c0 : Cfg := ⟨c.ι, fun b => c.Fz b ∨ ∃ id blk x, I id = true ∧ h id = some blk ∧ c.ι id = some x ∧ x.1 = b, c.w⟩
  have hminus : ∀ id b, (h.minus I) id = some b → I id = false ∧ h id = some b := fun id b hb => by
    unfold Heap.minus at hb
    split at hb
    · cases hb
    · rename_i hI; exact ⟨by simpa using hI, hb⟩
  have honly : ∀ id b, (h.only I) id = some b → I id = true ∧ h id = some b := fun id b hb => by
    unfold Heap.only at hb
    split at hb
    · exact ⟨by assumption, hb⟩
    · cases hb
  have keepV : ∀ {u v}, VR c u v → VR c0 u v := fun hu => hu.widen rfl (fun b hb => .inl hb) rfl
  have hh0 : HR c0 (h.minus I) := by
    refine ⟨fun id b hb => ?_, fun i j bi bj x y h1 h2 => hh.inj i j bi bj x y (hminus _ _ h1).2 (hminus _ _ h2).2, fun b hb => ?_⟩
    · obtain ⟨k1, k2⟩ := hminus id b hb
      obtain ⟨bb, base, sz, arr, E, hB⟩ := hh.blk id b k2
      refine ⟨bb, base, sz, arr, E, hB.ι, hB.heap, ?_, hB.size, hB.one, fun i e j u a1 a2 => ?_⟩
      · rintro (hq | ⟨id2, blk2, x2, g1, g2, g3, g4⟩)
        · exact hB.nfz hq
        · have := hh.inj id id2 b blk2 _ _ k2 g2 hB.ι g3 g4.symm
          subst this
          rw [k1] at g1; cases g1
      · obtain ⟨v, q1, q2⟩ := hB.cell i e j u a1 a2
        exact ⟨v, q1, keepV q2⟩
    · rcases hb with hb | ⟨id, blk, x, g1, g2, g3, rfl⟩
      · exact hh.fzlt b hb
      · obtain ⟨bb, base, sz, arr, E, hB⟩ := hh.blk id blk g2
        rw [hB.ι] at g3
        obtain rfl := Option.some.inj g3
        exact heap_lt hB.heap
  have hhI : HR c (h.only I) := hh.sub fun id b hb => (honly id b hb).2
  refine Calls.mono (hc.2 c0 vals hh0 hf (by omega) (fun i u v h1 h2 => ?_)) (fun e w' he => ?_)
  · have hlt := (List.getElem?_eq_some_iff.1 h1).1
    have h3 : args[i]? = some (args[i]'(by omega)) := List.getElem?_eq_getElem (by omega)
    have hvr := hv i _ v h3 h2
    rcases ha i _ _ h3 h1 with hq | hq
    · rw [← hq]; exact keepV hvr
    · exact Frz.rel (c := c) (c' := c0) hq hhI rfl (fun b hb => .inl hb) (fun id x _ hx => hx) (fun id blk x _ g2 g3 => .inr ⟨id, blk, x, (honly id blk g2).1, (honly id blk g2).2, g3, rfl⟩) hvr
  · obtain ⟨v, r, h', n', rfl, ⟨c1, hw1, e1, hh1, hf1, hv1, hn1⟩, hr, hnr, hK⟩ := he
    subst hw1
    let Bk : Nat → Prop := fun b => ∃ id blk x, I id = true ∧ h id = some blk ∧ c.ι id = some x ∧ x.1 = b
    let c2 : Cfg := ⟨c1.ι, fun b => c1.Fz b ∧ ¬ Bk b, c1.w⟩
    have hjoin : ∀ id b, (h'.join I h) id = some b → (I id = true ∧ h id = some b) ∨ (I id = false ∧ h' id = some b) := fun id b hb => by
      unfold Heap.join at hb
      split at hb
      · exact .inl ⟨by assumption, hb⟩
      · rename_i hI; exact .inr ⟨by simpa using hI, hb⟩
    have hbk : ∀ b, Bk b → ¬ c.Fz b := by
      rintro b ⟨id, blk, x, g1, g2, g3, rfl⟩
      obtain ⟨bb, base, sz, arr, E, hB⟩ := hh.blk id blk g2
      rw [hB.ι] at g3
      obtain rfl := Option.some.inj g3
      exact hB.nfz
    have hext : Ext c h (fun id => n ≤ id ∧ id < n') c2 (h'.join I h) := by
      refine ⟨e1.os, e1.tape, e1.output, e1.size, e1.ι, e1.dom, fun b hb => ⟨e1.fz b (.inl hb), fun hq => hbk b hq hb⟩, e1.shape, fun b hb hno => e1.frame b hb fun id blk x g1 g2 => hno id blk x (hminus id blk g1).2 g2, fun id blk x g1 g2 => ?_, fun b hb => ?_⟩
      · rcases hjoin id blk g1 with ⟨k1, k2⟩ | ⟨k1, k2⟩
        · obtain ⟨bb, base, sz, arr, E, hB⟩ := hh.blk id blk k2
          have := e1.ι id _ hB.ι
          have g2' : c1.ι id = some x := g2
          rw [this] at g2'
          obtain rfl := Option.some.inj g2'
          exact .inr ⟨id, blk, _, k2, hB.ι, rfl⟩
        · rcases e1.own id blk x k2 g2 with q | ⟨id0, b0, x0, q1, q2, q3⟩
          · exact .inl q
          · exact .inr ⟨id0, b0, x0, (hminus _ _ q1).2, q2, q3⟩
      · obtain ⟨hb1, hb2⟩ := hb
        rcases e1.fzb b hb1 with (q | q) | q | ⟨id0, b0, x0, q1, q2, q3⟩
        · exact .inl q
        · exact absurd q hb2
        · exact .inr (.inl q)
        · exact .inr (.inr ⟨id0, b0, x0, (hminus _ _ q1).2, q2, q3⟩)
    refine ⟨v, r, h'.join I h, n', rfl, ⟨c2, rfl, hext, ⟨fun id b hb => ?_, fun i j bi bj x y h1 h2 h3 h4 h5 => ?_, fun b hb => hh1.fzlt b hb.1⟩, hf1, hv1.noRo hr rfl rfl, hn1⟩, hK⟩
    · rcases hjoin id b hb with ⟨k1, k2⟩ | ⟨k1, k2⟩
      · obtain ⟨bb, base, sz, arr, E, hB⟩ := hh.blk id b k2
        have hBk : Bk bb := ⟨id, b, _, k1, k2, hB.ι, rfl⟩
        refine ⟨bb, base, sz, arr, E, e1.ι id _ hB.ι, (e1.keep hh0 (.inr hBk) (heap_lt hB.heap)).trans hB.heap, fun hq => hq.2 hBk, hB.size, hB.one, fun i e j u a1 a2 => ?_⟩
        obtain ⟨v, q1, q2⟩ := hB.cell i e j u a1 a2
        exact ⟨v, q1, q2.mono hext hh⟩
      · obtain ⟨bb, base, sz, arr, E, hB⟩ := hh1.blk id b k2
        refine ⟨bb, base, sz, arr, E, hB.ι, hB.heap, fun hq => hB.nfz hq.1, hB.size, hB.one, fun i e j u a1 a2 => ?_⟩
        obtain ⟨v, q1, q2⟩ := hB.cell i e j u a1 a2
        exact ⟨v, q1, q2.noRo (hnr id b k2 e (List.mem_of_getElem? a1) u (List.mem_of_getElem? a2)) rfl rfl⟩
    · have mixed : ∀ i j bi bj (x y : Nat × Nat × Nat), I i = true → h i = some bi → h' j = some bj → c1.ι i = some x → c1.ι j = some y → x.1 = y.1 → False := fun i j bi bj x y g1 g2 g3 g4 g5 g6 => by
        obtain ⟨bb, base, sz, arr, E, hB⟩ := hh.blk i bi g2
        have q := e1.ι i _ hB.ι
        rw [q] at g4
        obtain rfl := Option.some.inj g4
        obtain ⟨bb', base', sz', arr', E', hB'⟩ := hh1.blk j bj g3
        rw [hB'.ι] at g5
        obtain rfl := Option.some.inj g5
        have g6' : bb = bb' := g6
        subst g6'
        exact hB'.nfz (e1.fz _ (.inr ⟨i, bi, _, g1, g2, hB.ι, rfl⟩))
      rcases hjoin i bi h1 with ⟨k1, k2⟩ | ⟨k1, k2⟩ <;> rcases hjoin j bj h2 with ⟨m1, m2⟩ | ⟨m1, m2⟩
      · obtain ⟨b1, ba1, s1, ar1, E1, hB1⟩ := hh.blk i bi k2
        obtain ⟨b2, ba2, s2, ar2, E2, hB2⟩ := hh.blk j bj m2
        have q1 := e1.ι i _ hB1.ι
        have q2 := e1.ι j _ hB2.ι
        have h3' : c1.ι i = some x := h3
        have h4' : c1.ι j = some y := h4
        rw [q1] at h3'
        rw [q2] at h4'
        obtain rfl := Option.some.inj h3'
        obtain rfl := Option.some.inj h4'
        exact hh.inj i j bi bj _ _ k2 m2 hB1.ι hB2.ι h5
      · exact (mixed i j bi bj x y k1 k2 m2 h3 h4 h5).elim
      · exact (mixed j i bj bi y x m1 m2 k2 h4 h3 h5.symm).elim
      · exact hh1.inj i j bi bj x y k2 m2 h3 h4 h5

end
end Go.Proofs.Ytplkjfnjdekgpaa
