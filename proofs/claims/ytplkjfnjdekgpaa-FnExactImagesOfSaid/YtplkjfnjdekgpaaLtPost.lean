/- What a caller sees of what a call has made: kept, frozen, or owned under the caller's next id. Own work. -/
import Derived.Test.YtplkjfnjdekgpaaLtCodeB
namespace Go.Proofs.Ytplkjfnjdekgpaa
open Go

/-- All the ids in a value lie below n. -/
inductive AV.Lt (n : Nat) : AV → Prop
  | bool (b) : Lt n (.bool b)
  | int (k m) : Lt n (.int k m)
  | str (s) : Lt n (.str s)
  | nils : Lt n .nils
  | ro (sz ex l) (hl : ∀ (i : Nat) (e : AV) (j : Nat) (u : AV), l[i]? = some e → e.cells[j]? = some u → Lt n u) : Lt n (.ro sz ex l)
  | sl (sz id off len lo ex) (hid : id < n) : Lt n (.sl sz id off len lo ex)
  | ep (sz a i off) (ha : Lt n a) : Lt n (.ep sz a i off)
  | nilp : Lt n .nilp
  | nilf : Lt n .nilf
  | fn (f cap) (hl : ∀ (i : Nat) (u : AV), cap[i]? = some u → Lt n u) : Lt n (.fn f cap)
  | agg (cs) (hl : ∀ (i : Nat) (u : AV), cs[i]? = some u → Lt n u) : Lt n (.agg cs)
  | tup (cs) (hl : ∀ (i : Nat) (u : AV), cs[i]? = some u → Lt n u) : Lt n (.tup cs)
  | undef : Lt n .undef

inductive Frz (n : Nat) (h : Heap) : AV → AV → Prop
  | keep (u) (hu : u.Lt n) : Frz n h u u
  | sl (sz id off len lo ex) (b l' : List AV) (hid : n ≤ id) (hb : h id = some b) (hle : off + len ≤ b.length) (hl : l'.length = len) (he : ∀ (i : Nat) (e e' : AV), b[off + i]? = some e → l'[i]? = some e' → Frz n h e e') :
      Frz n h (.sl sz id off len lo ex) (.ro sz (ex && decide (lo = len)) l')
  | agg (cs cs' : List AV) (hl : cs'.length = cs.length) (he : ∀ (i : Nat) (u u' : AV), cs[i]? = some u → cs'[i]? = some u' → Frz n h u u') : Frz n h (.agg cs) (.agg cs')
  | tup (cs cs' : List AV) (hl : cs'.length = cs.length) (he : ∀ (i : Nat) (u u' : AV), cs[i]? = some u → cs'[i]? = some u' → Frz n h u u') : Frz n h (.tup cs) (.tup cs')

section
variable {c c' : Cfg} {h h' h'' : Heap} {n n' : Nat} {u u' : AV} {v : Value}

theorem VR.relabel (hu : VR c u v) (hl : u.Lt n) (hw : c'.w = c.w) (hz : ∀ b, c.Fz b → c'.Fz b) (hi : ∀ id x, id < n → c.ι id = some x → c'.ι id = some x) : VR c' u v := by
  induction hu with
  | bool b => exact .bool b
  | int k n => exact .int k n
  | str s => exact .str s
  | nils => exact .nils
  | ro sz ex l a cap f hcap hmax hex hfz hsz hone hc hv ih =>
    cases hl with
    | ro _ _ _ hl => exact .ro sz ex l a cap f hcap hmax hex (fun q => hz _ (hfz q)) hsz hone (fun i e j u h1 h2 => by rw [hw]; exact hc i e j u h1 h2) (fun i e j u h1 h2 => ih i e j u h1 h2 (hl i e j u h1 h2))
  | sl sz id off len lo ex b base cap hι hlen hlo hex hmax hroom a ha =>
    cases hl with
    | sl _ _ _ _ _ _ hid => exact .sl sz id off len lo ex b base cap (hi _ _ hid hι) hlen hlo hex hmax (by rw [hw]; exact hroom) a ha
  | ep_ro sz ex l i off a cap ha hi' ih =>
    cases hl with
    | ep _ _ _ _ hl => exact .ep_ro sz ex l i off a cap (ih hl) hi'
  | ep_sl sz id o len lo ex i off b base hι =>
    cases hl with
    | ep _ _ _ _ hl => cases hl with
      | sl _ _ _ _ _ _ hid => exact .ep_sl sz id o len lo ex i off b base (hi _ _ hid hι)
  | nilp => exact .nilp
  | nilf => exact .nilf
  | fn f cap vs hs hv ih =>
    cases hl with
    | fn _ _ hl => exact .fn f cap vs hs (fun i u v h1 h2 => ih i u v h1 h2 (hl i u h1))
  | agg cs vs hs hone hv ih =>
    cases hl with
    | agg _ hl => exact .agg cs vs hs hone (fun i u v h1 h2 => ih i u v h1 h2 (hl i u h1))
  | tup cs vs hs hv ih =>
    cases hl with
    | tup _ hl => exact .tup cs vs hs (fun i u v h1 h2 => ih i u v h1 h2 (hl i u h1))
  | undef v => exact .undef v

theorem VR.lt (hf : Fresh c n) (hu : VR c u v) : u.Lt n := by
  have key : ∀ id x, c.ι id = some x → id < n := fun id x hx => by
    rcases Nat.lt_or_ge id n with h1 | h1
    · exact h1
    · rw [hf id h1] at hx; cases hx
  induction hu with
  | bool b => exact .bool b
  | int k n => exact .int k n
  | str s => exact .str s
  | nils => exact .nils
  | ro sz ex l a cap f hcap hmax hex hfz hsz hone hc hv ih => exact .ro _ _ _ ih
  | sl sz id off len lo ex b base cap hι hlen hlo hex hmax hroom a ha => exact .sl _ _ _ _ _ _ (key _ _ hι)
  | ep_ro sz ex l i off a cap ha hi' ih => exact .ep _ _ _ _ ih
  | ep_sl sz id o len lo ex i off b base hι => exact .ep _ _ _ _ (.sl _ _ _ _ _ _ (key _ _ hι))
  | nilp => exact .nilp
  | nilf => exact .nilf
  | fn f cap vs hs hv ih =>
    refine .fn _ _ (fun i u hi => ?_)
    have hlt := (List.getElem?_eq_some_iff.1 hi).1
    exact ih i u _ hi (Array.getElem?_eq_getElem (by omega))
  | agg cs vs hs hone hv ih =>
    refine .agg _ (fun i u hi => ?_)
    have hlt := (List.getElem?_eq_some_iff.1 hi).1
    exact ih i u _ hi (Array.getElem?_eq_getElem (by omega))
  | tup cs vs hs hv ih =>
    refine .tup _ (fun i u hi => ?_)
    have hlt := (List.getElem?_eq_some_iff.1 hi).1
    exact ih i u _ hi (Array.getElem?_eq_getElem (by omega))
  | undef v => exact .undef

theorem Frz.one (hz : Frz n h u u') (hu : u.one = true) : u'.one = true := by
  cases hz with
  | keep => exact hu
  | sl => rfl
  | agg => simp [AV.one] at hu
  | tup => simp [AV.one] at hu

theorem Frz.cells (hz : Frz n h u u') : u'.cells.length = u.cells.length ∧ ∀ (j : Nat) (x x' : AV), u.cells[j]? = some x → u'.cells[j]? = some x' → Frz n h x x' := by
  cases hz with
  | keep _ hu =>
    refine ⟨rfl, fun j x x' h1 h2 => ?_⟩
    rw [h1] at h2
    obtain rfl := Option.some.inj h2
    refine .keep _ ?_
    cases hu with
    | agg cs hl => exact hl j _ h1
    | _ => cases j <;> simp [AV.cells] at h1; subst h1; constructor <;> assumption
  | sl sz id off len lo ex b l' hid hb hle hl he =>
    refine ⟨rfl, fun j x x' h1 h2 => ?_⟩
    cases j with
    | zero => simp at h1 h2; subst h1; subst h2; exact .sl sz id off len lo ex b l' hid hb hle hl he
    | succ j => simp at h1
  | agg cs cs' hl he => exact ⟨hl, he⟩
  | tup cs cs' hl he =>
    refine ⟨rfl, fun j x x' h1 h2 => ?_⟩
    cases j with
    | zero => simp [AV.cells] at h1 h2; subst h1; subst h2; exact .tup cs cs' hl he
    | succ j => simp [AV.cells] at h1

theorem Frz.rel (hz : Frz n h u u') (hh : HR c h) (hw : c'.w = c.w) (hfz : ∀ b, c.Fz b → c'.Fz b) (hi : ∀ id x, id < n → c.ι id = some x → c'.ι id = some x)
    (hfr : ∀ id blk x, n ≤ id → h id = some blk → c.ι id = some x → c'.Fz x.1) : ∀ {v : Value}, VR c u v → VR c' u' v := by
  induction hz with
  | keep u hu => exact fun hv => hv.relabel hu hw hfz hi
  | sl sz id off len lo ex b l' hid hb hle hl he ih =>
    intro v hv
    cases hv with
    | sl _ _ _ _ _ _ bb base cap hι hlen hlo hex hmax hroom a ha =>
      obtain ⟨bb', base', sz', arr, E, hB⟩ := hh.blk id b hb
      have hi' := hB.ι
      rw [hι] at hi'
      obtain ⟨rfl, rfl, rfl⟩ : bb = bb' ∧ base = base' ∧ sz = sz' := by simpa using hi'
      have at_ : ∀ (i : Nat) (e' : AV), l'[i]? = some e' → ∃ e, b[off + i]? = some e ∧ Frz n h e e' ∧ i < len := fun i e' hi => by
        have hlt := (List.getElem?_eq_some_iff.1 hi).1
        have hx : b[off + i]? = some (b[off + i]'(by omega)) := List.getElem?_eq_getElem (by omega)
        exact ⟨_, hx, he i _ _ hx hi, by omega⟩
      have cell : ∀ (i : Nat) (e' : AV) (j : Nat) (x' : AV), l'[i]? = some e' → e'.cells[j]? = some x' → ∃ e x y, b[off + i]? = some e ∧ e.cells[j]? = some x ∧ c.w.cell? (a.add (i * sz + j)) = some y ∧ VR c x y := fun i e' j x' hi hj => by
        obtain ⟨e, q1, q2, q3⟩ := at_ i e' hi
        have hjl : j < e.cells.length := by rw [← q2.cells.1]; exact (List.getElem?_eq_some_iff.1 hj).1
        obtain ⟨y, g1, g2⟩ := hB.cell _ _ _ _ q1 (List.getElem?_eq_getElem hjl)
        refine ⟨e, _, y, q1, List.getElem?_eq_getElem hjl, ?_, g2⟩
        have hc0 : cap ≠ 0 := by omega
        rw [ha hc0, add_off _ _ rfl]
        simp only [World.cell?, hB.heap]
        simp only [Option.isSome_none, Bool.false_eq_true, if_false]
        rw [← g1]
        congr 1
        rw [Nat.add_mul]; omega
      subst hl
      refine .ro sz _ l' a cap (fun i j => (c.w.cell? (a.add (i * sz + j))).getD Go.undef) (by omega) hmax (fun hq => ?_) (fun hne => ?_) (fun i e' hi => ?_) (fun i e' j x' hi hj => ?_) (fun i e' j x' hi hj => ?_) (fun i e' j x' hi hj => ?_)
      · simp only [Bool.and_eq_true, decide_eq_true_eq] at hq
        rw [hex hq.1, hq.2]
      · have : 0 < l'.length := by cases l' with | nil => exact absurd rfl hne | cons => simp
        rw [ha (by omega)]
        exact hfr id b _ hid hb hι
      · obtain ⟨e, q1, q2, _⟩ := at_ i e' hi
        rw [q2.cells.1]; exact hB.size _ _ q1
      · obtain ⟨e, q1, q2, _⟩ := at_ i e' hi
        obtain ⟨e2, x, y, g1, g2, _⟩ := cell i e' j x' hi hj
        rw [q1] at g1
        obtain rfl := Option.some.inj g1
        exact (q2.cells.2 j x x' g2 hj).one (hB.one _ _ _ _ q1 g2)
      · obtain ⟨e, x, y, g1, g2, g3, g4⟩ := cell i e' j x' hi hj
        rw [hw, g3]; rfl
      · obtain ⟨e, x, y, g1, g2, g3, g4⟩ := cell i e' j x' hi hj
        simp only [g3, Option.getD_some]
        have hE : ∀ {v : Value}, VR c e v → VR c' e' v := fun hv => ih i e e' g1 hi hv
        have q2 := he i e e' g1 hi
        have single : e.cells = [e] → e'.cells = [e'] → VR c' x' y := fun s1 s2 => by
          rw [s1] at g2
          rw [s2] at hj
          cases j with
          | zero =>
            simp only [List.getElem?_cons_zero, Option.some.injEq] at g2 hj
            subst g2; subst hj
            exact hE g4
          | succ j => simp at g2
        have many : ∀ cs, e = .agg cs → VR c' x' y := fun cs hcs => by
          have hall : ∀ (j : Nat) (u : AV), cs[j]? = some u → ∃ x, c.w.cell? (a.add (i * sz + j)) = some x ∧ VR c u x := fun j u hu => by
            have hl1 : j < e'.cells.length := by rw [q2.cells.1, hcs]; exact (List.getElem?_eq_some_iff.1 hu).1
            obtain ⟨e2, x2, y2, k1, k2, k3, k4⟩ := cell i e' j _ hi (List.getElem?_eq_getElem hl1)
            rw [g1] at k1
            obtain rfl := Option.some.inj k1
            rw [hcs] at k2
            have k2' : cs[j]? = some x2 := k2
            rw [hu] at k2'
            obtain rfl := Option.some.inj k2'
            exact ⟨y2, k3, k4⟩
          obtain ⟨vs, v1, v2, v3⟩ := vals_of (c := c) (us := cs) (q := fun j x => c.w.cell? (a.add (i * sz + j)) = some x) hall
          subst hcs
          have hvc : VR c (.agg cs) (.agg vs.toArray) := .agg _ _ (by simpa using v1) (fun x hx => by
            obtain ⟨j, hj, rfl⟩ := List.mem_iff_getElem.1 hx
            exact hB.one _ _ j _ g1 (List.getElem?_eq_getElem hj)) (fun j x y h1 h2 => v3 j x y h1 (by simpa using h2))
          have hfin := hE hvc
          obtain ⟨cs', rfl⟩ : ∃ cs', e' = .agg cs' := by cases q2 <;> exact ⟨_, rfl⟩
          cases hfin with
          | agg _ _ _ _ hv' =>
            have hjl : j < vs.length := by rw [v1]; exact (List.getElem?_eq_some_iff.1 g2).1
            have hvj := List.getElem?_eq_getElem hjl
            have hq := v2 j _ hvj
            rw [g3] at hq
            have hy : vs[j] = y := (Option.some.inj hq).symm
            exact hv' j x' y hj (by rw [List.getElem?_toArray, hvj, hy])
        cases e with
        | agg cs => exact many cs rfl
        | _ =>
          refine single rfl ?_
          cases q2 <;> rfl
  | agg cs cs' hl he ih =>
    intro v hv
    cases hv with
    | agg _ vs hs hone hv =>
      refine .agg _ vs (by omega) (fun x hx => ?_) (fun i x y hx hy => ?_)
      · obtain ⟨i, hi, rfl⟩ := List.mem_iff_getElem.1 hx
        have h1 : cs[i]? = some (cs[i]'(by omega)) := List.getElem?_eq_getElem (by omega)
        exact (he i _ _ h1 (List.getElem?_eq_getElem hi)).one (hone _ (List.getElem_mem _))
      · have hlt := (List.getElem?_eq_some_iff.1 hx).1
        have h1 : cs[i]? = some (cs[i]'(by omega)) := List.getElem?_eq_getElem (by omega)
        exact ih i _ _ h1 hx (hv i _ _ h1 hy)
  | tup cs cs' hl he ih =>
    intro v hv
    cases hv with
    | tup _ vs hs hv =>
      refine .tup _ vs (by omega) (fun i x y hx hy => ?_)
      have hlt := (List.getElem?_eq_some_iff.1 hx).1
      have h1 : cs[i]? = some (cs[i]'(by omega)) := List.getElem?_eq_getElem (by omega)
      exact ih i _ _ h1 hx (hv i _ _ h1 hy)

/-- A heap that the caller may be left with. -/
structure Left (n : Nat) (h h' h'' : Heap) : Prop where
  sub : ∀ id b, h'' id = some b → id < n ∧ h' id = some b
  lt : ∀ id b, h'' id = some b → h id = some b ∨ ∀ e, e ∈ b → ∀ u, u ∈ e.cells → u.Lt n

theorem left_blk (hc : HR c h) (hfc : Fresh c n) (hh : HR c' h') {f : Nat → Option (Nat × Nat × Nat)} (hl : Left n h h' h'') {Z : Nat → Prop} (hz : ∀ b, c'.Fz b → Z b) (hi : ∀ id x, id < n → c'.ι id = some x → f id = some x)
    (hnz : ∀ id b bb base sz arr E, h'' id = some b → BlkR c' id b bb base sz arr E → ¬ Z bb) (id : Nat) (b : List AV) (hb : h'' id = some b) : ∃ bb base sz arr E, BlkR ⟨f, Z, c'.w⟩ id b bb base sz arr E := by
  obtain ⟨h1, h2⟩ := hl.sub id b hb
  obtain ⟨bb, base, sz, arr, E, hB⟩ := hh.blk id b h2
  refine ⟨bb, base, sz, arr, E, hi _ _ h1 hB.ι, hB.heap, hnz _ _ _ _ _ _ _ hb hB, hB.size, hB.one, fun i e j u a1 a2 => ?_⟩
  obtain ⟨v, q1, q2⟩ := hB.cell i e j u a1 a2
  have hlt : u.Lt n := by
    rcases hl.lt id b hb with hq | hq
    · obtain ⟨_, _, _, _, _, hB0⟩ := hc.blk id b hq
      obtain ⟨v0, _, q0⟩ := hB0.cell i e j u a1 a2
      exact q0.lt hfc
    · exact hq e (List.mem_of_getElem? a1) u (List.mem_of_getElem? a2)
  exact ⟨v, q1, q2.relabel hlt rfl hz hi⟩

/-- The result frozen, all else that is new forgotten. -/
theorem PostR.freeze {w' : World} {r r' : AV} (hp : PostR c h n v w' r h' n') (hc : HR c h) (hfc : Fresh c n) (hf : Frz n h' r r') (hl : Left n h h' h'') : PostR c h n v w' r' h'' n := by
  obtain ⟨c', rfl, e, hh, hfr, hv, hn⟩ := hp
  let Z : Nat → Prop := fun b => c'.Fz b ∨ ∃ id blk x, n ≤ id ∧ h' id = some blk ∧ c'.ι id = some x ∧ x.1 = b
  let f : Nat → Option (Nat × Nat × Nat) := fun id => if id < n then c'.ι id else none
  have hi : ∀ id x, id < n → c'.ι id = some x → f id = some x := fun id x h1 h2 => by simp only [f]; rw [if_pos h1]; exact h2
  have fi : ∀ id x, f id = some x → id < n ∧ c'.ι id = some x := fun id x hx => by
    simp only [f] at hx
    split at hx
    · exact ⟨by assumption, hx⟩
    · cases hx
  have hz : ∀ b, c'.Fz b → Z b := fun b hb => .inl hb
  refine ⟨⟨f, Z, c'.w⟩, rfl, ⟨e.os, e.tape, e.output, e.size, fun id x hx => ?_, fun id x hx => ?_, fun b hb => .inl (e.fz b hb), e.shape, e.frame, fun id blk x h1 h2 => ?_, fun b hb => ?_⟩, ⟨fun id blk hb => ?_, fun i j bi bj x y h1 h2 h3 h4 h5 => ?_, fun b hb => ?_⟩, fun id hid => ?_, ?_, Nat.le_refl _⟩
  · refine hi id x ?_ (e.ι id x hx)
    rcases Nat.lt_or_ge id n with h1 | h1
    · exact h1
    · rw [hfc id h1] at hx; cases hx
  · obtain ⟨h1, h2⟩ := fi id x hx
    rcases e.dom id x h2 with h3 | h3
    · exact .inl h3
    · omega
  · exact e.own id blk x (hl.sub id blk h1).2 (fi id x h2).2
  · rcases hb with hb | ⟨id, blk, x, h1, h2, h3, rfl⟩
    · exact e.fzb b hb
    · exact .inr (e.own id blk x h2 h3)
  · refine left_blk hc hfc hh hl hz hi (fun id b bb base sz arr E h1 hB => ?_) id blk hb
    obtain ⟨g1, g2⟩ := hl.sub id b h1
    rintro (hq | ⟨id2, blk2, x2, k1, k2, k3, k4⟩)
    · exact hB.nfz hq
    · have := hh.inj id id2 b blk2 _ _ g2 k2 hB.ι k3 k4.symm
      omega
  · exact hh.inj i j bi bj x y (hl.sub i bi h1).2 (hl.sub j bj h2).2 (fi i x h3).2 (fi j y h4).2 h5
  · rcases hb with hb | ⟨id, blk, x, h1, h2, h3, rfl⟩
    · exact hh.fzlt b hb
    · obtain ⟨bb, base, sz, arr, E, hB⟩ := hh.blk id blk h2
      rw [hB.ι] at h3
      obtain rfl := Option.some.inj h3
      exact heap_lt hB.heap
  · show f id = none
    simp only [f]
    rw [if_neg (by omega)]
  · exact Frz.rel (c := c') (c' := ⟨f, Z, c'.w⟩) hf hh rfl hz hi (fun id blk x h1 h2 h3 => .inr ⟨id, blk, x, h1, h2, h3, rfl⟩) hv

/-- Kept as it is, but for what is forgotten. -/
theorem PostR.keep {w' : World} {r : AV} (hp : PostR c h n v w' r h' n') (hs : ∀ id b, h'' id = some b → h' id = some b) : PostR c h n v w' r h'' n' := by
  obtain ⟨c', rfl, e, hh, hfr, hv, hn⟩ := hp
  exact ⟨c', rfl, e.sub hs, hh.sub hs, hfr, hv, hn⟩

/-- A row of the call's own goes on under the caller's next id; what it holds is frozen, all else that is new forgotten. -/
theorem PostR.own {w' : World} {sz k off len lo : Nat} {ex : Bool} (hp : PostR c h n v w' (.sl sz k off len lo ex) h' n') (hc : HR c h) (hfc : Fresh c n) (hk : n ≤ k) {b b' : List AV} (hb : h' k = some b) (hbl : b'.length = b.length)
    (hf : ∀ (i : Nat) (e e' : AV), b[i]? = some e → b'[i]? = some e' → Frz n (h'.del k) e e') (hl : Left n h h' h'') : PostR c h n v w' (.sl sz n off len lo ex) (h''.upd n b') (n + 1) := by
  obtain ⟨c', rfl, e, hh, hfr, hv, hn⟩ := hp
  let Z : Nat → Prop := fun b => c'.Fz b ∨ ∃ id blk x, n ≤ id ∧ id ≠ k ∧ h' id = some blk ∧ c'.ι id = some x ∧ x.1 = b
  let f : Nat → Option (Nat × Nat × Nat) := fun id => if id < n then c'.ι id else if id = n then c'.ι k else none
  have hi : ∀ id x, id < n → c'.ι id = some x → f id = some x := fun id x h1 h2 => by simp only [f]; rw [if_pos h1]; exact h2
  have fn' : f n = c'.ι k := by simp [f]
  have fi : ∀ id x, f id = some x → (id < n ∧ c'.ι id = some x) ∨ (id = n ∧ c'.ι k = some x) := fun id x hx => by
    simp only [f] at hx
    split at hx
    · exact .inl ⟨by assumption, hx⟩
    · split at hx
      · exact .inr ⟨by assumption, hx⟩
      · cases hx
  have hz : ∀ b, c'.Fz b → Z b := fun b hb => .inl hb
  have lt_ne : ∀ id b, h'' id = some b → id ≠ n := fun id b hb => by have := (hl.sub id b hb).1; omega
  have get : ∀ id b2, (h''.upd n b') id = some b2 → (id = n ∧ b2 = b') ∨ (id < n ∧ h'' id = some b2 ∧ h' id = some b2) := fun id b2 hb2 => by
    by_cases hid : id = n
    · subst hid; rw [Heap.upd_same] at hb2; exact .inl ⟨rfl, (Option.some.inj hb2).symm⟩
    · rw [Heap.upd_ne _ _ hid] at hb2; exact .inr ⟨(hl.sub id b2 hb2).1, hb2, (hl.sub id b2 hb2).2⟩
  obtain ⟨bb, base, sz0, arr, E, hB⟩ := hh.blk k b hb
  have hdel : HR c' (h'.del k) := hh.sub fun id b2 hb2 => by
    unfold Heap.del at hb2
    split at hb2
    · cases hb2
    · exact hb2
  have dele : ∀ id blk, (h'.del k) id = some blk → id ≠ k ∧ h' id = some blk := fun id blk hb2 => by
    unfold Heap.del at hb2
    split at hb2
    · cases hb2
    · exact ⟨by assumption, hb2⟩
  refine ⟨⟨f, Z, c'.w⟩, rfl, ⟨e.os, e.tape, e.output, e.size, fun id x hx => ?_, fun id x hx => ?_, fun b hb => .inl (e.fz b hb), e.shape, e.frame, fun id blk x h1 h2 => ?_, fun b hb => ?_⟩, ⟨fun id blk hb2 => ?_, fun i j bi bj x y h1 h2 h3 h4 h5 => ?_, fun b hb => ?_⟩, fun id hid => ?_, ?_, by omega⟩
  · refine hi id x ?_ (e.ι id x hx)
    rcases Nat.lt_or_ge id n with h1 | h1
    · exact h1
    · rw [hfc id h1] at hx; cases hx
  · rcases fi id x hx with ⟨h1, h2⟩ | ⟨rfl, h2⟩
    · rcases e.dom id x h2 with h3 | h3
      · exact .inl h3
      · omega
    · exact .inr ⟨by omega, by omega⟩
  · rcases get id blk h1 with ⟨rfl, rfl⟩ | ⟨g1, g2, g3⟩
    · have h2' : f id = some x := h2
      rw [fn'] at h2'
      exact e.own k b x hb h2'
    · rcases fi id x h2 with ⟨_, k2⟩ | ⟨k1, _⟩
      · exact e.own id blk x g3 k2
      · omega
  · rcases hb with hb | ⟨id, blk, x, h1, _, h2, h3, rfl⟩
    · exact e.fzb b hb
    · exact .inr (e.own id blk x h2 h3)
  · rcases get id blk hb2 with ⟨rfl, rfl⟩ | ⟨g1, g2, g3⟩
    · refine ⟨bb, base, sz0, arr, E, (show f id = _ by rw [fn']; exact hB.ι), hB.heap, ?_, fun i x hx => ?_, fun i x j u hx hu => ?_, fun i x j u hx hu => ?_⟩
      · rintro (hq | ⟨id2, blk2, x2, k1, k2, k3, k4, k5⟩)
        · exact hB.nfz hq
        · exact k2 (hh.inj id2 k blk2 b _ _ k3 hb k4 hB.ι k5)
      all_goals
        have hlt := (List.getElem?_eq_some_iff.1 hx).1
        have hx0 : b[i]? = some (b[i]'(by omega)) := List.getElem?_eq_getElem (by omega)
        have hfe := hf i _ _ hx0 hx
        have hcl := hfe.cells
      · rw [hcl.1]; exact hB.size _ _ hx0
      · have hjl : j < (b[i]'(by omega)).cells.length := by rw [← hcl.1]; exact (List.getElem?_eq_some_iff.1 hu).1
        exact (hcl.2 j _ _ (List.getElem?_eq_getElem hjl) hu).one (hB.one _ _ _ _ hx0 (List.getElem?_eq_getElem hjl))
      · have hjl : j < (b[i]'(by omega)).cells.length := by rw [← hcl.1]; exact (List.getElem?_eq_some_iff.1 hu).1
        obtain ⟨v, q1, q2⟩ := hB.cell _ _ _ _ hx0 (List.getElem?_eq_getElem hjl)
        exact ⟨v, q1, Frz.rel (c := c') (c' := ⟨f, Z, c'.w⟩) (hcl.2 j _ _ (List.getElem?_eq_getElem hjl) hu) hdel rfl hz hi (fun id blk x h1 h2 h3 => .inr ⟨id, blk, x, h1, (dele id blk h2).1, (dele id blk h2).2, h3, rfl⟩) q2⟩
    · refine left_blk hc hfc hh hl hz hi (fun id b2 bb base sz arr E h1 hB2 => ?_) id blk g2
      obtain ⟨k1, k2⟩ := hl.sub id b2 h1
      rintro (hq | ⟨id2, blk2, x2, k1, k2', k3, k4, k5⟩)
      · exact hB2.nfz hq
      · have := hh.inj id id2 b2 blk2 _ _ k2 k3 hB2.ι k4 k5.symm
        omega
  · have key : ∀ id b2 x, (h''.upd n b') id = some b2 → f id = some x → ∃ id0 b0, h' id0 = some b0 ∧ c'.ι id0 = some x ∧ ((id = n ∧ id0 = k) ∨ (id < n ∧ id0 = id)) := fun id b2 x g0 k0 => by
      rcases get id b2 g0 with ⟨rfl, rfl⟩ | ⟨g1, g2, g3⟩
      · rw [fn'] at k0; exact ⟨k, b, hb, k0, .inl ⟨rfl, rfl⟩⟩
      · rcases fi id x k0 with ⟨_, k2⟩ | ⟨k1, _⟩
        · exact ⟨id, b2, g3, k2, .inr ⟨g1, rfl⟩⟩
        · omega
    obtain ⟨i0, b0, p1, p2, p3⟩ := key i bi x h1 h3
    obtain ⟨j0, b1, r1, r2, r3⟩ := key j bj y h2 h4
    have := hh.inj i0 j0 b0 b1 x y p1 r1 p2 r2 h5
    omega
  · rcases hb with hb | ⟨id, blk, x, h1, _, h2, h3, rfl⟩
    · exact hh.fzlt b hb
    · obtain ⟨bb, base, sz, arr, E, hB⟩ := hh.blk id blk h2
      rw [hB.ι] at h3
      obtain rfl := Option.some.inj h3
      exact heap_lt hB.heap
  · show f id = none
    simp only [f]
    rw [if_neg (by omega), if_neg (by omega)]
  · cases hv with
    | sl _ _ _ _ _ _ b1 base1 cap hι hlen hlo hex hmax hroom a ha => exact VR.sl (c := ⟨f, Z, c'.w⟩) sz n off len lo ex b1 base1 cap (fn'.trans hι) hlen hlo hex hmax hroom a ha

/-- **What a caller may take a call's outcome for.** -/
inductive Conv (n : Nat) (h : Heap) : AV → Heap → Nat → AV → Heap → Nat → Prop
  | keep (r h' n' h'') (hs : ∀ id b, h'' id = some b → h' id = some b) : Conv n h r h' n' r h'' n'
  | freeze (r h' n' r' h'') (hf : Frz n h' r r') (hl : Left n h h' h'') : Conv n h r h' n' r' h'' n
  | own (sz k off len lo ex h' n' b b' h'') (hk : n ≤ k) (hb : h' k = some b) (hbl : b'.length = b.length) (hf : ∀ (i : Nat) (e e' : AV), b[i]? = some e → b'[i]? = some e' → Frz n (h'.del k) e e') (hl : Left n h h' h'') :
      Conv n h (.sl sz k off len lo ex) h' n' (.sl sz n off len lo ex) (h''.upd n b') (n + 1)

theorem CA.conv {P : Program} {f : FuncId} {args : List AV} {K : AV → Heap → Nat → Prop} (hc : CA P f args h n fun r h' n' => ∃ r2 h2 n2, Conv n h r h' n' r2 h2 n2 ∧ K r2 h2 n2) : CA P f args h n K := by
  refine ⟨hc.1, fun c vals hh hf hs hv => Calls.mono (hc.2 c vals hh hf hs hv) fun e w' he => ?_⟩
  obtain ⟨v, r, h', n', rfl, hp, r2, h2, n2, hcv, hK⟩ := he
  refine ⟨v, r2, h2, n2, rfl, ?_, hK⟩
  cases hcv with
  | keep _ _ _ _ hs => exact hp.keep hs
  | freeze _ _ _ _ _ hf2 hl => exact hp.freeze hh hf hf2 hl
  | own _ _ _ _ _ _ _ _ _ _ _ hk hb hbl hf2 hl => exact hp.own hh hf hk hb hbl hf2 hl

theorem CA.mono {P : Program} {f : FuncId} {args : List AV} {K K' : AV → Heap → Nat → Prop} (hc : CA P f args h n K) (hk : ∀ r h' n', K r h' n' → K' r h' n') : CA P f args h n K' :=
  ⟨hc.1, fun c vals hh hf hs hv => Calls.mono (hc.2 c vals hh hf hs hv) fun _ _ ⟨v, r, h', n', q1, q2, q3⟩ => ⟨v, r, h', n', q1, q2, hk _ _ _ q3⟩⟩

end
end Go.Proofs.Ytplkjfnjdekgpaa
