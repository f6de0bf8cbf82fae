/- Operations in whatever order: what an operation hangs on. Own work. -/
import Derived.Test.YtplkjfnjdekgpaaLtPost
namespace Go.Proofs.Ytplkjfnjdekgpaa
open Go

section
variable {P : Program} {T : TE} {h : Heap} {n : Nat} {K K' : AV → Heap → Nat → Prop}

theorem binP_mono {op : BinOp} {t : TypeId} {x y : AV} {R R' : AV → Prop} (hk : ∀ r, R r → R' r) (hb : binP T op t x y R) : binP T op t x y R' := by
  unfold binP at hb ⊢
  split at hb
  all_goals first | exact hb.elim | exact hk _ hb | exact ⟨hb.1, hk _ hb.2⟩ | exact ⟨hb.1, hb.2.1, hk _ hb.2.2⟩ | (obtain ⟨fs, a1, a2, a3, r, a4, a5⟩ := hb; exact ⟨fs, a1, a2, a3, r, a4, hk _ a5⟩)

theorem unP_mono {op : UnOp} {x : AV} {R R' : AV → Prop} (hk : ∀ r, R r → R' r) (hb : unP op x R) : unP op x R' := by
  unfold unP at hb ⊢
  split at hb
  all_goals first | exact hb.elim | exact hk _ hb

theorem sliceP_mono {sz : Nat} {x : AV} {lo hi mx : Option AV} {R R' : AV → Prop} (hk : ∀ r, R r → R' r) (hb : sliceP sz x lo hi mx R) : sliceP sz x lo hi mx R' := by
  unfold sliceP at hb ⊢
  split at hb
  · exact ⟨hb.1, hb.2.1, hb.2.2.1, hk _ hb.2.2.2⟩
  · obtain ⟨a, i, j, m, b1, b2, b3, b4, b5, b6, b7⟩ := hb; exact ⟨a, i, j, m, b1, b2, b3, b4, b5, b6, hk _ b7⟩
  · obtain ⟨a, i, j, m, b1, b2, b3, b4, b5, b6, b7⟩ := hb; exact ⟨a, i, j, m, b1, b2, b3, b4, b5, b6, hk _ b7⟩
  · exact hb.elim

theorem buildP_mono {fs : List (Nat × TypeId)} {e : Operand → AV} : ∀ (ps : List (Nat × Operand)) (cells : List AV) {R R' : List AV → Prop}, (∀ r, R r → R' r) → buildP T fs cells e ps R → buildP T fs cells e ps R'
  | [], _, _, _, hk, hb => hk _ hb
  | (_, _) :: rest, _, _, _, hk, hb => by
    obtain ⟨p, a1, a2, a3, a4, a5, a6⟩ := hb
    exact ⟨p, a1, a2, a3, a4, a5, buildP_mono rest _ hk a6⟩

theorem ite_mono {c : Prop} [Decidable c] {A B A' B' : Prop} (ha : A → A') (hb : B → B') (h : if c then A else B) : if c then A' else B' := by
  split
  · rename_i hc; rw [if_pos hc] at h; exact ha h
  · rename_i hc; rw [if_neg hc] at h; exact hb h

theorem appendP_mono {e : TypeId} {x y : AV} (hk : ∀ r h' n', K r h' n' → K' r h' n') (hb : appendP T e x y h n K) : appendP T e x y h n K' := by
  obtain ⟨ys, a1, a2, hb⟩ := hb
  refine ⟨ys, a1, a2, ?_⟩
  split at hb
  · obtain ⟨b1, b2, b3⟩ := hb
    exact ⟨b1, b2, ite_mono (hk _ _ _) (hk _ _ _) b3⟩
  · obtain ⟨b0, b1, b2, b3⟩ := hb
    exact ⟨b0, b1, b2, ite_mono (hk _ _ _) (fun q => ⟨q.1, hk _ _ _ q.2⟩) b3⟩
  · obtain ⟨b0, b1, b2, b, b3, b4, b5⟩ := hb
    exact ⟨b0, b1, b2, b, b3, b4, ite_mono (hk _ _ _) (ite_mono (hk _ _ _) (hk _ _ _)) b5⟩
  · exact hb.elim

theorem builtinP_mono {b : Builtin} {ts : List TypeId} {xs : List AV} (hk : ∀ r h' n', K r h' n' → K' r h' n') (hb : builtinP T b ts xs h n K) : builtinP T b ts xs h n K' := by
  unfold builtinP at hb ⊢
  split at hb
  · exact ⟨hb.1, hk _ _ _ hb.2⟩
  · obtain ⟨e, l, a1, a2, a3⟩ := hb; exact ⟨e, l, a1, a2, hk _ _ _ a3⟩
  · obtain ⟨e, a1, a2, a3⟩ := hb; exact ⟨e, a1, a2, hk _ _ _ a3⟩
  · exact ⟨hb.1, hk _ _ _ hb.2⟩
  · exact ⟨hb.1, hk _ _ _ hb.2⟩
  · obtain ⟨a1, e, a2, a3⟩ := hb; exact ⟨a1, e, a2, appendP_mono hk a3⟩
  · obtain ⟨e, a2, ys, a3, a4, a5⟩ := hb
    refine ⟨e, a2, ys, a3, a4, ?_⟩
    split at a5
    · exact hk _ _ _ a5
    · obtain ⟨b0, b, b1, b2, b3⟩ := a5; exact ⟨b0, b, b1, b2, hk _ _ _ b3⟩
    · exact a5.elim
  · obtain ⟨e, a2, a4, a5⟩ := hb
    refine ⟨e, a2, a4, ?_⟩
    split at a5
    · exact hk _ _ _ a5
    · obtain ⟨b0, b, b1, b2, b3⟩ := a5; exact ⟨b0, b, b1, b2, hk _ _ _ b3⟩
    · exact a5.elim
  · exact hb.elim

theorem opP_mono {op : Op} {e : Operand → AV} (hk : ∀ r h' n', K r h' n' → K' r h' n') (ho : opP T op e h n K) : opP T op e h n K' := by
  cases op <;> simp only [opP] at ho ⊢
  all_goals first | exact ho.elim | exact hk _ _ _ ho | skip
  case pick => obtain ⟨t, a1, a2⟩ := ho; exact ⟨t, a1, hk _ _ _ a2⟩
  case alloc => exact ⟨ho.1, hk _ _ _ ho.2⟩
  case box => obtain ⟨a1, a2, a3, a4⟩ := ho; exact ⟨a1, a2, a3, hk _ _ _ a4⟩
  case build => obtain ⟨fs, a1, a2, a3, a4⟩ := ho; exact ⟨fs, a1, a2, a3, buildP_mono _ _ (fun r => hk _ _ _) a4⟩
  case buildSlice => obtain ⟨e, a1, a2, a3, a4, a5, a6⟩ := ho; exact ⟨e, a1, a2, a3, a4, a5, hk _ _ _ a6⟩
  case load => obtain ⟨sz, s, i, off, l, e, v, a1, a2, a3, a4, a5, a6⟩ := ho; exact ⟨sz, s, i, off, l, e, v, a1, a2, a3, a4, a5, hk _ _ _ a6⟩
  case store => obtain ⟨sz, id, o, len, lo, ex, i, off, b, e, a1, a2, a3, a4, a5, a6, a7, a8⟩ := ho; exact ⟨sz, id, o, len, lo, ex, i, off, b, e, a1, a2, a3, a4, a5, a6, a7, hk _ _ _ a8⟩
  case nilCheck =>
    split at ho
    · exact hk _ _ _ ho
    · exact hk _ _ _ ho
    · exact ho.elim
  case binOp => exact binP_mono (fun r => hk _ _ _) ho
  case unOp => exact unP_mono (fun r => hk _ _ _) ho
  case convert =>
    split at ho
    · exact ⟨ho.1, hk _ _ _ ho.2⟩
    · exact ho.elim
  case makeFunc f first cap =>
    cases f <;> simp only at ho ⊢
    case func => exact ⟨ho.1, hk _ _ _ ho.2⟩
    all_goals exact ho.elim
  case makeSlice => obtain ⟨e, k1, k2, a, b, a1, a2, a3, a4, a5, a6, a7, a8, a9⟩ := ho; exact ⟨e, k1, k2, a, b, a1, a2, a3, a4, a5, a6, a7, a8, hk _ _ _ a9⟩
  case slice =>
    split at ho
    · obtain ⟨a1, a2, i, j, a3, a4, a5, a6, a7⟩ := ho; exact ⟨a1, a2, i, j, a3, a4, a5, a6, hk _ _ _ a7⟩
    · obtain ⟨e, a1, a2, a3, a4⟩ := ho; exact ⟨e, a1, a2, a3, sliceP_mono (fun r => hk _ _ _) a4⟩
  case fieldAddr => obtain ⟨sz, b, i, off, fs, p, a1, a2, a3, a4, a5⟩ := ho; exact ⟨sz, b, i, off, fs, p, a1, a2, a3, a4, hk _ _ _ a5⟩
  case field => obtain ⟨fs, p, cs, v, a1, a2, a3, a4, a5, a6⟩ := ho; exact ⟨fs, p, cs, v, a1, a2, a3, a4, a5, hk _ _ _ a6⟩
  case indexAddr => obtain ⟨e, l, k, i, a1, a2, a3, a4, a5, a6, a7⟩ := ho; exact ⟨e, l, k, i, a1, a2, a3, a4, a5, a6, hk _ _ _ a7⟩
  case index => obtain ⟨s, k, i, a1, a2, a3, a4, a5, a6⟩ := ho; exact ⟨s, k, i, a1, a2, a3, a4, a5, hk _ _ _ a6⟩
  case extract => obtain ⟨vs, r, a1, a2, a3⟩ := ho; exact ⟨vs, r, a1, a2, hk _ _ _ a3⟩
  case call =>
    split at ho
    · exact builtinP_mono hk ho
    · exact ho.elim

/-- Operations that leave the heap as it is. -/
def quietOp : Op → Bool
  | .move _ | .assign _ | .pick _ _ _ | .build _ _ | .load _ _ | .nilCheck _ | .binOp _ _ _ _ _ | .unOp _ _ _ | .convert _ _ _ | .makeFunc _ _ _ | .slice _ _ _ _ _ | .fieldAddr _ _ _ | .field _ _ _ | .indexAddr _ _ _ | .index _ _ _ | .extract _ _ => true
  | .call c => match c.callee with
    | .builtin .len | .builtin .cap | .builtin .min | .builtin .max => true
    | _ => false
  | _ => false

def Heap.Sub (a b : Heap) : Prop := ∀ id x, a id = some x → b id = some x
theorem Heap.Sub.refl (a : Heap) : a.Sub a := fun _ _ h => h
theorem Heap.Sub.emp (a : Heap) : Heap.emp.Sub a := fun _ _ h => by cases h

theorem rdSl_sub {a b : Heap} (hs : a.Sub b) {sz : Nat} {x : AV} {l : List AV} (hr : rdSl a sz x = some l) : rdSl b sz x = some l := by
  unfold rdSl at hr ⊢
  split at hr
  · exact hr
  · exact hr
  · split at hr
    · split at hr
      · rename_i hb; rw [hs _ _ hb]; simp only; rw [if_pos (by assumption)]; exact hr
      · cases hr
    · cases hr
  · cases hr

theorem binP_det {op : BinOp} {t : TypeId} {x y : AV} {R : AV → Prop} (hb : binP T op t x y R) : ∃ v, R v ∧ ∀ R' : AV → Prop, R' v → binP T op t x y R' := by
  unfold binP at hb ⊢
  split at hb
  all_goals first | exact hb.elim | exact ⟨_, hb, fun R' hq => hq⟩ | exact ⟨_, hb.2, fun R' hq => ⟨hb.1, hq⟩⟩ | exact ⟨_, hb.2.2, fun R' hq => ⟨hb.1, hb.2.1, hq⟩⟩ | (obtain ⟨fs, a1, a2, a3, r, a4, a5⟩ := hb; exact ⟨_, a5, fun R' hq => ⟨fs, a1, a2, a3, r, a4, hq⟩⟩)

theorem unP_det {op : UnOp} {x : AV} {R : AV → Prop} (hb : unP op x R) : ∃ v, R v ∧ ∀ R' : AV → Prop, R' v → unP op x R' := by
  unfold unP at hb ⊢
  split at hb
  all_goals first | exact hb.elim | exact ⟨_, hb, fun R' hq => hq⟩

theorem sliceP_det {sz : Nat} {x : AV} {lo hi mx : Option AV} {R : AV → Prop} (hb : sliceP sz x lo hi mx R) : ∃ v, R v ∧ ∀ R' : AV → Prop, R' v → sliceP sz x lo hi mx R' := by
  unfold sliceP at hb ⊢
  split at hb
  · exact ⟨_, hb.2.2.2, fun R' hq => ⟨hb.1, hb.2.1, hb.2.2.1, hq⟩⟩
  · obtain ⟨a, i, j, m, b1, b2, b3, b4, b5, b6, b7⟩ := hb; exact ⟨_, b7, fun R' hq => ⟨a, i, j, m, b1, b2, b3, b4, b5, b6, hq⟩⟩
  · obtain ⟨a, i, j, m, b1, b2, b3, b4, b5, b6, b7⟩ := hb; exact ⟨_, b7, fun R' hq => ⟨a, i, j, m, b1, b2, b3, b4, b5, b6, hq⟩⟩
  · exact hb.elim

theorem buildP_det {fs : List (Nat × TypeId)} {e : Operand → AV} : ∀ (ps : List (Nat × Operand)) (cells : List AV) {R : List AV → Prop}, buildP T fs cells e ps R → ∃ v, R v ∧ ∀ R' : List AV → Prop, R' v → buildP T fs cells e ps R'
  | [], _, _, hb => ⟨_, hb, fun R' hq => hq⟩
  | (_, _) :: rest, _, _, hb => by
    obtain ⟨p, a1, a2, a3, a4, a5, a6⟩ := hb
    obtain ⟨v, q1, q2⟩ := buildP_det rest _ a6
    exact ⟨v, q1, fun R' hq => ⟨p, a1, a2, a3, a4, a5, q2 R' hq⟩⟩

/-- A quiet operation yields one value, on every greater heap the same. -/
theorem quiet_det {op : Op} {e : Operand → AV} {hS : Heap} {Φ : AV → Prop} (hq : quietOp op = true) (ho : opP T op e hS n (fun r _ _ => Φ r)) :
    ∃ v, Φ v ∧ ∀ (h' : Heap) (n' : Nat) (K : AV → Heap → Nat → Prop), hS.Sub h' → K v h' n' → opP T op e h' n' K := by
  cases op <;> simp only [quietOp, Bool.false_eq_true] at hq <;> simp only [opP] at ho ⊢
  case move => exact ⟨_, ho, fun h' n' K hs hk => hk⟩
  case assign => exact ⟨_, ho, fun h' n' K hs hk => hk⟩
  case pick => obtain ⟨t, a1, a2⟩ := ho; exact ⟨_, a2, fun h' n' K hs hk => ⟨t, a1, hk⟩⟩
  case build =>
    obtain ⟨fs, a1, a2, a3, a4⟩ := ho
    obtain ⟨v, q1, q2⟩ := buildP_det _ _ a4
    exact ⟨_, q1, fun h' n' K hs hk => ⟨fs, a1, a2, a3, q2 _ hk⟩⟩
  case load => obtain ⟨sz, s, i, off, l, e, v, a1, a2, a3, a4, a5, a6⟩ := ho; exact ⟨_, a6, fun h' n' K hs hk => ⟨sz, s, i, off, l, e, v, a1, rdSl_sub hs a2, a3, a4, a5, hk⟩⟩
  case nilCheck =>
    split at ho
    · exact ⟨_, ho, fun h' n' K hs hk => hk⟩
    · exact ⟨_, ho, fun h' n' K hs hk => hk⟩
    · exact ho.elim
  case binOp => obtain ⟨v, q1, q2⟩ := binP_det ho; exact ⟨v, q1, fun h' n' K hs hk => q2 _ hk⟩
  case unOp => obtain ⟨v, q1, q2⟩ := unP_det ho; exact ⟨v, q1, fun h' n' K hs hk => q2 _ hk⟩
  case convert =>
    split at ho
    · exact ⟨_, ho.2, fun h' n' K hs hk => ⟨ho.1, hk⟩⟩
    · exact ho.elim
  case makeFunc f first cap =>
    cases f <;> simp only at ho ⊢
    case func => exact ⟨_, ho.2, fun h' n' K hs hk => ⟨ho.1, hk⟩⟩
    all_goals exact ho.elim
  case slice =>
    split at ho
    · obtain ⟨a1, a2, i, j, a3, a4, a5, a6, a7⟩ := ho; exact ⟨_, a7, fun h' n' K hs hk => ⟨a1, a2, i, j, a3, a4, a5, a6, hk⟩⟩
    · obtain ⟨e, a1, a2, a3, a4⟩ := ho
      obtain ⟨v, q1, q2⟩ := sliceP_det a4
      exact ⟨v, q1, fun h' n' K hs hk => ⟨e, a1, a2, a3, q2 _ hk⟩⟩
  case fieldAddr => obtain ⟨sz, b, i, off, fs, p, a1, a2, a3, a4, a5⟩ := ho; exact ⟨_, a5, fun h' n' K hs hk => ⟨sz, b, i, off, fs, p, a1, a2, a3, a4, hk⟩⟩
  case field => obtain ⟨fs, p, cs, v, a1, a2, a3, a4, a5, a6⟩ := ho; exact ⟨_, a6, fun h' n' K hs hk => ⟨fs, p, cs, v, a1, a2, a3, a4, a5, hk⟩⟩
  case indexAddr => obtain ⟨e, l, k, i, a1, a2, a3, a4, a5, a6, a7⟩ := ho; exact ⟨_, a7, fun h' n' K hs hk => ⟨e, l, k, i, a1, a2, rdSl_sub hs a3, a4, a5, a6, hk⟩⟩
  case index => obtain ⟨s, k, i, a1, a2, a3, a4, a5, a6⟩ := ho; exact ⟨_, a6, fun h' n' K hs hk => ⟨s, k, i, a1, a2, a3, a4, a5, hk⟩⟩
  case extract => obtain ⟨vs, r, a1, a2, a3⟩ := ho; exact ⟨_, a3, fun h' n' K hs hk => ⟨vs, r, a1, a2, hk⟩⟩
  case call c =>
    split at ho
    · rename_i b hc
      rw [hc] at hq
      cases b <;> simp only [Bool.false_eq_true] at hq <;> unfold builtinP at ho ⊢ <;> split at ho
      all_goals first | exact ho.elim | cases hq | skip
      all_goals first
        | exact ⟨_, ho.2, fun h' n' K hs hk => ⟨ho.1, hk⟩⟩
        | (obtain ⟨e, l, a1, a2, a3⟩ := ho; exact ⟨_, a3, fun h' n' K hs hk => ⟨e, l, a1, rdSl_sub hs a2, hk⟩⟩)
        | (obtain ⟨e, a1, a2, a3⟩ := ho; exact ⟨_, a3, fun h' n' K hs hk => ⟨e, a1, a2, hk⟩⟩)
        | simp_all
    · exact ho.elim

end
end Go.Proofs.Ytplkjfnjdekgpaa
