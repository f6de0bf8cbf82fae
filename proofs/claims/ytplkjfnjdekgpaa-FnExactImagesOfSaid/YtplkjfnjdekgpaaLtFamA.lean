/- Families of functions: what a type's values stand for. Own work. -/
import Derived.Test.YtplkjfnjdekgpaaLtEval
namespace Go.Proofs.Ytplkjfnjdekgpaa
open Go

inductive All2 {α β : Type} (Q : α → β → Prop) : List α → List β → Prop
  | nil : All2 Q [] []
  | cons {x : α} {y : β} {a : List α} {b : List β} (h : Q x y) (t : All2 Q a b) : All2 Q (x :: a) (y :: b)

/-- A relation of values to what they stand for, at a type. -/
structure TyR {α : Type} (T : TE) (t : TypeId) (R : AV → α → Prop) : Prop where
  pos : 0 < (T t).sz
  cell : cellOk T t = true
  zlen : (T t).zero.cells.length = (T t).sz
  part : ∀ e a, R e a → part T t 0 e = some e
  len : ∀ e a, R e a → e.cells.length = (T t).sz
  good : ∀ e a, R e a → e.good = true
  lt : ∀ e a n, R e a → e.Lt n
  setz : ∀ e a, R e a → setPart (T t).zero 0 e = e

/-- What a slice that no heap is needed for stands for. -/
def SlR {α : Type} (sz : Nat) (R : AV → α → Prop) (e : AV) (l : List α) : Prop :=
  ∃ es, rdSl Heap.emp sz e = some es ∧ All2 R es l ∧ es.length ≤ maxLen ∧ (∀ n, e.Lt n) ∧ e.one = true

section
variable {α : Type} {T : TE} {h : Heap} {R : AV → α → Prop}

theorem rdSl_emp {sz : Nat} {e : AV} {es : List AV} (hr : rdSl Heap.emp sz e = some es) (h : Heap) : rdSl h sz e = some es := rdSl_sub (Heap.Sub.emp h) hr

theorem all2_length {β : Type} {Q : α → β → Prop} {a : List α} {b : List β} (h : All2 Q a b) : a.length = b.length := by
  induction h with
  | nil => rfl
  | cons _ _ ih => simp [ih]

theorem all2_get {β : Type} {Q : α → β → Prop} {a : List α} {b : List β} (h : All2 Q a b) : ∀ (i : Nat) (x : α), a[i]? = some x → ∃ y, b[i]? = some y ∧ Q x y := by
  induction h with
  | nil => intro i x hx; simp at hx
  | cons hq _ ih =>
    intro i x hx
    cases i with
    | zero => simp at hx; subst hx; exact ⟨_, rfl, hq⟩
    | succ i => exact ih i x (by simpa using hx)

theorem all2_at {β : Type} {Q : α → β → Prop} {a : List α} {b : List β} (h : All2 Q a b) {i : Nat} (hi : i < b.length) : ∃ x y, a[i]? = some x ∧ b[i]? = some y ∧ Q x y := by
  have hl := all2_length h
  have ha : a[i]? = some (a[i]'(by omega)) := List.getElem?_eq_getElem (by omega)
  obtain ⟨y, h1, h2⟩ := all2_get h i _ ha
  exact ⟨_, y, ha, h1, h2⟩

theorem all2_snoc {β : Type} {Q : α → β → Prop} {a : List α} {b : List β} (h : All2 Q a b) {x : α} {y : β} (hq : Q x y) : All2 Q (a ++ [x]) (b ++ [y]) := by
  induction h with
  | nil => exact .cons hq .nil
  | cons h1 _ ih => exact .cons h1 ih

theorem rdSl_ro (sz : Nat) (ex : Bool) (l : List AV) : rdSl h sz (.ro sz ex l) = some l := by simp [rdSl]
theorem rdSl_nils (sz : Nat) : rdSl h sz .nils = some [] := rfl
theorem rdSl_sl (sz id off len lo : Nat) (ex : Bool) : rdSl h sz (.sl sz id off len lo ex) = (match h id with
    | some b => if off + len ≤ b.length then some ((b.drop off).take len) else none
    | none => none) := by simp only [rdSl, if_true]; rfl

theorem SlR.mk_ro {sz : Nat} {ex : Bool} {es : List AV} {l : List α} (h : All2 R es l) (hl : l.length ≤ maxLen) (hlt : ∀ e a n, R e a → e.Lt n) : SlR sz R (.ro sz ex es) l := by
  refine ⟨es, rdSl_ro _ _ _, h, by rw [all2_length h]; exact hl, fun n => ?_, rfl⟩
  rw [lt_ro]
  intro e he u hu
  obtain ⟨i, hi⟩ := List.mem_iff_getElem?.1 he
  obtain ⟨y, _, h2⟩ := all2_get h i _ hi
  have := hlt _ _ n h2
  cases this with
  | agg _ hl => obtain ⟨j, hj⟩ := List.mem_iff_getElem?.1 hu; exact hl j _ hj
  | _ => simp [AV.cells] at hu; subst hu; constructor <;> assumption

end
end Go.Proofs.Ytplkjfnjdekgpaa
