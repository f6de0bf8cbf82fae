/- Small aids to the small logic. Own work. -/
import Derived.Test.YtplkjfnjdekgpaaLtMarkB
import Derived.Test.YtplkjfnjdekgpaaLtDrawT
namespace Go.Proofs.Ytplkjfnjdekgpaa
open Go

theorem MarkC.mono {P : Program} {f : FuncId} {H H' : AV → Nat → Int → Prop} {x' : AV} {w : Nat} (hm : MarkC P f H x' w) (hh : ∀ e k, H e w k → H' e w k) : MarkC P f H' x' w :=
  fun h n K x I k ht hk hkw hK => hm h n K x I k ht hk hkw fun x'' h' n' h1 h2 h3 h4 => hK x'' h' n' h1 h2 h3 (hh _ _ h4)

theorem one_cells {e : AV} (h : e.one = true) : e.cells = [e] := by cases e <;> first | rfl | (simp [AV.one] at h)

theorem Tree.slOne {α : Type} {sz : Nat} {R : AV → α → Prop} {h : Heap} {e e' : AV} {J : List Nat} {l : List α} (ht : Tree h e e' J) (hs : SlR sz R e' l) : e.cells = [e] := by
  obtain ⟨es, hes, _, _, hlt, _⟩ := hs
  cases ht with
  | atom u hu hn =>
    cases hu <;> first | rfl | (cases hes; done)
  | sl => rfl
  | agg => cases hes

theorem opsA_step {P : Program} {T : TE} {h : Heap} {n : Nat} (ops : List Oper) (o : Oper) (l : List Oper) (E : Env) (K : Env → Heap → Nat → Prop) : opsA P T ops (o :: l) E h n K = stepA P T ops o E h n (fun E' h' n' => opsW P T ops l E' h' n' K) := rfl

theorem opsA_cat {P : Program} {T : TE} {ops : List Oper} {K K' : Env → Heap → Nat → Prop} : ∀ (k : Nat) (l : List Oper) (E : Env) (h : Heap) (n : Nat), opsA P T ops (l.take k) E h n K' → (∀ E' h' n', K' E' h' n' → opsA P T ops (l.drop k) E' h' n' K) → opsA P T ops l E h n K
  | 0, l, E, h, n, h1, h2 => h2 E h n h1
  | k + 1, [], E, h, n, h1, h2 => by simpa using h2 E h n h1
  | k + 1, o :: l, E, h, n, h1, h2 => stepA_mono (fun r h' n' hk => opsA_cat k l _ h' n' hk h2) (show stepA P T ops o E h n (fun E' h' n' => opsA P T ops (l.take k) E' h' n' K') from h1)

/-- Some operations that leave the heap as it is; what is known behind them. -/
theorem opsA_mid {P : Program} {T : TE} {ops l : List Oper} {K : Env → Heap → Nat → Prop} {E : Env} {h : Heap} {n : Nat} (k : Nat) (Φ : Env → Prop) (h1 : opsA P T ops (l.take k) E h n (fun E' h' n' => h = h' ∧ n = n' ∧ Φ E')) (h2 : ∀ E', Φ E' → opsA P T ops (l.drop k) E' h n K) : opsA P T ops l E h n K :=
  opsA_cat k l E h n h1 fun E' h' n' ⟨q1, q2, q3⟩ => by subst q1; subst q2; exact h2 E' q3

section
variable {T : TE} {E : Env} {h : Heap} {n : Nat} {K : AV → Heap → Nat → Prop}

theorem Heap.Sub.fresh {b : List AV} (hlt : ∀ id b, h id = some b → id < n) : h.Sub (h.upd n b) := fun id x hx => by
  rw [Heap.upd_ne _ _ (by have := hlt id x hx; omega)]; exact hx

theorem Heap.Sub.over {h2 : Heap} {k : Nat} {b : List AV} (hs : h.Sub h2) (hlt : ∀ id b, h id = some b → id < n) (hk : n ≤ k) : h.Sub (h2.upd k b) := fun id x hx => by
  rw [Heap.upd_ne _ _ (by have := hlt id x hx; omega)]; exact hs id x hx

theorem frzL1 {a a' : AV} (ha : a = a' ∨ Frz 0 h a a') : ∀ (i : Nat) (u u' : AV), [a][i]? = some u → [a'][i]? = some u' → u = u' ∨ Frz 0 h u u' := fun i u u' h1 h2 => by
  match i with
  | 0 => simp at h1 h2; subst h1; subst h2; exact ha
  | i + 1 => simp at h1

theorem frzL2 {a a' b b' : AV} (ha : a = a' ∨ Frz 0 h a a') (hb : b = b' ∨ Frz 0 h b b') : ∀ (i : Nat) (u u' : AV), [a, b][i]? = some u → [a', b'][i]? = some u' → u = u' ∨ Frz 0 h u u' := fun i u u' h1 h2 => by
  match i with
  | 0 => simp at h1 h2; subst h1; subst h2; exact ha
  | 1 => simp at h1 h2; subst h1; subst h2; exact hb
  | i + 2 => simp at h1

theorem frzL3 {a a' b b' c c' : AV} (ha : a = a' ∨ Frz 0 h a a') (hb : b = b' ∨ Frz 0 h b b') (hc : c = c' ∨ Frz 0 h c c') : ∀ (i : Nat) (u u' : AV), [a, b, c][i]? = some u → [a', b', c'][i]? = some u' → u = u' ∨ Frz 0 h u u' := fun i u u' h1 h2 => by
  match i with
  | 0 => simp at h1 h2; subst h1; subst h2; exact ha
  | 1 => simp at h1 h2; subst h1; subst h2; exact hb
  | 2 => simp at h1 h2; subst h1; subst h2; exact hc
  | i + 3 => simp at h1

/-- An owned result: its tree. -/
theorem OwnRes.frz0 {β : Type} {U : AV → β → Prop} {r : AV} {b : β} {h' : Heap} {n' : Nat} (ho : OwnRes U h n r b h' n') : ∃ r' I, Tree h' r r' I ∧ U r' b ∧ (∀ i, i ∈ I → n ≤ i ∧ i < n') := by
  obtain ⟨⟨r', I, h1, h2, h3, _⟩, _, _⟩ := ho
  exact ⟨r', I, h1, h2, h3⟩

theorem Tree.frz00 {x x' : AV} {I : List Nat} (ht : Tree h x x' I) : Frz 0 h x x' := ht.frz fun _ _ _ hb => ⟨Nat.zero_le _, hb⟩

theorem len2 {α : Type} {l : List α} (h : l.length = 2) : ∃ a b, l = [a, b] := by
  match l, h with
  | [a, b], _ => exact ⟨a, b, rfl⟩

theorem len3 {α : Type} {l : List α} (h : l.length = 3) : ∃ a b c, l = [a, b, c] := by
  match l, h with
  | [a, b, c], _ => exact ⟨a, b, c, rfl⟩

/-- What is plain in a row of its own. -/
theorem OwnR.tree {n0 n1 sz : Nat} {A : AV} {es : List AV} (ho : OwnR h n0 n1 sz A es) (hp : ∀ e, e ∈ es → e.Lt 0 ∧ NoRo e) : ∃ A' I, Tree h A A' I ∧ (A' = .nils ∧ es = [] ∨ ∃ ex, A' = .ro sz ex es) ∧ ∀ i, i ∈ I → n0 ≤ i ∧ i < n1 ∧ A.idIs i := by
  rcases ho with ⟨rfl, rfl⟩ | ⟨k, ex, a, b, rfl, hk⟩
  · exact ⟨.nils, [], .atom _ .nils .nils, .inl ⟨rfl, rfl⟩, fun i hi => by cases hi⟩
  · refine ⟨_, [k], .sl sz k ex es es [] hk (TreeL.atoms es hp) (fun h => by cases h), .inr ⟨ex, rfl⟩, fun i hi => ?_⟩
    rw [List.mem_singleton.1 hi]
    exact ⟨a, b, rfl⟩

theorem all2_map {α β : Type} {Q : α → β → Prop} {f : β → α} : ∀ (l : List β), (∀ b, b ∈ l → Q (f b) b) → All2 Q (l.map f) l
  | [], _ => .nil
  | b :: l, h => .cons (h b (by simp)) (all2_map l fun c hc => h c (by simp [hc]))

theorem all2_map_eq {α β : Type} {Q : α → β → Prop} {f : β → α} {es : List α} {l : List β} (h : All2 Q es l) (hq : ∀ e a, Q e a → e = f a) : es = l.map f := by
  induction h with
  | nil => rfl
  | cons h1 _ ih => rw [hq _ _ h1, ih]; rfl

theorem slr_of {sz : Nat} {α : Type} {R : AV → α → Prop} {f : α → AV} {A' : AV} {l : List α} (hA : A' = .nils ∧ l.map f = [] ∨ ∃ ex, A' = .ro sz ex (l.map f)) (hl : l.length ≤ maxLen) (hq : ∀ b, b ∈ l → R (f b) b) (hlt : ∀ e a n, R e a → e.Lt n) : SlR sz R A' l := by
  rcases hA with ⟨rfl, h0⟩ | ⟨ex, rfl⟩
  · obtain rfl : l = [] := by simpa using h0
    exact ⟨[], rfl, .nil, Nat.zero_le _, fun _ => .nils, rfl⟩
  · exact .mk_ro (all2_map l hq) hl hlt

theorem op_slice_ro {e : Operand → AV} {t el : TypeId} {x : Operand} {lo hi mx : Option Operand} {ex : Bool} {l : List AV} {i j m : Nat} (ht : (T t).ty = .slice el) (hpos : 0 < (T el).sz) (hx : e x = .ro (T el).sz ex l) (hmh : mx.isSome = true → hi.isSome = true)
    (hlo : bnd (lo.map e) 0 i) (hhi : bnd (hi.map e) l.length j) (hmx : bnd (mx.map e) l.length m) (h1 : i ≤ j) (h2 : j ≤ m) (h3 : m ≤ l.length) (hk : K (.ro (T el).sz (if mx.isSome then decide (m = j) else (ex && decide (j = l.length))) ((l.drop i).take (j - i))) h n) : opP T (.slice t x lo hi mx) e h n K := by
  simp only [opP, hx]
  refine ⟨el, ht, hpos, hmh, rfl, i, j, m, hlo, hhi, hmx, h1, h2, h3, ?_⟩
  cases mx <;> simpa using hk

theorem e_bs0 {e : Operand → AV} (t : TypeId) : opP T (.buildSlice t 0 #[]) e h n K = (match (T t).ty with
    | .slice el => 0 < (T el).sz ∧ K (.sl (T el).sz n 0 0 0 true) (h.upd n []) (n + 1)
    | _ => False) := by
  rw [e_buildSlice]
  cases (T t).ty <;> simp only
  rename_i el
  exact propEq (fun ⟨h1, _, _, _, h5⟩ => ⟨h1, h5⟩) (fun ⟨h1, h5⟩ => ⟨h1, by simp, rfl, fun p hp => by simp at hp, h5⟩)

theorem b_nil_nil {t el : TypeId} {R : AV → Prop} (ht : (T t).ty = .slice el) : binP T .eql t .nils .nils R = R (.bool true) := propEq (fun h => h.2) (fun h => ⟨⟨el, ht⟩, h⟩)
theorem b_nil_ro {t el : TypeId} {sz : Nat} {ex : Bool} {l : List AV} {R : AV → Prop} (ht : (T t).ty = .slice el) : binP T .eql t (.ro sz ex l) .nils R = R (.bool false) := propEq (fun h => h.2) (fun h => ⟨⟨el, ht⟩, h⟩)

theorem slr_cases {α : Type} {sz : Nat} {R : AV → α → Prop} {x : AV} {l : List α} (h : SlR sz R x l) : (x = .nils ∧ l = []) ∨ ∃ ex es, x = .ro sz ex es ∧ All2 R es l := by
  obtain ⟨es, hes, hal, hml, hlt, ho⟩ := h
  cases x <;> first | (cases hes; done) | skip
  case nils =>
    obtain rfl : es = [] := by simpa [rdSl] using hes.symm
    cases hal; exact .inl ⟨rfl, rfl⟩
  case ro s ex l' =>
    unfold rdSl at hes
    simp only at hes
    split at hes
    · rename_i hs
      obtain rfl := Option.some.inj hes
      subst hs
      exact .inr ⟨ex, _, rfl, hal⟩
    · cases hes
  case sl s id off len lo ex =>
    have := hlt 0
    cases this with
    | sl _ _ _ _ _ _ hq => omega

/-- An owned result at a function's end: all else that is new is forgotten. -/
theorem own_done {β : Type} {U : AV → β → Prop} {hF : Heap} {nF : Nat} {r r' : AV} {b : β} {I : List Nat} (_ : h.below n) (ht : Tree hF r r' I) (hU : U r' b) (hI : ∀ i, i ∈ I → n ≤ i ∧ i < nF) (hb : ∀ id, id < n → hF id = h id) (hle : n ≤ nF)
    (hk : ∀ r h' n', OwnRes U h n r b h' n' → K r h' n') : ∃ r2 h2 n2, Conv n h r hF nF r2 h2 n2 ∧ K r2 h2 n2 := by
  let g : Heap := fun id => if id < n ∨ id ∈ I then hF id else none
  refine ⟨_, g, nF, .keep _ _ _ _ (fun id b hb => ?_), hk _ _ _ ⟨⟨r', I, ht.keep fun i hi => ?_, hU, hI, fun id hid hni => ?_⟩, fun id hid => ?_, hle⟩⟩
  · simp only [g] at hb
    split at hb
    · exact hb
    · cases hb
  · simp only [g]; rw [if_pos (.inr hi)]
  · simp only [g]
    rw [if_neg]
    rintro (hq | hq)
    · omega
    · exact hni hq
  · simp only [g]
    rw [if_pos (.inl hid)]
    exact hb id hid

theorem SlR.ltn {α : Type} {sz : Nat} {R : AV → α → Prop} {x : AV} {l : List α} (h : SlR sz R x l) (n : Nat) : x.Lt n := by
  obtain ⟨_, _, _, _, h, _⟩ := h; exact h n

theorem SlR.isOne {α : Type} {sz : Nat} {R : AV → α → Prop} {x : AV} {l : List α} (h : SlR sz R x l) : x.one = true := by
  obtain ⟨_, _, _, _, _, h⟩ := h; exact h

theorem Tree.slGood {α : Type} {sz : Nat} {R : AV → α → Prop} {h : Heap} {e e' : AV} {J : List Nat} {l : List α} (ht : Tree h e e' J) (hs : SlR sz R e' l) : e.good = true := by
  obtain ⟨es, hes, _, _, hlt, _⟩ := hs
  cases ht with
  | atom u hu hn => cases hu <;> first | rfl | (cases hes; done)
  | sl => rfl
  | agg => cases hes

/-- An owned value fits its place. -/
theorem TyO.slice {β : Type} {T : TE} {t e : TypeId} {sz : Nat} {U : AV → β → Prop} (_ht : (T t).ty = .slice e) (h1 : (T t).sz = 1) (hz : (T t).zero = .nils) (hp : ∀ (off : Nat) (x : AV), Go.Proofs.Ytplkjfnjdekgpaa.part T t off x = x.cells[off]?) : TyO T t (SlR sz U) where
  len := fun h r r' I b ht hu => by rw [ht.slOne hu, h1]; rfl
  good := fun h r r' I b ht hu => ht.slGood hu
  setz := fun h r r' I b _ _ => by rw [hz]; rfl
  part := fun h r r' I b ht hu => by rw [hp, ht.slOne hu]; rfl

theorem TyO.struct {β : Type} {T : TE} {t : TypeId} {zs : List AV} {U : AV → β → Prop} (hz : (T t).zero = .agg zs) (hzl : zs.length = (T t).sz) (hp : ∀ (off : Nat) (x : AV), Go.Proofs.Ytplkjfnjdekgpaa.part T t off x = if off + (T t).sz ≤ x.cells.length then some (.agg ((x.cells.drop off).take (T t).sz)) else none)
    (hU : ∀ r b, U r b → ∃ cs, r = .agg cs ∧ cs.length = (T t).sz) : TyO T t U := by
  have key : ∀ h r r' I b, Tree h r r' I → U r' b → ∃ cs, r = .agg cs ∧ cs.length = (T t).sz := fun h r r' I b ht hu => by
    obtain ⟨cs, rfl, hl⟩ := hU _ _ hu
    obtain ⟨cs', rfl, hl'⟩ := ht.aggE
    exact ⟨cs', rfl, by rw [← hl, hl'.length]⟩
  refine ⟨fun h r r' I b ht hu => ?_, fun h r r' I b ht hu => ?_, fun h r r' I b ht hu => ?_, fun h r r' I b ht hu => ?_⟩
  all_goals obtain ⟨cs, rfl, hl⟩ := key h r r' I b ht hu
  · exact hl
  · rfl
  · rw [hz, setPart_agg]
    have : List.drop (0 + (AV.agg cs).cells.length) zs = [] := List.drop_eq_nil_of_le (by simp [AV.cells]; omega)
    rw [this]; simp [AV.cells]
  · rw [hp]
    simp only [AV.cells, Nat.zero_add, List.drop_zero]
    rw [if_pos (by omega), List.take_of_length_le (by omega)]

theorem resA_one {a t sz id : Nat} {v : AV} (hE : E.get a = .ep sz (.sl sz id 0 1 1 true) 0 0) (hh : h id = some [v]) (hp : part T t 0 v = some v) (hc : cellOk T t = true) : resA T E h [.cell a t] = some [v] := by
  simp only [resA, hc, if_true, cellA, hE, rdSl_sl, hh]
  simp [hp]

theorem ret_cell {a t sz id n' : Nat} {v : AV} (hE : E.get a = .ep sz (.sl sz id 0 1 1 true) 0 0) (hh : h id = some [v]) (hp : part T t 0 v = some v) (hc : cellOk T t = true) (hk : K v h n') : retA T [.cell a t] K .ret E h n' :=
  ⟨[v], resA_one hE hh hp hc, hk⟩

theorem ret_own_atom {β : Type} {U : AV → β → Prop} {h' : Heap} {n' : Nat} {r : AV} {b : β} (hlt : h.below n) (hb : ∀ id, id < n → h' id = h id) (hn : n ≤ n') (hU : U r b) (h0 : r.Lt 0) (hr : NoRo r) (hk : ∀ r h' n', OwnRes U h n r b h' n' → K r h' n') : ∃ r2 h2 n2, Conv n h r h' n' r2 h2 n2 ∧ K r2 h2 n2 :=
  ⟨r, h, n', .keep _ _ _ _ (fun id b hx => by rw [hb id (hlt id b hx)]; exact hx), hk _ _ _ ⟨⟨r, [], .atom r h0 hr, hU, (fun i hi => by cases hi), fun id hid _ => hlt.none hid⟩, fun _ _ => rfl, hn⟩⟩

end
end Go.Proofs.Ytplkjfnjdekgpaa
