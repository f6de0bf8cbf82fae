/- The operations, reckoned. Own work. -/
import Derived.Test.YtplkjfnjdekgpaaLtTab
namespace Go.Proofs.Ytplkjfnjdekgpaa
open Go

section
variable {P : Program} {T : TE} {N : Nat} {h : Heap} {n : Nat} {e : Operand → AV} {K : AV → Heap → Nat → Prop}

theorem Env.get_put_some (E : Env) (d : Nat) (v : AV) (t : Nat) : (Env.put E (some d) v).get t = if d = t then v else E.get t := rfl
theorem Env.put_none (E : Env) (v : AV) : Env.put E none v = E := rfl
theorem Env.get_envOf (l : List AV) (t : Nat) : (envOf l).get t = (l[t]?).getD .undef := rfl

theorem Heap.upd_get (h : Heap) (id x : Nat) (b : List AV) : (h.upd id b) x = if x = id then some b else h x := rfl
theorem Heap.del_get (h : Heap) (id x : Nat) : (h.del id) x = if x = id then none else h x := rfl
theorem Heap.upd_upd (h : Heap) (id : Nat) (a b : List AV) : (h.upd id a).upd id b = h.upd id b := by
  funext x; unfold Heap.upd; split <;> rfl
theorem Heap.upd_sort (h : Heap) {i j : Nat} (a b : List AV) (hij : i < j) : (h.upd j a).upd i b = (h.upd i b).upd j a := by
  funext x; unfold Heap.upd
  by_cases h1 : x = i
  · subst h1
    rw [if_pos rfl, if_neg (by omega), if_pos rfl]
  · rw [if_neg h1]
    split <;> rfl

theorem propEq {a b : Prop} (h1 : a → b) (h2 : b → a) : a = b := propext ⟨h1, h2⟩

theorem e_move (x : Operand) : opP T (.move x) e h n K = K (e x) h n := rfl
theorem e_assign (x : Operand) : opP T (.assign x) e h n K = K (e x) h n := rfl
theorem e_alloc (t : TypeId) : opP T (.alloc t) e h n K = (0 < (T t).sz ∧ K (.ep (T t).sz (.sl (T t).sz n 0 1 1 true) 0 0) (h.upd n [(T t).zero]) (n + 1)) := rfl
theorem e_box (t : TypeId) (x : Operand) : opP T (.box t x) e h n K = ((e x).good = true ∧ (e x).cells.length = (T t).sz ∧ 0 < (T t).sz ∧ K (.ep (T t).sz (.sl (T t).sz n 0 1 1 true) 0 0) (h.upd n [e x]) (n + 1)) := rfl
theorem e_binOp (op : BinOp) (t : TypeId) (x y : Operand) (f : TypeId) : opP T (.binOp op t x y f) e h n K = binP T op t (e x) (e y) (fun r => K r h n) := rfl
theorem e_unOp (op : UnOp) (f : TypeId) (x : Operand) : opP T (.unOp op f x) e h n K = unP op (e x) (fun r => K r h n) := rfl
theorem e_nilCheck (x : Operand) : opP T (.nilCheck x) e h n K = (match e x with | .ep sz a i off => K (.ep sz a i off) h n | .fn f c => K (.fn f c) h n | _ => False) := rfl

theorem e_pick (c a b : Operand) : opP T (.pick c a b) e h n K = (match e c with | .bool t => K (if t then e a else e b) h n | _ => False) := by
  refine propEq (fun ⟨t, h1, h2⟩ => by rw [h1]; exact h2) (fun hq => ?_)
  split at hq
  · exact ⟨_, by assumption, hq⟩
  · exact hq.elim

theorem e_load (t : TypeId) (a : Operand) : opP T (.load t a) e h n K = (match e a with
    | .ep sz s i off => (match rdSl h sz s with
      | some l => (match l[i]? with
        | some x => (match part T t off x with
          | some v => cellOk T t = true ∧ K v h n
          | none => False)
        | none => False)
      | none => False)
    | _ => False) := by
  have hcell : (∀ fs, (T t).ty = .struct fs → 0 < (T t).sz) ↔ cellOk T t = true := by
    unfold cellOk
    constructor
    · intro q; split
      · rename_i fs hq; exact decide_eq_true (q _ hq)
      · rfl
    · intro q fs hfs; rw [hfs] at q; simpa using q
  refine propEq (fun ⟨sz, s, i, off, l, x, v, h1, h2, h3, h4, h5, h6⟩ => ?_) (fun hq => ?_)
  · rw [h1]; simp only [h2, h3, h4]; exact ⟨hcell.1 h5, h6⟩
  · split at hq
    · rename_i sz s i off h1
      split at hq
      · rename_i l h2
        split at hq
        · rename_i x h3
          split at hq
          · rename_i v h4
            exact ⟨sz, s, i, off, l, x, v, h1, h2, h3, h4, hcell.2 hq.1, hq.2⟩
          · exact hq.elim
        · exact hq.elim
      · exact hq.elim
    · exact hq.elim

theorem e_store (t : TypeId) (a x : Operand) : opP T (.store t a x) e h n K = (match e a with
    | .ep sz (.sl sz' id o _ _ _) i off => (match h id with
      | some b => (match b[o + i]? with
        | some y => sz' = sz ∧ (e x).good = true ∧ (e x).cells.length = (T t).sz ∧ 0 < (T t).sz ∧ off + (T t).sz ≤ y.cells.length ∧ K .undef (h.upd id (b.set (o + i) (setPart y off (e x)))) n
        | none => False)
      | none => False)
    | _ => False) := by
  refine propEq (fun ⟨sz, id, o, len, lo, ex, i, off, b, y, h1, h2, h3, h4, h5, h6, h7, h8⟩ => ?_) (fun hq => ?_)
  · rw [h1]; simp only [h2, h3]; exact ⟨trivial, h4, h5, h6, h7, h8⟩
  · split at hq
    · rename_i sz sz' id o len lo ex i off h1
      split at hq
      · rename_i b h2
        split at hq
        · rename_i y h3
          obtain ⟨rfl, h4, h5, h6, h7, h8⟩ := hq
          exact ⟨sz', id, o, len, lo, ex, i, off, b, y, h1, h2, h3, h4, h5, h6, h7, h8⟩
        · exact hq.elim
      · exact hq.elim
    · exact hq.elim

theorem e_fieldAddr (s : TypeId) (x : Operand) (f : Nat) : opP T (.fieldAddr s x f) e h n K = (match e x with
    | .ep sz b i off => (match (T s).ty with
      | .struct fs => (match fs[f]? with
        | some p => 0 < (T p.2).sz ∧ K (.ep sz b i (off + p.1)) h n
        | none => False)
      | _ => False)
    | _ => False) := by
  refine propEq (fun ⟨sz, b, i, off, fs, p, h1, h2, h3, h4, h5⟩ => by rw [h1]; simp only [h2, h3]; exact ⟨h4, h5⟩) (fun hq => ?_)
  split at hq
  · rename_i sz b i off h1
    split at hq
    · rename_i fs h2
      split at hq
      · rename_i p h3; exact ⟨sz, b, i, off, fs, p, h1, h2, h3, hq.1, hq.2⟩
      · exact hq.elim
    · exact hq.elim
  · exact hq.elim

theorem e_field (t : TypeId) (x : Operand) (f : Nat) : opP T (.field t x f) e h n K = (match e x with
    | .agg cs => (match (T t).ty with
      | .struct fs => (match fs[f]? with
        | some p => (match part T p.2 p.1 (.agg cs) with
          | some v => cellOk T p.2 = true ∧ K v h n
          | none => False)
        | none => False)
      | _ => False)
    | _ => False) := by
  have hcell : ∀ t, (∀ fs, (T t).ty = .struct fs → 0 < (T t).sz) ↔ cellOk T t = true := fun t => by
    unfold cellOk
    constructor
    · intro q; split
      · rename_i fs hq; exact decide_eq_true (q _ hq)
      · rfl
    · intro q fs hfs; rw [hfs] at q; simpa using q
  refine propEq (fun ⟨fs, p, cs, v, h1, h2, h3, h4, h5, h6⟩ => by rw [h3]; simp only [h1, h2, h4]; exact ⟨(hcell _).1 h5, h6⟩) (fun hq => ?_)
  split at hq
  · rename_i cs h1
    split at hq
    · rename_i fs h2
      split at hq
      · rename_i p h3
        split at hq
        · rename_i v h4; exact ⟨fs, p, cs, v, h2, h3, h1, h4, (hcell _).2 hq.1, hq.2⟩
        · exact hq.elim
      · exact hq.elim
    · exact hq.elim
  · exact hq.elim

theorem e_indexAddr (t : TypeId) (x ix : Operand) : opP T (.indexAddr t x ix) e h n K = (match (T t).ty with
    | .slice el => (match e ix with
      | .int _ i => (match rdSl h (T el).sz (e x) with
        | some l => 0 < (T el).sz ∧ 0 ≤ i ∧ i < (l.length : Int) ∧ K (.ep (T el).sz (e x) i.toNat 0) h n
        | none => False)
      | _ => False)
    | _ => False) := by
  refine propEq (fun ⟨el, l, k, i, h1, h2, h3, h4, h5, h6, h7⟩ => by simp only [h1, h4, h3]; exact ⟨h2, h5, h6, h7⟩) (fun hq => ?_)
  split at hq
  · rename_i el h1
    split at hq
    · rename_i k i h2
      split at hq
      · rename_i l h3; exact ⟨el, l, k, i, h1, hq.1, h3, h2, hq.2.1, hq.2.2.1, hq.2.2.2⟩
      · exact hq.elim
    · exact hq.elim
  · exact hq.elim

theorem e_index (t : TypeId) (x ix : Operand) : opP T (.index t x ix) e h n K = (match e x, e ix with
    | .str s, .int _ i => (T t).ty = .str ∧ 0 ≤ i ∧ ∃ hi : i.toNat < s.size, K (.int .u8 ((s[i.toNat]'hi).toNat : Int)) h n
    | _, _ => False) := by
  refine propEq (fun ⟨s, k, i, h1, h2, h3, h4, h5, h6⟩ => by simp only [h2, h3]; exact ⟨h1, h4, h5, h6⟩) (fun hq => ?_)
  split at hq
  · rename_i s k i h1 h2; exact ⟨s, k, i, hq.1, h1, h2, hq.2.1, hq.2.2⟩
  · exact hq.elim

theorem e_extract (t : Operand) (ix : Nat) : opP T (.extract t ix) e h n K = (match e t with
    | .tup vs => (match vs[ix]? with
      | some r => K r h n
      | none => False)
    | _ => False) := by
  refine propEq (fun ⟨vs, r, h1, h2, h3⟩ => by rw [h1]; simp only [h2]; exact h3) (fun hq => ?_)
  split at hq
  · rename_i vs h1
    split at hq
    · rename_i r h2; exact ⟨vs, r, h1, h2, hq⟩
    · exact hq.elim
  · exact hq.elim

theorem e_convert (s d : TypeId) (x : Operand) : opP T (.convert s d x) e h n K = (match (T d).ty, e x with
    | .int k, .int _ m => (match (T s).ty with | .int _ => K (.int k (k.wrap m)) h n | _ => False)
    | _, _ => False) := by
  refine propEq (fun hq => ?_) (fun hq => ?_)
  · simp only [opP] at hq
    split at hq
    · rename_i k k0 m h1 h2
      obtain ⟨⟨k', h3⟩, h4⟩ := hq
      simp only [h1, h2, h3]; exact h4
    · exact hq.elim
  · simp only [opP]
    split at hq
    · rename_i k k0 m h1 h2
      split at hq
      · rename_i k' h3
        simp only [h1, h2]
        exact ⟨⟨k', h3⟩, hq⟩
      · exact hq.elim
    · exact hq.elim

theorem e_makeSlice (t : TypeId) (l c : Operand) : opP T (.makeSlice t l c) e h n K = (match (T t).ty with
    | .slice el => (match e l, e c with
      | .int _ a, .int _ b => 0 < (T el).sz ∧ 0 ≤ a ∧ a ≤ b ∧ ((T el).bytes : Int) * b ≤ 140737488355328 ∧ b ≤ 140737488355328 ∧ K (.sl (T el).sz n 0 a.toNat b.toNat true) (h.upd n (List.replicate b.toNat (T el).zero)) (n + 1)
      | _, _ => False)
    | _ => False) := by
  refine propEq (fun ⟨el, k1, k2, a, b, h1, h2, h3, h4, h5, h6, h7, h8, h9⟩ => by simp only [h1, h3, h4]; exact ⟨h2, h5, h6, h7, h8, h9⟩) (fun hq => ?_)
  split at hq
  · rename_i el h1
    split at hq
    · rename_i k1 a k2 b h2 h3; exact ⟨el, k1, k2, a, b, h1, hq.1, h2, h3, hq.2.1, hq.2.2.1, hq.2.2.2.1, hq.2.2.2.2.1, hq.2.2.2.2.2⟩
    · exact hq.elim
  · exact hq.elim

theorem e_build (t : TypeId) (ps : Array (Nat × Operand)) : opP T (.build t ps) e h n K = (match (T t).ty with
    | .struct fs => 0 < (T t).sz ∧ fs.all (fun p => decide (0 < (T p.2).sz)) = true ∧ buildP T fs (T t).zero.cells e ps.toList (fun cs => K (.agg cs) h n)
    | _ => False) := by
  refine propEq (fun ⟨fs, h1, h2, h3, h4⟩ => by rw [h1]; exact ⟨h2, h3, h4⟩) (fun hq => ?_)
  split at hq
  · rename_i fs h1; exact ⟨fs, h1, hq.1, hq.2.1, hq.2.2⟩
  · exact hq.elim

theorem e_buildSlice (t : TypeId) (len : Nat) (ps : Array (Nat × Operand)) : opP T (.buildSlice t len ps) e h n K = (match (T t).ty with
    | .slice el => 0 < (T el).sz ∧ len * (T el).sz ≤ 16777216 ∧ ps.toList.map (·.1) = List.range len ∧ (∀ p, p ∈ ps.toList → (e p.2).cells.length = (T el).sz ∧ (e p.2).good = true) ∧ K (.sl (T el).sz n 0 len len true) (h.upd n (ps.toList.map fun p => e p.2)) (n + 1)
    | _ => False) := by
  refine propEq (fun ⟨el, h1, h2, h3, h4, h5, h6⟩ => by rw [h1]; exact ⟨h2, h3, h4, h5, h6⟩) (fun hq => ?_)
  split at hq
  · rename_i el h1; exact ⟨el, h1, hq.1, hq.2.1, hq.2.2.1, hq.2.2.2.1, hq.2.2.2.2⟩
  · exact hq.elim

theorem e_makeFunc (f : FuncId) (cap : Array Operand) : opP T (.makeFunc (.func f) #[] cap) e h n K = K (.fn f (cap.toList.map e)) h n := propEq (fun h => h.2) (fun h => ⟨rfl, h⟩)

theorem e_builtin (b : Builtin) (as : Array Operand) (ts : Array TypeId) : opP T (.call { callee := .builtin b, args := as, argTypes := ts }) e h n K = builtinP T b ts.toList (as.toList.map e) h n K := rfl
theorem c_builtin (o : Option Tmp) (b : Builtin) (as : Array Operand) (ts : Array TypeId) (ty : TypeId) (p : String) (af : Array Edge) (g : Option (Nat × Bool)) {E : Env} :
    callA P T ⟨o, .call { callee := .builtin b, args := as, argTypes := ts }, ty, p, af, g⟩ E h n K = builtinP T b ts.toList (as.toList.map (ev E)) h n K := rfl
theorem c_value (o : Option Tmp) (f : Operand) (as : Array Operand) (ts : Array TypeId) (ty : TypeId) (p : String) (af : Array Edge) (g : Option (Nat × Bool)) {E : Env} :
    callA P T ⟨o, .call { callee := .value f, args := as, argTypes := ts }, ty, p, af, g⟩ E h n K = (match ev E f with | .fn g cap => CA P g (as.toList.map (ev E) ++ cap) h n K | _ => False) := rfl
theorem e_len {t : TypeId} {v : AV} : builtinP T .len [t] [v] h n K = (match (T t).ty with
    | .str => (match v with | .str s => K (.int .i64 s.size) h n | _ => False)
    | .slice el => (match rdSl h (T el).sz v with | some l => K (.int .i64 l.length) h n | none => False)
    | _ => False) := by
  cases v with
  | str s =>
    simp only [builtinP, rdSl]
    cases hty : (T t).ty <;> simp
  | _ =>
    simp only [builtinP]
    cases hty : (T t).ty <;> simp []
    all_goals
      refine ⟨fun ⟨l, h2, h3⟩ => ?_, fun hq => ?_⟩
      · rw [h2]; exact h3
      · split at hq
        · rename_i l h2; exact ⟨l, h2, hq⟩
        · exact hq.elim

theorem e_len1 (t : TypeId) (x : Operand) : opP T (.call { callee := .builtin .len, args := #[x], argTypes := #[t] }) e h n K = (match (T t).ty with
    | .str => (match e x with | .str s => K (.int .i64 s.size) h n | _ => False)
    | .slice el => (match rdSl h (T el).sz (e x) with | some l => K (.int .i64 l.length) h n | none => False)
    | _ => False) := e_len
theorem e_append1 (t t' : TypeId) (x y : Operand) : opP T (.call { callee := .builtin .append, args := #[x, y], argTypes := #[t, t'] }) e h n K = (t = t' ∧ ∃ el, (T t).ty = .slice el ∧ appendP T el (e x) (e y) h n K) := rfl
theorem e_min1 (t t' : TypeId) (x y : Operand) : opP T (.call { callee := .builtin .min, args := #[x, y], argTypes := #[t, t'] }) e h n K = (match e x, e y with
    | .int k a, .int k' b => k = k' ∧ K (.int k (if b < a then b else a)) h n
    | _, _ => False) := by
  show builtinP T .min [t, t'] [e x, e y] h n K = _
  cases e x <;> cases e y <;> rfl
theorem e_max1 (t t' : TypeId) (x y : Operand) : opP T (.call { callee := .builtin .max, args := #[x, y], argTypes := #[t, t'] }) e h n K = (match e x, e y with
    | .int k a, .int k' b => k = k' ∧ K (.int k (if a < b then b else a)) h n
    | _, _ => False) := by
  show builtinP T .max [t, t'] [e x, e y] h n K = _
  cases e x <;> cases e y <;> rfl

def planL (P : Program) (T : TE) (l : List Oper) (D : List Nat) (hS : Heap) (K : Env → Heap → Nat → Prop) : List (Nat × Nat) → Bool → Env → Heap → Nat → Prop
  | [], _, E, h, n => K E h n
  | (i, k) :: rest, dirty, E, h, n => match l[i]? with
    | none => False
    | some o => match k with
      | 0 => stepA P T l o E Heap.emp n (fun E' _ _ => planL P T l D hS K rest dirty E' h n)
      | 1 => stepA P T l o E hS n (fun E' _ _ => planL P T l D hS K rest dirty E' h n)
      | _ => match dirty || D.contains i with
        | true => stepA P T l o E h n (fun E' h' n' => planL P T l D hS K rest true E' h' n')
        | false => stepA P T l o E h n (fun E' h' n' => hS.Sub h' ∧ planL P T l D hS K rest false E' h' n')

theorem planL_eq (l : List Oper) (D : List Nat) (hS : Heap) (K : Env → Heap → Nat → Prop) : ∀ (plan : List (Nat × Nat)) (dirty : Bool) (E : Env) (h : Heap) (n : Nat), planL P T l D hS K plan dirty E h n = planA P T l.toArray D hS K plan dirty E h n
  | [], _, _, _, _ => rfl
  | (i, 0) :: rest, dirty, E, h, n => by
    simp only [planL, planA, List.getElem?_toArray, planL_eq l D hS K rest]
    cases l[i]? <;> rfl
  | (i, 1) :: rest, dirty, E, h, n => by
    simp only [planL, planA, List.getElem?_toArray, planL_eq l D hS K rest]
    cases l[i]? <;> rfl
  | (i, k + 2) :: rest, dirty, E, h, n => by
    simp only [planL, planA, List.getElem?_toArray, planL_eq l D hS K rest]
    cases l[i]? with
    | none => rfl
    | some o => cases hd : (dirty || D.contains i) <;> simp

theorem WP.drawL {Q : Exit → Env → Heap → Nat → Prop} {E : Env} (hT : TEOk P T) (hm : P.follows .mixedOrders = true) {id : Nat} {l : List Oper} (plan : List (Nat × Nat)) (D : List Nat) (hS : Heap) (hp : (plan.length == l.length && planOk l.toArray D plan (Array.replicate l.toArray.size false)) = true) (hd : l.all (dstIn N) = true)
    (hsub : hS.Sub h) (hc : (∀ id b, h id = some b → id < n) → planL P T l D hS (Q .normal) plan false E h n) : WP P N (.region id l.toArray true) Q E h n :=
  WP.draw hT hm plan D hS hp hd hsub fun hlt => by rw [← planL_eq]; exact hc hlt

theorem b_add (t : TypeId) (k : IntKind) (a b : Int) {K : AV → Prop} : binP T .add t (.int k a) (.int k b) K = K (.int k (k.wrap (a + b))) := propEq (fun h => h.2) (fun h => ⟨rfl, h⟩)
theorem b_sub (t : TypeId) (k : IntKind) (a b : Int) {K : AV → Prop} : binP T .sub t (.int k a) (.int k b) K = K (.int k (k.wrap (a - b))) := propEq (fun h => h.2) (fun h => ⟨rfl, h⟩)
theorem b_mul (t : TypeId) (k : IntKind) (a b : Int) {K : AV → Prop} : binP T .mul t (.int k a) (.int k b) K = K (.int k (k.wrap (a * b))) := propEq (fun h => h.2) (fun h => ⟨rfl, h⟩)
theorem b_eql (t : TypeId) (k : IntKind) (a b : Int) {K : AV → Prop} : binP T .eql t (.int k a) (.int k b) K = K (.bool (decide (a = b))) := propEq (fun h => h.2) (fun h => ⟨rfl, h⟩)
theorem b_neq (t : TypeId) (k : IntKind) (a b : Int) {K : AV → Prop} : binP T .neq t (.int k a) (.int k b) K = K (.bool (decide (a ≠ b))) := propEq (fun h => h.2) (fun h => ⟨rfl, h⟩)
theorem b_lss (t : TypeId) (k : IntKind) (a b : Int) {K : AV → Prop} : binP T .lss t (.int k a) (.int k b) K = K (.bool (decide (a < b))) := propEq (fun h => h.2) (fun h => ⟨rfl, h⟩)
theorem b_leq (t : TypeId) (k : IntKind) (a b : Int) {K : AV → Prop} : binP T .leq t (.int k a) (.int k b) K = K (.bool (decide (a ≤ b))) := propEq (fun h => h.2) (fun h => ⟨rfl, h⟩)
theorem b_gtr (t : TypeId) (k : IntKind) (a b : Int) {K : AV → Prop} : binP T .gtr t (.int k a) (.int k b) K = K (.bool (decide (b < a))) := propEq (fun h => h.2) (fun h => ⟨rfl, h⟩)
theorem b_geq (t : TypeId) (k : IntKind) (a b : Int) {K : AV → Prop} : binP T .geq t (.int k a) (.int k b) K = K (.bool (decide (b ≤ a))) := propEq (fun h => h.2) (fun h => ⟨rfl, h⟩)
theorem b_and (t : TypeId) (k : IntKind) (a b : Int) {K : AV → Prop} : binP T .and t (.int k a) (.int k b) K = K (.int k (bitA .and k a b)) := propEq (fun h => h.2) (fun h => ⟨rfl, h⟩)
theorem b_or (t : TypeId) (k : IntKind) (a b : Int) {K : AV → Prop} : binP T .or t (.int k a) (.int k b) K = K (.int k (bitA .or k a b)) := propEq (fun h => h.2) (fun h => ⟨rfl, h⟩)
theorem b_quo (t : TypeId) (k : IntKind) (a b : Int) {K : AV → Prop} : binP T .quo t (.int k a) (.int k b) K = (b ≠ 0 ∧ K (.int k (k.wrap (a.tdiv b)))) := propEq (fun h => h.2) (fun h => ⟨rfl, h⟩)
theorem b_rem (t : TypeId) (k : IntKind) (a b : Int) {K : AV → Prop} : binP T .rem t (.int k a) (.int k b) K = (b ≠ 0 ∧ K (.int k (a.tmod b))) := propEq (fun h => h.2) (fun h => ⟨rfl, h⟩)
theorem b_shl (t : TypeId) (k k' : IntKind) (a b : Int) {K : AV → Prop} : binP T .shl t (.int k a) (.int k' b) K = (0 ≤ b ∧ K (.int k (k.wrap (a * 2 ^ (min b.toNat k.bits))))) := rfl
theorem b_shr (t : TypeId) (k k' : IntKind) (a b : Int) {K : AV → Prop} : binP T .shr t (.int k a) (.int k' b) K = (0 ≤ b ∧ K (.int k (a.fdiv (2 ^ (min b.toNat k.bits))))) := rfl
theorem b_seql (t : TypeId) (a b : ByteArray) {K : AV → Prop} : binP T .eql t (.str a) (.str b) K = K (.bool (decide (a = b))) := rfl
theorem b_sneq (t : TypeId) (a b : ByteArray) {K : AV → Prop} : binP T .neq t (.str a) (.str b) K = K (.bool (decide (a ≠ b))) := rfl
theorem b_beql (t : TypeId) (a b : Bool) {K : AV → Prop} : binP T .eql t (.bool a) (.bool b) K = ((T t).ty = .bool ∧ K (.bool (a == b))) := rfl
theorem b_bneq (t : TypeId) (a b : Bool) {K : AV → Prop} : binP T .neq t (.bool a) (.bool b) K = ((T t).ty = .bool ∧ K (.bool (!(a == b)))) := rfl
theorem u_not (b : Bool) {K : AV → Prop} : unP .not (.bool b) K = K (.bool (!b)) := rfl
theorem u_neg (k : IntKind) (a : Int) {K : AV → Prop} : unP .neg (.int k a) K = K (.int k (k.wrap (0 - a))) := rfl

theorem wrap_in {m : Int} (h1 : -9223372036854775808 ≤ m) (h2 : m ≤ 9223372036854775807) : IntKind.i64.wrap m = m := by rw [IntKind.wrap_i64]; omega

theorem good_bool (b : Bool) : (AV.bool b).good = true := rfl
theorem good_int (k : IntKind) (m : Int) : (AV.int k m).good = true := rfl
theorem good_str (s : ByteArray) : (AV.str s).good = true := rfl
theorem good_nils : AV.nils.good = true := rfl
theorem good_ro (sz : Nat) (ex : Bool) (l : List AV) : (AV.ro sz ex l).good = true := rfl
theorem good_sl (sz id off len lo : Nat) (ex : Bool) : (AV.sl sz id off len lo ex).good = true := rfl
theorem good_ep (sz : Nat) (a : AV) (i off : Nat) : (AV.ep sz a i off).good = true := rfl
theorem good_nilp : AV.nilp.good = true := rfl
theorem good_nilf : AV.nilf.good = true := rfl
theorem good_fn (f : FuncId) (l : List AV) : (AV.fn f l).good = true := rfl
theorem good_agg (l : List AV) : (AV.agg l).good = true := rfl
theorem setPart_agg (cs : List AV) (off : Nat) (v : AV) : setPart (.agg cs) off v = .agg (cs.take off ++ v.cells ++ cs.drop (off + v.cells.length)) := rfl
theorem setPart_bool (b : Bool) (off : Nat) (v : AV) : setPart (.bool b) off v = v := rfl
theorem setPart_int (k : IntKind) (m : Int) (off : Nat) (v : AV) : setPart (.int k m) off v = v := rfl
theorem setPart_str (s : ByteArray) (off : Nat) (v : AV) : setPart (.str s) off v = v := rfl
theorem setPart_nils (off : Nat) (v : AV) : setPart .nils off v = v := rfl
theorem setPart_ro (sz : Nat) (ex : Bool) (l : List AV) (off : Nat) (v : AV) : setPart (.ro sz ex l) off v = v := rfl
theorem setPart_sl (sz id o len lo : Nat) (ex : Bool) (off : Nat) (v : AV) : setPart (.sl sz id o len lo ex) off v = v := rfl

theorem Left.refl (hlt : ∀ id b, h id = some b → id < n) : Left n h h h := ⟨fun id b hb => ⟨hlt id b hb, hb⟩, fun _ _ hb => .inl hb⟩
theorem Left.upd {h' h'' : Heap} {k : Nat} {b : List AV} (hk : n ≤ k) (hl : Left n h h' h'') : Left n h (h'.upd k b) h'' :=
  ⟨fun id x hx => ⟨(hl.sub id x hx).1, by rw [Heap.upd_ne _ _ (by have := (hl.sub id x hx).1; omega)]; exact (hl.sub id x hx).2⟩, hl.lt⟩
theorem Left.del {h' h'' : Heap} {k : Nat} (hk : n ≤ k) (hl : Left n h h' h'') : Left n h (h'.del k) h'' :=
  ⟨fun id x hx => ⟨(hl.sub id x hx).1, by unfold Heap.del; rw [if_neg (by have := (hl.sub id x hx).1; omega)]; exact (hl.sub id x hx).2⟩, hl.lt⟩

theorem ret_freeze {h' h'' : Heap} {n' : Nat} {r r' : AV} (hl : Left n h h' h'') (hf : Frz n h' r r') (hk : K r' h'' n) : ∃ r2 h2 n2, Conv n h r h' n' r2 h2 n2 ∧ K r2 h2 n2 :=
  ⟨r', h'', n, .freeze _ _ _ _ _ hf hl, hk⟩
theorem ret_plain {h' h'' : Heap} {n' : Nat} {r : AV} (hl : Left n h h' h'') (hf : r.Lt n) (hk : K r h'' n) : ∃ r2 h2 n2, Conv n h r h' n' r2 h2 n2 ∧ K r2 h2 n2 :=
  ⟨r, h'', n, .freeze _ _ _ _ _ (.keep _ hf) hl, hk⟩

theorem ret_p {h' : Heap} {n' : Nat} {r : AV} (hl : Left n h h' h) (hf : r.Lt n) (hk : K r h n) : ∃ r2 h2 n2, Conv n h r h' n' r2 h2 n2 ∧ K r2 h2 n2 := ret_plain hl hf hk
theorem ret_f {h' : Heap} {n' : Nat} {r r' : AV} (hl : Left n h h' h) (hf : Frz n h' r r') (hk : K r' h n) : ∃ r2 h2 n2, Conv n h r h' n' r2 h2 n2 ∧ K r2 h2 n2 := ret_freeze hl hf hk

theorem lt_bool (b : Bool) : (AV.bool b).Lt n = True := propEq (fun _ => trivial) (fun _ => .bool b)
theorem lt_int (k : IntKind) (m : Int) : (AV.int k m).Lt n = True := propEq (fun _ => trivial) (fun _ => .int k m)
theorem lt_str (s : ByteArray) : (AV.str s).Lt n = True := propEq (fun _ => trivial) (fun _ => .str s)
theorem lt_nils : AV.nils.Lt n = True := propEq (fun _ => trivial) (fun _ => .nils)
theorem lt_nilf : AV.nilf.Lt n = True := propEq (fun _ => trivial) (fun _ => .nilf)
theorem lt_agg (l : List AV) : (AV.agg l).Lt n = ∀ u, u ∈ l → u.Lt n := propEq
  (fun h u hu => by cases h with | agg _ hl => obtain ⟨i, hi, rfl⟩ := List.mem_iff_getElem.1 hu; exact hl i _ (List.getElem?_eq_getElem hi))
  (fun h => .agg _ fun i u hu => h u (List.mem_of_getElem? hu))
theorem lt_tup (l : List AV) : (AV.tup l).Lt n = ∀ u, u ∈ l → u.Lt n := propEq
  (fun h u hu => by cases h with | tup _ hl => obtain ⟨i, hi, rfl⟩ := List.mem_iff_getElem.1 hu; exact hl i _ (List.getElem?_eq_getElem hi))
  (fun h => .tup _ fun i u hu => h u (List.mem_of_getElem? hu))
theorem lt_ro (sz : Nat) (ex : Bool) (l : List AV) : (AV.ro sz ex l).Lt n = ∀ e, e ∈ l → ∀ u, u ∈ e.cells → u.Lt n := propEq
  (fun h e he u hu => by
    cases h with
    | ro _ _ _ hl =>
      obtain ⟨i, hi, rfl⟩ := List.mem_iff_getElem.1 he
      obtain ⟨j, hj, rfl⟩ := List.mem_iff_getElem.1 hu
      exact hl i _ j _ (List.getElem?_eq_getElem hi) (List.getElem?_eq_getElem hj))
  (fun h => .ro _ _ _ fun i e j u h1 h2 => h e (List.mem_of_getElem? h1) u (List.mem_of_getElem? h2))

def isCallV : Op → Bool
  | .call c => match c.callee with | .value _ => true | _ => false
  | _ => false

/-- The operations that wait behind a call. -/
def opsW (P : Program) (T : TE) (ops : List Oper) (l : List Oper) (E : Env) (h : Heap) (n : Nat) (K : Env → Heap → Nat → Prop) : Prop := opsA P T ops l E h n K
def planW (P : Program) (T : TE) (l : List Oper) (D : List Nat) (hS : Heap) (K : Env → Heap → Nat → Prop) (plan : List (Nat × Nat)) (dirty : Bool) (E : Env) (h : Heap) (n : Nat) : Prop := planL P T l D hS K plan dirty E h n

theorem opsA_nil (ops : List Oper) (E : Env) (K : Env → Heap → Nat → Prop) : opsA P T ops [] E h n K = K E h n := rfl
theorem opsA_cons (ops : List Oper) (o : Oper) (l : List Oper) (E : Env) (K : Env → Heap → Nat → Prop) : opsA P T ops (o :: l) E h n K = (match isCallV o.op with
    | true => stepA P T ops o E h n (fun E' h' n' => opsW P T ops l E' h' n' K)
    | false => stepA P T ops o E h n (fun E' h' n' => opsA P T ops l E' h' n' K)) := by cases isCallV o.op <;> rfl

theorem planL_nil (l : List Oper) (D : List Nat) (hS : Heap) (dirty : Bool) (E : Env) (K : Env → Heap → Nat → Prop) : planL P T l D hS K [] dirty E h n = K E h n := rfl
theorem planL_cons (l : List Oper) (D : List Nat) (hS : Heap) (i k : Nat) (rest : List (Nat × Nat)) (dirty : Bool) (E : Env) (K : Env → Heap → Nat → Prop) : planL P T l D hS K ((i, k) :: rest) dirty E h n = (match l[i]? with
    | none => False
    | some o => match k with
      | 0 => stepA P T l o E Heap.emp n (fun E' _ _ => planL P T l D hS K rest dirty E' h n)
      | 1 => stepA P T l o E hS n (fun E' _ _ => planL P T l D hS K rest dirty E' h n)
      | _ => match isCallV o.op with
        | true => (match dirty || D.contains i with
          | true => stepA P T l o E h n (fun E' h' n' => planW P T l D hS K rest true E' h' n')
          | false => stepA P T l o E h n (fun E' h' n' => hS.Sub h' ∧ planW P T l D hS K rest false E' h' n'))
        | false => (match dirty || D.contains i with
          | true => stepA P T l o E h n (fun E' h' n' => planL P T l D hS K rest true E' h' n')
          | false => stepA P T l o E h n (fun E' h' n' => hS.Sub h' ∧ planL P T l D hS K rest false E' h' n'))) := by
  rw [planL]
  cases l[i]? with
  | none => rfl
  | some o =>
    match k with
    | 0 => rfl
    | 1 => rfl
    | k + 2 => simp only; cases isCallV o.op <;> cases dirty || D.contains i <;> rfl

theorem WP.seq_k {Q : Exit → Env → Heap → Nat → Prop} {E : Env} {x y : Code} (hx : ∀ Kc : Env → Heap → Nat → Prop, (∀ E h n, WP P N y Q E h n → Kc E h n) → WP P N x (thenA Kc Q) E h n) : WP P N (.seq x y) Q E h n := WP.seq (hx _ fun _ _ _ h => h)

end
end Go.Proofs.Ytplkjfnjdekgpaa
