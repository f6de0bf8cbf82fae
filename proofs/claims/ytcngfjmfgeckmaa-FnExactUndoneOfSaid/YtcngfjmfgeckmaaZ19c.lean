import Derived.Test.YtcngfjmfgeckmaaZ19b
set_option linter.unusedSimpArgs false
set_option linter.unusedVariables false
set_option linter.unusedSectionVars false
namespace Go.Proofs.Ytcngfjmfgeckmaa
open Go
section
variable {P : Program} {T : TE} {N : Nat} {h : Heap} {n : Nat} {e : Operand → AV} {K : AV → Heap → Nat → Prop}
theorem Env.get_put_some (E : Env) (d : Nat) (v : AV) (t : Nat) : (Env.put E (some d) v).get t = if d = t then v else E.get t := rfl
theorem Env.put_none (E : Env) (v : AV) : Env.put E none v = E := rfl
theorem Env.get_envOf (l : List AV) (t : Nat) : (envOf l).get t = (l[t]?).getD .undef := rfl
theorem Heap.upd_get (h : Heap) (id x : Nat) (b : List AV) : (h.upd id b) x = if x = id then some b else h x := rfl
theorem Heap.upd_upd (h : Heap) (id : Nat) (a b : List AV) : (h.upd id a).upd id b = h.upd id b := by
  funext x; unfold Heap.upd; split <;> rfl
theorem Heap.upd_sort (h : Heap) {i j : Nat} (a b : List AV) (hij : i < j) : (h.upd j a).upd i b = (h.upd i b).upd j a := by
  funext x; unfold Heap.upd
  by_cases h1 : x = i
  · subst h1
    rw [if_pos rfl, if_neg (by omega), if_pos rfl]
  · rw [if_neg h1]
    split <;> rfl
theorem propEq {a b : Prop} (h1 : a → b) (h2 : b → a) : a = b := propext ⟨h1, h2⟩
theorem e_move (x : Operand) : opP T (.move x) e h n K = K (e x) h n := rfl
theorem e_assign (x : Operand) : opP T (.assign x) e h n K = K (e x) h n := rfl
theorem e_alloc (t : TypeId) : opP T (.alloc t) e h n K = (0 < (T t).sz ∧ K (.ep (T t).sz (.sl (T t).sz n 0 1 1 true) 0 0) (h.upd n [(T t).zero]) (n + 1)) := rfl
theorem e_box (t : TypeId) (x : Operand) : opP T (.box t x) e h n K = ((e x).good = true ∧ (e x).cells.length = (T t).sz ∧ 0 < (T t).sz ∧ K (.ep (T t).sz (.sl (T t).sz n 0 1 1 true) 0 0) (h.upd n [e x]) (n + 1)) := rfl
theorem e_binOp (op : BinOp) (t : TypeId) (x y : Operand) (f : TypeId) : opP T (.binOp op t x y f) e h n K = binP T op t (e x) (e y) (fun r => K r h n) := rfl
theorem e_unOp (op : UnOp) (f : TypeId) (x : Operand) : opP T (.unOp op f x) e h n K = unP op (e x) (fun r => K r h n) := rfl
theorem e_nilCheck (x : Operand) : opP T (.nilCheck x) e h n K = (match e x with | .ep sz a i off => K (.ep sz a i off) h n | .fn f c => K (.fn f c) h n | _ => False) := rfl
theorem e_pick (c a b : Operand) : opP T (.pick c a b) e h n K = (match e c with | .bool t => K (if t then e a else e b) h n | _ => False) := by
  refine propEq (fun ⟨t, h1, h2⟩ => by rw [h1]; exact h2) (fun hq => ?_)
  split at hq
  · exact ⟨_, by assumption, hq⟩
  · exact hq.elim
theorem e_load (t : TypeId) (a : Operand) : opP T (.load t a) e h n K = (match e a with
    | .ep sz s i off => (match rdSl h sz s with
      | some l => (match l[i]? with
        | some x => (match part T t off x with
          | some v => cellOk T t = true ∧ K v h n
          | none => False)
        | none => False)
      | none => False)
    | _ => False) := by
  have hcell : (∀ fs, (T t).ty = .struct fs → 0 < (T t).sz) ↔ cellOk T t = true := by
    unfold cellOk
    constructor
    · intro q; split
      · rename_i fs hq; exact decide_eq_true (q _ hq)
      · rfl
    · intro q fs hfs; rw [hfs] at q; simpa using q
  refine propEq (fun ⟨sz, s, i, off, l, x, v, h1, h2, h3, h4, h5, h6⟩ => ?_) (fun hq => ?_)
  · rw [h1]; simp only [h2, h3, h4]; exact ⟨hcell.1 h5, h6⟩
  · split at hq
    · rename_i sz s i off h1
      split at hq
      · rename_i l h2
        split at hq
        · rename_i x h3
          split at hq
          · rename_i v h4
            exact ⟨sz, s, i, off, l, x, v, h1, h2, h3, h4, hcell.2 hq.1, hq.2⟩
          · exact hq.elim
        · exact hq.elim
      · exact hq.elim
    · exact hq.elim
theorem e_store (t : TypeId) (a x : Operand) : opP T (.store t a x) e h n K = (match e a with
    | .ep sz (.sl sz' id o _ _ _) i off => (match h id with
      | some b => (match b[o + i]? with
        | some y => sz' = sz ∧ (e x).good = true ∧ (e x).cells.length = (T t).sz ∧ 0 < (T t).sz ∧ off + (T t).sz ≤ y.cells.length ∧ K .undef (h.upd id (b.set (o + i) (setPart y off (e x)))) n
        | none => False)
      | none => False)
    | _ => False) := by
  refine propEq (fun ⟨sz, id, o, len, lo, ex, i, off, b, y, h1, h2, h3, h4, h5, h6, h7, h8⟩ => ?_) (fun hq => ?_)
  · rw [h1]; simp only [h2, h3]; exact ⟨trivial, h4, h5, h6, h7, h8⟩
  · split at hq
    · rename_i sz sz' id o len lo ex i off h1
      split at hq
      · rename_i b h2
        split at hq
        · rename_i y h3
          obtain ⟨rfl, h4, h5, h6, h7, h8⟩ := hq
          exact ⟨sz', id, o, len, lo, ex, i, off, b, y, h1, h2, h3, h4, h5, h6, h7, h8⟩
        · exact hq.elim
      · exact hq.elim
    · exact hq.elim
theorem e_fieldAddr (s : TypeId) (x : Operand) (f : Nat) : opP T (.fieldAddr s x f) e h n K = (match e x with
    | .ep sz b i off => (match (T s).ty with
      | .struct fs => (match fs[f]? with
        | some p => 0 < (T p.2).sz ∧ K (.ep sz b i (off + p.1)) h n
        | none => False)
      | _ => False)
    | _ => False) := by
  refine propEq (fun ⟨sz, b, i, off, fs, p, h1, h2, h3, h4, h5⟩ => by rw [h1]; simp only [h2, h3]; exact ⟨h4, h5⟩) (fun hq => ?_)
  split at hq
  · rename_i sz b i off h1
    split at hq
    · rename_i fs h2
      split at hq
      · rename_i p h3; exact ⟨sz, b, i, off, fs, p, h1, h2, h3, hq.1, hq.2⟩
      · exact hq.elim
    · exact hq.elim
  · exact hq.elim
theorem e_field (t : TypeId) (x : Operand) (f : Nat) : opP T (.field t x f) e h n K = (match e x with
    | .agg cs => (match (T t).ty with
      | .struct fs => (match fs[f]? with
        | some p => (match part T p.2 p.1 (.agg cs) with
          | some v => cellOk T p.2 = true ∧ K v h n
          | none => False)
        | none => False)
      | _ => False)
    | _ => False) := by
  have hcell : ∀ t, (∀ fs, (T t).ty = .struct fs → 0 < (T t).sz) ↔ cellOk T t = true := fun t => by
    unfold cellOk
    constructor
    · intro q; split
      · rename_i fs hq; exact decide_eq_true (q _ hq)
      · rfl
    · intro q fs hfs; rw [hfs] at q; simpa using q
  refine propEq (fun ⟨fs, p, cs, v, h1, h2, h3, h4, h5, h6⟩ => by rw [h3]; simp only [h1, h2, h4]; exact ⟨(hcell _).1 h5, h6⟩) (fun hq => ?_)
  split at hq
  · rename_i cs h1
    split at hq
    · rename_i fs h2
      split at hq
      · rename_i p h3
        split at hq
        · rename_i v h4; exact ⟨fs, p, cs, v, h2, h3, h1, h4, (hcell _).2 hq.1, hq.2⟩
        · exact hq.elim
      · exact hq.elim
    · exact hq.elim
  · exact hq.elim
theorem e_indexAddr (t : TypeId) (x ix : Operand) : opP T (.indexAddr t x ix) e h n K = (match (T t).ty with
    | .slice el => (match e ix with
      | .int _ i => (match rdSl h (T el).sz (e x) with
        | some l => 0 < (T el).sz ∧ 0 ≤ i ∧ i < (l.length : Int) ∧ K (.ep (T el).sz (e x) i.toNat 0) h n
        | none => False)
      | _ => False)
    | _ => False) := by
  refine propEq (fun ⟨el, l, k, i, h1, h2, h3, h4, h5, h6, h7⟩ => by simp only [h1, h4, h3]; exact ⟨h2, h5, h6, h7⟩) (fun hq => ?_)
  split at hq
  · rename_i el h1
    split at hq
    · rename_i k i h2
      split at hq
      · rename_i l h3; exact ⟨el, l, k, i, h1, hq.1, h3, h2, hq.2.1, hq.2.2.1, hq.2.2.2⟩
      · exact hq.elim
    · exact hq.elim
  · exact hq.elim
theorem e_index (t : TypeId) (x ix : Operand) : opP T (.index t x ix) e h n K = (match e x, e ix with
    | .str s, .int _ i => (T t).ty = .str ∧ 0 ≤ i ∧ ∃ hi : i.toNat < s.size, K (.int .u8 ((s[i.toNat]'hi).toNat : Int)) h n
    | _, _ => False) := by
  refine propEq (fun ⟨s, k, i, h1, h2, h3, h4, h5, h6⟩ => by simp only [h2, h3]; exact ⟨h1, h4, h5, h6⟩) (fun hq => ?_)
  split at hq
  · rename_i s k i h1 h2; exact ⟨s, k, i, hq.1, h1, h2, hq.2.1, hq.2.2⟩
  · exact hq.elim
theorem e_extract (t : Operand) (ix : Nat) : opP T (.extract t ix) e h n K = (match e t with
    | .tup vs => (match vs[ix]? with
      | some r => K r h n
      | none => False)
    | _ => False) := by
  refine propEq (fun ⟨vs, r, h1, h2, h3⟩ => by rw [h1]; simp only [h2]; exact h3) (fun hq => ?_)
  split at hq
  · rename_i vs h1
    split at hq
    · rename_i r h2; exact ⟨vs, r, h1, h2, hq⟩
    · exact hq.elim
  · exact hq.elim
theorem e_convert (s d : TypeId) (x : Operand) : opP T (.convert s d x) e h n K = (match (T d).ty, e x with
    | .int k, .int _ m => (match (T s).ty with | .int _ => K (.int k (k.wrap m)) h n | _ => False)
    | .str, v => (match (T s).ty with | .slice el => (T el).ty = .int .u8 ∧ ∃ ns, rdSl h 1 v = some (ns.map (AV.int .u8)) ∧ K (.str (bytesStr ns)) h n | _ => False)
    | _, _ => False) := by
  refine propEq (fun hq => ?_) (fun hq => ?_)
  · simp only [opP] at hq
    split at hq
    · rename_i k k0 m h1 h2
      obtain ⟨⟨k', h3⟩, h4⟩ := hq
      simp only [h1, h2, h3]; exact h4
    · rename_i h1
      obtain ⟨el, ns, h2, h3, h4, h5⟩ := hq
      simp only [h1, h2]
      exact ⟨h3, ns, h4, h5⟩
    · exact hq.elim
  · simp only [opP]
    split at hq
    · rename_i k k0 m h1 h2
      split at hq
      · rename_i k' h3
        simp only [h1, h2]
        exact ⟨⟨k', h3⟩, hq⟩
      · exact hq.elim
    · rename_i h1
      split at hq
      · rename_i el h2
        obtain ⟨h3, ns, h4, h5⟩ := hq
        simp only [h1]
        exact ⟨el, ns, h2, h3, h4, h5⟩
      · exact hq.elim
    · exact hq.elim
theorem e_makeSlice (t : TypeId) (l c : Operand) : opP T (.makeSlice t l c) e h n K = (match (T t).ty with
    | .slice el => (match e l, e c with
      | .int _ a, .int _ b => 0 < (T el).sz ∧ 0 ≤ a ∧ a ≤ b ∧ ((T el).bytes : Int) * b ≤ 140737488355328 ∧ b ≤ 140737488355328 ∧ K (.sl (T el).sz n 0 a.toNat b.toNat true) (h.upd n (List.replicate b.toNat (T el).zero)) (n + 1)
      | _, _ => False)
    | _ => False) := by
  refine propEq (fun ⟨el, k1, k2, a, b, h1, h2, h3, h4, h5, h6, h7, h8, h9⟩ => by simp only [h1, h3, h4]; exact ⟨h2, h5, h6, h7, h8, h9⟩) (fun hq => ?_)
  split at hq
  · rename_i el h1
    split at hq
    · rename_i k1 a k2 b h2 h3; exact ⟨el, k1, k2, a, b, h1, hq.1, h2, h3, hq.2.1, hq.2.2.1, hq.2.2.2.1, hq.2.2.2.2.1, hq.2.2.2.2.2⟩
    · exact hq.elim
  · exact hq.elim
theorem e_build (t : TypeId) (ps : Array (Nat × Operand)) : opP T (.build t ps) e h n K = (match (T t).ty with
    | .struct fs => 0 < (T t).sz ∧ fs.all (fun p => decide (0 < (T p.2).sz)) = true ∧ buildP T fs (T t).zero.cells e ps.toList (fun cs => K (.agg cs) h n)
    | _ => False) := by
  refine propEq (fun ⟨fs, h1, h2, h3, h4⟩ => by rw [h1]; exact ⟨h2, h3, h4⟩) (fun hq => ?_)
  split at hq
  · rename_i fs h1; exact ⟨fs, h1, hq.1, hq.2.1, hq.2.2⟩
  · exact hq.elim
theorem e_buildSlice (t : TypeId) (len : Nat) (ps : Array (Nat × Operand)) : opP T (.buildSlice t len ps) e h n K = (match (T t).ty with
    | .slice el => 0 < (T el).sz ∧ len * (T el).sz ≤ 16777216 ∧ ps.toList.map (·.1) = List.range len ∧ (∀ p, p ∈ ps.toList → (e p.2).cells.length = (T el).sz ∧ (e p.2).good = true) ∧ K (.sl (T el).sz n 0 len len true) (h.upd n (ps.toList.map fun p => e p.2)) (n + 1)
    | _ => False) := by
  refine propEq (fun ⟨el, h1, h2, h3, h4, h5, h6⟩ => by rw [h1]; exact ⟨h2, h3, h4, h5, h6⟩) (fun hq => ?_)
  split at hq
  · rename_i el h1; exact ⟨el, h1, hq.1, hq.2.1, hq.2.2.1, hq.2.2.2.1, hq.2.2.2.2⟩
  · exact hq.elim
theorem e_makeFunc (f : FuncId) (cap : Array Operand) : opP T (.makeFunc (.func f) #[] cap) e h n K = K (.fn f (cap.toList.map e)) h n := propEq (fun h => h.2) (fun h => ⟨rfl, h⟩)
theorem e_len {t : TypeId} {v : AV} : builtinP T .len [t] [v] h n K = (match (T t).ty with
    | .str => (match v with | .str s => K (.int .i64 s.size) h n | _ => False)
    | .slice el => (match rdSl h (T el).sz v with | some l => K (.int .i64 l.length) h n | none => False)
    | _ => False) := by
  cases v with
  | str s =>
    simp only [builtinP, rdSl]
    cases hty : (T t).ty <;> simp
  | _ =>
    simp only [builtinP]
    cases hty : (T t).ty <;> simp []
    all_goals
      refine ⟨fun ⟨l, h2, h3⟩ => ?_, fun hq => ?_⟩
      · rw [h2]; exact h3
      · split at hq
        · rename_i l h2; exact ⟨l, h2, hq⟩
        · exact hq.elim
theorem e_len1 (t : TypeId) (x : Operand) : opP T (.call { callee := .builtin .len, args := #[x], argTypes := #[t] }) e h n K = (match (T t).ty with
    | .str => (match e x with | .str s => K (.int .i64 s.size) h n | _ => False)
    | .slice el => (match rdSl h (T el).sz (e x) with | some l => K (.int .i64 l.length) h n | none => False)
    | _ => False) := e_len
theorem e_append1 (t t' : TypeId) (x y : Operand) : opP T (.call { callee := .builtin .append, args := #[x, y], argTypes := #[t, t'] }) e h n K = (t = t' ∧ ∃ el, (T t).ty = .slice el ∧ appendP T el (e x) (e y) h n K) := rfl
theorem e_min1 (t t' : TypeId) (x y : Operand) : opP T (.call { callee := .builtin .min, args := #[x, y], argTypes := #[t, t'] }) e h n K = (match e x, e y with
    | .int k a, .int k' b => k = k' ∧ K (.int k (if b < a then b else a)) h n
    | _, _ => False) := by
  show builtinP T .min [t, t'] [e x, e y] h n K = _
  cases e x <;> cases e y <;> rfl
theorem e_max1 (t t' : TypeId) (x y : Operand) : opP T (.call { callee := .builtin .max, args := #[x, y], argTypes := #[t, t'] }) e h n K = (match e x, e y with
    | .int k a, .int k' b => k = k' ∧ K (.int k (if a < b then b else a)) h n
    | _, _ => False) := by
  show builtinP T .max [t, t'] [e x, e y] h n K = _
  cases e x <;> cases e y <;> rfl
def planL (P : Program) (T : TE) (l : List Oper) (D : List Nat) (hS : Heap) (K : Env → Heap → Nat → Prop) : List (Nat × Nat) → Bool → Env → Heap → Nat → Prop
  | [], _, E, h, n => K E h n
  | (i, k) :: rest, dirty, E, h, n => match l[i]? with
    | none => False
    | some o => match k with
      | 0 => stepA P T l o E Heap.emp n (fun E' _ _ => planL P T l D hS K rest dirty E' h n)
      | 1 => stepA P T l o E hS n (fun E' _ _ => planL P T l D hS K rest dirty E' h n)
      | _ => match dirty || D.contains i with
        | true => stepA P T l o E h n (fun E' h' n' => planL P T l D hS K rest true E' h' n')
        | false => stepA P T l o E h n (fun E' h' n' => hS.Sub h' ∧ planL P T l D hS K rest false E' h' n')
theorem planL_eq (l : List Oper) (D : List Nat) (hS : Heap) (K : Env → Heap → Nat → Prop) : ∀ (plan : List (Nat × Nat)) (dirty : Bool) (E : Env) (h : Heap) (n : Nat), planL P T l D hS K plan dirty E h n = planA P T l.toArray D hS K plan dirty E h n
  | [], _, _, _, _ => rfl
  | (i, 0) :: rest, dirty, E, h, n => by
    simp only [planL, planA, List.getElem?_toArray, planL_eq l D hS K rest]
    cases l[i]? <;> rfl
  | (i, 1) :: rest, dirty, E, h, n => by
    simp only [planL, planA, List.getElem?_toArray, planL_eq l D hS K rest]
    cases l[i]? <;> rfl
  | (i, k + 2) :: rest, dirty, E, h, n => by
    simp only [planL, planA, List.getElem?_toArray, planL_eq l D hS K rest]
    cases l[i]? with
    | none => rfl
    | some o => cases hd : (dirty || D.contains i) <;> simp
theorem WP.drawL {Q : Exit → Env → Heap → Nat → Prop} {E : Env} (hT : TEOk P T) (hm : P.follows .mixedOrders = true) {id : Nat} {l : List Oper} (plan : List (Nat × Nat)) (D : List Nat) (hS : Heap) (hp : (plan.length == l.length && planOk l.toArray D plan (Array.replicate l.toArray.size false)) = true) (hd : l.all (dstIn N) = true)
    (hsub : hS.Sub h) (hc : (∀ id b, h id = some b → id < n) → planL P T l D hS (Q .normal) plan false E h n) : WP P N (.region id l.toArray true) Q E h n :=
  WP.draw hT hm plan D hS hp hd hsub fun hlt => by rw [← planL_eq]; exact hc hlt
theorem b_add (t : TypeId) (k : IntKind) (a b : Int) {K : AV → Prop} : binP T .add t (.int k a) (.int k b) K = K (.int k (k.wrap (a + b))) := propEq (fun h => h.2) (fun h => ⟨rfl, h⟩)
theorem b_sub (t : TypeId) (k : IntKind) (a b : Int) {K : AV → Prop} : binP T .sub t (.int k a) (.int k b) K = K (.int k (k.wrap (a - b))) := propEq (fun h => h.2) (fun h => ⟨rfl, h⟩)
theorem b_mul (t : TypeId) (k : IntKind) (a b : Int) {K : AV → Prop} : binP T .mul t (.int k a) (.int k b) K = K (.int k (k.wrap (a * b))) := propEq (fun h => h.2) (fun h => ⟨rfl, h⟩)
theorem b_eql (t : TypeId) (k : IntKind) (a b : Int) {K : AV → Prop} : binP T .eql t (.int k a) (.int k b) K = K (.bool (decide (a = b))) := propEq (fun h => h.2) (fun h => ⟨rfl, h⟩)
theorem b_neq (t : TypeId) (k : IntKind) (a b : Int) {K : AV → Prop} : binP T .neq t (.int k a) (.int k b) K = K (.bool (decide (a ≠ b))) := propEq (fun h => h.2) (fun h => ⟨rfl, h⟩)
theorem b_lss (t : TypeId) (k : IntKind) (a b : Int) {K : AV → Prop} : binP T .lss t (.int k a) (.int k b) K = K (.bool (decide (a < b))) := propEq (fun h => h.2) (fun h => ⟨rfl, h⟩)
theorem b_leq (t : TypeId) (k : IntKind) (a b : Int) {K : AV → Prop} : binP T .leq t (.int k a) (.int k b) K = K (.bool (decide (a ≤ b))) := propEq (fun h => h.2) (fun h => ⟨rfl, h⟩)
theorem b_gtr (t : TypeId) (k : IntKind) (a b : Int) {K : AV → Prop} : binP T .gtr t (.int k a) (.int k b) K = K (.bool (decide (b < a))) := propEq (fun h => h.2) (fun h => ⟨rfl, h⟩)
theorem b_geq (t : TypeId) (k : IntKind) (a b : Int) {K : AV → Prop} : binP T .geq t (.int k a) (.int k b) K = K (.bool (decide (b ≤ a))) := propEq (fun h => h.2) (fun h => ⟨rfl, h⟩)
theorem b_and (t : TypeId) (k : IntKind) (a b : Int) {K : AV → Prop} : binP T .and t (.int k a) (.int k b) K = K (.int k (bitA .and k a b)) := propEq (fun h => h.2) (fun h => ⟨rfl, h⟩)
theorem b_or (t : TypeId) (k : IntKind) (a b : Int) {K : AV → Prop} : binP T .or t (.int k a) (.int k b) K = K (.int k (bitA .or k a b)) := propEq (fun h => h.2) (fun h => ⟨rfl, h⟩)
theorem b_quo (t : TypeId) (k : IntKind) (a b : Int) {K : AV → Prop} : binP T .quo t (.int k a) (.int k b) K = (b ≠ 0 ∧ K (.int k (k.wrap (a.tdiv b)))) := propEq (fun h => h.2) (fun h => ⟨rfl, h⟩)
theorem b_rem (t : TypeId) (k : IntKind) (a b : Int) {K : AV → Prop} : binP T .rem t (.int k a) (.int k b) K = (b ≠ 0 ∧ K (.int k (a.tmod b))) := propEq (fun h => h.2) (fun h => ⟨rfl, h⟩)
theorem b_shl (t : TypeId) (k k' : IntKind) (a b : Int) {K : AV → Prop} : binP T .shl t (.int k a) (.int k' b) K = (0 ≤ b ∧ K (.int k (k.wrap (a * 2 ^ (min b.toNat k.bits))))) := rfl
theorem b_shr (t : TypeId) (k k' : IntKind) (a b : Int) {K : AV → Prop} : binP T .shr t (.int k a) (.int k' b) K = (0 ≤ b ∧ K (.int k (a.fdiv (2 ^ (min b.toNat k.bits))))) := rfl
theorem b_seql (t : TypeId) (a b : ByteArray) {K : AV → Prop} : binP T .eql t (.str a) (.str b) K = K (.bool (decide (a = b))) := rfl
theorem b_sneq (t : TypeId) (a b : ByteArray) {K : AV → Prop} : binP T .neq t (.str a) (.str b) K = K (.bool (decide (a ≠ b))) := rfl
theorem b_beql (t : TypeId) (a b : Bool) {K : AV → Prop} : binP T .eql t (.bool a) (.bool b) K = ((T t).ty = .bool ∧ K (.bool (a == b))) := rfl
theorem b_bneq (t : TypeId) (a b : Bool) {K : AV → Prop} : binP T .neq t (.bool a) (.bool b) K = ((T t).ty = .bool ∧ K (.bool (!(a == b)))) := rfl
theorem u_not (b : Bool) {K : AV → Prop} : unP .not (.bool b) K = K (.bool (!b)) := rfl
theorem u_neg (k : IntKind) (a : Int) {K : AV → Prop} : unP .neg (.int k a) K = K (.int k (k.wrap (0 - a))) := rfl
theorem wrap_in {m : Int} (h1 : -9223372036854775808 ≤ m) (h2 : m ≤ 9223372036854775807) : IntKind.i64.wrap m = m := by rw [IntKind.wrap_i64]; omega
theorem good_bool (b : Bool) : (AV.bool b).good = true := rfl
theorem good_int (k : IntKind) (m : Int) : (AV.int k m).good = true := rfl
theorem good_str (s : ByteArray) : (AV.str s).good = true := rfl
theorem good_nils : AV.nils.good = true := rfl
theorem good_ro (sz : Nat) (ex : Bool) (l : List AV) : (AV.ro sz ex l).good = true := rfl
theorem good_sl (sz id off len lo : Nat) (ex : Bool) : (AV.sl sz id off len lo ex).good = true := rfl
theorem good_ep (sz : Nat) (a : AV) (i off : Nat) : (AV.ep sz a i off).good = true := rfl
theorem good_nilp : AV.nilp.good = true := rfl
theorem good_nilf : AV.nilf.good = true := rfl
theorem good_fn (f : FuncId) (l : List AV) : (AV.fn f l).good = true := rfl
theorem good_agg (l : List AV) : (AV.agg l).good = true := rfl
theorem setPart_agg (cs : List AV) (off : Nat) (v : AV) : setPart (.agg cs) off v = .agg (cs.take off ++ v.cells ++ cs.drop (off + v.cells.length)) := rfl
theorem setPart_bool (b : Bool) (off : Nat) (v : AV) : setPart (.bool b) off v = v := rfl
theorem setPart_int (k : IntKind) (m : Int) (off : Nat) (v : AV) : setPart (.int k m) off v = v := rfl
theorem setPart_str (s : ByteArray) (off : Nat) (v : AV) : setPart (.str s) off v = v := rfl
theorem setPart_nils (off : Nat) (v : AV) : setPart .nils off v = v := rfl
theorem setPart_ro (sz : Nat) (ex : Bool) (l : List AV) (off : Nat) (v : AV) : setPart (.ro sz ex l) off v = v := rfl
theorem setPart_sl (sz id o len lo : Nat) (ex : Bool) (off : Nat) (v : AV) : setPart (.sl sz id o len lo ex) off v = v := rfl
theorem Left.refl (hlt : ∀ id b, h id = some b → id < n) : Left n h h h := ⟨fun id b hb => ⟨hlt id b hb, hb⟩, fun _ _ hb => .inl hb⟩
theorem Left.upd {h' h'' : Heap} {k : Nat} {b : List AV} (hk : n ≤ k) (hl : Left n h h' h'') : Left n h (h'.upd k b) h'' :=
  ⟨fun id x hx => ⟨(hl.sub id x hx).1, by rw [Heap.upd_ne _ _ (by have := (hl.sub id x hx).1; omega)]; exact (hl.sub id x hx).2⟩, hl.lt⟩
theorem Left.del {h' h'' : Heap} {k : Nat} (hk : n ≤ k) (hl : Left n h h' h'') : Left n h (h'.del k) h'' :=
  ⟨fun id x hx => ⟨(hl.sub id x hx).1, by unfold Heap.del; rw [if_neg (by have := (hl.sub id x hx).1; omega)]; exact (hl.sub id x hx).2⟩, hl.lt⟩
theorem ret_freeze {h' h'' : Heap} {n' : Nat} {r r' : AV} (hl : Left n h h' h'') (hf : Frz n h' r r') (hk : K r' h'' n) : ∃ r2 h2 n2, Conv n h r h' n' r2 h2 n2 ∧ K r2 h2 n2 :=
  ⟨r', h'', n, .freeze _ _ _ _ _ hf hl, hk⟩
theorem ret_plain {h' h'' : Heap} {n' : Nat} {r : AV} (hl : Left n h h' h'') (hf : r.Lt n) (hk : K r h'' n) : ∃ r2 h2 n2, Conv n h r h' n' r2 h2 n2 ∧ K r2 h2 n2 :=
  ⟨r, h'', n, .freeze _ _ _ _ _ (.keep _ hf) hl, hk⟩
theorem ret_p {h' : Heap} {n' : Nat} {r : AV} (hl : Left n h h' h) (hf : r.Lt n) (hk : K r h n) : ∃ r2 h2 n2, Conv n h r h' n' r2 h2 n2 ∧ K r2 h2 n2 := ret_plain hl hf hk
theorem ret_f {h' : Heap} {n' : Nat} {r r' : AV} (hl : Left n h h' h) (hf : Frz n h' r r') (hk : K r' h n) : ∃ r2 h2 n2, Conv n h r h' n' r2 h2 n2 ∧ K r2 h2 n2 := ret_freeze hl hf hk
theorem lt_agg (l : List AV) : (AV.agg l).Lt n = ∀ u, u ∈ l → u.Lt n := propEq
  (fun h u hu => by cases h with | agg _ hl => obtain ⟨i, hi, rfl⟩ := List.mem_iff_getElem.1 hu; exact hl i _ (List.getElem?_eq_getElem hi))
  (fun h => .agg _ fun i u hu => h u (List.mem_of_getElem? hu))
theorem lt_ro (sz : Nat) (ex : Bool) (l : List AV) : (AV.ro sz ex l).Lt n = ∀ e, e ∈ l → ∀ u, u ∈ e.cells → u.Lt n := propEq
  (fun h e he u hu => by
    cases h with
    | ro _ _ _ hl =>
      obtain ⟨i, hi, rfl⟩ := List.mem_iff_getElem.1 he
      obtain ⟨j, hj, rfl⟩ := List.mem_iff_getElem.1 hu
      exact hl i _ j _ (List.getElem?_eq_getElem hi) (List.getElem?_eq_getElem hj))
  (fun h => .ro _ _ _ fun i e j u h1 h2 => h e (List.mem_of_getElem? h1) u (List.mem_of_getElem? h2))
def isCallV : Op → Bool
  | .call c => match c.callee with | .value _ => true | _ => false
  | _ => false
def opsW (P : Program) (T : TE) (ops : List Oper) (l : List Oper) (E : Env) (h : Heap) (n : Nat) (K : Env → Heap → Nat → Prop) : Prop := opsA P T ops l E h n K
def planW (P : Program) (T : TE) (l : List Oper) (D : List Nat) (hS : Heap) (K : Env → Heap → Nat → Prop) (plan : List (Nat × Nat)) (dirty : Bool) (E : Env) (h : Heap) (n : Nat) : Prop := planL P T l D hS K plan dirty E h n
theorem opsA_nil (ops : List Oper) (E : Env) (K : Env → Heap → Nat → Prop) : opsA P T ops [] E h n K = K E h n := rfl
theorem opsA_cons (ops : List Oper) (o : Oper) (l : List Oper) (E : Env) (K : Env → Heap → Nat → Prop) : opsA P T ops (o :: l) E h n K = (match isCallV o.op with
    | true => stepA P T ops o E h n (fun E' h' n' => opsW P T ops l E' h' n' K)
    | false => stepA P T ops o E h n (fun E' h' n' => opsA P T ops l E' h' n' K)) := by cases isCallV o.op <;> rfl
theorem planL_nil (l : List Oper) (D : List Nat) (hS : Heap) (dirty : Bool) (E : Env) (K : Env → Heap → Nat → Prop) : planL P T l D hS K [] dirty E h n = K E h n := rfl
theorem planL_cons (l : List Oper) (D : List Nat) (hS : Heap) (i k : Nat) (rest : List (Nat × Nat)) (dirty : Bool) (E : Env) (K : Env → Heap → Nat → Prop) : planL P T l D hS K ((i, k) :: rest) dirty E h n = (match l[i]? with
    | none => False
    | some o => match k with
      | 0 => stepA P T l o E Heap.emp n (fun E' _ _ => planL P T l D hS K rest dirty E' h n)
      | 1 => stepA P T l o E hS n (fun E' _ _ => planL P T l D hS K rest dirty E' h n)
      | _ => match isCallV o.op with
        | true => (match dirty || D.contains i with
          | true => stepA P T l o E h n (fun E' h' n' => planW P T l D hS K rest true E' h' n')
          | false => stepA P T l o E h n (fun E' h' n' => hS.Sub h' ∧ planW P T l D hS K rest false E' h' n'))
        | false => (match dirty || D.contains i with
          | true => stepA P T l o E h n (fun E' h' n' => planL P T l D hS K rest true E' h' n')
          | false => stepA P T l o E h n (fun E' h' n' => hS.Sub h' ∧ planL P T l D hS K rest false E' h' n'))) := by
  rw [planL]
  cases l[i]? with
  | none => rfl
  | some o =>
    match k with
    | 0 => rfl
    | 1 => rfl
    | k + 2 => simp only; cases isCallV o.op <;> cases dirty || D.contains i <;> rfl
theorem WP.seq_k {Q : Exit → Env → Heap → Nat → Prop} {E : Env} {x y : Code} (hx : ∀ Kc : Env → Heap → Nat → Prop, (∀ E h n, WP P N y Q E h n → Kc E h n) → WP P N x (thenA Kc Q) E h n) : WP P N (.seq x y) Q E h n := WP.seq (hx _ fun _ _ _ h => h)
end
end Go.Proofs.Ytcngfjmfgeckmaa
namespace Go.Proofs.Ytcngfjmfgeckmaa
open Go
theorem q_G {G G' : Prop} (g : G') (hc : G' → G := by intro h; simp only [↓planL, ↓opsA, List.contains_nil, List.contains_cons, Bool.or_false, Bool.false_or, ↓stepA, ↓e_len1, ↓e_append1, ↓e_min1, ↓e_max1, ↓callA, List.toList_toArray, Int.toNat_natCast, List.map_cons, List.map_nil, ev, Env.get_put_some, Env.put_none, Env.get_envOf, ↓e_move, ↓e_assign, ↓e_alloc, ↓e_box, ↓e_binOp, ↓e_unOp, ↓e_nilCheck, ↓e_pick, ↓e_load, ↓e_store, ↓e_fieldAddr, ↓e_field, ↓e_indexAddr, ↓e_index, ↓e_extract, ↓e_convert, ↓e_makeSlice, ↓e_build, ↓e_buildSlice, ↓e_makeFunc, b_add, b_sub, b_mul, b_eql, b_neq, b_lss, b_leq, b_gtr, b_geq, b_and, b_or, b_quo, b_rem, b_shl, b_shr, b_seql, b_sneq, b_beql, b_bneq, u_not, u_neg, rdSl_ro, rdSl_nils, rdSl_sl, setPart_agg, setPart_bool, setPart_int, setPart_str, setPart_nils, setPart_ro, setPart_sl, ofVal, ↓thenA, ↓blockA, Heap.upd_get, Heap.upd_upd, Heap.upd_sort, Nat.add_lt_add_iff_left, Nat.lt_add_right_iff_pos, Nat.pos_of_neZero, good_bool, good_int, good_str, good_nils, good_ro, good_sl, good_ep, good_nilp, good_nilf, good_fn, good_agg, AV.cells_bool, AV.cells_int, AV.cells_str, AV.cells_nils, AV.cells_ro, AV.cells_sl, AV.cells_ep, AV.cells_nilp, AV.cells_nilf, AV.cells_fn, AV.cells_agg, reduceIte, Nat.reduceEqDiff, Nat.reduceLT, Nat.reduceLeDiff, Nat.reduceAdd, Nat.add_assoc, true_and, and_true, List.getElem?_cons_zero, List.getElem?_cons_succ, Option.getD_some, List.length_cons, List.length_nil, List.set_cons_zero, List.set_cons_succ, Nat.zero_add, Nat.add_zero, List.drop_zero, List.take_succ_cons, List.take_zero, List.drop_succ_cons, List.drop_nil, List.cons_append, List.nil_append, List.append_nil, Nat.add_eq, Nat.left_eq_add, Nat.add_eq_left, List.getElem?_nil, Nat.zero_lt_succ, decide_true, decide_false, Option.bind_some, Option.map_some, Nat.one_ne_zero, Nat.lt_add_one, ↓reduceIte, Nat.le_refl, Nat.add_left_cancel_iff]; exact h) : G := hc g
theorem q_fG {Fs G G' : Prop} (F : Fs) (g : G') (hc : Fs → G' → G := by intro F h; simp only [↓planL, ↓opsA, List.contains_nil, List.contains_cons, Bool.or_false, Bool.false_or, ↓stepA, ↓e_len1, ↓e_append1, ↓e_min1, ↓e_max1, ↓callA, List.toList_toArray, Int.toNat_natCast, List.map_cons, List.map_nil, ev, Env.get_put_some, Env.put_none, Env.get_envOf, ↓e_move, ↓e_assign, ↓e_alloc, ↓e_box, ↓e_binOp, ↓e_unOp, ↓e_nilCheck, ↓e_pick, ↓e_load, ↓e_store, ↓e_fieldAddr, ↓e_field, ↓e_indexAddr, ↓e_index, ↓e_extract, ↓e_convert, ↓e_makeSlice, ↓e_build, ↓e_buildSlice, ↓e_makeFunc, b_add, b_sub, b_mul, b_eql, b_neq, b_lss, b_leq, b_gtr, b_geq, b_and, b_or, b_quo, b_rem, b_shl, b_shr, b_seql, b_sneq, b_beql, b_bneq, u_not, u_neg, rdSl_ro, rdSl_nils, rdSl_sl, setPart_agg, setPart_bool, setPart_int, setPart_str, setPart_nils, setPart_ro, setPart_sl, ofVal, ↓thenA, ↓blockA, Heap.upd_get, Heap.upd_upd, Heap.upd_sort, Nat.add_lt_add_iff_left, Nat.lt_add_right_iff_pos, Nat.pos_of_neZero, good_bool, good_int, good_str, good_nils, good_ro, good_sl, good_ep, good_nilp, good_nilf, good_fn, good_agg, AV.cells_bool, AV.cells_int, AV.cells_str, AV.cells_nils, AV.cells_ro, AV.cells_sl, AV.cells_ep, AV.cells_nilp, AV.cells_nilf, AV.cells_fn, AV.cells_agg, reduceIte, Nat.reduceEqDiff, Nat.reduceLT, Nat.reduceLeDiff, Nat.reduceAdd, Nat.add_assoc, true_and, and_true, List.getElem?_cons_zero, List.getElem?_cons_succ, Option.getD_some, List.length_cons, List.length_nil, List.set_cons_zero, List.set_cons_succ, Nat.zero_add, Nat.add_zero, List.drop_zero, List.take_succ_cons, List.take_zero, List.drop_succ_cons, List.drop_nil, List.cons_append, List.nil_append, List.append_nil, Nat.add_eq, Nat.left_eq_add, Nat.add_eq_left, List.getElem?_nil, Nat.zero_lt_succ, decide_true, decide_false, Option.bind_some, Option.map_some, Nat.one_ne_zero, Nat.lt_add_one, ↓reduceIte, Nat.le_refl, Nat.add_left_cancel_iff, F]; exact h) : G := hc F g
theorem qr_G {G G' : Prop} (g : G') (hc : G' → G := by intro h; simp only [↓planL, ↓opsA, List.contains_nil, List.contains_cons, Bool.or_false, Bool.false_or, ↓stepA, ↓e_len1, ↓e_append1, ↓e_min1, ↓e_max1, ↓callA, List.toList_toArray, Int.toNat_natCast, List.map_cons, List.map_nil, ev, Env.get_put_some, Env.put_none, Env.get_envOf, ↓e_move, ↓e_assign, ↓e_alloc, ↓e_box, ↓e_binOp, ↓e_unOp, ↓e_nilCheck, ↓e_pick, ↓e_load, ↓e_store, ↓e_fieldAddr, ↓e_field, ↓e_indexAddr, ↓e_index, ↓e_extract, ↓e_convert, ↓e_makeSlice, ↓e_build, ↓e_buildSlice, ↓e_makeFunc, b_add, b_sub, b_mul, b_eql, b_neq, b_lss, b_leq, b_gtr, b_geq, b_and, b_or, b_quo, b_rem, b_shl, b_shr, b_seql, b_sneq, b_beql, b_bneq, u_not, u_neg, rdSl_ro, rdSl_nils, rdSl_sl, setPart_agg, setPart_bool, setPart_int, setPart_str, setPart_nils, setPart_ro, setPart_sl, ofVal, ↓thenA, ↓blockA, Heap.upd_get, Heap.upd_upd, Heap.upd_sort, Nat.add_lt_add_iff_left, Nat.lt_add_right_iff_pos, Nat.pos_of_neZero, good_bool, good_int, good_str, good_nils, good_ro, good_sl, good_ep, good_nilp, good_nilf, good_fn, good_agg, AV.cells_bool, AV.cells_int, AV.cells_str, AV.cells_nils, AV.cells_ro, AV.cells_sl, AV.cells_ep, AV.cells_nilp, AV.cells_nilf, AV.cells_fn, AV.cells_agg, reduceIte, Nat.reduceEqDiff, Nat.reduceLT, Nat.reduceLeDiff, Nat.reduceAdd, Nat.add_assoc, true_and, and_true, List.getElem?_cons_zero, List.getElem?_cons_succ, Option.getD_some, List.length_cons, List.length_nil, List.set_cons_zero, List.set_cons_succ, Nat.zero_add, Nat.add_zero, List.drop_zero, List.take_succ_cons, List.take_zero, List.drop_succ_cons, List.drop_nil, List.cons_append, List.nil_append, List.append_nil, Nat.add_eq, Nat.left_eq_add, Nat.add_eq_left, List.getElem?_nil, Nat.zero_lt_succ, decide_true, decide_false, Option.bind_some, Option.map_some, Nat.one_ne_zero, Nat.lt_add_one, ↓reduceIte, Nat.le_refl, Nat.add_left_cancel_iff, retA, resA]; exact h) : G := hc g
inductive All2 {α β : Type} (Q : α → β → Prop) : List α → List β → Prop
  | nil : All2 Q [] []
  | cons {x : α} {y : β} {a : List α} {b : List β} (h : Q x y) (t : All2 Q a b) : All2 Q (x :: a) (y :: b)
structure TyR {α : Type} (T : TE) (t : TypeId) (R : AV → α → Prop) : Prop where
  pos : 0 < (T t).sz
  cell : cellOk T t = true
  zlen : (T t).zero.cells.length = (T t).sz
  part : ∀ e a, R e a → part T t 0 e = some e
  len : ∀ e a, R e a → e.cells.length = (T t).sz
  good : ∀ e a, R e a → e.good = true
  lt : ∀ e a n, R e a → e.Lt n
  setz : ∀ e a, R e a → setPart (T t).zero 0 e = e
def SlR {α : Type} (sz : Nat) (R : AV → α → Prop) (e : AV) (l : List α) : Prop :=
  ∃ es, rdSl Heap.emp sz e = some es ∧ All2 R es l ∧ es.length ≤ maxLen ∧ (∀ n, e.Lt n) ∧ e.one = true
section
variable {α : Type} {T : TE} {h : Heap} {R : AV → α → Prop}
theorem rdSl_emp {sz : Nat} {e : AV} {es : List AV} (hr : rdSl Heap.emp sz e = some es) (h : Heap) : rdSl h sz e = some es := rdSl_sub (Heap.Sub.emp h) hr
theorem all2_length {β : Type} {Q : α → β → Prop} {a : List α} {b : List β} (h : All2 Q a b) : a.length = b.length := by
  induction h with
  | nil => rfl
  | cons _ _ ih => simp [ih]
theorem all2_get {β : Type} {Q : α → β → Prop} {a : List α} {b : List β} (h : All2 Q a b) : ∀ (i : Nat) (x : α), a[i]? = some x → ∃ y, b[i]? = some y ∧ Q x y := by
  induction h with
  | nil => intro i x hx; simp at hx
  | cons hq _ ih =>
    intro i x hx
    cases i with
    | zero => simp at hx; subst hx; exact ⟨_, rfl, hq⟩
    | succ i => exact ih i x (by simpa using hx)
theorem all2_at {β : Type} {Q : α → β → Prop} {a : List α} {b : List β} (h : All2 Q a b) {i : Nat} (hi : i < b.length) : ∃ x y, a[i]? = some x ∧ b[i]? = some y ∧ Q x y := by
  have hl := all2_length h
  have ha : a[i]? = some (a[i]'(by omega)) := List.getElem?_eq_getElem (by omega)
  obtain ⟨y, h1, h2⟩ := all2_get h i _ ha
  exact ⟨_, y, ha, h1, h2⟩
theorem all2_snoc {β : Type} {Q : α → β → Prop} {a : List α} {b : List β} (h : All2 Q a b) {x : α} {y : β} (hq : Q x y) : All2 Q (a ++ [x]) (b ++ [y]) := by
  induction h with
  | nil => exact .cons hq .nil
  | cons h1 _ ih => exact .cons h1 ih
theorem rdSl_ro (sz : Nat) (ex : Bool) (l : List AV) : rdSl h sz (.ro sz ex l) = some l := by simp [rdSl]
theorem rdSl_nils (sz : Nat) : rdSl h sz .nils = some [] := rfl
theorem rdSl_sl (sz id off len lo : Nat) (ex : Bool) : rdSl h sz (.sl sz id off len lo ex) = (match h id with
    | some b => if off + len ≤ b.length then some ((b.drop off).take len) else none
    | none => none) := by simp only [rdSl, if_true]; rfl
theorem SlR.mk_ro {sz : Nat} {ex : Bool} {es : List AV} {l : List α} (h : All2 R es l) (hl : l.length ≤ maxLen) (hlt : ∀ e a n, R e a → e.Lt n) : SlR sz R (.ro sz ex es) l := by
  refine ⟨es, rdSl_ro _ _ _, h, by rw [all2_length h]; exact hl, fun n => ?_, rfl⟩
  rw [lt_ro]
  intro e he u hu
  obtain ⟨i, hi⟩ := List.mem_iff_getElem?.1 he
  obtain ⟨y, _, h2⟩ := all2_get h i _ hi
  have := hlt _ _ n h2
  cases this with
  | agg _ hl => obtain ⟨j, hj⟩ := List.mem_iff_getElem?.1 hu; exact hl j _ hj
  | _ => simp [AV.cells] at hu; subst hu; constructor <;> assumption
end
end Go.Proofs.Ytcngfjmfgeckmaa
namespace Go.Proofs.Ytcngfjmfgeckmaa
open Go
def toSCode (g t ts u us : Nat) (p0 p1 p2 p3 p4 p5 p6 p7 p8 p9 p10 p11 p12 p13 p14 p15 p16 p17 p18 p19 p20 p21 p22 p23 : String) : Code :=
  (.seq
    (.region 0 #[⟨(some 2), .assign (.const (.slice none 0 0)), us, p0, #[], none⟩] false)
    (.seq
      (.region 1 #[⟨(some 5), .move (.tmp 0), ts, p1, #[], none⟩,
        ⟨(some 6), .call { callee := (.builtin .len), args := #[(.tmp 5)], argTypes := #[ts] }, 3, p2, #[⟨0, .data⟩], none⟩,
        ⟨(some 7), .makeSlice us (.tmp 6) (.tmp 6), us, p3, #[⟨1, .data⟩, ⟨1, .data⟩], none⟩,
        ⟨(some 3), .assign (.tmp 7), us, p4, #[⟨2, .data⟩, ⟨0, .phase⟩, ⟨1, .phase⟩, ⟨2, .phase⟩], none⟩] false)
      (.seq
        (.seq
          (.region 2 #[⟨(some 4), .assign (.const (.int .i64 0)), 3, p5, #[], none⟩] false)
          (.block 0
            (.loop
              (.seq
                (.seq
                  (.region 3 #[⟨(some 8), .move (.tmp 4), 3, p6, #[], none⟩,
                    ⟨(some 9), .move (.tmp 0), ts, p7, #[], none⟩,
                    ⟨(some 10), .call { callee := (.builtin .len), args := #[(.tmp 9)], argTypes := #[ts] }, 3, p8, #[⟨1, .data⟩], none⟩,
                    ⟨(some 11), .binOp .lss 3 (.tmp 8) (.tmp 10) 3, 4, p9, #[⟨0, .data⟩, ⟨2, .data⟩], none⟩] false)
                  (.cond (.tmp 11)
                    .skip
                    (.exit 0)))
                (.seq
                  (.block 1
                    (.region 5 #[⟨(some 14), .move (.tmp 3), us, p10, #[], none⟩,
                      ⟨(some 15), .move (.tmp 4), 3, p11, #[], none⟩,
                      ⟨(some 16), .move (.tmp 0), ts, p12, #[], none⟩,
                      ⟨(some 17), .move (.tmp 4), 3, p13, #[], none⟩,
                      ⟨(some 18), .indexAddr ts (.tmp 16) (.tmp 17), 0, p14, #[⟨2, .data⟩, ⟨3, .data⟩], none⟩,
                      ⟨(some 19), .load t (.tmp 18), t, p15, #[⟨4, .data⟩], none⟩,
                      ⟨(some 20), .call { callee := (.value (.func g)), args := #[(.tmp 19)], argTypes := #[t] }, u, p16, #[⟨5, .data⟩], none⟩,
                      ⟨(some 21), .indexAddr us (.tmp 14) (.tmp 15), 0, p17, #[⟨0, .data⟩, ⟨1, .data⟩, ⟨0, .phase⟩, ⟨1, .phase⟩, ⟨2, .phase⟩, ⟨3, .phase⟩, ⟨4, .phase⟩, ⟨5, .phase⟩, ⟨6, .phase⟩], none⟩,
                      ⟨none, .store u (.tmp 21) (.tmp 20), 0, p18, #[⟨7, .data⟩, ⟨6, .data⟩, ⟨6, .chain⟩, ⟨0, .phase⟩, ⟨1, .phase⟩, ⟨2, .phase⟩, ⟨3, .phase⟩, ⟨4, .phase⟩, ⟨5, .phase⟩, ⟨6, .phase⟩], none⟩] false))
                  (.region 4 #[⟨(some 12), .move (.tmp 4), 3, p19, #[], none⟩,
                    ⟨(some 13), .binOp .add 3 (.tmp 12) (.const (.int .i64 1)) 3, 3, p20, #[⟨0, .data⟩], none⟩,
                    ⟨(some 4), .assign (.tmp 13), 3, p21, #[⟨1, .data⟩, ⟨0, .phase⟩, ⟨1, .phase⟩], none⟩] false))))))
        (.seq
          (.region 6 #[⟨(some 22), .move (.tmp 3), us, p22, #[], none⟩,
            ⟨(some 2), .assign (.tmp 22), us, p23, #[⟨0, .data⟩, ⟨0, .phase⟩], none⟩] false)
          .ret))))
end Go.Proofs.Ytcngfjmfgeckmaa
namespace Go.Proofs.Ytcngfjmfgeckmaa
open Go
def eqSCode (g t ts : Nat) (p0 p1 p2 p3 p4 p5 p6 p7 p8 p9 p10 p11 p12 p13 p14 p15 p16 p17 p18 p19 p20 p21 p22 p23 p24 p25 p26 : String) : Code :=
  (.seq
    (.region 0 #[⟨(some 4), .assign (.const (.bool false)), 4, p0, #[], none⟩] false)
    (.seq
      (.seq
        (.region 1 #[⟨(some 6), .move (.tmp 0), ts, p1, #[], none⟩,
          ⟨(some 7), .call { callee := (.builtin .len), args := #[(.tmp 6)], argTypes := #[ts] }, 3, p2, #[⟨0, .data⟩], none⟩,
          ⟨(some 8), .move (.tmp 1), ts, p3, #[], none⟩,
          ⟨(some 9), .call { callee := (.builtin .len), args := #[(.tmp 8)], argTypes := #[ts] }, 3, p4, #[⟨2, .data⟩], none⟩,
          ⟨(some 10), .binOp .neq 3 (.tmp 7) (.tmp 9) 3, 4, p5, #[⟨1, .data⟩, ⟨3, .data⟩], none⟩] false)
        (.cond (.tmp 10)
          (.seq
            (.region 2 #[⟨(some 4), .assign (.const (.bool false)), 4, p6, #[], none⟩] false)
            .ret)
          .skip))
      (.seq
        (.seq
          (.region 3 #[⟨(some 5), .assign (.const (.int .i64 0)), 3, p7, #[], none⟩] false)
          (.block 0
            (.loop
              (.seq
                (.seq
                  (.region 4 #[⟨(some 11), .move (.tmp 5), 3, p8, #[], none⟩,
                    ⟨(some 12), .move (.tmp 0), ts, p9, #[], none⟩,
                    ⟨(some 13), .call { callee := (.builtin .len), args := #[(.tmp 12)], argTypes := #[ts] }, 3, p10, #[⟨1, .data⟩], none⟩,
                    ⟨(some 14), .binOp .lss 3 (.tmp 11) (.tmp 13) 3, 4, p11, #[⟨0, .data⟩, ⟨2, .data⟩], none⟩] false)
                  (.cond (.tmp 14)
                    .skip
                    (.exit 0)))
                (.seq
                  (.block 1
                    (.seq
                      (.region 6 #[⟨(some 17), .move (.tmp 0), ts, p12, #[], none⟩,
                        ⟨(some 18), .move (.tmp 5), 3, p13, #[], none⟩,
                        ⟨(some 19), .indexAddr ts (.tmp 17) (.tmp 18), 0, p14, #[⟨0, .data⟩, ⟨1, .data⟩], none⟩,
                        ⟨(some 20), .load t (.tmp 19), t, p15, #[⟨2, .data⟩], none⟩,
                        ⟨(some 21), .move (.tmp 1), ts, p16, #[], none⟩,
                        ⟨(some 22), .move (.tmp 5), 3, p17, #[], none⟩,
                        ⟨(some 23), .indexAddr ts (.tmp 21) (.tmp 22), 0, p18, #[⟨4, .data⟩, ⟨5, .data⟩], none⟩,
                        ⟨(some 24), .load t (.tmp 23), t, p19, #[⟨6, .data⟩], none⟩,
                        ⟨(some 25), .call { callee := (.value (.func g)), args := #[(.tmp 20), (.tmp 24)], argTypes := #[t, t] }, 4, p20, #[⟨3, .data⟩, ⟨7, .data⟩], none⟩,
                        ⟨(some 26), .unOp .not 4 (.tmp 25), 4, p21, #[⟨8, .data⟩], none⟩] true)
                      (.cond (.tmp 26)
                        (.seq
                          (.region 7 #[⟨(some 4), .assign (.const (.bool false)), 4, p22, #[], none⟩] false)
                          .ret)
                        .skip)))
                  (.region 5 #[⟨(some 15), .move (.tmp 5), 3, p23, #[], none⟩,
                    ⟨(some 16), .binOp .add 3 (.tmp 15) (.const (.int .i64 1)) 3, 3, p24, #[⟨0, .data⟩], none⟩,
                    ⟨(some 5), .assign (.tmp 16), 3, p25, #[⟨1, .data⟩, ⟨0, .phase⟩, ⟨1, .phase⟩], none⟩] false))))))
        (.seq
          (.region 8 #[⟨(some 4), .assign (.const (.bool true)), 4, p26, #[], none⟩] false)
          .ret))))
theorem eqS_gen {P : Program} {T : TE} {α : Type} [DecidableEq α] {R R2 : AV → α → Prop} {g t ts : Nat} {p0 p1 p2 p3 p4 p5 p6 p7 p8 p9 p10 p11 p12 p13 p14 p15 p16 p17 p18 p19 p20 p21 p22 p23 p24 p25 p26 : String}
    (hT : TEOk P T) (hM : P.follows .mixedOrders = true) {f : FuncId} {fn : Func} (hg : Goes P f) (hf : P.funcs[f]? = some fn) (hb : fn.body = some (eqSCode g t ts p0 p1 p2 p3 p4 p5 p6 p7 p8 p9 p10 p11 p12 p13 p14 p15 p16 p17 p18 p19 p20 p21 p22 p23 p24 p25 p26)) (hN : fn.ntmps = 27) (hrs : fn.results.toList = [.tmp 4])
    (hts : (T ts).ty = .slice t) (ht : TyR T t R) (ht2 : TyR T t R2) {x y : AV} {l l2 : List α} (hx : SlR (T t).sz R x l) (hy : SlR (T t).sz R2 y l2)
    (hcall : ∀ h n K e e' a b, R e a → R2 e' b → K (.bool (decide (a = b))) h n → CA P g [e, e'] h n K) {h : Heap} {n : Nat} {K : AV → Heap → Nat → Prop} (hk : K (.bool (decide (l = l2))) h n) : CA P f [x, y] h n K := by
  obtain ⟨es, hes, hal, hml, _, _⟩ := hx
  obtain ⟨fs, hfs, hbl, hml2, _, _⟩ := hy
  have hel := all2_length hal
  have hfl := all2_length hbl
  have hpt := ht.pos
  have hct := ht.cell
  unfold maxLen at hml hml2
  refine CA.conv (CA.enter (N := 27) hT hg hf hb hN (by simp) hrs fun hlt => ?_)
  unfold eqSCode
  refine WP.seq_k fun K1 hK1 => WP.region hT rfl ?_
  refine q_G ?_
  refine hK1 _ _ _ ?_
  clear hK1 K1
  refine WP.seq_k fun K2 hK2 => ?_
  refine WP.seq_k fun K1 hK1 => WP.region hT rfl ?_
  refine q_fG (And.intro hts (And.intro (rdSl_emp hes) (rdSl_emp hfs))) ?_
  refine hK1 _ _ _ ?_
  clear hK1 K1
  refine WP.cond (by simp only [ev, Env.get_put_some, ↓reduceIte]; rfl) (fun hc => ?_) (fun hc => ?_)
  · refine WP.seq_k fun K1 hK1 => WP.region hT rfl ?_
    refine q_G ?_
    refine hK1 _ _ _ ?_
    clear hK1 K1
    refine WP.ret ?_
    refine qr_G ?_
    refine ⟨_, rfl, ret_plain (Left.refl hlt) (.bool _) ?_⟩
    have hne : l ≠ l2 := fun he => by subst he; simp at hc; omega
    simpa [resV, hne] using hk
  refine WP.skip (hK2 _ _ _ ?_)
  clear hK2 K2
  have hll : l.length = l2.length := by simp at hc; omega
  refine WP.seq_k fun K1 hK1 => WP.seq_k fun K2 hK2 => WP.region hT rfl ?_
  refine q_G ?_
  refine hK2 _ _ _ ?_
  clear hK2 K2
  refine WP.block (WP.loop (fun m E h' n' => ∃ i, m = l.length - i ∧ i ≤ l.length ∧ l.take i = l2.take i ∧ n' = n ∧ h' = h ∧ E.get 0 = x ∧ E.get 1 = y ∧ E.get 5 = .int .i64 i) l.length ?_ ?_)
  · exact ⟨0, by omega, Nat.zero_le _, rfl, rfl, rfl, rfl, rfl, rfl⟩
  rintro m E h' n' ⟨i, rfl, hi, htk, rfl, rfl, h0, h1, h5⟩
  refine WP.seq_k fun K2 hK2 => WP.seq_k fun K3 hK3 => WP.region hT rfl ?_
  refine q_fG (And.intro hts (And.intro h0 (And.intro h5 (rdSl_emp hes)))) ?_
  refine hK3 _ _ _ ?_
  clear hK3 K3
  refine WP.cond (by simp only [ev, Env.get_put_some, ↓reduceIte]; rfl) (fun hc => ?_) (fun hc => ?_)
  · have hil : i < l.length := by simp at hc; omega
    refine WP.skip (hK2 _ _ _ ?_)
    clear hK2 K2
    obtain ⟨e, a, he, ha, hR⟩ := all2_at hal hil
    obtain ⟨e', b, he', hb', hR'⟩ := all2_at hbl (show i < l2.length by omega)
    have hp := ht.part e a hR
    have hp' := ht2.part e' b hR'
    refine WP.seq_k fun K2 hK2 => WP.block (WP.seq_k fun K3 hK3 => WP.drawL hT hM [(0, 0), (1, 0), (2, 0), (3, 0), (4, 0), (5, 0), (6, 0), (7, 0), (8, 2), (9, 0)] [] Heap.emp (by kernel_rfl) rfl (Heap.Sub.emp _) fun _ => ?_)
    refine q_fG (And.intro hts (And.intro h0 (And.intro h1 (And.intro h5 (And.intro hes (And.intro hfs (And.intro he (And.intro he' (And.intro hp hp'))))))))) ?_
    refine ⟨hpt, by omega, by omega, hct, hpt, by omega, by omega, ht2.cell, hcall _ _ _ _ _ a b hR hR' ⟨Heap.Sub.emp _, ?_⟩⟩
    refine q_G ?_
    refine hK3 _ _ _ ?_
    clear hK3 K3
    refine WP.cond (by simp only [ev, Env.get_put_some, ↓reduceIte]; rfl) (fun hc2 => ?_) (fun hc2 => ?_)
    · refine WP.seq_k fun K1 hK1 => WP.region hT rfl ?_
      refine q_G ?_
      refine hK1 _ _ _ ?_
      clear hK1 K1
      refine WP.ret ?_
      refine qr_G ?_
      refine ⟨_, rfl, ret_plain (Left.refl hlt) (.bool _) ?_⟩
      have hne : l ≠ l2 := fun he => by subst he; rw [ha] at hb'; obtain rfl := Option.some.inj hb'; simp at hc2
      simpa [resV, hne] using hk
    have hab : a = b := by simpa using hc2
    subst hab
    refine WP.skip ?_
    refine q_G ?_
    refine hK2 _ _ _ ?_
    clear hK2 K2
    refine WP.region hT rfl ?_
    refine q_fG h5 ?_
    refine ⟨l.length - (i + 1), by omega, i + 1, rfl, hil, ?_, ?_, ?_, ?_⟩
    · rw [List.take_add_one, List.take_add_one, ha, hb', htk]
    · simpa [Env.get, Env.put] using h0
    · simpa [Env.get, Env.put] using h1
    · rw [wrap_in (by omega) (by omega)]
      rfl
  · have hil : i = l.length := by simp at hc; omega
    subst hil
    refine WP.exit ?_
    refine q_G ?_
    refine hK1 _ _ _ ?_
    clear hK2 K2 hK1 K1
    refine WP.seq_k fun K1 hK1 => WP.region hT rfl ?_
    refine q_G ?_
    refine hK1 _ _ _ ?_
    clear hK1 K1
    refine WP.ret ?_
    refine qr_G ?_
    refine ⟨_, rfl, ret_plain (Left.refl hlt) (.bool _) ?_⟩
    have he : l = l2 := by
      rw [List.take_of_length_le (Nat.le_refl _), List.take_of_length_le (by omega)] at htk
      exact htk
    simpa [resV, he] using hk
end Go.Proofs.Ytcngfjmfgeckmaa
namespace Go.Proofs.Ytcngfjmfgeckmaa
open Go
def eqS0Code (t ts : Nat) (p0 p1 p2 p3 p4 p5 p6 p7 p8 p9 p10 p11 p12 p13 p14 p15 p16 p17 p18 p19 p20 p21 p22 p23 p24 p25 : String) : Code :=
  (.seq
    (.region 0 #[⟨(some 4), .assign (.const (.bool false)), 4, p0, #[], none⟩] false)
    (.seq
      (.seq
        (.region 1 #[⟨(some 6), .move (.tmp 0), ts, p1, #[], none⟩,
          ⟨(some 7), .call { callee := (.builtin .len), args := #[(.tmp 6)], argTypes := #[ts] }, 3, p2, #[⟨0, .data⟩], none⟩,
          ⟨(some 8), .move (.tmp 1), ts, p3, #[], none⟩,
          ⟨(some 9), .call { callee := (.builtin .len), args := #[(.tmp 8)], argTypes := #[ts] }, 3, p4, #[⟨2, .data⟩], none⟩,
          ⟨(some 10), .binOp .neq 3 (.tmp 7) (.tmp 9) 3, 4, p5, #[⟨1, .data⟩, ⟨3, .data⟩], none⟩] false)
        (.cond (.tmp 10)
          (.seq
            (.region 2 #[⟨(some 4), .assign (.const (.bool false)), 4, p6, #[], none⟩] false)
            .ret)
          .skip))
      (.seq
        (.seq
          (.region 3 #[⟨(some 5), .assign (.const (.int .i64 0)), 3, p7, #[], none⟩] false)
          (.block 0
            (.loop
              (.seq
                (.seq
                  (.region 4 #[⟨(some 11), .move (.tmp 5), 3, p8, #[], none⟩,
                    ⟨(some 12), .move (.tmp 0), ts, p9, #[], none⟩,
                    ⟨(some 13), .call { callee := (.builtin .len), args := #[(.tmp 12)], argTypes := #[ts] }, 3, p10, #[⟨1, .data⟩], none⟩,
                    ⟨(some 14), .binOp .lss 3 (.tmp 11) (.tmp 13) 3, 4, p11, #[⟨0, .data⟩, ⟨2, .data⟩], none⟩] false)
                  (.cond (.tmp 14)
                    .skip
                    (.exit 0)))
                (.seq
                  (.block 1
                    (.seq
                      (.region 6 #[⟨(some 17), .move (.tmp 0), ts, p12, #[], none⟩,
                        ⟨(some 18), .move (.tmp 5), 3, p13, #[], none⟩,
                        ⟨(some 19), .indexAddr ts (.tmp 17) (.tmp 18), 0, p14, #[⟨0, .data⟩, ⟨1, .data⟩], none⟩,
                        ⟨(some 20), .load t (.tmp 19), t, p15, #[⟨2, .data⟩], none⟩,
                        ⟨(some 21), .move (.tmp 1), ts, p16, #[], none⟩,
                        ⟨(some 22), .move (.tmp 5), 3, p17, #[], none⟩,
                        ⟨(some 23), .indexAddr ts (.tmp 21) (.tmp 22), 0, p18, #[⟨4, .data⟩, ⟨5, .data⟩], none⟩,
                        ⟨(some 24), .load t (.tmp 23), t, p19, #[⟨6, .data⟩], none⟩,
                        ⟨(some 25), .binOp .neq t (.tmp 20) (.tmp 24) t, 4, p20, #[⟨3, .data⟩, ⟨7, .data⟩], none⟩] true)
                      (.cond (.tmp 25)
                        (.seq
                          (.region 7 #[⟨(some 4), .assign (.const (.bool false)), 4, p21, #[], none⟩] false)
                          .ret)
                        .skip)))
                  (.region 5 #[⟨(some 15), .move (.tmp 5), 3, p22, #[], none⟩,
                    ⟨(some 16), .binOp .add 3 (.tmp 15) (.const (.int .i64 1)) 3, 3, p23, #[⟨0, .data⟩], none⟩,
                    ⟨(some 5), .assign (.tmp 16), 3, p24, #[⟨1, .data⟩, ⟨0, .phase⟩, ⟨1, .phase⟩], none⟩] false))))))
        (.seq
          (.region 8 #[⟨(some 4), .assign (.const (.bool true)), 4, p25, #[], none⟩] false)
          .ret))))
theorem eqS0_gen {P : Program} {T : TE} {α : Type} [DecidableEq α] {R R2 : AV → α → Prop} {t ts : Nat} {p0 p1 p2 p3 p4 p5 p6 p7 p8 p9 p10 p11 p12 p13 p14 p15 p16 p17 p18 p19 p20 p21 p22 p23 p24 p25 : String}
    (hT : TEOk P T) (hM : P.follows .mixedOrders = true) {f : FuncId} {fn : Func} (hg : Goes P f) (hf : P.funcs[f]? = some fn) (hb : fn.body = some (eqS0Code t ts p0 p1 p2 p3 p4 p5 p6 p7 p8 p9 p10 p11 p12 p13 p14 p15 p16 p17 p18 p19 p20 p21 p22 p23 p24 p25)) (hN : fn.ntmps = 26) (hrs : fn.results.toList = [.tmp 4])
    (hts : (T ts).ty = .slice t) (ht : TyR T t R) (ht2 : TyR T t R2) {x y : AV} {l l2 : List α} (hx : SlR (T t).sz R x l) (hy : SlR (T t).sz R2 y l2)
    (hneq : ∀ e e' a b (K : AV → Prop), R e a → R2 e' b → K (.bool (decide (a ≠ b))) → binP T .neq t e e' K)
    {h : Heap} {n : Nat} {K : AV → Heap → Nat → Prop} (hk : K (.bool (decide (l = l2))) h n) : CA P f [x, y] h n K := by
  obtain ⟨es, hes, hal, hml, _, _⟩ := hx
  obtain ⟨fs, hfs, hbl, hml2, _, _⟩ := hy
  have hel := all2_length hal
  have hfl := all2_length hbl
  have hpt := ht.pos
  have hct := ht.cell
  unfold maxLen at hml hml2
  refine CA.conv (CA.enter (N := 26) hT hg hf hb hN (by simp) hrs fun hlt => ?_)
  unfold eqS0Code
  refine WP.seq_k fun K1 hK1 => WP.region hT rfl ?_
  refine q_G ?_
  refine hK1 _ _ _ ?_
  clear hK1 K1
  refine WP.seq_k fun K2 hK2 => ?_
  refine WP.seq_k fun K1 hK1 => WP.region hT rfl ?_
  refine q_fG (And.intro hts (And.intro (rdSl_emp hes) (rdSl_emp hfs))) ?_
  refine hK1 _ _ _ ?_
  clear hK1 K1
  refine WP.cond (by simp only [ev, Env.get_put_some, ↓reduceIte]; rfl) (fun hc => ?_) (fun hc => ?_)
  · refine WP.seq_k fun K1 hK1 => WP.region hT rfl ?_
    refine q_G ?_
    refine hK1 _ _ _ ?_
    clear hK1 K1
    refine WP.ret ?_
    refine qr_G ?_
    refine ⟨_, rfl, ret_plain (Left.refl hlt) (.bool _) ?_⟩
    have hne : l ≠ l2 := fun he => by subst he; simp at hc; omega
    simpa [resV, hne] using hk
  refine WP.skip (hK2 _ _ _ ?_)
  clear hK2 K2
  have hll : l.length = l2.length := by simp at hc; omega
  refine WP.seq_k fun K1 hK1 => WP.seq_k fun K2 hK2 => WP.region hT rfl ?_
  refine q_G ?_
  refine hK2 _ _ _ ?_
  clear hK2 K2
  refine WP.block (WP.loop (fun m E h' n' => ∃ i, m = l.length - i ∧ i ≤ l.length ∧ l.take i = l2.take i ∧ n' = n ∧ h' = h ∧ E.get 0 = x ∧ E.get 1 = y ∧ E.get 5 = .int .i64 i) l.length ?_ ?_)
  · exact ⟨0, by omega, Nat.zero_le _, rfl, rfl, rfl, rfl, rfl, rfl⟩
  rintro m E h' n' ⟨i, rfl, hi, htk, rfl, rfl, h0, h1, h5⟩
  refine WP.seq_k fun K2 hK2 => WP.seq_k fun K3 hK3 => WP.region hT rfl ?_
  refine q_fG (And.intro hts (And.intro h0 (And.intro h5 (rdSl_emp hes)))) ?_
  refine hK3 _ _ _ ?_
  clear hK3 K3
  refine WP.cond (by simp only [ev, Env.get_put_some, ↓reduceIte]; rfl) (fun hc => ?_) (fun hc => ?_)
  · have hil : i < l.length := by simp at hc; omega
    refine WP.skip (hK2 _ _ _ ?_)
    clear hK2 K2
    obtain ⟨e, a, he, ha, hR⟩ := all2_at hal hil
    obtain ⟨e', b, he', hb', hR'⟩ := all2_at hbl (show i < l2.length by omega)
    have hp := ht.part e a hR
    have hp' := ht2.part e' b hR'
    refine WP.seq_k fun K2 hK2 => WP.block (WP.seq_k fun K3 hK3 => WP.drawL hT hM [(0, 0), (1, 0), (2, 0), (3, 0), (4, 0), (5, 0), (6, 0), (7, 0), (8, 0)] [] Heap.emp (by kernel_rfl) rfl (Heap.Sub.emp _) fun _ => ?_)
    refine q_fG (And.intro hts (And.intro h0 (And.intro h1 (And.intro h5 (And.intro hes (And.intro hfs (And.intro he (And.intro he' (And.intro hp hp'))))))))) ?_
    refine ⟨hpt, by omega, by omega, hct, hpt, by omega, by omega, hct, hneq _ _ _ _ _ hR hR' (hK3 _ _ _ ?_)⟩
    clear hK3 K3
    refine WP.cond (by simp only [ev, Env.get_put_some, ↓reduceIte]; rfl) (fun hc2 => ?_) (fun hc2 => ?_)
    · refine WP.seq_k fun K1 hK1 => WP.region hT rfl ?_
      refine q_G ?_
      refine hK1 _ _ _ ?_
      clear hK1 K1
      refine WP.ret ?_
      refine qr_G ?_
      refine ⟨_, rfl, ret_plain (Left.refl hlt) (.bool _) ?_⟩
      have hne : l ≠ l2 := fun he => by subst he; rw [ha] at hb'; obtain rfl := Option.some.inj hb'; simp at hc2
      simpa [resV, hne] using hk
    have hab : a = b := by simpa using hc2
    subst hab
    refine WP.skip ?_
    refine q_G ?_
    refine hK2 _ _ _ ?_
    clear hK2 K2
    refine WP.region hT rfl ?_
    refine q_fG h5 ?_
    refine ⟨l.length - (i + 1), by omega, i + 1, rfl, hil, ?_, ?_, ?_, ?_⟩
    · rw [List.take_add_one, List.take_add_one, ha, hb', htk]
    · simpa [Env.get, Env.put] using h0
    · simpa [Env.get, Env.put] using h1
    · rw [wrap_in (by omega) (by omega)]
      rfl
  · have hil : i = l.length := by simp at hc; omega
    subst hil
    refine WP.exit ?_
    refine q_G ?_
    refine hK1 _ _ _ ?_
    clear hK2 K2 hK1 K1
    refine WP.seq_k fun K1 hK1 => WP.region hT rfl ?_
    refine q_G ?_
    refine hK1 _ _ _ ?_
    clear hK1 K1
    refine WP.ret ?_
    refine qr_G ?_
    refine ⟨_, rfl, ret_plain (Left.refl hlt) (.bool _) ?_⟩
    have he : l = l2 := by
      rw [List.take_of_length_le (Nat.le_refl _), List.take_of_length_le (by omega)] at htk
      exact htk
    simpa [resV, he] using hk
end Go.Proofs.Ytcngfjmfgeckmaa
namespace Go.Proofs.Ytcngfjmfgeckmaa
open Go
def left (s : Nat) (k : Int) : Int := if (s : Int) ≤ k then k - s else -1
def sizL {α : Type} (s : α → Nat) (l : List α) : Nat := l.length + (l.map s).sum
def szS0Code (ts : Nat) (p0 p1 p2 p3 p4 p5 p6 p7 p8 p9 p10 : String) : Code :=
  (.seq
    (.region 0 #[⟨(some 4), .assign (.const (.int .i64 0)), 3, p0, #[], none⟩] false)
    (.seq
      (.region 1 #[⟨(some 5), .move (.tmp 1), 3, p1, #[], none⟩,
        ⟨(some 6), .move (.tmp 0), ts, p2, #[], none⟩,
        ⟨(some 7), .call { callee := (.builtin .len), args := #[(.tmp 6)], argTypes := #[ts] }, 3, p3, #[⟨1, .data⟩], none⟩,
        ⟨(some 8), .binOp .sub 3 (.tmp 5) (.tmp 7) 3, 3, p4, #[⟨0, .data⟩, ⟨2, .data⟩], none⟩,
        ⟨(some 1), .assign (.tmp 8), 3, p5, #[⟨3, .data⟩, ⟨0, .phase⟩, ⟨1, .phase⟩, ⟨2, .phase⟩, ⟨3, .phase⟩], none⟩] false)
      (.seq
        (.seq
          (.region 2 #[⟨(some 9), .move (.tmp 1), 3, p6, #[], none⟩,
            ⟨(some 10), .binOp .lss 3 (.tmp 9) (.const (.int .i64 0)) 3, 4, p7, #[⟨0, .data⟩], none⟩] false)
          (.cond (.tmp 10)
            (.seq
              (.region 3 #[⟨(some 4), .assign (.const (.int .i64 (-1))), 3, p8, #[], none⟩] false)
              .ret)
            .skip))
        (.seq
          (.region 4 #[⟨(some 11), .move (.tmp 1), 3, p9, #[], none⟩,
            ⟨(some 4), .assign (.tmp 11), 3, p10, #[⟨0, .data⟩, ⟨0, .phase⟩], none⟩] false)
          .ret))))
theorem szS0_gen {P : Program} {T : TE} {α : Type} {R : AV → α → Prop} {sz ts t : Nat} {p0 p1 p2 p3 p4 p5 p6 p7 p8 p9 p10 : String}
    (hT : TEOk P T) {f : FuncId} {fn : Func} (hg : Goes P f) (hf : P.funcs[f]? = some fn) (hb : fn.body = some (szS0Code ts p0 p1 p2 p3 p4 p5 p6 p7 p8 p9 p10)) (hN : fn.ntmps = 12) (hrs : fn.results.toList = [.tmp 4])
    (hts : (T ts).ty = .slice t) (hsz : (T t).sz = sz) {x : AV} {l : List α} (hx : SlR sz R x l) {k : Int} (h0 : 0 ≤ k) (h1 : k ≤ 4611686018427387904)
    {h : Heap} {n : Nat} {K : AV → Heap → Nat → Prop} (hk : K (.int .i64 (left (sizL (fun _ => 0) l) k)) h n) : CA P f [x, .int .i64 k] h n K := by
  obtain ⟨es, hes, hal, hml, _, _⟩ := hx
  have hel := all2_length hal
  unfold maxLen at hml
  subst hsz
  have hsum : ∀ l : List α, (l.map fun _ => 0).sum = 0 := fun l => by induction l with
    | nil => rfl
    | cons x l ih => simp [ih]
  have hs : sizL (fun _ => 0) l = l.length := by unfold sizL; rw [hsum]; rfl
  rw [hs] at hk
  refine CA.conv (CA.enter (N := 12) hT hg hf hb hN (by simp) hrs fun hlt => ?_)
  unfold szS0Code
  refine WP.seq_k fun K1 hK1 => WP.region hT rfl ?_
  refine q_G ?_
  refine hK1 _ _ _ ?_
  clear hK1 K1
  have hw : IntKind.i64.wrap (k - (es.length : Int)) = k - l.length := by rw [wrap_in (by omega) (by omega)]; omega
  refine WP.seq_k fun K1 hK1 => WP.region hT rfl ?_
  refine q_fG (And.intro hts (And.intro (rdSl_emp hes) hw)) ?_
  refine hK1 _ _ _ ?_
  clear hK1 K1
  refine WP.seq_k fun K2 hK2 => ?_
  refine WP.seq_k fun K1 hK1 => WP.region hT rfl ?_
  refine q_G ?_
  refine hK1 _ _ _ ?_
  clear hK1 K1
  refine WP.cond (by simp only [ev, Env.get_put_some, ↓reduceIte]; rfl) (fun hc => ?_) (fun hc => ?_)
  · refine WP.seq_k fun K1 hK1 => WP.region hT rfl ?_
    refine q_G ?_
    refine hK1 _ _ _ ?_
    clear hK1 K1
    refine WP.ret ?_
    refine qr_G ?_
    refine ⟨_, rfl, ret_plain (Left.refl hlt) (.int _ _) ?_⟩
    have : left l.length k = -1 := by unfold left; simp at hc; rw [if_neg (by omega)]
    simpa [resV, this] using hk
  refine WP.skip (hK2 _ _ _ ?_)
  clear hK2 K2
  refine WP.seq_k fun K1 hK1 => WP.region hT rfl ?_
  refine q_G ?_
  refine hK1 _ _ _ ?_
  clear hK1 K1
  refine WP.ret ?_
  refine qr_G ?_
  refine ⟨_, rfl, ret_plain (Left.refl hlt) (.int _ _) ?_⟩
  have : left l.length k = k - l.length := by unfold left; simp at hc; rw [if_pos (by omega)]
  simpa [resV, this] using hk
end Go.Proofs.Ytcngfjmfgeckmaa
namespace Go.Proofs.Ytcngfjmfgeckmaa
open Go
end Go.Proofs.Ytcngfjmfgeckmaa
namespace Go.Proofs.Ytcngfjmfgeckmaa
open Go
theorem tyR_int {T : TE} {t : TypeId} {k : IntKind} {p : Int → Prop} (ht : (T t).ty = .int k) (h1 : (T t).sz = 1) (hz : (T t).zero = .int k 0) : TyR T t (fun e a => e = .int k a ∧ p a) where
  pos := by omega
  cell := by unfold cellOk; rw [ht]
  zlen := by rw [hz, h1]; rfl
  part x a h := by rw [h.1]; unfold part; rw [ht]; rfl
  len x a h := by rw [h.1, h1]; rfl
  good x a h := by rw [h.1]; rfl
  lt x a n h := by rw [h.1]; exact .int _ _
  setz x a h := by rw [hz]; rfl
end Go.Proofs.Ytcngfjmfgeckmaa
namespace Go.Proofs.Ytcngfjmfgeckmaa
open Go
theorem Heap.upd_lt (h : Heap) {id x : Nat} (b : List AV) (hx : x < id) : (h.upd id b) x = h x := Heap.upd_ne h b (by omega)
def AV.idIs (A : AV) (k : Nat) : Prop := match A with
  | .sl _ id _ _ _ _ => id = k
  | _ => False
def OwnR (h : Heap) (n0 n1 sz : Nat) (A : AV) (es : List AV) : Prop :=
  (A = .nils ∧ es = []) ∨ ∃ k ex, n0 ≤ k ∧ k < n1 ∧ A = .sl sz k 0 es.length es.length ex ∧ h k = some es
def GrowR (h : Heap) (n0 n1 sz : Nat) (A : AV) (es : List AV) : Prop := OwnR h n0 n1 sz A es ∨ A = .ro sz true es
section
variable {T : TE} {h : Heap} {n0 n sz : Nat} {A : AV} {es : List AV} {K : AV → Heap → Nat → Prop}
theorem OwnR.new {h' : Heap} {n1 : Nat} {ex : Bool} (h0 : n0 ≤ n) (h1 : n < n1) (hh : h' n = some es) : OwnR h' n0 n1 sz (.sl sz n 0 es.length es.length ex) es := .inr ⟨n, ex, h0, h1, rfl, hh⟩
theorem OwnR.keep {h' : Heap} {n1 : Nat} (ho : OwnR h n0 n sz A es) (hn : n ≤ n1) (hh : ∀ k, A.idIs k → h' k = h k) : OwnR h' n0 n1 sz A es := by
  rcases ho with ⟨rfl, rfl⟩ | ⟨k, ex, a, b, rfl, hkk⟩
  · exact .inl ⟨rfl, rfl⟩
  · exact .inr ⟨k, ex, a, by omega, rfl, by rw [hh k rfl]; exact hkk⟩
theorem OwnR.id_lt (ho : OwnR h n0 n sz A es) {k : Nat} (hk : A.idIs k) : n0 ≤ k ∧ k < n := by
  rcases ho with ⟨rfl, rfl⟩ | ⟨k', ex, a, b, rfl, _⟩
  · exact hk.elim
  · have : k' = k := hk
    omega
theorem GrowR.keep {h' : Heap} {n1 : Nat} (ho : GrowR h n0 n sz A es) (hn : n ≤ n1) (hh : ∀ k, A.idIs k → h' k = h k) : GrowR h' n0 n1 sz A es := by
  rcases ho with ho | ho
  · exact .inl (ho.keep hn hh)
  · exact .inr ho
theorem GrowR.id_lt (ho : GrowR h n0 n sz A es) {k : Nat} (hk : A.idIs k) : n0 ≤ k ∧ k < n := by
  rcases ho with ho | rfl
  · exact ho.id_lt hk
  · exact hk.elim
theorem GrowR.pushAll {el : TypeId} (hsz : (T el).sz = sz) (hpos : 0 < sz) {y : AV} {ys : List AV} (ho : GrowR h n0 n sz A es) (hy : rdSl h sz y = some ys) (hne : ys ≠ []) (hby : (es.length + ys.length) * (T el).bytes ≤ 140737488355328) (h63 : es.length + ys.length ≤ 140737488355328) (h0 : n0 ≤ n)
    (hk : ∀ h2, OwnR h2 n0 (n + 1) sz (.sl sz n 0 (es.length + ys.length) (es.length + ys.length) false) (es ++ ys) → (∀ id, id < n → ¬ A.idIs id → h2 id = h id) → K (.sl sz n 0 (es.length + ys.length) (es.length + ys.length) false) h2 (n + 1)) :
    appendP T el A y h n K := by
  subst hsz
  have hl : 0 < ys.length := by cases ys with | nil => exact absurd rfl hne | cons => simp
  have own : ∀ g : Heap, OwnR (g.upd n (es ++ ys)) n0 (n + 1) (T el).sz (.sl (T el).sz n 0 (es.length + ys.length) (es.length + ys.length) false) (es ++ ys) := fun g => .inr ⟨n, false, h0, by omega, by simp, Heap.upd_same _ _ _⟩
  refine ⟨ys, hy, hpos, ?_⟩
  rcases ho with (⟨rfl, rfl⟩ | ⟨k, ex, a, b, rfl, hkk⟩) | rfl
  · refine ⟨by simpa using hby, by simpa using h63, ?_⟩
    rw [if_neg hne]
    have := hk (h.upd n ys) (by simpa using own h) (fun id hid _ => Heap.upd_ne _ _ (by omega))
    simpa using this
  · refine ⟨rfl, hby, h63, es, hkk, by simp, ?_⟩
    rw [if_neg (by omega)]
    split
    · have := hk (h.upd n (es ++ ys)) (own h) (fun id hid _ => Heap.upd_ne _ _ (by omega))
      simpa using this
    · have := hk ((h.del k).upd n (es ++ ys)) (own _) (fun id hid hq => by
        rw [Heap.upd_ne _ _ (by omega)]
        unfold Heap.del
        rw [if_neg (fun hq2 => hq (show k = id from hq2.symm))])
      simpa using this
  · refine ⟨rfl, hby, h63, ?_⟩
    rw [if_neg hne]
    exact ⟨rfl, hk (h.upd n (es ++ ys)) (own h) (fun id hid _ => Heap.upd_ne _ _ (by omega))⟩
theorem GrowR.push {el : TypeId} (hsz : (T el).sz = sz) (hpos : 0 < sz) {e : AV} (ho : GrowR h n0 n sz A es) (hby : (es.length + 1) * (T el).bytes ≤ 140737488355328) (h63 : es.length + 1 ≤ 140737488355328) (h0 : n0 ≤ n)
    (hk : ∀ h2, OwnR h2 n0 (n + 2) sz (.sl sz (n + 1) 0 (es.length + 1) (es.length + 1) false) (es ++ [e]) → (∀ id, id < n0 → h2 id = h id) → (∀ id, id < n → ¬ A.idIs id → h2 id = h id) → K (.sl sz (n + 1) 0 (es.length + 1) (es.length + 1) false) h2 (n + 2)) :
    appendP T el A (.sl sz n 0 1 1 true) (h.upd n [e]) (n + 1) K := by
  have ho' : GrowR (h.upd n [e]) n0 (n + 1) sz A es := ho.keep (by omega) fun k hk => Heap.upd_ne _ _ (by have := ho.id_lt hk; omega)
  refine ho'.pushAll (ys := [e]) hsz hpos (by rw [rdSl_sl, Heap.upd_same]; simp) (by simp) (by simpa using hby) (by simpa using h63) (by omega) fun h2 o2 u2 => ?_
  have u3 : ∀ id, id < n → ¬ A.idIs id → h2 id = h id := fun id h1 h2' => by rw [u2 id (by omega) h2', Heap.upd_ne _ _ (by omega)]
  exact hk h2 (by simpa using o2) (fun id hid => u3 id (by omega) fun hq => by have := ho.id_lt hq; omega) u3
theorem OwnR.push {el : TypeId} (hsz : (T el).sz = sz) (hpos : 0 < sz) {e : AV} (ho : OwnR h n0 n sz A es) (hby : (es.length + 1) * (T el).bytes ≤ 140737488355328) (h63 : es.length + 1 ≤ 140737488355328) (h0 : n0 ≤ n)
    (hk : ∀ h2, OwnR h2 n0 (n + 2) sz (.sl sz (n + 1) 0 (es.length + 1) (es.length + 1) false) (es ++ [e]) → (∀ id, id < n0 → h2 id = h id) → (∀ id, id < n → ¬ A.idIs id → h2 id = h id) → K (.sl sz (n + 1) 0 (es.length + 1) (es.length + 1) false) h2 (n + 2)) :
    appendP T el A (.sl sz n 0 1 1 true) (h.upd n [e]) (n + 1) K := GrowR.push hsz hpos (.inl ho) hby h63 h0 hk
end
section
variable {T : TE} {h : Heap} {n0 n sz : Nat} {A : AV} {es : List AV} {K : AV → Heap → Nat → Prop}
end
end Go.Proofs.Ytcngfjmfgeckmaa
namespace Go.Proofs.Ytcngfjmfgeckmaa
open Go
inductive NoRo : AV → Prop
  | bool (b) : NoRo (.bool b)
  | int (k m) : NoRo (.int k m)
  | str (s) : NoRo (.str s)
  | nils : NoRo .nils
  | sl (sz id off len lo ex) : NoRo (.sl sz id off len lo ex)
  | eps (sz sz2 id o len lo ex i off) : NoRo (.ep sz (.sl sz2 id o len lo ex) i off)
  | nilp : NoRo .nilp
  | nilf : NoRo .nilf
  | fn (f cap) (hl : ∀ (i : Nat) (u : AV), cap[i]? = some u → NoRo u) : NoRo (.fn f cap)
  | agg (cs) (hl : ∀ (i : Nat) (u : AV), cs[i]? = some u → NoRo u) : NoRo (.agg cs)
  | tup (cs) (hl : ∀ (i : Nat) (u : AV), cs[i]? = some u → NoRo u) : NoRo (.tup cs)
  | undef : NoRo .undef
def Heap.minus (h : Heap) (I : Nat → Bool) : Heap := fun x => if I x = true then none else h x
def Heap.only (h : Heap) (I : Nat → Bool) : Heap := fun x => if I x = true then h x else none
def Heap.join (h' : Heap) (I : Nat → Bool) (h : Heap) : Heap := fun x => if I x = true then h x else h' x
section
variable {c c' : Cfg} {h h' : Heap} {n n' : Nat} {u : AV} {v : Value}
theorem VR.noRo (hu : VR c u v) (hn : NoRo u) (hw : c'.w = c.w) (hi : c'.ι = c.ι) : VR c' u v := by
  induction hu with
  | bool b => exact .bool b
  | int k n => exact .int k n
  | str s => exact .str s
  | nils => exact .nils
  | ro sz ex l a cap f hcap hmax hex hfz hsz hone hc hv ih => cases hn
  | sl sz id off len lo ex b base cap hι hlen hlo hex hmax hroom a ha => exact .sl sz id off len lo ex b base cap (by rw [hi]; exact hι) hlen hlo hex hmax (by rw [hw]; exact hroom) a ha
  | ep_ro sz ex l i off a cap ha hi' ih => cases hn
  | ep_sl sz id o len lo ex i off b base hι => exact .ep_sl sz id o len lo ex i off b base (by rw [hi]; exact hι)
  | nilp => exact .nilp
  | nilf => exact .nilf
  | fn f cap vs hs hv ih => cases hn with | fn _ _ hl => exact .fn f cap vs hs (fun i u v h1 h2 => ih i u v h1 h2 (hl i u h1))
  | agg cs vs hs hone hv ih => cases hn with | agg _ hl => exact .agg cs vs hs hone (fun i u v h1 h2 => ih i u v h1 h2 (hl i u h1))
  | tup cs vs hs hv ih => cases hn with | tup _ hl => exact .tup cs vs hs (fun i u v h1 h2 => ih i u v h1 h2 (hl i u h1))
  | undef v => exact .undef v
theorem VR.widen (hu : VR c u v) (hw : c'.w = c.w) (hz : ∀ b, c.Fz b → c'.Fz b) (hi : c'.ι = c.ι) : VR c' u v := by
  induction hu with
  | bool b => exact .bool b
  | int k n => exact .int k n
  | str s => exact .str s
  | nils => exact .nils
  | ro sz ex l a cap f hcap hmax hex hfz hsz hone hc hv ih => exact .ro sz ex l a cap f hcap hmax hex (fun q => hz _ (hfz q)) hsz hone (fun i e j u h1 h2 => by rw [hw]; exact hc i e j u h1 h2) ih
  | sl sz id off len lo ex b base cap hι hlen hlo hex hmax hroom a ha => exact .sl sz id off len lo ex b base cap (by rw [hi]; exact hι) hlen hlo hex hmax (by rw [hw]; exact hroom) a ha
  | ep_ro sz ex l i off a cap ha hi' ih => exact .ep_ro sz ex l i off a cap ih hi'
  | ep_sl sz id o len lo ex i off b base hι => exact .ep_sl sz id o len lo ex i off b base (by rw [hi]; exact hι)
  | nilp => exact .nilp
  | nilf => exact .nilf
  | fn f cap vs hs hv ih => exact .fn f cap vs hs ih
  | agg cs vs hs hone hv ih => exact .agg cs vs hs hone ih
  | tup cs vs hs hv ih => exact .tup cs vs hs ih
  | undef v => exact .undef v
theorem CA.borrow {P : Program} {f : FuncId} {args args' : List AV} {K : AV → Heap → Nat → Prop} (I : Nat → Bool) (hl : args.length = args'.length) (ha : ∀ (i : Nat) (u u' : AV), args[i]? = some u → args'[i]? = some u' → u = u' ∨ Frz 0 (h.only I) u u')
    (hc : CA P f args' (h.minus I) n (fun r h' n' => NoRo r ∧ (∀ id b, h' id = some b → ∀ e, e ∈ b → ∀ u, u ∈ e.cells → NoRo u) ∧ K r (h'.join I h) n')) : CA P f args h n K := by
  refine ⟨hc.1, fun c vals hh hf hs hv => ?_⟩
  let c0 : Cfg := ⟨c.ι, fun b => c.Fz b ∨ ∃ id blk x, I id = true ∧ h id = some blk ∧ c.ι id = some x ∧ x.1 = b, c.w⟩
  have hminus : ∀ id b, (h.minus I) id = some b → I id = false ∧ h id = some b := fun id b hb => by
    unfold Heap.minus at hb
    split at hb
    · cases hb
    · rename_i hI; exact ⟨by simpa using hI, hb⟩
  have honly : ∀ id b, (h.only I) id = some b → I id = true ∧ h id = some b := fun id b hb => by
    unfold Heap.only at hb
    split at hb
    · exact ⟨by assumption, hb⟩
    · cases hb
  have keepV : ∀ {u v}, VR c u v → VR c0 u v := fun hu => hu.widen rfl (fun b hb => .inl hb) rfl
  have hh0 : HR c0 (h.minus I) := by
    refine ⟨fun id b hb => ?_, fun i j bi bj x y h1 h2 => hh.inj i j bi bj x y (hminus _ _ h1).2 (hminus _ _ h2).2, fun b hb => ?_⟩
    · obtain ⟨k1, k2⟩ := hminus id b hb
      obtain ⟨bb, base, sz, arr, E, hB⟩ := hh.blk id b k2
      refine ⟨bb, base, sz, arr, E, hB.ι, hB.heap, ?_, hB.size, hB.one, fun i e j u a1 a2 => ?_⟩
      · rintro (hq | ⟨id2, blk2, x2, g1, g2, g3, g4⟩)
        · exact hB.nfz hq
        · have := hh.inj id id2 b blk2 _ _ k2 g2 hB.ι g3 g4.symm
          subst this
          rw [k1] at g1; cases g1
      · obtain ⟨v, q1, q2⟩ := hB.cell i e j u a1 a2
        exact ⟨v, q1, keepV q2⟩
    · rcases hb with hb | ⟨id, blk, x, g1, g2, g3, rfl⟩
      · exact hh.fzlt b hb
      · obtain ⟨bb, base, sz, arr, E, hB⟩ := hh.blk id blk g2
        rw [hB.ι] at g3
        obtain rfl := Option.some.inj g3
        exact heap_lt hB.heap
  have hhI : HR c (h.only I) := hh.sub fun id b hb => (honly id b hb).2
  refine Calls.mono (hc.2 c0 vals hh0 hf (by omega) (fun i u v h1 h2 => ?_)) (fun e w' he => ?_)
  · have hlt := (List.getElem?_eq_some_iff.1 h1).1
    have h3 : args[i]? = some (args[i]'(by omega)) := List.getElem?_eq_getElem (by omega)
    have hvr := hv i _ v h3 h2
    rcases ha i _ _ h3 h1 with hq | hq
    · rw [← hq]; exact keepV hvr
    · exact Frz.rel (c := c) (c' := c0) hq hhI rfl (fun b hb => .inl hb) (fun id x _ hx => hx) (fun id blk x _ g2 g3 => .inr ⟨id, blk, x, (honly id blk g2).1, (honly id blk g2).2, g3, rfl⟩) hvr
  · obtain ⟨v, r, h', n', rfl, ⟨c1, hw1, e1, hh1, hf1, hv1, hn1⟩, hr, hnr, hK⟩ := he
    subst hw1
    let Bk : Nat → Prop := fun b => ∃ id blk x, I id = true ∧ h id = some blk ∧ c.ι id = some x ∧ x.1 = b
    let c2 : Cfg := ⟨c1.ι, fun b => c1.Fz b ∧ ¬ Bk b, c1.w⟩
    have hjoin : ∀ id b, (h'.join I h) id = some b → (I id = true ∧ h id = some b) ∨ (I id = false ∧ h' id = some b) := fun id b hb => by
      unfold Heap.join at hb
      split at hb
      · exact .inl ⟨by assumption, hb⟩
      · rename_i hI; exact .inr ⟨by simpa using hI, hb⟩
    have hbk : ∀ b, Bk b → ¬ c.Fz b := by
      rintro b ⟨id, blk, x, g1, g2, g3, rfl⟩
      obtain ⟨bb, base, sz, arr, E, hB⟩ := hh.blk id blk g2
      rw [hB.ι] at g3
      obtain rfl := Option.some.inj g3
      exact hB.nfz
    have hext : Ext c h (fun id => n ≤ id ∧ id < n') c2 (h'.join I h) := by
      refine ⟨e1.os, e1.tape, e1.output, e1.size, e1.ι, e1.dom, fun b hb => ⟨e1.fz b (.inl hb), fun hq => hbk b hq hb⟩, e1.shape, fun b hb hno => e1.frame b hb fun id blk x g1 g2 => hno id blk x (hminus id blk g1).2 g2, fun id blk x g1 g2 => ?_, fun b hb => ?_⟩
      · rcases hjoin id blk g1 with ⟨k1, k2⟩ | ⟨k1, k2⟩
        · obtain ⟨bb, base, sz, arr, E, hB⟩ := hh.blk id blk k2
          have := e1.ι id _ hB.ι
          have g2' : c1.ι id = some x := g2
          rw [this] at g2'
          obtain rfl := Option.some.inj g2'
          exact .inr ⟨id, blk, _, k2, hB.ι, rfl⟩
        · rcases e1.own id blk x k2 g2 with q | ⟨id0, b0, x0, q1, q2, q3⟩
          · exact .inl q
          · exact .inr ⟨id0, b0, x0, (hminus _ _ q1).2, q2, q3⟩
      · obtain ⟨hb1, hb2⟩ := hb
        rcases e1.fzb b hb1 with (q | q) | q | ⟨id0, b0, x0, q1, q2, q3⟩
        · exact .inl q
        · exact absurd q hb2
        · exact .inr (.inl q)
        · exact .inr (.inr ⟨id0, b0, x0, (hminus _ _ q1).2, q2, q3⟩)
    refine ⟨v, r, h'.join I h, n', rfl, ⟨c2, rfl, hext, ⟨fun id b hb => ?_, fun i j bi bj x y h1 h2 h3 h4 h5 => ?_, fun b hb => hh1.fzlt b hb.1⟩, hf1, hv1.noRo hr rfl rfl, hn1⟩, hK⟩
    · rcases hjoin id b hb with ⟨k1, k2⟩ | ⟨k1, k2⟩
      · obtain ⟨bb, base, sz, arr, E, hB⟩ := hh.blk id b k2
        have hBk : Bk bb := ⟨id, b, _, k1, k2, hB.ι, rfl⟩
        refine ⟨bb, base, sz, arr, E, e1.ι id _ hB.ι, (e1.keep hh0 (.inr hBk) (heap_lt hB.heap)).trans hB.heap, fun hq => hq.2 hBk, hB.size, hB.one, fun i e j u a1 a2 => ?_⟩
        obtain ⟨v, q1, q2⟩ := hB.cell i e j u a1 a2
        exact ⟨v, q1, q2.mono hext hh⟩
      · obtain ⟨bb, base, sz, arr, E, hB⟩ := hh1.blk id b k2
        refine ⟨bb, base, sz, arr, E, hB.ι, hB.heap, fun hq => hB.nfz hq.1, hB.size, hB.one, fun i e j u a1 a2 => ?_⟩
        obtain ⟨v, q1, q2⟩ := hB.cell i e j u a1 a2
        exact ⟨v, q1, q2.noRo (hnr id b k2 e (List.mem_of_getElem? a1) u (List.mem_of_getElem? a2)) rfl rfl⟩
    · have mixed : ∀ i j bi bj (x y : Nat × Nat × Nat), I i = true → h i = some bi → h' j = some bj → c1.ι i = some x → c1.ι j = some y → x.1 = y.1 → False := fun i j bi bj x y g1 g2 g3 g4 g5 g6 => by
        obtain ⟨bb, base, sz, arr, E, hB⟩ := hh.blk i bi g2
        have q := e1.ι i _ hB.ι
        rw [q] at g4
        obtain rfl := Option.some.inj g4
        obtain ⟨bb', base', sz', arr', E', hB'⟩ := hh1.blk j bj g3
        rw [hB'.ι] at g5
        obtain rfl := Option.some.inj g5
        have g6' : bb = bb' := g6
        subst g6'
        exact hB'.nfz (e1.fz _ (.inr ⟨i, bi, _, g1, g2, hB.ι, rfl⟩))
      rcases hjoin i bi h1 with ⟨k1, k2⟩ | ⟨k1, k2⟩ <;> rcases hjoin j bj h2 with ⟨m1, m2⟩ | ⟨m1, m2⟩
      · obtain ⟨b1, ba1, s1, ar1, E1, hB1⟩ := hh.blk i bi k2
        obtain ⟨b2, ba2, s2, ar2, E2, hB2⟩ := hh.blk j bj m2
        have q1 := e1.ι i _ hB1.ι
        have q2 := e1.ι j _ hB2.ι
        have h3' : c1.ι i = some x := h3
        have h4' : c1.ι j = some y := h4
        rw [q1] at h3'
        rw [q2] at h4'
        obtain rfl := Option.some.inj h3'
        obtain rfl := Option.some.inj h4'
        exact hh.inj i j bi bj _ _ k2 m2 hB1.ι hB2.ι h5
      · exact (mixed i j bi bj x y k1 k2 m2 h3 h4 h5).elim
      · exact (mixed j i bj bi y x m1 m2 k2 h4 h3 h5.symm).elim
      · exact hh1.inj i j bi bj x y k2 m2 h3 h4 h5
end
end Go.Proofs.Ytcngfjmfgeckmaa
namespace Go.Proofs.Ytcngfjmfgeckmaa
open Go
mutual
inductive Tree (h : Heap) : AV → AV → List Nat → Prop
  | atom (u : AV) (hu : u.Lt 0) (hn : NoRo u) : Tree h u u []
  | sl (sz id : Nat) (ex : Bool) (b b' : List AV) (I : List Nat) (hb : h id = some b) (ht : TreeL h b b' I) (hid : id ∉ I) : Tree h (.sl sz id 0 b.length b.length ex) (.ro sz ex b') (id :: I)
  | agg (cs cs' : List AV) (I : List Nat) (ht : TreeL h cs cs' I) : Tree h (.agg cs) (.agg cs') I
inductive TreeL (h : Heap) : List AV → List AV → List Nat → Prop
  | nil : TreeL h [] [] []
  | cons (u u' : AV) (l l' : List AV) (I J : List Nat) (hu : Tree h u u' I) (hl : TreeL h l l' J) (hd : ∀ i, i ∈ I → i ∉ J) : TreeL h (u :: l) (u' :: l') (I ++ J)
end
theorem AV.Lt.mono {n m : Nat} {u : AV} (h : u.Lt n) (hn : n ≤ m) : u.Lt m := by
  induction h with
  | bool => exact .bool _
  | int => exact .int _ _
  | str => exact .str _
  | nils => exact .nils
  | ro _ _ _ _ ih => exact .ro _ _ _ ih
  | sl _ _ _ _ _ _ hid => exact .sl _ _ _ _ _ _ (by omega)
  | ep _ _ _ _ _ ih => exact .ep _ _ _ _ ih
  | nilp => exact .nilp
  | nilf => exact .nilf
  | fn _ _ _ ih => exact .fn _ _ ih
  | agg _ _ ih => exact .agg _ ih
  | tup _ _ ih => exact .tup _ ih
  | undef => exact .undef
mutual
theorem Tree.frz {n : Nat} {h g : Heap} : ∀ {x x' : AV} {I : List Nat}, Tree h x x' I → (∀ id b, id ∈ I → h id = some b → n ≤ id ∧ g id = some b) → Frz n g x x'
  | _, _, _, .atom u hu hn, _ => .keep u (hu.mono (Nat.zero_le _))
  | _, _, _, .sl sz id ex b b' I hb ht hid, hg => by
    obtain ⟨h1, h2⟩ := TreeL.frz ht (fun i b hi => hg i b (List.mem_cons_of_mem _ hi))
    have hgg := hg id b (by simp) hb
    have := Frz.sl (n := n) (h := g) sz id 0 b.length b.length ex b b' hgg.1 hgg.2 (by omega) h1 (fun i e e' k1 k2 => h2 i e e' (by simpa using k1) k2)
    simpa using this
  | _, _, _, .agg cs cs' I ht, hg => by
    obtain ⟨h1, h2⟩ := TreeL.frz ht hg
    exact .agg cs cs' h1 h2
theorem TreeL.frz {n : Nat} {h g : Heap} : ∀ {l l' : List AV} {I : List Nat}, TreeL h l l' I → (∀ id b, id ∈ I → h id = some b → n ≤ id ∧ g id = some b) → l'.length = l.length ∧ ∀ (i : Nat) (u u' : AV), l[i]? = some u → l'[i]? = some u' → Frz n g u u'
  | _, _, _, .nil, _ => ⟨rfl, fun i u u' h => by simp at h⟩
  | _, _, _, .cons u u' l l' I J hu hl hd, hg => by
    have k := Tree.frz hu (fun i b hi => hg i b (List.mem_append_left _ hi))
    obtain ⟨h1, h2⟩ := TreeL.frz hl (fun i b hi => hg i b (List.mem_append_right _ hi))
    refine ⟨by simp [h1], fun i x x' g1 g2 => ?_⟩
    cases i with
    | zero => simp at g1 g2; subst g1; subst g2; exact k
    | succ i => exact h2 i x x' (by simpa using g1) (by simpa using g2)
end
mutual
theorem Tree.keep {h g : Heap} : ∀ {x x' : AV} {I : List Nat}, Tree h x x' I → (∀ id, id ∈ I → g id = h id) → Tree g x x' I
  | _, _, _, .atom u hu hn, _ => .atom u hu hn
  | _, _, _, .sl sz id ex b b' I hb ht hid, hg => .sl sz id ex b b' I (by rw [hg id (by simp)]; exact hb) (TreeL.keep ht fun i hi => hg i (List.mem_cons_of_mem _ hi)) hid
  | _, _, _, .agg cs cs' I ht, hg => .agg cs cs' I (TreeL.keep ht hg)
theorem TreeL.keep {h g : Heap} : ∀ {l l' : List AV} {I : List Nat}, TreeL h l l' I → (∀ id, id ∈ I → g id = h id) → TreeL g l l' I
  | _, _, _, .nil, _ => .nil
  | _, _, _, .cons u u' l l' I J hu hl hd, hg => .cons u u' l l' I J (Tree.keep hu fun i hi => hg i (List.mem_append_left _ hi)) (TreeL.keep hl fun i hi => hg i (List.mem_append_right _ hi)) hd
end
mutual
theorem Tree.noRo {h : Heap} : ∀ {x x' : AV} {I : List Nat}, Tree h x x' I → NoRo x
  | _, _, _, .atom u _ hn => hn
  | _, _, _, .sl sz id ex b b' I _ _ _ => .sl _ _ _ _ _ _
  | _, _, _, .agg cs cs' I ht => .agg _ fun _ u hu => TreeL.noRo ht u (List.mem_of_getElem? hu)
theorem TreeL.noRo {h : Heap} : ∀ {l l' : List AV} {I : List Nat}, TreeL h l l' I → ∀ u, u ∈ l → NoRo u
  | _, _, _, .nil => fun u hu => by cases hu
  | _, _, _, .cons u u' l l' I J hu hl hd => fun y hy => by
    rcases List.mem_cons.1 hy with rfl | hy
    · exact Tree.noRo hu
    · exact TreeL.noRo hl y hy
end
theorem NoRo.cells {x : AV} (hx : NoRo x) : ∀ u, u ∈ x.cells → NoRo u := by
  intro u hu
  cases hx with
  | agg cs hl => obtain ⟨i, hi⟩ := List.mem_iff_getElem?.1 hu; exact hl i u hi
  | _ => simp [AV.cells] at hu; subst hu; constructor <;> assumption
mutual
theorem Tree.rows {h : Heap} : ∀ {x x' : AV} {I : List Nat}, Tree h x x' I → ∀ id b, id ∈ I → h id = some b → ∀ e, e ∈ b → NoRo e
  | _, _, _, .atom u hu hn => fun id b hi => by cases hi
  | _, _, _, .sl sz id ex b b' I hb ht hid => fun id2 b2 hi hb2 => by
    rcases List.mem_cons.1 hi with rfl | hi
    · rw [hb] at hb2
      obtain rfl := Option.some.inj hb2
      exact TreeL.noRo ht
    · exact TreeL.rows ht id2 b2 hi hb2
  | _, _, _, .agg cs cs' I ht => TreeL.rows ht
theorem TreeL.rows {h : Heap} : ∀ {l l' : List AV} {I : List Nat}, TreeL h l l' I → ∀ id b, id ∈ I → h id = some b → ∀ e, e ∈ b → NoRo e
  | _, _, _, .nil => fun id b hi => by cases hi
  | _, _, _, .cons u u' l l' I J hu hl hd => fun id b hi hb => by
    rcases List.mem_append.1 hi with hi | hi
    · exact Tree.rows hu id b hi hb
    · exact TreeL.rows hl id b hi hb
end
theorem TreeL.length {h : Heap} {l l' : List AV} {I : List Nat} (hl : TreeL h l l' I) : l'.length = l.length := (TreeL.frz (n := 0) hl (fun _ _ _ hb => ⟨Nat.zero_le _, hb⟩)).1
theorem TreeL.append {h : Heap} {l l' m m' : List AV} {I J : List Nat} (hl : TreeL h l l' I) (hm : TreeL h m m' J) (hd : ∀ i, i ∈ I → i ∉ J) : TreeL h (l ++ m) (l' ++ m') (I ++ J) := by
  induction l generalizing l' I with
  | nil => cases hl; exact hm
  | cons x l ih =>
    cases hl with
    | cons _ x' _ l'' I1 J1 hx hl hd1 =>
      have := ih hl (fun i hi => hd i (List.mem_append_right _ hi))
      have h2 := TreeL.cons x x' _ _ I1 (J1 ++ J) hx this (fun i hi hj => by
        rcases List.mem_append.1 hj with hj | hj
        · exact hd1 i hi hj
        · exact hd i (List.mem_append_left _ hi) hj)
      rw [List.append_assoc]
      exact h2
theorem TreeL.one {h : Heap} {u u' : AV} {J : List Nat} (hu : Tree h u u' J) : TreeL h [u] [u'] J := by
  have := TreeL.cons u u' [] [] J [] hu .nil (fun i _ h => by cases h)
  simpa using this
theorem TreeL.snoc {h : Heap} {l l' : List AV} {I J : List Nat} {u u' : AV} (hl : TreeL h l l' I) (hu : Tree h u u' J) (hd : ∀ i, i ∈ I → i ∉ J) : TreeL h (l ++ [u]) (l' ++ [u']) (I ++ J) :=
  hl.append (.one hu) hd
theorem Tree.int {h : Heap} {x : AV} {k : IntKind} {m : Int} {I : List Nat} (ht : Tree h x (.int k m) I) : x = .int k m ∧ I = [] := by cases ht; exact ⟨rfl, rfl⟩
theorem Tree.bool {h : Heap} {x : AV} {b : Bool} {I : List Nat} (ht : Tree h x (.bool b) I) : x = .bool b ∧ I = [] := by cases ht; exact ⟨rfl, rfl⟩
theorem Tree.str {h : Heap} {x : AV} {b : ByteArray} {I : List Nat} (ht : Tree h x (.str b) I) : x = .str b ∧ I = [] := by cases ht; exact ⟨rfl, rfl⟩
theorem Tree.nils {h : Heap} {x : AV} {I : List Nat} (ht : Tree h x .nils I) : x = .nils ∧ I = [] := by cases ht; exact ⟨rfl, rfl⟩
theorem Tree.ro {h : Heap} {x : AV} {sz : Nat} {ex : Bool} {b' : List AV} {I : List Nat} (ht : Tree h x (.ro sz ex b') I) : ∃ id b J, x = .sl sz id 0 b.length b.length ex ∧ I = id :: J ∧ h id = some b ∧ TreeL h b b' J ∧ id ∉ J := by
  cases ht with
  | atom u hu hn => cases hn
  | sl sz id ex b b' I hb ht hid => exact ⟨id, b, I, rfl, rfl, hb, ht, hid⟩
theorem TreeL.atoms {h : Heap} : ∀ (cs : List AV), (∀ u, u ∈ cs → u.Lt 0 ∧ NoRo u) → TreeL h cs cs []
  | [], _ => .nil
  | u :: cs, hc => TreeL.cons u u cs cs [] [] (.atom u (hc u (by simp)).1 (hc u (by simp)).2) (TreeL.atoms cs fun v hv => hc v (by simp [hv])) (fun i hi => by cases hi)
theorem Tree.aggE {h : Heap} {x : AV} {cs' : List AV} {I : List Nat} (ht : Tree h x (.agg cs') I) : ∃ cs, x = .agg cs ∧ TreeL h cs cs' I := by
  cases ht with
  | atom u hu hn =>
    refine ⟨cs', rfl, TreeL.atoms cs' fun u hm => ?_⟩
    obtain ⟨i, hi⟩ := List.mem_iff_getElem?.1 hm
    cases hu with | agg _ h1 => cases hn with | agg _ h2 => exact ⟨h1 i u hi, h2 i u hi⟩
  | agg cs cs' I ht => exact ⟨cs, rfl, ht⟩
end Go.Proofs.Ytcngfjmfgeckmaa
namespace Go.Proofs.Ytcngfjmfgeckmaa
open Go
def Heap.below (h : Heap) (n : Nat) : Prop := ∀ id b, h id = some b → id < n
structure OwnRes {β : Type} (U : AV → β → Prop) (h : Heap) (n : Nat) (r : AV) (b : β) (h' : Heap) (n' : Nat) : Prop where
  tree : ∃ r' I, Tree h' r r' I ∧ U r' b ∧ (∀ i, i ∈ I → n ≤ i ∧ i < n') ∧ ∀ id, n ≤ id → id ∉ I → h' id = none
  below : ∀ id, id < n → h' id = h id
  le : n ≤ n'
structure TyO {β : Type} (T : TE) (t : TypeId) (U : AV → β → Prop) : Prop where
  len : ∀ h r r' I b, Tree h r r' I → U r' b → r.cells.length = (T t).sz
  good : ∀ h r r' I b, Tree h r r' I → U r' b → r.good = true
  setz : ∀ h r r' I b, Tree h r r' I → U r' b → setPart (T t).zero 0 r = r
  part : ∀ h r r' I b, Tree h r r' I → U r' b → part T t 0 r = some r
section
variable {P : Program} {T : TE} {β : Type} {U : AV → β → Prop} {h : Heap} {n : Nat}
theorem Heap.below.none {h : Heap} {n id : Nat} (hb : h.below n) (hi : n ≤ id) : h id = none := by
  cases hq : h id with
  | none => rfl
  | some b => have := hb id b hq; omega
theorem OwnRes.lt {r : AV} {b : β} {h' : Heap} {n' : Nat} (ho : OwnRes U h n r b h' n') (hb : h.below n) : h'.below n' := fun id x hx => by
  obtain ⟨⟨r', I, _, _, h1, h2⟩, h3, h4⟩ := ho
  rcases Nat.lt_or_ge id n with hlt | hge
  · omega
  · by_cases hm : id ∈ I
    · exact (h1 id hm).2
    · rw [h2 id hge hm] at hx; cases hx
theorem CA.lt {f : FuncId} {args : List AV} {K : AV → Heap → Nat → Prop} (hg : Goes P f) (hc : h.below n → CA P f args h n K) : CA P f args h n K := by
  refine ⟨hg, fun c vals hh hf hs hv => (hc fun id b hid => ?_).2 c vals hh hf hs hv⟩
  obtain ⟨b', base, sz, arr, E, hB⟩ := hh.blk id b hid
  rcases Nat.lt_or_ge id n with h1 | h1
  · exact h1
  · have := hB.ι; rw [hf id h1] at this; cases this
theorem OwnRes.atom {r : AV} {b : β} (hlt : h.below n) (hr : U r b) (h0 : r.Lt 0) (hn : NoRo r) : OwnRes U h n r b h n :=
  ⟨⟨r, [], .atom r h0 hn, hr, (fun i hi => by cases hi), fun id hid _ => hlt.none hid⟩, fun _ _ => rfl, Nat.le_refl _⟩
theorem CA.ofOwn {f : FuncId} {args : List AV} {K : AV → Heap → Nat → Prop} {b : β} (hg : Goes P f) (hc : ∀ K : AV → Heap → Nat → Prop, (∀ r h' n', OwnRes U h n r b h' n' → K r h' n') → CA P f args h n K)
    (hk : ∀ r, U r b → K r h n) : CA P f args h n K := CA.lt hg fun hlt => CA.conv (hc _ fun r h' n' ho => by
  obtain ⟨⟨r', I, ht, hU, h1, h2⟩, h3, h4⟩ := ho
  refine ⟨r', h, n, .freeze _ _ _ _ _ (Tree.frz ht fun id b hi hb => ⟨(h1 id hi).1, hb⟩) ⟨fun id b hb => ⟨hlt id b hb, ?_⟩, fun id b hb => .inl hb⟩, hk r' hU⟩
  rw [h3 id (hlt id b hb)]; exact hb)
theorem CA.lendOwn {f : FuncId} {args args' : List AV} {K : AV → Heap → Nat → Prop} {b : β} (hg : Goes P f) (hl : args.length = args'.length) (ha : ∀ (i : Nat) (u u' : AV), args[i]? = some u → args'[i]? = some u' → u = u' ∨ Frz 0 h u u')
    (hc : ∀ K : AV → Heap → Nat → Prop, (∀ r h' n', OwnRes U Heap.emp n r b h' n' → K r h' n') → CA P f args' Heap.emp n K) (hk : ∀ r h' n', OwnRes U h n r b h' n' → K r h' n') : CA P f args h n K := CA.lt hg fun hlt => by
  have hmin : h.minus (fun i => decide (i < n)) = Heap.emp := funext fun id => by
    unfold Heap.minus Heap.emp
    by_cases hi : id < n
    · simp [hi]
    · simp [hi, hlt.none (Nat.le_of_not_lt hi)]
  have honly : h.only (fun i => decide (i < n)) = h := funext fun id => by
    unfold Heap.only
    by_cases hi : id < n
    · simp [hi]
    · simp [hi, hlt.none (Nat.le_of_not_lt hi)]
  refine CA.borrow (fun i => decide (i < n)) hl (by rw [honly]; exact ha) ?_
  rw [hmin]
  refine hc _ fun r h' n' ho => ?_
  obtain ⟨⟨r', I, ht, hU, h1, h2⟩, h3, h4⟩ := ho
  have hj : ∀ id, id ∈ I → (h'.join (fun i => decide (i < n)) h) id = h' id := fun id hi => by
    unfold Heap.join
    rw [if_neg (by have := (h1 id hi).1; simp; omega)]
  refine ⟨ht.noRo, fun id b hb e he u hu => ?_, hk _ _ _ ⟨⟨r', I, ht.keep hj, hU, h1, fun id hid hni => ?_⟩, fun id hid => ?_, h4⟩⟩
  · by_cases hi : id ∈ I
    · exact (Tree.rows ht id b hi hb e he).cells u hu
    · rcases Nat.lt_or_ge id n with hlt' | hge
      · rw [h3 id hlt'] at hb; cases hb
      · rw [h2 id hge hi] at hb; cases hb
  · unfold Heap.join
    rw [if_neg (by simp; omega)]
    exact h2 id hid hni
  · unfold Heap.join
    rw [if_pos (by simp; omega)]
theorem CA.lend {f : FuncId} {args args' : List AV} {K : AV → Heap → Nat → Prop} {r : AV} (hg : Goes P f) (hl : args.length = args'.length) (ha : ∀ (i : Nat) (u u' : AV), args[i]? = some u → args'[i]? = some u' → u = u' ∨ Frz 0 h u u')
    (hn : NoRo r) (hc : ∀ K : AV → Heap → Nat → Prop, K r Heap.emp n → CA P f args' Heap.emp n K) (hk : K r h n) : CA P f args h n K := CA.lt hg fun hlt => by
  have hmin : h.minus (fun i => decide (i < n)) = Heap.emp := funext fun id => by
    unfold Heap.minus Heap.emp
    by_cases hi : id < n
    · simp [hi]
    · simp [hi, hlt.none (Nat.le_of_not_lt hi)]
  have honly : h.only (fun i => decide (i < n)) = h := funext fun id => by
    unfold Heap.only
    by_cases hi : id < n
    · simp [hi]
    · simp [hi, hlt.none (Nat.le_of_not_lt hi)]
  have hjoin : Heap.emp.join (fun i => decide (i < n)) h = h := funext fun id => by
    unfold Heap.join Heap.emp
    by_cases hi : id < n
    · simp [hi]
    · simp [hi, hlt.none (Nat.le_of_not_lt hi)]
  refine CA.borrow (fun i => decide (i < n)) hl (by rw [honly]; exact ha) ?_
  rw [hmin]
  exact hc _ ⟨hn, fun id b hb => (by cases hb), by rw [hjoin]; exact hk⟩
end
theorem toS_own_gen {P : Program} {T : TE} {α β : Type} {R : AV → α → Prop} {U : AV → β → Prop} {φ : α → β} {g t ts u us : Nat} {p0 p1 p2 p3 p4 p5 p6 p7 p8 p9 p10 p11 p12 p13 p14 p15 p16 p17 p18 p19 p20 p21 p22 p23 : String}
    (hT : TEOk P T) {f : FuncId} {fn : Func} (hg : Goes P f) (hf : P.funcs[f]? = some fn) (hb : fn.body = some (toSCode g t ts u us p0 p1 p2 p3 p4 p5 p6 p7 p8 p9 p10 p11 p12 p13 p14 p15 p16 p17 p18 p19 p20 p21 p22 p23)) (hN : fn.ntmps = 23) (hrs : fn.results.toList = [.tmp 2])
    (hts : (T ts).ty = .slice t) (hus : (T us).ty = .slice u) (ht : TyR T t R) (hu : TyO T u U) (hpu : 0 < (T u).sz) (hzl : (T u).zero.cells.length = (T u).sz) (hul : ∀ e a n, U e a → e.Lt n) (hby : (T u).bytes ≤ 65536) {x : AV} {l : List α} (hx : SlR (T t).sz R x l) (hl : l.length ≤ 1048576)
    (hcall : ∀ h n (K : AV → Heap → Nat → Prop) e a, a ∈ l → R e a → (∀ r h' n', OwnRes U h n r (φ a) h' n' → K r h' n') → CA P g [e] h n K) {h : Heap} {n : Nat} {K : AV → Heap → Nat → Prop} (hk : ∀ r h' n', OwnRes (SlR (T u).sz U) h n r (l.map φ) h' n' → K r h' n') : CA P f [x] h n K := by
  obtain ⟨es, hes, hal, _, _, _⟩ := hx
  have hel := all2_length hal
  have hpt := ht.pos
  have hct := ht.cell
  refine CA.conv (CA.enter (N := 23) hT hg hf hb hN (by simp) hrs fun hlt => ?_)
  unfold toSCode
  refine WP.seq_k fun K1 hK1 => WP.region hT rfl ?_
  refine q_G ?_
  refine hK1 _ _ _ ?_
  clear hK1 K1
  refine WP.seq_k fun K1 hK1 => WP.region hT rfl ?_
  refine q_fG (And.intro hts (And.intro hus (rdSl_emp hes))) ?_
  refine ⟨hpu, by omega, Int.le_refl _, ?_, by omega, hK1 _ _ _ ?_⟩
  · have := Nat.mul_le_mul hby (show es.length ≤ 1048576 by omega)
    omega
  clear hK1 K1
  refine WP.seq_k fun K1 hK1 => WP.seq_k fun K2 hK2 => WP.region hT rfl ?_
  refine q_G ?_
  refine hK2 _ _ _ ?_
  clear hK2 K2
  refine WP.block (WP.loop (fun m E h' n' => ∃ i D D' I, m = l.length - i ∧ i ≤ l.length ∧ D.length = i ∧ TreeL h' D D' I ∧ All2 U D' ((l.take i).map φ) ∧ n + 1 ≤ n' ∧ (∀ j, j ∈ I → n + 1 ≤ j ∧ j < n') ∧ (∀ id, n + 1 ≤ id → id ∉ I → h' id = none) ∧ (∀ id, id < n → h' id = h id) ∧
    h' n = some (D ++ List.replicate (l.length - i) (T u).zero) ∧ E.get 0 = x ∧ E.get 3 = .sl (T u).sz n 0 l.length l.length true ∧ E.get 4 = .int .i64 i) l.length ?_ ?_)
  · refine ⟨0, [], [], [], by omega, Nat.zero_le _, rfl, .nil, .nil, Nat.le_refl _, (fun j hj => by cases hj), fun id hid _ => ?_, fun id hid => Heap.upd_ne _ _ (by omega), ?_, ?_, ?_, ?_⟩
    · rw [Heap.upd_ne _ _ (by omega)]; exact Heap.below.none hlt (by omega)
    · rw [Heap.upd_same]; simp [hel]
    · simp [Env.get, Env.put, envOf]
    · simp [Env.get, Env.put, envOf, hel]
    · simp [Env.get, Env.put, envOf]
  rintro m E h' n' ⟨i, D, D', I, rfl, hi, hd, htr, hdone, hn', hI, hno, hbel, hrow, h0, h3, h4⟩
  refine WP.seq_k fun K2 hK2 => WP.seq_k fun K3 hK3 => WP.region hT rfl ?_
  refine q_fG (And.intro hts (And.intro h0 (And.intro h4 (rdSl_emp hes)))) ?_
  refine hK3 _ _ _ ?_
  clear hK3 K3
  refine WP.cond (by simp only [ev, Env.get_put_some, ↓reduceIte]; rfl) (fun hc => ?_) (fun hc => ?_)
  · have hil : i < l.length := by simp at hc; omega
    refine WP.skip (hK2 _ _ _ ?_)
    clear hK2 K2
    obtain ⟨e, a, he, ha, hR⟩ := all2_at hal hil
    have hp := ht.part e a hR
    refine WP.seq_k fun K2 hK2 => WP.block (WP.region hT rfl ?_)
    simp only [↓planL, ↓opsA, List.contains_nil, List.contains_cons, Bool.or_false, Bool.false_or, ↓stepA, ↓e_len1, ↓e_append1, ↓e_min1, ↓e_max1, ↓callA, List.toList_toArray, Int.toNat_natCast, List.map_cons, List.map_nil, ev, Env.get_put_some, Env.put_none, Env.get_envOf, ↓e_move, ↓e_assign, ↓e_alloc, ↓e_box, ↓e_binOp, ↓e_unOp, ↓e_nilCheck, ↓e_pick, ↓e_load, ↓e_store, ↓e_fieldAddr, ↓e_field, ↓e_indexAddr, ↓e_index, ↓e_extract, ↓e_convert, ↓e_makeSlice, ↓e_build, ↓e_buildSlice, ↓e_makeFunc, b_add, b_sub, b_mul, b_eql, b_neq, b_lss, b_leq, b_gtr, b_geq, b_and, b_or, b_quo, b_rem, b_shl, b_shr, b_seql, b_sneq, b_beql, b_bneq, u_not, u_neg, rdSl_ro, rdSl_nils, rdSl_sl, setPart_agg, setPart_bool, setPart_int, setPart_str, setPart_nils, setPart_ro, setPart_sl, ofVal, ↓thenA, ↓blockA, Heap.upd_get, Heap.upd_upd, Heap.upd_sort, Nat.add_lt_add_iff_left, Nat.lt_add_right_iff_pos, Nat.pos_of_neZero, good_bool, good_int, good_str, good_nils, good_ro, good_sl, good_ep, good_nilp, good_nilf, good_fn, good_agg, AV.cells_bool, AV.cells_int, AV.cells_str, AV.cells_nils, AV.cells_ro, AV.cells_sl, AV.cells_ep, AV.cells_nilp, AV.cells_nilf, AV.cells_fn, AV.cells_agg, reduceIte, Nat.reduceEqDiff, Nat.reduceLT, Nat.reduceLeDiff, Nat.reduceAdd, Nat.add_assoc, true_and, and_true, List.getElem?_cons_zero, List.getElem?_cons_succ, Option.getD_some, List.length_cons, List.length_nil, List.set_cons_zero, List.set_cons_succ, Nat.zero_add, Nat.add_zero, List.drop_zero, List.take_succ_cons, List.take_zero, List.drop_succ_cons, List.drop_nil, List.cons_append, List.nil_append, List.append_nil, Nat.add_eq, Nat.left_eq_add, Nat.add_eq_left, List.getElem?_nil, Nat.zero_lt_succ, decide_true, decide_false, Option.bind_some, Option.map_some, Nat.one_ne_zero, Nat.lt_add_one, ↓reduceIte, Nat.le_refl, Nat.add_left_cancel_iff, hts, h0, h3, h4, rdSl_emp hes, he, hp, Int.toNat_natCast]
    refine ⟨hpt, by omega, by omega, hct, ?_⟩
    refine hcall _ _ _ e a (List.mem_of_getElem? ha) hR (fun r h2 n2 hr => ?_)
    obtain ⟨⟨r', J, htr2, hU, hJ, hno2⟩, hbel2, hn2⟩ := hr
    have hrl := hu.len _ _ _ _ _ htr2 hU
    have hrg := hu.good _ _ _ _ _ htr2 hU
    have hrz := hu.setz _ _ _ _ _ htr2 hU
    have hrep : l.length - i = (l.length - (i + 1)) + 1 := by omega
    have hrow2 : h2 n = some (D ++ List.replicate (l.length - i) (T u).zero) := by rw [hbel2 n (by omega)]; exact hrow
    have hblen : (D ++ List.replicate (l.length - i) (T u).zero).length = l.length := by simp; omega
    have hbi : (D ++ List.replicate (l.length - i) (T u).zero)[i]? = some (T u).zero := by
      rw [List.getElem?_append_right (by omega), hd, Nat.sub_self, hrep]; rfl
    have hset : (D ++ List.replicate (l.length - i) (T u).zero).set i r = (D ++ [r]) ++ List.replicate (l.length - (i + 1)) (T u).zero := by
      rw [List.set_append_right _ _ (by omega), hd, Nat.sub_self, hrep, List.replicate_succ, List.set_cons_zero]; simp
    simp only [↓planL, ↓opsA, List.contains_nil, List.contains_cons, Bool.or_false, Bool.false_or, ↓stepA, ↓e_len1, ↓e_append1, ↓e_min1, ↓e_max1, ↓callA, List.toList_toArray, Int.toNat_natCast, List.map_cons, List.map_nil, ev, Env.get_put_some, Env.put_none, Env.get_envOf, ↓e_move, ↓e_assign, ↓e_alloc, ↓e_box, ↓e_binOp, ↓e_unOp, ↓e_nilCheck, ↓e_pick, ↓e_load, ↓e_store, ↓e_fieldAddr, ↓e_field, ↓e_indexAddr, ↓e_index, ↓e_extract, ↓e_convert, ↓e_makeSlice, ↓e_build, ↓e_buildSlice, ↓e_makeFunc, b_add, b_sub, b_mul, b_eql, b_neq, b_lss, b_leq, b_gtr, b_geq, b_and, b_or, b_quo, b_rem, b_shl, b_shr, b_seql, b_sneq, b_beql, b_bneq, u_not, u_neg, rdSl_ro, rdSl_nils, rdSl_sl, setPart_agg, setPart_bool, setPart_int, setPart_str, setPart_nils, setPart_ro, setPart_sl, ofVal, ↓thenA, ↓blockA, Heap.upd_get, Heap.upd_upd, Heap.upd_sort, Nat.add_lt_add_iff_left, Nat.lt_add_right_iff_pos, Nat.pos_of_neZero, good_bool, good_int, good_str, good_nils, good_ro, good_sl, good_ep, good_nilp, good_nilf, good_fn, good_agg, AV.cells_bool, AV.cells_int, AV.cells_str, AV.cells_nils, AV.cells_ro, AV.cells_sl, AV.cells_ep, AV.cells_nilp, AV.cells_nilf, AV.cells_fn, AV.cells_agg, reduceIte, Nat.reduceEqDiff, Nat.reduceLT, Nat.reduceLeDiff, Nat.reduceAdd, Nat.add_assoc, true_and, and_true, List.getElem?_cons_zero, List.getElem?_cons_succ, Option.getD_some, List.length_cons, List.length_nil, List.set_cons_zero, List.set_cons_succ, Nat.zero_add, Nat.add_zero, List.drop_zero, List.take_succ_cons, List.take_zero, List.drop_succ_cons, List.drop_nil, List.cons_append, List.nil_append, List.append_nil, Nat.add_eq, Nat.left_eq_add, Nat.add_eq_left, List.getElem?_nil, Nat.zero_lt_succ, decide_true, decide_false, Option.bind_some, Option.map_some, Nat.one_ne_zero, Nat.lt_add_one, ↓reduceIte, Nat.le_refl, Nat.add_left_cancel_iff, hus, h3, h4, hrow2, hblen, List.length_take, Nat.min_self, hbi, hrg, hrl, hrz, hzl]
    refine ⟨hpu, by omega, by omega, hpu, hK2 _ _ _ ?_⟩
    clear hK2 K2
    refine WP.region hT rfl ?_
    refine q_fG h4 ?_
    have hdj : ∀ j, j ∈ I → j ∉ J := fun j h1 h2 => by have := (hI j h1).2; have := (hJ j h2).1; omega
    refine ⟨l.length - (i + 1), by omega, i + 1, D ++ [r], D' ++ [r'], I ++ J, rfl, hil, by simp [hd], ?_, ?_, by omega, ?_, ?_, ?_, by rw [hset], ?_, ?_, ?_⟩
    · refine TreeL.snoc (htr.keep fun j hj => ?_) (htr2.keep fun j hj => ?_) hdj
      · have := hI j hj
        rw [Heap.upd_ne _ _ (by omega), hbel2 j (by omega)]
      · have := hJ j hj
        rw [Heap.upd_ne _ _ (by omega)]
    · rw [List.take_add_one, ha]
      simpa using all2_snoc hdone hU
    · intro j hj
      rcases List.mem_append.1 hj with hj | hj
      · have := hI j hj; omega
      · have := hJ j hj; omega
    · intro id hid hni
      rw [if_neg (by omega)]
      rcases Nat.lt_or_ge id n' with h1 | h1
      · rw [hbel2 id h1]; exact hno id hid fun hm => hni (List.mem_append_left _ hm)
      · exact hno2 id h1 fun hm => hni (List.mem_append_right _ hm)
    · intro id hid
      rw [if_neg (by omega), hbel2 id (by omega)]; exact hbel id hid
    · simpa [Env.get, Env.put] using h0
    · simpa [Env.get, Env.put] using h3
    · rw [wrap_in (by omega) (by omega)]
      rfl
  · have hil : i = l.length := by simp at hc; omega
    subst hil
    refine WP.exit ?_
    refine q_G ?_
    refine hK1 _ _ _ ?_
    clear hK2 K2 hK1 K1
    refine WP.seq_k fun K1 hK1 => WP.region hT rfl ?_
    refine q_fG h3 ?_
    refine hK1 _ _ _ ?_
    clear hK1 K1
    refine WP.ret ?_
    refine qr_G ?_
    rw [Nat.sub_self, List.replicate_zero, List.append_nil] at hrow
    rw [List.take_of_length_le (Nat.le_refl _)] at hdone
    have hml := all2_length hdone
    refine ⟨_, rfl, _, _, _, .keep _ _ _ _ (fun _ _ hx => hx), hk _ _ _ ⟨⟨.ro (T u).sz true D', n :: I, ?_, .mk_ro hdone (by unfold maxLen; simp; omega) hul, ?_, ?_⟩, hbel, by omega⟩⟩
    · have := Tree.sl (T u).sz n true D D' I hrow htr (fun hm => by have := hI n hm; omega)
      rw [hd] at this
      exact this
    · intro j hj
      rcases List.mem_cons.1 hj with rfl | hj
      · omega
      · have := hI j hj; omega
    · intro id hid hni
      exact hno id (by have : id ≠ n := fun hq => hni (by simp [hq]); omega) fun hm => hni (List.mem_cons_of_mem _ hm)
end Go.Proofs.Ytcngfjmfgeckmaa
namespace Go.Proofs.Ytcngfjmfgeckmaa
open Go
theorem dstIn_some {N d : Nat} {op : Op} {ty : TypeId} {p : String} {af : Array Edge} {g : Option (Nat × Bool)} : dstIn N ⟨some d, op, ty, p, af, g⟩ = decide (d < N) := rfl
theorem dstIn_none {N : Nat} {op : Op} {ty : TypeId} {p : String} {af : Array Edge} {g : Option (Nat × Bool)} : dstIn N ⟨none, op, ty, p, af, g⟩ = true := rfl
mutual
theorem Tree.some {h : Heap} : ∀ {x x' : AV} {I : List Nat}, Tree h x x' I → ∀ i, i ∈ I → ∃ b, h i = some b
  | _, _, _, .atom u hu hn => fun i hi => by cases hi
  | _, _, _, .sl sz id ex b b' I hb ht hid => fun i hi => by
    rcases List.mem_cons.1 hi with rfl | hi
    · exact ⟨b, hb⟩
    · exact TreeL.some ht i hi
  | _, _, _, .agg cs cs' I ht => TreeL.some ht
theorem TreeL.some {h : Heap} : ∀ {l l' : List AV} {I : List Nat}, TreeL h l l' I → ∀ i, i ∈ I → ∃ b, h i = some b
  | _, _, _, .nil => fun i hi => by cases hi
  | _, _, _, .cons u u' l l' I J hu hl hd => fun i hi => by
    rcases List.mem_append.1 hi with hi | hi
    · exact Tree.some hu i hi
    · exact TreeL.some hl i hi
end
def HeldBy (P : Program) (f : FuncId) (y : AV) (w : Nat) (k : Int) : Prop := ∀ (h : Heap) (n : Nat) (K : AV → Heap → Nat → Prop), K (.int .i64 (k + w)) h n → CA P f [y, .int .i64 k] h n K
inductive HdL (He : AV → Nat → Int → Prop) : List AV → List Nat → Int → Prop
  | nil (k : Int) : HdL He [] [] k
  | cons (e : AV) (w : Nat) (l : List AV) (ws : List Nat) (k : Int) (he : He e w k) (hl : HdL He l ws (k + w)) : HdL He (e :: l) (w :: ws) k
def HdS (sz : Nat) (He : AV → Nat → Int → Prop) (ws : List Nat) (x : AV) (_ : Nat) (k : Int) : Prop := ∃ es, rdSl Heap.emp sz x = some es ∧ x.one = true ∧ (∀ n, x.Lt n) ∧ HdL He es ws k
def MarkC (P : Program) (f : FuncId) (H : AV → Nat → Int → Prop) (x' : AV) (w : Nat) : Prop :=
  ∀ (h : Heap) (n : Nat) (K : AV → Heap → Nat → Prop) (x : AV) (I : List Nat) (k : Int), Tree h x x' I → 0 ≤ k → k + w ≤ 4611686018427387904 →
    (∀ x'' h' n', n ≤ n' → Tree h' x x'' I → (∀ id, id ∉ I → h' id = h id) → H x'' w k → K (.int .i64 (k + w)) h' n') → CA P f [x, .int .i64 k] h n K
theorem HdL.snoc {He : AV → Nat → Int → Prop} {l : List AV} {ws : List Nat} {k : Int} (hl : HdL He l ws k) {e : AV} {w : Nat} (he : He e w (k + ws.sum)) : HdL He (l ++ [e]) (ws ++ [w]) k := by
  induction hl with
  | nil k => exact .cons e w [] [] k (by simpa using he) (.nil _)
  | cons e' w' l ws k he' hl ih => exact .cons e' w' _ _ k he' (ih (by simpa [Int.add_assoc] using he))
theorem HdL.len {He : AV → Nat → Int → Prop} {l : List AV} {ws : List Nat} {k : Int} (hl : HdL He l ws k) : l.length = ws.length := by
  induction hl with
  | nil k => rfl
  | cons e' w' l ws k he' hl ih => simp [ih]
def walkCode (ts z r : Nat) (c : Code) (p0 p1 p2 p3 p4 p5 p6 p7 p8 p9 p10 : String) : Code :=
  (.seq
    (.region 0 #[⟨(some 4), .assign (.const (.int .i64 0)), 3, p0, #[], none⟩] false)
    (.seq
      (.seq
        (.region 1 #[⟨(some 5), .assign (.const (.int .i64 0)), 3, p1, #[], none⟩] false)
        (.block 0
          (.loop
            (.seq
              (.seq
                (.region 2 #[⟨(some 6), .move (.tmp 5), 3, p2, #[], none⟩,
                  ⟨(some 7), .move (.tmp 0), ts, p3, #[], none⟩,
                  ⟨(some 8), .call { callee := (.builtin .len), args := #[(.tmp 7)], argTypes := #[ts] }, 3, p4, #[⟨1, .data⟩], none⟩,
                  ⟨(some 9), .binOp .lss 3 (.tmp 6) (.tmp 8) 3, 4, p5, #[⟨0, .data⟩, ⟨2, .data⟩], none⟩] false)
                (.cond (.tmp 9)
                  .skip
                  (.exit 0)))
              (.seq
                (.block 1 c)
                (.region 3 #[⟨(some 10), .move (.tmp 5), 3, p6, #[], none⟩,
                  ⟨(some 11), .binOp .add 3 (.tmp 10) (.const (.int .i64 1)) 3, 3, p7, #[⟨0, .data⟩], none⟩,
                  ⟨(some 5), .assign (.tmp 11), 3, p8, #[⟨1, .data⟩, ⟨0, .phase⟩, ⟨1, .phase⟩], none⟩] false))))))
      (.seq
        (.region z #[⟨(some r), .move (.tmp 1), 3, p9, #[], none⟩,
          ⟨(some 4), .assign (.tmp r), 3, p10, #[⟨0, .data⟩, ⟨0, .phase⟩], none⟩] false)
        .ret)))
def MarkBody (P : Program) (N : Nat) (c : Code) (sz : Nat) (He : AV → Nat → Int → Prop) (e' : AV) (w : Nat) : Prop :=
  ∀ (Q : Exit → Env → Heap → Nat → Prop) (E : Env) (h : Heap) (n : Nat) (id : Nat) (ex : Bool) (b : List AV) (i : Nat) (e : AV) (J : List Nat) (k : Int), Tree h e e' J → id ∉ J → h id = some b → b[i]? = some e → i < b.length →
    b.length ≤ 9223372036854775807 → E.get 0 = .sl sz id 0 b.length b.length ex → E.get 1 = .int .i64 k → E.get 5 = .int .i64 i → 0 ≤ k → k + w ≤ 4611686018427387904 →
    (∀ E' h' n' e1 e'', n ≤ n' → Tree h' e1 e'' J → He e'' w k → h' id = some (b.set i e1) → (∀ j, j ≠ id → j ∉ J → h' j = h j) → E'.get 0 = E.get 0 → E'.get 1 = .int .i64 (k + w) → E'.get 5 = .int .i64 i → Q .normal E' h' n') → WP P N c Q E h n
theorem markS_gen {P : Program} {T : TE} {β : Type} {U : AV → β → Prop} {w : β → Nat} {He : AV → Nat → Int → Prop} {t ts z r N : Nat} {c : Code} {p0 p1 p2 p3 p4 p5 p6 p7 p8 p9 p10 : String}
    (hT : TEOk P T) {f : FuncId} {fn : Func} (hg : Goes P f) (hf : P.funcs[f]? = some fn) (hb : fn.body = some (walkCode ts z r c p0 p1 p2 p3 p4 p5 p6 p7 p8 p9 p10)) (hN : fn.ntmps = N) (h12 : 12 ≤ N) (hr : r < N) (hrs : fn.results.toList = [.tmp 4])
    (hts : (T ts).ty = .slice t) (hlt0 : ∀ e a n, He e a n → ∀ m, e.Lt m) {x' : AV} {l : List β} (hx : SlR (T t).sz U x' l) (hbody : ∀ e' a, a ∈ l → U e' a → MarkBody P N c (T t).sz He e' (w a)) : MarkC P f (HdS (T t).sz He (l.map w)) x' (l.map w).sum := by
  intro h n K x I k htr hk0 hkw hK
  obtain ⟨es, hes, hal, hml, _, hone⟩ := hx
  have hel := all2_length hal
  unfold maxLen at hml
  refine CA.conv (CA.enter (N := N) hT hg hf hb hN (by simp; omega) hrs fun hlt => ?_)
  unfold walkCode
  refine WP.seq_k fun K1 hK1 => WP.region hT (by simp only [List.all_cons, List.all_nil, dstIn_some, dstIn_none, Bool.and_true, Bool.and_eq_true, decide_eq_true_eq]; omega) ?_
  refine q_G ?_
  refine hK1 _ _ _ ?_
  clear hK1 K1
  refine WP.seq_k fun K1 hK1 => WP.seq_k fun K2 hK2 => WP.region hT (by simp only [List.all_cons, List.all_nil, dstIn_some, dstIn_none, Bool.and_true, Bool.and_eq_true, decide_eq_true_eq]; omega) ?_
  refine q_G ?_
  refine hK2 _ _ _ ?_
  clear hK2 K2
  have fin : ∀ (E' : Env) (h' : Heap) (n' : Nat) x'', n ≤ n' → E'.get 1 = .int .i64 (k + ((l.map w).sum : Nat)) → Tree h' x x'' I → (∀ id, id ∉ I → h' id = h id) → HdS (T t).sz He (l.map w) x'' (l.map w).sum k → K1 E' h' n' := by
    intro E' h' n' x'' hn hE htr' hfr hH
    refine hK1 _ _ _ ?_
    refine WP.seq_k fun K2 hK2 => WP.region hT (by simp only [List.all_cons, List.all_nil, dstIn_some, dstIn_none, Bool.and_true, Bool.and_eq_true, decide_eq_true_eq]; omega) ?_
    simp only [↓planL, ↓opsA, List.contains_nil, List.contains_cons, Bool.or_false, Bool.false_or, ↓stepA, ↓e_len1, ↓e_append1, ↓e_min1, ↓e_max1, ↓callA, List.toList_toArray, Int.toNat_natCast, List.map_cons, List.map_nil, ev, Env.get_put_some, Env.put_none, Env.get_envOf, ↓e_move, ↓e_assign, ↓e_alloc, ↓e_box, ↓e_binOp, ↓e_unOp, ↓e_nilCheck, ↓e_pick, ↓e_load, ↓e_store, ↓e_fieldAddr, ↓e_field, ↓e_indexAddr, ↓e_index, ↓e_extract, ↓e_convert, ↓e_makeSlice, ↓e_build, ↓e_buildSlice, ↓e_makeFunc, b_add, b_sub, b_mul, b_eql, b_neq, b_lss, b_leq, b_gtr, b_geq, b_and, b_or, b_quo, b_rem, b_shl, b_shr, b_seql, b_sneq, b_beql, b_bneq, u_not, u_neg, rdSl_ro, rdSl_nils, rdSl_sl, setPart_agg, setPart_bool, setPart_int, setPart_str, setPart_nils, setPart_ro, setPart_sl, ofVal, ↓thenA, ↓blockA, Heap.upd_get, Heap.upd_upd, Heap.upd_sort, Nat.add_lt_add_iff_left, Nat.lt_add_right_iff_pos, Nat.pos_of_neZero, good_bool, good_int, good_str, good_nils, good_ro, good_sl, good_ep, good_nilp, good_nilf, good_fn, good_agg, AV.cells_bool, AV.cells_int, AV.cells_str, AV.cells_nils, AV.cells_ro, AV.cells_sl, AV.cells_ep, AV.cells_nilp, AV.cells_nilf, AV.cells_fn, AV.cells_agg, reduceIte, Nat.reduceEqDiff, Nat.reduceLT, Nat.reduceLeDiff, Nat.reduceAdd, Nat.add_assoc, true_and, and_true, List.getElem?_cons_zero, List.getElem?_cons_succ, Option.getD_some, List.length_cons, List.length_nil, List.set_cons_zero, List.set_cons_succ, Nat.zero_add, Nat.add_zero, List.drop_zero, List.take_succ_cons, List.take_zero, List.drop_succ_cons, List.drop_nil, List.cons_append, List.nil_append, List.append_nil, Nat.add_eq, Nat.left_eq_add, Nat.add_eq_left, List.getElem?_nil, Nat.zero_lt_succ, decide_true, decide_false, Option.bind_some, Option.map_some, Nat.one_ne_zero, Nat.lt_add_one, ↓reduceIte, Nat.le_refl, Nat.add_left_cancel_iff, hE, eq_self]
    refine hK2 _ _ _ ?_
    refine WP.ret ?_
    refine qr_G ?_
    exact ⟨_, rfl, _, _, _, .keep _ _ _ _ (fun _ _ hx => hx), hK _ _ _ hn htr' hfr hH⟩
  cases x' with
  | nils =>
    obtain ⟨rfl, rfl⟩ := htr.nils
    obtain rfl : es = [] := by simpa [rdSl] using hes.symm
    obtain rfl : l = [] := by cases l with | nil => rfl | cons => simp at hel
    refine WP.block (WP.loop (fun m E h' n' => n = n' ∧ h = h' ∧ E.get 0 = .nils ∧ E.get 1 = .int .i64 k ∧ E.get 5 = .int .i64 0) 0 ?_ ?_)
    · exact ⟨rfl, rfl, rfl, rfl, rfl⟩
    rintro m E h' n' ⟨rfl, rfl, h0, h1, h5⟩
    refine WP.seq_k fun K2 hK2 => WP.seq_k fun K3 hK3 => WP.region hT (by simp only [List.all_cons, List.all_nil, dstIn_some, dstIn_none, Bool.and_true, Bool.and_eq_true, decide_eq_true_eq]; omega) ?_
    refine q_fG (And.intro hts (And.intro h0 h5)) ?_
    refine hK3 _ _ _ ?_
    clear hK3 K3
    refine WP.cond (by simp only [ev, Env.get_put_some, ↓reduceIte]; rfl) (fun hc => ?_) (fun hc => ?_)
    · simp at hc
    refine WP.exit ?_
    refine q_G ?_
    refine fin _ _ _ .nils (Nat.le_refl _) ?_ htr (fun _ _ => rfl) ⟨[], rfl, rfl, fun _ => .nils, .nil _⟩
    simpa [Env.get, Env.put] using h1
  | ro sz ex b' =>
    obtain ⟨id, b, J, rfl, rfl, hrow, htl, hid⟩ := htr.ro
    obtain ⟨rfl, rfl⟩ : sz = (T t).sz ∧ es = b' := by
      unfold rdSl at hes
      split at hes <;> simp_all
    have hbl := htl.length
    refine WP.block (WP.loop (fun m E h' n' => ∃ D R D'' R' I1 I2 k1, m = R.length ∧ n ≤ n' ∧ J = I1 ++ I2 ∧ (∀ j, j ∈ I1 → j ∉ I2) ∧ TreeL h' D D'' I1 ∧ TreeL h' R R' I2 ∧ All2 U R' (l.drop D.length) ∧ b.length = (D ++ R).length ∧
      HdL He D'' ((l.take D.length).map w) k ∧ k1 = k + (((l.take D.length).map w).sum : Nat) ∧ h' id = some (D ++ R) ∧ (∀ j, j ≠ id → j ∉ J → h' j = h j) ∧
      E.get 0 = .sl (T t).sz id 0 b.length b.length ex ∧ E.get 1 = .int .i64 k1 ∧ E.get 5 = .int .i64 D.length) b.length ?_ ?_)
    · exact ⟨[], b, [], es, [], J, k, rfl, Nat.le_refl _, rfl, (fun j hj => by cases hj), .nil, htl, hal, rfl, .nil _, by simp, hrow, fun _ _ _ => rfl, rfl, rfl, rfl⟩
    rintro m E h' n' ⟨D, R, D'', R', I1, I2, k1, rfl, hn', rfl, hdj, htD, htR, hall, hbe, hHd, hk1, hrow', hfr, h0, h1, h5⟩
    have hbe' : b.length = D.length + R.length := by rw [hbe]; simp
    refine WP.seq_k fun K2 hK2 => WP.seq_k fun K3 hK3 => WP.region hT (by simp only [List.all_cons, List.all_nil, dstIn_some, dstIn_none, Bool.and_true, Bool.and_eq_true, decide_eq_true_eq]; omega) ?_
    refine q_fG (And.intro hts (And.intro h0 (And.intro h5 (And.intro hrow' hbe)))) ?_
    refine hK3 _ _ _ ?_
    clear hK3 K3
    have hRl := all2_length hall
    have hRl2 := htR.length
    refine WP.cond (by simp only [ev, Env.get_put_some, ↓reduceIte]; rfl) (fun hc => ?_) (fun hc => ?_)
    · have hil : D.length < b.length := by simp at hc; omega
      refine WP.skip (hK2 _ _ _ ?_)
      clear hK2 K2
      cases htR with
      | nil => simp at hbe'; omega
      | cons e e' R R' Je I3 hte htR hd3 =>
      have hdl : D.length < l.length := by simp at hRl hRl2 hbl hel; omega
      have hdrop : l.drop D.length = l[D.length] :: l.drop (D.length + 1) := List.drop_eq_getElem_cons hdl
      rw [hdrop] at hall
      cases hall with
      | cons hU hall =>
      have htake : l.take (D.length + 1) = l.take D.length ++ [l[D.length]] := by rw [List.take_add_one, List.getElem?_eq_getElem hdl]; rfl
      have hsum : (((l.take (D.length + 1)).map w).sum : Nat) + ((l.drop (D.length + 1)).map w).sum = (l.map w).sum := by
        rw [← List.sum_append_nat, ← List.map_append, List.take_append_drop]
      have hs1 : ((l.take (D.length + 1)).map w).sum = ((l.take D.length).map w).sum + w l[D.length] := by rw [htake, List.map_append, List.sum_append_nat, List.map_cons, List.map_nil, List.sum_cons, List.sum_nil, Nat.add_zero]
      refine WP.seq_k fun K2 hK2 => WP.block ?_
      have hbl2 : (D ++ e :: R).length = b.length := by rw [hbe]
      refine hbody e' _ (List.getElem_mem _) hU _ _ h' n' id ex (D ++ e :: R) D.length e Je k1 hte (fun hm => hid (by simp [hm])) hrow' (by simp) (by simp) (by rw [hbl2]; omega) ?_ ?_ ?_ (by omega) (by omega) ?_
      · rw [hbl2]; simpa [Env.get, Env.put] using h0
      · simpa [Env.get, Env.put] using h1
      · simpa [Env.get, Env.put] using h5
      intro E2 h2 n2 e1 e'' hn2 hte2 hHe hrow2 hfr2 g0 g1 g5
      refine q_G ?_
      refine hK2 _ _ _ ?_
      clear hK2 K2
      refine WP.region hT (by simp only [List.all_cons, List.all_nil, dstIn_some, dstIn_none, Bool.and_true, Bool.and_eq_true, decide_eq_true_eq]; omega) ?_
      refine q_fG g5 ?_
      have keepD : ∀ j, j ∈ I1 → h2 j = h' j := fun j hj => hfr2 j (fun hq => hid (by subst hq; simp [hj])) (fun hm => hdj j hj (by simp [hm]))
      have keepR : ∀ j, j ∈ I3 → h2 j = h' j := fun j hj => hfr2 j (fun hq => hid (by subst hq; simp [hj])) (fun hm => hd3 j hm hj)
      refine ⟨R.length, by simp, D ++ [e1], R, D'' ++ [e''], R', I1 ++ Je, I3, k1 + w l[D.length], rfl, by omega, by simp, ?_, ?_, htR.keep keepR, by simpa using hall, by simp; simp at hbe'; omega, ?_, ?_, ?_, ?_, ?_, ?_, ?_⟩
      · intro j hj hm
        rcases List.mem_append.1 hj with hj | hj
        · exact hdj j hj (by simp [hm])
        · exact hd3 j hj hm
      · exact TreeL.snoc (htD.keep keepD) hte2 fun j hj hm => hdj j hj (by simp [hm])
      · rw [List.length_append, List.length_singleton, htake, List.map_append]
        exact hHd.snoc (by rw [← hk1]; exact hHe)
      · rw [List.length_append, List.length_singleton, hs1]; omega
      · rw [hrow2]; simp [List.set_append_right]
      · intro j h1 h2
        rw [hfr2 j h1 (fun hm => h2 (by simp [hm]))]
        exact hfr j h1 (by simpa using h2)
      · have q0 := g0.trans (show _ = AV.sl (T t).sz id 0 b.length b.length ex by simpa [Env.get, Env.put] using h0)
        simpa [Env.get, Env.put] using q0
      · simpa [Env.get, Env.put] using g1
      · rw [wrap_in (by omega) (by omega)]
        simp
    · have hil : D.length = b.length := by simp at hc; omega
      obtain rfl : R = [] := by cases R with | nil => rfl | cons => simp at hbe'; omega
      cases htR with
      | nil =>
      have hll : l.length = D.length := by omega
      have htk : l.take D.length = l := List.take_of_length_le (by omega)
      rw [htk] at hHd hk1
      refine WP.exit ?_
      refine q_G ?_
      simp only [List.append_nil] at *
      refine fin _ _ _ (.ro (T t).sz ex D'') hn' ?_ ?_ (fun j hj => hfr j (fun hq => hj (by simp [hq])) (fun hm => hj (by simp [hm]))) ⟨D'', rdSl_ro _ _ _, rfl, fun m => ?_, hHd⟩
      · rw [← hk1]; simpa [Env.get, Env.put] using h1
      · have := Tree.sl (T t).sz id ex D D'' I1 hrow' htD hid
        rw [hil] at this
        exact this
      · rw [lt_ro]
        intro e he u hu
        have key : ∀ (l : List AV) ws k, HdL He l ws k → ∀ e, e ∈ l → e.Lt m := fun l ws k hh => by
          induction hh with
          | nil => intro e he; cases he
          | cons e0 w0 l0 ws0 k0 he0 _ ih =>
            intro e he
            rcases List.mem_cons.1 he with rfl | he
            · exact hlt0 _ _ _ he0 m
            · exact ih e he
        have hl := key _ _ _ hHd e he
        cases hl with
        | agg _ hl => obtain ⟨j, hj⟩ := List.mem_iff_getElem?.1 hu; exact hl j _ hj
        | _ => simp [AV.cells] at hu; subst hu; constructor <;> assumption
  | _ => first | (cases hes; done) | (simp [rdSl_sl, Heap.emp] at hes; done) | (unfold rdSl at hes; simp at hes; done) | (cases htr with | atom _ hu _ => cases hu with | sl _ _ _ _ _ _ hq => exact absurd hq (Nat.not_lt_zero _))
def HeldBody (P : Program) (N : Nat) (c : Code) (sz : Nat) (He : AV → Nat → Int → Prop) : Prop :=
  ∀ (Q : Exit → Env → Heap → Nat → Prop) (E : Env) (h : Heap) (n : Nat) (x : AV) (es : List AV) (i : Nat) (e : AV) (w : Nat) (k : Int), (∀ h, rdSl h sz x = some es) → es[i]? = some e → es.length ≤ 9223372036854775807 → He e w k → E.get 0 = x → E.get 1 = .int .i64 k → E.get 5 = .int .i64 i →
    0 ≤ k → k + w ≤ 4611686018427387904 → (∀ E', E'.get 0 = x → E'.get 1 = .int .i64 (k + w) → E'.get 5 = .int .i64 i → Q .normal E' h n) → WP P N c Q E h n
theorem heldS_gen {P : Program} {T : TE} {He : AV → Nat → Int → Prop} {t ts z r N : Nat} {c : Code} {p0 p1 p2 p3 p4 p5 p6 p7 p8 p9 p10 : String}
    (hT : TEOk P T) {f : FuncId} {fn : Func} (hg : Goes P f) (hf : P.funcs[f]? = some fn) (hb : fn.body = some (walkCode ts z r c p0 p1 p2 p3 p4 p5 p6 p7 p8 p9 p10)) (hN : fn.ntmps = N) (h12 : 12 ≤ N) (hr : r < N) (hrs : fn.results.toList = [.tmp 4])
    (hts : (T ts).ty = .slice t) (hbody : HeldBody P N c (T t).sz He) {x : AV} {ws : List Nat} {k : Int} (hk0 : 0 ≤ k) (hkw : k + (ws.sum : Nat) ≤ 4611686018427387904) {w0 : Nat} (hlen : ws.length ≤ 9223372036854775807) (hx : HdS (T t).sz He ws x w0 k) : HeldBy P f x ws.sum k := by
  intro h n K hK
  obtain ⟨es, hes, hone, _, hHd⟩ := hx
  have hel := hHd.len
  refine CA.conv (CA.enter (N := N) hT hg hf hb hN (by simp; omega) hrs fun hlt => ?_)
  unfold walkCode
  refine WP.seq_k fun K1 hK1 => WP.region hT (by simp only [List.all_cons, List.all_nil, dstIn_some, dstIn_none, Bool.and_true, Bool.and_eq_true, decide_eq_true_eq]; omega) ?_
  refine q_G ?_
  refine hK1 _ _ _ ?_
  clear hK1 K1
  refine WP.seq_k fun K1 hK1 => WP.seq_k fun K2 hK2 => WP.region hT (by simp only [List.all_cons, List.all_nil, dstIn_some, dstIn_none, Bool.and_true, Bool.and_eq_true, decide_eq_true_eq]; omega) ?_
  refine q_G ?_
  refine hK2 _ _ _ ?_
  clear hK2 K2
  refine WP.block (WP.loop (fun m E h' n' => ∃ i R wr k1, m = es.length - i ∧ i ≤ es.length ∧ n = n' ∧ h = h' ∧ R = es.drop i ∧ HdL He R wr k1 ∧ 0 ≤ k1 ∧ k1 + (wr.sum : Nat) = k + (ws.sum : Nat) ∧ E.get 0 = x ∧ E.get 1 = .int .i64 k1 ∧ E.get 5 = .int .i64 i) es.length ?_ ?_)
  · exact ⟨0, es, ws, k, by omega, Nat.zero_le _, rfl, rfl, rfl, hHd, hk0, rfl, rfl, rfl, rfl⟩
  rintro m E h' n' ⟨i, R, wr, k1, rfl, hi, rfl, rfl, hR, hHR, hk1, hks, h0, h1, h5⟩
  refine WP.seq_k fun K2 hK2 => WP.seq_k fun K3 hK3 => WP.region hT (by simp only [List.all_cons, List.all_nil, dstIn_some, dstIn_none, Bool.and_true, Bool.and_eq_true, decide_eq_true_eq]; omega) ?_
  refine q_fG (And.intro hts (And.intro h0 (And.intro h5 (rdSl_emp hes)))) ?_
  refine hK3 _ _ _ ?_
  clear hK3 K3
  refine WP.cond (by simp only [ev, Env.get_put_some, ↓reduceIte]; rfl) (fun hc => ?_) (fun hc => ?_)
  · have hil : i < es.length := by simp at hc; omega
    refine WP.skip (hK2 _ _ _ ?_)
    clear hK2 K2
    have hdrop : es.drop i = es[i] :: es.drop (i + 1) := List.drop_eq_getElem_cons hil
    rw [hdrop] at hR
    subst hR
    cases hHR with
    | cons _ w _ ws' _ he hl =>
    simp only [List.sum_cons] at hks
    refine WP.seq_k fun K2 hK2 => WP.block ?_
    refine hbody _ _ h n x es i es[i] w k1 (fun h => rdSl_emp hes h) (List.getElem?_eq_getElem hil) (by omega) he ?_ ?_ ?_ hk1 (by omega) ?_
    · simpa [Env.get, Env.put] using h0
    · simpa [Env.get, Env.put] using h1
    · simpa [Env.get, Env.put] using h5
    intro E2 g0 g1 g5
    refine q_G ?_
    refine hK2 _ _ _ ?_
    clear hK2 K2
    refine WP.region hT (by simp only [List.all_cons, List.all_nil, dstIn_some, dstIn_none, Bool.and_true, Bool.and_eq_true, decide_eq_true_eq]; omega) ?_
    refine q_fG g5 ?_
    refine ⟨es.length - (i + 1), by omega, i + 1, _, ws', k1 + w, rfl, hil, rfl, hl, by omega, by omega, ?_, ?_, ?_⟩
    · simpa [Env.get, Env.put] using g0
    · simpa [Env.get, Env.put] using g1
    · rw [wrap_in (by omega) (by omega)]
      rfl
  · have hil : i = es.length := by simp at hc; omega
    subst hil
    rw [List.drop_length] at hR
    subst hR
    cases hHR with
    | nil =>
    refine WP.exit ?_
    refine q_G ?_
    refine hK1 _ _ _ ?_
    refine WP.seq_k fun K2 hK2 => WP.region hT (by simp only [List.all_cons, List.all_nil, dstIn_some, dstIn_none, Bool.and_true, Bool.and_eq_true, decide_eq_true_eq]; omega) ?_
    simp only [↓planL, ↓opsA, List.contains_nil, List.contains_cons, Bool.or_false, Bool.false_or, ↓stepA, ↓e_len1, ↓e_append1, ↓e_min1, ↓e_max1, ↓callA, List.toList_toArray, Int.toNat_natCast, List.map_cons, List.map_nil, ev, Env.get_put_some, Env.put_none, Env.get_envOf, ↓e_move, ↓e_assign, ↓e_alloc, ↓e_box, ↓e_binOp, ↓e_unOp, ↓e_nilCheck, ↓e_pick, ↓e_load, ↓e_store, ↓e_fieldAddr, ↓e_field, ↓e_indexAddr, ↓e_index, ↓e_extract, ↓e_convert, ↓e_makeSlice, ↓e_build, ↓e_buildSlice, ↓e_makeFunc, b_add, b_sub, b_mul, b_eql, b_neq, b_lss, b_leq, b_gtr, b_geq, b_and, b_or, b_quo, b_rem, b_shl, b_shr, b_seql, b_sneq, b_beql, b_bneq, u_not, u_neg, rdSl_ro, rdSl_nils, rdSl_sl, setPart_agg, setPart_bool, setPart_int, setPart_str, setPart_nils, setPart_ro, setPart_sl, ofVal, ↓thenA, ↓blockA, Heap.upd_get, Heap.upd_upd, Heap.upd_sort, Nat.add_lt_add_iff_left, Nat.lt_add_right_iff_pos, Nat.pos_of_neZero, good_bool, good_int, good_str, good_nils, good_ro, good_sl, good_ep, good_nilp, good_nilf, good_fn, good_agg, AV.cells_bool, AV.cells_int, AV.cells_str, AV.cells_nils, AV.cells_ro, AV.cells_sl, AV.cells_ep, AV.cells_nilp, AV.cells_nilf, AV.cells_fn, AV.cells_agg, reduceIte, Nat.reduceEqDiff, Nat.reduceLT, Nat.reduceLeDiff, Nat.reduceAdd, Nat.add_assoc, true_and, and_true, List.getElem?_cons_zero, List.getElem?_cons_succ, Option.getD_some, List.length_cons, List.length_nil, List.set_cons_zero, List.set_cons_succ, Nat.zero_add, Nat.add_zero, List.drop_zero, List.take_succ_cons, List.take_zero, List.drop_succ_cons, List.drop_nil, List.cons_append, List.nil_append, List.append_nil, Nat.add_eq, Nat.left_eq_add, Nat.add_eq_left, List.getElem?_nil, Nat.zero_lt_succ, decide_true, decide_false, Option.bind_some, Option.map_some, Nat.one_ne_zero, Nat.lt_add_one, ↓reduceIte, Nat.le_refl, Nat.add_left_cancel_iff, h1, eq_self]
    refine hK2 _ _ _ ?_
    refine WP.ret ?_
    refine qr_G ?_
    refine ⟨_, rfl, ret_p (Left.refl hlt) (.int _ _) ?_⟩
    have : k1 = k + (ws.sum : Nat) := by simpa using hks
    rw [this]; exact hK
end Go.Proofs.Ytcngfjmfgeckmaa
namespace Go.Proofs.Ytcngfjmfgeckmaa
open Go
def AV.plain : AV → Bool
  | .int _ _ => true
  | .bool _ => true
  | .str _ => true
  | _ => false
theorem Tree.plainE {h : Heap} {x x' : AV} {I : List Nat} (ht : Tree h x x' I) (hp : x'.plain = true) : x = x' ∧ I = [] := by
  cases ht with
  | atom u hu hn => exact ⟨rfl, rfl⟩
  | sl sz id ex b b' I hb ht hid => simp [AV.plain] at hp
  | agg cs cs' I ht => simp [AV.plain] at hp
theorem TreeL.plainE {h : Heap} {l l' : List AV} {I : List Nat} (ht : TreeL h l l' I) (hp : ∀ u, u ∈ l' → u.plain = true) : l = l' ∧ I = [] := by
  induction l' generalizing l I with
  | nil => cases ht; exact ⟨rfl, rfl⟩
  | cons u' l' ih =>
    cases ht with
    | cons u _ l _ I J hu hl hd =>
      obtain ⟨rfl, rfl⟩ := hu.plainE (hp _ (by simp))
      obtain ⟨rfl, rfl⟩ := ih hl (fun v hv => hp v (by simp [hv]))
      exact ⟨rfl, rfl⟩
theorem plain_lt {u : AV} (hu : u.plain = true) : u.Lt 0 ∧ NoRo u := by
  cases u <;> simp [AV.plain] at hu <;> constructor <;> constructor
theorem Tree.ofPlain1 {h : Heap} {u : AV} (hp : u.plain = true) : Tree h u u [] := .atom _ (plain_lt hp).1 (plain_lt hp).2
def HeInt (e : AV) (w : Nat) (k : Int) : Prop := w = 1 ∧ e = .int .i64 k
def markIntBody (ts t : Nat) (p0 p1 p2 p3 p4 p5 p6 p7 : String) : Code :=
  (.seq
    (.region 4 #[⟨(some 12), .move (.tmp 0), ts, p0, #[], none⟩,
      ⟨(some 13), .move (.tmp 5), 3, p1, #[], none⟩,
      ⟨(some 14), .move (.tmp 1), 3, p2, #[], none⟩,
      ⟨(some 15), .indexAddr ts (.tmp 12) (.tmp 13), 0, p3, #[⟨0, .data⟩, ⟨1, .data⟩, ⟨0, .phase⟩, ⟨1, .phase⟩, ⟨2, .phase⟩], none⟩,
      ⟨none, .store t (.tmp 15) (.tmp 14), 0, p4, #[⟨3, .data⟩, ⟨2, .data⟩, ⟨0, .phase⟩, ⟨1, .phase⟩, ⟨2, .phase⟩], none⟩] false)
    (.region 5 #[⟨(some 16), .move (.tmp 1), 3, p5, #[], none⟩,
      ⟨(some 17), .binOp .add 3 (.tmp 16) (.const (.int .i64 1)) 3, 3, p6, #[⟨0, .data⟩], none⟩,
      ⟨(some 1), .assign (.tmp 17), 3, p7, #[⟨1, .data⟩, ⟨0, .phase⟩, ⟨1, .phase⟩], none⟩] false))
theorem markInt_body {P : Program} {T : TE} {N ts t : Nat} {p0 p1 p2 p3 p4 p5 p6 p7 : String} {e' : AV} {a : Int} (hT : TEOk P T) (hN : 19 ≤ N) (hts : (T ts).ty = .slice t) (hsz : (T t).sz = 1) (hz : (T t).zero = .int .i64 0) (he : e' = .int .i64 a) : MarkBody P N (markIntBody ts t p0 p1 p2 p3 p4 p5 p6 p7) (T t).sz HeInt e' 1 := by
  intro Q E h n id ex b i e J k hte hid hrow hbi hib hbl h0 h1 h5 hk hkw hK
  subst he
  obtain ⟨rfl, rfl⟩ := hte.plainE rfl
  unfold markIntBody
  have hl : (List.take b.length b).length = b.length := by simp
  refine WP.seq_k fun K1 hK1 => WP.region hT (by simp only [List.all_cons, List.all_nil, dstIn_some, dstIn_none, Bool.and_true, Bool.and_eq_true, decide_eq_true_eq]; omega) ?_
  refine q_fG (And.intro hts (And.intro hsz (And.intro hz (And.intro h0 (And.intro h1 (And.intro h5 (And.intro hrow (And.intro hbi hl)))))))) ?_
  refine ⟨by omega, by omega, hK1 _ _ _ ?_⟩
  clear hK1 K1
  refine WP.region hT (by simp only [List.all_cons, List.all_nil, dstIn_some, dstIn_none, Bool.and_true, Bool.and_eq_true, decide_eq_true_eq]; omega) ?_
  refine q_fG h1 ?_
  refine hK _ _ _ (.int .i64 k) (.int .i64 k) (Nat.le_refl _) (.ofPlain1 rfl) ⟨rfl, rfl⟩ (Heap.upd_same _ _ _) (fun j hj _ => Heap.upd_ne _ _ hj) ?_ ?_ ?_
  · simp [Env.get, Env.put]
  · rw [wrap_in (by omega) (by omega)]; rfl
  · simpa [Env.get, Env.put] using h5
def heldIntBody (ts t : Nat) (p0 p1 p2 p3 p4 p5 p6 p7 p8 p9 : String) : Code :=
  (.seq
    (.seq
      (.region 4 #[⟨(some 12), .move (.tmp 0), ts, p0, #[], none⟩,
        ⟨(some 13), .move (.tmp 5), 3, p1, #[], none⟩,
        ⟨(some 14), .indexAddr ts (.tmp 12) (.tmp 13), 0, p2, #[⟨0, .data⟩, ⟨1, .data⟩], none⟩,
        ⟨(some 15), .load t (.tmp 14), t, p3, #[⟨2, .data⟩], none⟩,
        ⟨(some 16), .move (.tmp 1), 3, p4, #[], none⟩,
        ⟨(some 17), .binOp .neq t (.tmp 15) (.tmp 16) t, 4, p5, #[⟨3, .data⟩, ⟨4, .data⟩], none⟩] false)
      (.cond (.tmp 17)
        (.seq
          (.region 5 #[⟨(some 4), .assign (.const (.int .i64 (-1))), 3, p6, #[], none⟩] false)
          .ret)
        .skip))
    (.region 6 #[⟨(some 18), .move (.tmp 1), 3, p7, #[], none⟩,
      ⟨(some 19), .binOp .add 3 (.tmp 18) (.const (.int .i64 1)) 3, 3, p8, #[⟨0, .data⟩], none⟩,
      ⟨(some 1), .assign (.tmp 19), 3, p9, #[⟨1, .data⟩, ⟨0, .phase⟩, ⟨1, .phase⟩], none⟩] false))
theorem heldInt_body {P : Program} {T : TE} {N ts t : Nat} {p0 p1 p2 p3 p4 p5 p6 p7 p8 p9 : String} (hT : TEOk P T) (hN : 20 ≤ N) (hts : (T ts).ty = .slice t) (hsz : (T t).sz = 1) (hc : cellOk T t = true) (hp : ∀ k, part T t 0 (.int .i64 k) = some (.int .i64 k)) : HeldBody P N (heldIntBody ts t p0 p1 p2 p3 p4 p5 p6 p7 p8 p9) (T t).sz HeInt := by
  intro Q E h n x es i e w k hrd hi hel he h0 h1 h5 hk hkw hK
  obtain ⟨rfl, rfl⟩ := he
  unfold heldIntBody
  rw [hsz] at hrd
  have hil : i < es.length := (List.getElem?_eq_some_iff.1 hi).1
  refine WP.seq_k fun K1 hK1 => ?_
  refine WP.seq_k fun K2 hK2 => WP.region hT (by simp only [List.all_cons, List.all_nil, dstIn_some, dstIn_none, Bool.and_true, Bool.and_eq_true, decide_eq_true_eq]; omega) ?_
  refine q_fG (And.intro hts (And.intro hsz (And.intro h0 (And.intro h1 (And.intro h5 (And.intro hrd (And.intro hi (And.intro hp hc)))))))) ?_
  refine ⟨by omega, by omega, hK2 _ _ _ ?_⟩
  clear hK2 K2
  refine WP.cond (by simp only [ev, Env.get_put_some, ↓reduceIte]; rfl) (fun hc0 => ?_) (fun hc0 => ?_)
  · simp at hc0
  refine WP.skip (hK1 _ _ _ ?_)
  clear hK1 K1
  refine WP.region hT (by simp only [List.all_cons, List.all_nil, dstIn_some, dstIn_none, Bool.and_true, Bool.and_eq_true, decide_eq_true_eq]; omega) ?_
  refine q_fG h1 ?_
  refine hK _ ?_ ?_ ?_
  · simpa [Env.get, Env.put] using h0
  · rw [wrap_in (by omega) (by omega)]; rfl
  · simpa [Env.get, Env.put] using h5
end Go.Proofs.Ytcngfjmfgeckmaa
namespace Go.Proofs.Ytcngfjmfgeckmaa
open Go
inductive PlanT
  | nil
  | op (i k : Nat) (r : PlanT)
  | alt (i : Nat) (a r : PlanT)
def PlanT.alts : PlanT → List Nat
  | .alt i _ r => i :: r.alts
  | _ => []
def opOk (ops : Array Oper) (D : List Nat) (listed : Array Bool) (i k : Nat) : Bool := match ops[i]? with
  | none => false
  | some oi => if k = 2 then (Region.ready .any ops listed) == [i] else
    (Region.ready .any ops listed).contains i && quietOp oi.op && !D.contains i && (k == 0 || (k == 1 && D.all fun j => match ops[j]? with | none => false | some oj => waitsFor oj i)) &&
    (List.range ops.size).all fun j => j == i || listed.getD j true || (match ops[j]? with | none => true | some oj => waitsFor oj i || oi.apart ops oj)
def PlanT.ok (ops : Array Oper) (D : List Nat) : PlanT → Bool → Nat → Array Bool → Bool
  | .nil, true, fuel, listed => fuel == 0 && (Region.ready .any ops listed).isEmpty
  | .nil, false, _, _ => true
  | .op _ _ _, false, _, _ => false
  | .op _ _ _, true, 0, _ => false
  | .op i k r, true, fuel + 1, listed => opOk ops D listed i k && r.ok ops D true fuel (listed.setIfInBounds i true)
  | .alt _ _ _, _, 0, _ => false
  | .alt i a r, hd, fuel + 1, listed => (!hd || (Region.ready .any ops listed) == i :: r.alts) && a.ok ops D true fuel (listed.setIfInBounds i true) && r.ok ops D false (fuel + 1) listed
def planT (P : Program) (T : TE) (l : List Oper) (D : List Nat) (hS : Heap) (K : Env → Heap → Nat → Prop) : PlanT → Bool → Bool → Env → Heap → Nat → Prop
  | .nil, true, _, E, h, n => K E h n
  | .nil, false, _, _, _, _ => True
  | .op i k r, _, dirty, E, h, n => match l[i]? with
    | none => False
    | some o => match k with
      | 0 => stepA P T l o E Heap.emp n (fun E' _ _ => planT P T l D hS K r true dirty E' h n)
      | 1 => stepA P T l o E hS n (fun E' _ _ => planT P T l D hS K r true dirty E' h n)
      | _ => match dirty || D.contains i with
        | true => stepA P T l o E h n (fun E' h' n' => planT P T l D hS K r true true E' h' n')
        | false => stepA P T l o E h n (fun E' h' n' => hS.Sub h' ∧ planT P T l D hS K r true false E' h' n')
  | .alt i a r, _, dirty, E, h, n => (match l[i]? with
    | none => False
    | some o => match dirty || D.contains i with
      | true => stepA P T l o E h n (fun E' h' n' => planT P T l D hS K a true true E' h' n')
      | false => stepA P T l o E h n (fun E' h' n' => hS.Sub h' ∧ planT P T l D hS K a true false E' h' n')) ∧ planT P T l D hS K r false dirty E h n
section
variable {P : Program} {T : TE} {N : Nat} {h : Heap} {n : Nat}
theorem step_sound {ops : Array Oper} {D : List Nat} {hS : Heap} {K : Env → Heap → Nat → Prop} {Φ : Bool → Env → Heap → Nat → Prop} {fuel : Nat} {listed : Array Bool} {dirty : Bool} {E : Env} {i : Nat} {o : Oper} (hi : ops[i]? = some o) (_ : i ∈ Region.ready .any ops listed) (_ : Closed ops listed) (hsz : listed.size = ops.size)
    (hd : dirty = true → ∃ j, j ∈ D ∧ listed.getD j true = true)
    (hΦ : ∀ dirty' E h n, (dirty' = true → ∃ j, j ∈ D ∧ (listed.setIfInBounds i true).getD j true = true) → StandsBy D hS (listed.setIfInBounds i true) h → Φ dirty' E h n → anyA P T ops (StandsBy D hS) K fuel (listed.setIfInBounds i true) E h n)
    (hc : match dirty || D.contains i with
      | true => stepA P T ops.toList o E h n (fun E' h' n' => Φ true E' h' n')
      | false => stepA P T ops.toList o E h n (fun E' h' n' => hS.Sub h' ∧ Φ false E' h' n')) :
    stepA P T ops.toList o E h n (fun E' h' n' => StandsBy D hS (listed.setIfInBounds i true) h' ∧ anyA P T ops (StandsBy D hS) K fuel (listed.setIfInBounds i true) E' h' n') := by
  have hjs : i < listed.size := by rw [hsz]; exact (Array.getElem?_eq_some_iff.1 hi).1
  cases hdd : (dirty || D.contains i) with
  | true =>
    rw [hdd] at hc
    have hdir : ∃ k, k ∈ D ∧ (listed.setIfInBounds i true).getD k true = true := by
      simp only [Bool.or_eq_true, List.contains_iff_mem] at hdd
      rcases hdd with hq | hq
      · obtain ⟨j, hj, hl⟩ := hd hq
        refine ⟨j, hj, ?_⟩
        by_cases hij : i = j
        · subst hij; simp [hjs]
        · rw [getD_set_ne true hij]; exact hl
      · exact ⟨i, hq, by simp [hjs]⟩
    have hst : ∀ h', StandsBy D hS (listed.setIfInBounds i true) h' := fun h' hD => by
      obtain ⟨k, k1, k2⟩ := hdir
      rw [hD k k1] at k2; cases k2
    exact stepA_mono (fun r h' n' hk => ⟨hst h', hΦ true _ h' n' (fun _ => hdir) (hst h') hk⟩) hc
  | false =>
    rw [hdd] at hc
    exact stepA_mono (fun r h' n' hk => ⟨fun _ => hk.1, hΦ false _ h' n' (fun hq => by cases hq) (fun _ => hk.1) hk.2⟩) hc
theorem planT_sound {ops : Array Oper} {D : List Nat} {hS : Heap} {K : Env → Heap → Nat → Prop} : ∀ (plan : PlanT) (fuel : Nat) (listed : Array Bool) (dirty : Bool) (E : Env) (h : Heap) (n : Nat), Closed ops listed → listed.size = ops.size →
    (dirty = true → ∃ j, j ∈ D ∧ listed.getD j true = true) → StandsBy D hS listed h →
    (plan.ok ops D true fuel listed = true → planT P T ops.toList D hS K plan true dirty E h n → anyA P T ops (StandsBy D hS) K fuel listed E h n) ∧
    (∀ i, i ∈ plan.alts → ∀ f, fuel = f + 1 → plan.ok ops D false fuel listed = true → planT P T ops.toList D hS K plan false dirty E h n → ∀ o, ops[i]? = some o → i ∈ Region.ready .any ops listed →
      stepA P T ops.toList o E h n (fun E' h' n' => StandsBy D hS (listed.setIfInBounds i true) h' ∧ anyA P T ops (StandsBy D hS) K f (listed.setIfInBounds i true) E' h' n'))
  | .nil, fuel, listed, dirty, E, h, n, hcl, hsz, hd, hSb => ⟨fun hp hc => by
      simp only [PlanT.ok, Bool.and_eq_true, beq_iff_eq] at hp
      obtain ⟨rfl, hr⟩ := hp
      exact ⟨by simpa using hr, hc⟩, fun i hi => by cases hi⟩
  | .op i k r, fuel, listed, dirty, E, h, n, hcl, hsz, hd, hSb => ⟨fun hp hc => by
      cases fuel with
      | zero => simp [PlanT.ok] at hp
      | succ fuel =>
      simp only [PlanT.ok, Bool.and_eq_true] at hp
      obtain ⟨hp1, hp2⟩ := hp
      unfold opOk at hp1
      cases hi : ops[i]? with
      | none => rw [hi] at hp1; cases hp1
      | some oi =>
        rw [hi] at hp1
        simp only at hp1
        have hi' : ops.toList[i]? = some oi := by rw [Array.getElem?_toList]; exact hi
        have dirty' : dirty = true → ∃ j, j ∈ D ∧ (listed.setIfInBounds i true).getD j true = true := fun hq => by
          obtain ⟨j, hj, hl⟩ := hd hq
          refine ⟨j, hj, ?_⟩
          by_cases hij : i = j
          · subst hij
            by_cases hs : i < listed.size
            · simp [hs]
            · simp [hs]
          · rw [getD_set_ne true hij]; exact hl
        by_cases hk : k = 2
        · subst hk
          rw [if_pos rfl] at hp1
          have hr : Region.ready .any ops listed = [i] := by simpa using hp1
          have hir : i ∈ Region.ready .any ops listed := by rw [hr]; simp
          simp only [planT, hi'] at hc
          refine ⟨fun h0 => (by rw [hr] at h0; cases h0), fun j hj o ho => ?_⟩
          rw [hr] at hj
          obtain rfl := List.mem_singleton.1 hj
          rw [hi] at ho
          obtain rfl := Option.some.inj ho
          exact step_sound (Φ := fun d E h n => planT P T ops.toList D hS K r true d E h n) hi hir hcl hsz hd (fun d E h n a b c => (planT_sound r fuel _ d E h n (closed_set hcl hir) (by simpa using hsz) a b).1 hp2 c) hc
        · rw [if_neg hk] at hp1
          simp only [Bool.and_eq_true, Bool.or_eq_true, List.all_eq_true, List.contains_iff_mem, Bool.not_eq_true', List.mem_range, beq_iff_eq] at hp1
          obtain ⟨⟨⟨⟨q1, q2⟩, q3⟩, q4⟩, q5⟩ := hp1
          have hiD : i ∉ D := by intro hq; simp [hq] at q3
          have wf : ∀ o j, waitsFor o j = true → ∃ e, e ∈ o.after ∧ Region.binds .any e = true ∧ e.on = j := fun o j hw => by
            unfold waitsFor at hw
            rw [Array.any_eq_true'] at hw
            obtain ⟨e, he, hb⟩ := hw
            simp only [Bool.and_eq_true, beq_iff_eq] at hb
            exact ⟨e, he, hb.1, hb.2⟩
          have hfree : ∀ j oj, ops[j]? = some oj → j ≠ i → listed.getD j true = false → (∀ e, e ∈ oj.after → Region.binds .any e = true → e.on ≠ i) → oi.apart ops oj = true := fun j oj hj hne hl hno => by
            have := q5 j (Array.getElem?_eq_some_iff.1 hj).1
            rw [hj] at this
            rcases this with (h1 | h1) | h1
            · exact absurd h1 hne
            · rw [hl] at h1; cases h1
            · simp only [Bool.or_eq_true] at h1
              rcases h1 with h1 | h1
              · obtain ⟨e, e1, e2, e3⟩ := wf _ _ h1
                exact absurd e3 (hno e e1 e2)
              · exact h1
          have more : StandsBy D hS (listed.setIfInBounds i true) h := fun hD => hSb fun j hj => by
            have := hD j hj
            have hne : i ≠ j := fun he => hiD (by rw [he]; exact hj)
            rwa [getD_set_ne true hne] at this
          have hk01 : ∃ h1 : Heap, (∀ listed h', Closed ops listed → listed.getD i true = false → StandsBy D hS listed h' → h1.Sub h') ∧ stepA P T ops.toList oi E h1 n (fun E' _ _ => planT P T ops.toList D hS K r true dirty E' h n) := by
            match k, hk with
            | 0, _ => simp only [planT, hi'] at hc; exact ⟨Heap.emp, fun _ h' _ _ _ => Heap.Sub.emp h', hc⟩
            | 1, _ =>
              simp only [planT, hi'] at hc
              refine ⟨hS, fun listed' h' hcl' hl' hs => hs fun j hj => ?_, hc⟩
              rcases q4 with h0 | h0
              · cases h0
              · have := h0.2 j hj
                split at this
                · cases this
                · rename_i oj hoj
                  obtain ⟨e, e1, e2, e3⟩ := wf _ _ this
                  cases hlj : listed'.getD j true with
                  | false => rfl
                  | true =>
                    have h5 := hcl' j oj hoj hlj e e1 e2
                    rw [e3] at h5
                    rcases Nat.lt_or_ge i listed'.size with h' | h'
                    · simp [h'] at h5 hl'; rw [h5] at hl'; cases hl'
                    · simp [Array.getElem?_eq_none h'] at h5
            | k + 2, _ =>
              exfalso
              rcases q4 with h0 | h0
              · omega
              · have := h0.1
                omega
          obtain ⟨h1, hsub, hc1⟩ := hk01
          obtain ⟨v, v1, v2⟩ := stepA_quiet q2 hc1
          exact takeA hi hiD hsub fuel listed E h n hcl hfree q1 v2 hSb ((planT_sound r fuel _ dirty _ h n (closed_set hcl q1) (by simpa using hsz) dirty' more).1 hp2 v1), fun i hi => by cases hi⟩
  | .alt i a r, fuel, listed, dirty, E, h, n, hcl, hsz, hd, hSb => by
    have each : ∀ hd', ∀ j, j ∈ (PlanT.alt i a r).alts → ∀ f, fuel = f + 1 → (PlanT.alt i a r).ok ops D hd' fuel listed = true → planT P T ops.toList D hS K (.alt i a r) hd' dirty E h n → ∀ o, ops[j]? = some o → j ∈ Region.ready .any ops listed →
      stepA P T ops.toList o E h n (fun E' h' n' => StandsBy D hS (listed.setIfInBounds j true) h' ∧ anyA P T ops (StandsBy D hS) K f (listed.setIfInBounds j true) E' h' n') := by
      intro hd' j hj f hf hp hc o ho hjr
      subst hf
      simp only [PlanT.ok, Bool.and_eq_true] at hp
      obtain ⟨⟨_, hp2⟩, hp3⟩ := hp
      simp only [planT] at hc
      obtain ⟨hc1, hc2⟩ := hc
      rcases List.mem_cons.1 hj with rfl | hj
      · have hi' : ops.toList[j]? = some o := by rw [Array.getElem?_toList]; exact ho
        rw [hi'] at hc1
        exact step_sound (Φ := fun d E h n => planT P T ops.toList D hS K a true d E h n) ho hjr hcl hsz hd (fun d E h n x y z => (planT_sound a f _ d E h n (closed_set hcl hjr) (by simpa using hsz) x y).1 hp2 z) hc1
      · exact (planT_sound r (f + 1) listed dirty E h n hcl hsz hd hSb).2 j hj f rfl hp3 hc2 o ho hjr
    refine ⟨fun hp hc => ?_, each false⟩
    cases fuel with
    | zero => simp [PlanT.ok] at hp
    | succ fuel =>
    have hr : Region.ready .any ops listed = i :: r.alts := by
      simp only [PlanT.ok, Bool.and_eq_true, Bool.not_true, Bool.false_or, beq_iff_eq] at hp
      exact hp.1.1
    refine ⟨fun h0 => (by rw [hr] at h0; cases h0), fun j hj o ho => each true j (by rw [hr] at hj; exact hj) fuel rfl hp hc o ho hj⟩
theorem WP.drawT {Q : Exit → Env → Heap → Nat → Prop} {E : Env} (hT : TEOk P T) (hm : P.follows .mixedOrders = true) {id : Nat} {l : List Oper} (plan : PlanT) (D : List Nat) (hS : Heap) (hp : plan.ok l.toArray D true l.length (Array.replicate l.toArray.size false) = true) (hd : l.all (dstIn N) = true)
    (hsub : hS.Sub h) (hc : (∀ id b, h id = some b → id < n) → planT P T l D hS (Q .normal) plan true false E h n) : WP P N (.region id l.toArray true) Q E h n := fun b a w hs => by
  refine wp_region_any hm ?_
  have hlt : ∀ id b, h id = some b → id < n := fun id b hid => by
    obtain ⟨c, rfl, e0, hh, hf, _⟩ := hs
    obtain ⟨b', base, sz, arr, E, hB⟩ := hh.blk id b hid
    rcases Nat.lt_or_ge id n with h1 | h1
    · exact h1
    · have := hB.ι; rw [hf id h1] at this; cases this
  have hs' : SR b N E h n a { w with drawn := w.drawn + 1 } := by
    obtain ⟨c, rfl, e0, hh, hf, hn, hb, hdf, hN, ht⟩ := hs
    have hmv : ∀ {u v}, VR c u v → VR ⟨c.ι, c.Fz, { c.w with drawn := c.w.drawn + 1 }⟩ u v := fun k => by
      have e1 : Ext c h (fun _ => False) ⟨c.ι, c.Fz, { c.w with drawn := c.w.drawn + 1 }⟩ h :=
        ⟨rfl, rfl, rfl, Nat.le_refl _, fun _ _ h => h, fun _ _ h => .inl h, fun _ h => h, fun _ arr _ _ h => ⟨arr, h, rfl⟩, fun _ _ _ => rfl, fun id blk x hh hx => .inr ⟨id, blk, x, hh, hx, rfl⟩, fun _ h => .inl h⟩
      exact k.mono e1 hh
    have e1 : Ext c h (fun _ => False) ⟨c.ι, c.Fz, { c.w with drawn := c.w.drawn + 1 }⟩ h :=
      ⟨rfl, rfl, rfl, Nat.le_refl _, fun _ _ h => h, fun _ _ h => .inl h, fun _ h => h, fun _ arr _ _ h => ⟨arr, h, rfl⟩, fun _ _ _ => rfl, fun id blk x hh hx => .inr ⟨id, blk, x, hh, hx, rfl⟩, fun _ h => .inl h⟩
    refine ⟨⟨c.ι, c.Fz, { c.w with drawn := c.w.drawn + 1 }⟩, rfl, e0.trans e1 (fun i hi => hi) (fun i hi => hi.elim), ⟨fun id blk hb => ?_, hh.inj, hh.fzlt⟩, hf, hn, hb, hdf, hN, fun t => hmv (ht t)⟩
    obtain ⟨bb, base, sz, arr, E, hB⟩ := hh.blk id blk hb
    exact ⟨bb, base, sz, arr, E, hB.ι, hB.heap, hB.nfz, hB.size, hB.one, fun i e j u a1 a2 => by
      obtain ⟨v, q1, q2⟩ := hB.cell i e j u a1 a2
      exact ⟨v, q1, hmv q2⟩⟩
  have hany := (planT_sound plan l.length (Array.replicate l.toArray.size false) false E h n (fun j o hj hl => by
    have hlt : j < l.toArray.size := (Array.getElem?_eq_some_iff.1 hj).1
    simp at hlt
    simp [hlt] at hl) (by simp) (fun hq => by cases hq) (fun _ => hsub)).1 hp (hc hlt)
  refine anyA_sound (N := N) (b := b) hT (fun i o ho => ?_) (fun E' h' n' a' w' q1 q2 => ⟨E', h', n', q1, q2⟩) _ _ hs' (by simpa using hany)
  exact List.all_eq_true.1 hd o (by simpa using Array.mem_of_getElem? ho)
end
end Go.Proofs.Ytcngfjmfgeckmaa
