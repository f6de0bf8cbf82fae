/- Row 2: what its functions do. Own work. -/
import Derived.Test.YtplkjfnjdekgpaaR1
import Derived.Test.YtplkjfnjdekgpaaLtFamG
namespace Go.Proofs.Ytplkjfnjdekgpaa
open Go

def I64 (a : Int) : Prop := -9223372036854775808 ≤ a ∧ a ≤ 9223372036854775807

structure ActD where
  kind : Int
  txn : Int
  key : Int
  value : Int
  deriving DecidableEq

def ActD.ok (a : ActD) : Prop := I64 a.kind ∧ I64 a.txn ∧ I64 a.key ∧ I64 a.value
def ActD.cells (a : ActD) : List AV := [.int .i64 a.kind, .int .i64 a.txn, .int .i64 a.key, .int .i64 a.value]
def ActR (e : AV) (a : ActD) : Prop := e = .agg [.int .i64 a.kind, .int .i64 a.txn, .int .i64 a.key, .int .i64 a.value] ∧ a.ok

theorem tyAct_107 : TyR T 107 ActR where
  pos := by decide
  cell := rfl
  zlen := rfl
  part e a h := by rw [h.1]; rfl
  len e a h := by rw [h.1]; rfl
  good e a h := by rw [h.1]; rfl
  lt e a n h := by rw [h.1]; simp only [lt_agg, lt_int, List.mem_cons, List.not_mem_nil, or_false, forall_eq_or_imp, forall_eq, and_self]
  setz e a h := by rw [h.1]; rfl

theorem tyAct_81 : TyR T 81 ActR where
  pos := by decide
  cell := rfl
  zlen := rfl
  part e a h := by rw [h.1]; rfl
  len e a h := by rw [h.1]; rfl
  good e a h := by rw [h.1]; rfl
  lt e a n h := by rw [h.1]; simp only [lt_agg, lt_int, List.mem_cons, List.not_mem_nil, or_false, forall_eq_or_imp, forall_eq, and_self]
  setz e a h := by rw [h.1]; rfl

theorem c80 {h : Heap} {n : Nat} {K : AV → Heap → Nat → Prop} {e : AV} {a : ActD} (ha : ActR e a) (hk : ∀ r, ActR r a → K r h n) : CA Try.prog 80 [e] h n K := by
  obtain ⟨rfl, hok⟩ := ha
  refine CA.conv (CA.enter (N := 17) (rs := [.cell 2 81]) hT Try.call80 Try.func80 rfl rfl (by simp) rfl fun hlt => ?_)
  refine WP.seq_k fun K1 hK1 => WP.region hT rfl ?_
  simp only [↓opsA, ↓stepA, ↓callA, ev, Env.get_envOf, ↓e_alloc, ↓e_box, ↓thenA, Nat.pos_of_neZero, good_agg, AV.cells_agg, Nat.reduceAdd, Nat.add_assoc, true_and, List.getElem?_cons_zero, Option.getD_some, List.length_cons, List.length_nil, Nat.zero_add, T_107, T_81]
  refine hK1 _ _ _ ?_
  clear hK1 K1
  refine WP.seq_k fun K1 hK1 => WP.region hT rfl ?_
  simp only [↓opsA, ↓stepA, ↓callA, ↓e_alloc, ↓thenA, Nat.pos_of_neZero, Nat.reduceAdd, Nat.add_assoc, true_and, T_81]
  refine hK1 _ _ _ ?_
  clear hK1 K1
  refine WP.seq_k fun K1 hK1 => WP.region hT rfl ?_
  simp only [↓opsA, ↓stepA, ↓callA, ev, Env.get_put_some, Env.put_none, ↓e_load, ↓e_store, ↓e_fieldAddr, rdSl_sl, setPart_agg, ↓thenA, Heap.upd_get, Heap.upd_upd, good_int, AV.cells_int, AV.cells_agg, reduceIte, Nat.reduceEqDiff, Nat.reduceLeDiff, Nat.reduceAdd, true_and, List.getElem?_cons_zero, List.length_cons, List.length_nil, List.set_cons_zero, Nat.zero_add, Nat.add_zero, List.drop_zero, List.take_succ_cons, List.take_zero, List.drop_succ_cons, List.cons_append, List.nil_append, Nat.left_eq_add, Nat.one_ne_zero, Nat.lt_add_one, ↓reduceIte, Nat.le_refl, T_107, T_81, T_2, part, cellOk]
  refine hK1 _ _ _ ?_
  clear hK1 K1
  refine WP.seq_k fun K1 hK1 => WP.region hT rfl ?_
  simp only [↓opsA, ↓stepA, ↓callA, ev, Env.get_put_some, Env.put_none, ↓e_load, ↓e_store, ↓e_fieldAddr, rdSl_sl, setPart_agg, ↓thenA, Heap.upd_get, Heap.upd_upd, good_int, AV.cells_int, AV.cells_agg, reduceIte, Nat.reduceEqDiff, Nat.reduceLeDiff, Nat.reduceAdd, true_and, List.getElem?_cons_zero, List.getElem?_cons_succ, List.length_cons, List.length_nil, List.set_cons_zero, Nat.zero_add, Nat.add_zero, List.drop_zero, List.take_succ_cons, List.take_zero, List.drop_succ_cons, List.cons_append, List.nil_append, Nat.left_eq_add, Nat.one_ne_zero, Nat.lt_add_one, ↓reduceIte, Nat.le_refl, T_107, T_81, T_2, part, cellOk]
  refine hK1 _ _ _ ?_
  clear hK1 K1
  refine WP.seq_k fun K1 hK1 => WP.region hT rfl ?_
  simp only [↓opsA, ↓stepA, ↓callA, ev, Env.get_put_some, Env.put_none, ↓e_load, ↓e_store, ↓e_fieldAddr, rdSl_sl, setPart_agg, ↓thenA, Heap.upd_get, Heap.upd_upd, good_int, AV.cells_int, AV.cells_agg, reduceIte, Nat.reduceEqDiff, Nat.reduceLeDiff, Nat.reduceAdd, true_and, List.getElem?_cons_zero, List.getElem?_cons_succ, List.length_cons, List.length_nil, List.set_cons_zero, Nat.zero_add, Nat.add_zero, List.drop_zero, List.take_succ_cons, List.take_zero, List.drop_succ_cons, List.cons_append, List.nil_append, Nat.left_eq_add, Nat.one_ne_zero, Nat.lt_add_one, ↓reduceIte, Nat.le_refl, T_107, T_81, T_2, part, cellOk]
  refine hK1 _ _ _ ?_
  clear hK1 K1
  refine WP.seq_k fun K1 hK1 => WP.region hT rfl ?_
  simp only [↓opsA, ↓stepA, ↓callA, ev, Env.get_put_some, Env.put_none, ↓e_load, ↓e_store, ↓e_fieldAddr, rdSl_sl, setPart_agg, ↓thenA, Heap.upd_get, Heap.upd_upd, good_int, AV.cells_int, AV.cells_agg, reduceIte, Nat.reduceEqDiff, Nat.reduceAdd, true_and, List.getElem?_cons_zero, List.getElem?_cons_succ, List.length_cons, List.length_nil, List.set_cons_zero, Nat.zero_add, Nat.add_zero, List.drop_zero, List.take_succ_cons, List.take_zero, List.drop_succ_cons, List.drop_nil, List.cons_append, List.nil_append, List.append_nil, Nat.left_eq_add, Nat.one_ne_zero, Nat.lt_add_one, ↓reduceIte, Nat.le_refl, T_107, T_81, T_2, part, cellOk]
  refine hK1 _ _ _ ?_
  clear hK1 K1
  refine WP.seq_k fun K1 hK1 => WP.region hT rfl ?_
  simp only [↓opsA, ↓stepA, ↓callA, ev, Env.get_put_some, Env.put_none, ↓e_load, ↓e_store, rdSl_sl, setPart_agg, ↓thenA, Heap.upd_get, Heap.upd_upd, Heap.upd_sort, Nat.pos_of_neZero, good_agg, AV.cells_agg, reduceIte, Nat.reduceEqDiff, Nat.reduceAdd, true_and, List.getElem?_cons_zero, List.length_cons, List.length_nil, List.set_cons_zero, Nat.zero_add, Nat.add_zero, List.drop_zero, List.take_succ_cons, List.take_zero, List.drop_succ_cons, List.drop_nil, List.nil_append, List.append_nil, decide_true, Nat.lt_add_one, ↓reduceIte, Nat.le_refl, Nat.add_left_cancel_iff, T_81, part, cellOk]
  refine hK1 _ _ _ ?_
  clear hK1 K1
  refine WP.ret ?_
  simp only [Env.get_put_some, rdSl_sl, Heap.upd_get, Nat.pos_of_neZero, AV.cells_agg, reduceIte, Nat.reduceEqDiff, Nat.reduceAdd, List.getElem?_cons_zero, List.length_cons, List.length_nil, Nat.zero_add, List.drop_zero, List.take_succ_cons, List.take_zero, decide_true, Option.bind_some, Option.map_some, ↓reduceIte, Nat.le_refl, Nat.add_left_cancel_iff, T_81, retA, resA, cellA, resV, part, cellOk]
  refine ⟨_, rfl, ret_p ?_ ?_ (hk _ ⟨rfl, hok⟩)⟩
  · repeat (first | exact Left.refl hlt | refine Left.upd (by omega) ?_)
  · exact tyAct_81.lt _ a n ⟨rfl, hok⟩

theorem c82 {h : Heap} {n : Nat} {K : AV → Heap → Nat → Prop} {e e' : AV} {a b : ActD} (ha : ActR e a) (hb : ActR e' b) (hk : K (.bool (decide (a = b))) h n) : CA Try.prog 82 [e, e'] h n K := by
  obtain ⟨rfl, hok⟩ := ha
  obtain ⟨rfl, hok2⟩ := hb
  refine CA.conv (CA.enter (N := 25) (rs := [.tmp 4]) hT Try.call82 Try.func82 rfl rfl (by simp) rfl fun hlt => ?_)
  refine WP.seq_k fun K1 hK1 => WP.region hT rfl ?_
  simp only [↓opsA, ↓stepA, ↓callA, ev, Env.get_put_some, Env.get_envOf, ↓e_assign, ↓e_box, ofVal, ↓thenA, Nat.pos_of_neZero, good_agg, AV.cells_agg, reduceIte, Nat.reduceEqDiff, Nat.reduceAdd, Nat.add_assoc, true_and, List.getElem?_cons_zero, List.getElem?_cons_succ, Option.getD_some, List.length_cons, List.length_nil, Nat.zero_add, ↓reduceIte, T_81]
  refine hK1 _ _ _ ?_
  clear hK1 K1
  refine WP.seq_k fun K2 hK2 => ?_
  refine WP.seq_k fun K1 hK1 => WP.region hT rfl ?_
  simp only [↓opsA, ↓stepA, ↓callA, ev, Env.get_put_some, ↓e_binOp, ↓e_load, ↓e_fieldAddr, b_neq, rdSl_sl, ↓thenA, Heap.upd_get, AV.cells_agg, reduceIte, Nat.reduceEqDiff, true_and, List.getElem?_cons_zero, List.length_cons, List.length_nil, Nat.zero_add, Nat.add_zero, List.drop_zero, List.take_succ_cons, List.take_zero, Nat.left_eq_add, Nat.one_ne_zero, Nat.lt_add_one, ↓reduceIte, Nat.le_refl, T_81, T_2, part, cellOk]
  refine hK1 _ _ _ ?_
  clear hK1 K1
  refine WP.cond (by simp only [ev, Env.get_put_some, ↓reduceIte]; rfl) (fun hc0 => ?_) (fun hc0 => ?_)
  · refine WP.seq_k fun K1 hK1 => WP.region hT rfl ?_
    simp only [↓opsA, ↓stepA, ↓callA, ev, ↓e_assign, ofVal, ↓thenA]
    refine hK1 _ _ _ ?_
    clear hK1 K1
    refine WP.ret ?_
    simp only [Env.get_put_some, ↓thenA, reduceIte, Option.map_some, ↓reduceIte, retA, resA]
    refine ⟨_, rfl, ret_p ?_ (.bool _) ?_⟩
    · repeat (first | exact Left.refl hlt | refine Left.upd (by omega) ?_)
    have hne : a ≠ b := fun he => by subst he; simp at hc0
    simpa [resV, hne] using hk
  refine WP.skip (hK2 _ _ _ ?_)
  clear hK2 K2
  refine WP.seq_k fun K2 hK2 => ?_
  refine WP.seq_k fun K1 hK1 => WP.region hT rfl ?_
  simp only [↓opsA, ↓stepA, ↓callA, ev, Env.get_put_some, ↓e_binOp, ↓e_load, ↓e_fieldAddr, b_neq, rdSl_sl, ↓thenA, Heap.upd_get, AV.cells_agg, reduceIte, Nat.reduceEqDiff, true_and, List.getElem?_cons_zero, List.getElem?_cons_succ, List.length_cons, List.length_nil, Nat.zero_add, List.drop_zero, List.take_succ_cons, List.take_zero, Nat.left_eq_add, Nat.one_ne_zero, Nat.lt_add_one, ↓reduceIte, Nat.le_refl, T_81, T_2, part, cellOk]
  refine hK1 _ _ _ ?_
  clear hK1 K1
  refine WP.cond (by simp only [ev, Env.get_put_some, ↓reduceIte]; rfl) (fun hc1 => ?_) (fun hc1 => ?_)
  · refine WP.seq_k fun K1 hK1 => WP.region hT rfl ?_
    simp only [↓opsA, ↓stepA, ↓callA, ev, ↓e_assign, ofVal, ↓thenA]
    refine hK1 _ _ _ ?_
    clear hK1 K1
    refine WP.ret ?_
    simp only [Env.get_put_some, ↓thenA, reduceIte, Option.map_some, ↓reduceIte, retA, resA]
    refine ⟨_, rfl, ret_p ?_ (.bool _) ?_⟩
    · repeat (first | exact Left.refl hlt | refine Left.upd (by omega) ?_)
    have hne : a ≠ b := fun he => by subst he; simp at hc1
    simpa [resV, hne] using hk
  refine WP.skip (hK2 _ _ _ ?_)
  clear hK2 K2
  refine WP.seq_k fun K2 hK2 => ?_
  refine WP.seq_k fun K1 hK1 => WP.region hT rfl ?_
  simp only [↓opsA, ↓stepA, ↓callA, ev, Env.get_put_some, ↓e_binOp, ↓e_load, ↓e_fieldAddr, b_neq, rdSl_sl, ↓thenA, Heap.upd_get, AV.cells_agg, reduceIte, Nat.reduceEqDiff, true_and, List.getElem?_cons_zero, List.getElem?_cons_succ, List.length_cons, List.length_nil, Nat.zero_add, List.drop_zero, List.take_succ_cons, List.take_zero, Nat.left_eq_add, Nat.one_ne_zero, Nat.lt_add_one, ↓reduceIte, Nat.le_refl, T_81, T_2, part, cellOk]
  refine hK1 _ _ _ ?_
  clear hK1 K1
  refine WP.cond (by simp only [ev, Env.get_put_some, ↓reduceIte]; rfl) (fun hc2 => ?_) (fun hc2 => ?_)
  · refine WP.seq_k fun K1 hK1 => WP.region hT rfl ?_
    simp only [↓opsA, ↓stepA, ↓callA, ev, ↓e_assign, ofVal, ↓thenA]
    refine hK1 _ _ _ ?_
    clear hK1 K1
    refine WP.ret ?_
    simp only [Env.get_put_some, ↓thenA, reduceIte, Option.map_some, ↓reduceIte, retA, resA]
    refine ⟨_, rfl, ret_p ?_ (.bool _) ?_⟩
    · repeat (first | exact Left.refl hlt | refine Left.upd (by omega) ?_)
    have hne : a ≠ b := fun he => by subst he; simp at hc2
    simpa [resV, hne] using hk
  refine WP.skip (hK2 _ _ _ ?_)
  clear hK2 K2
  refine WP.seq_k fun K2 hK2 => ?_
  refine WP.seq_k fun K1 hK1 => WP.region hT rfl ?_
  simp only [↓opsA, ↓stepA, ↓callA, ev, Env.get_put_some, ↓e_binOp, ↓e_load, ↓e_fieldAddr, b_neq, rdSl_sl, ↓thenA, Heap.upd_get, AV.cells_agg, reduceIte, Nat.reduceEqDiff, true_and, List.getElem?_cons_zero, List.getElem?_cons_succ, List.length_cons, List.length_nil, Nat.zero_add, List.drop_zero, List.take_succ_cons, List.take_zero, Nat.left_eq_add, Nat.one_ne_zero, Nat.lt_add_one, ↓reduceIte, Nat.le_refl, T_81, T_2, part, cellOk]
  refine hK1 _ _ _ ?_
  clear hK1 K1
  refine WP.cond (by simp only [ev, Env.get_put_some, ↓reduceIte]; rfl) (fun hc3 => ?_) (fun hc3 => ?_)
  · refine WP.seq_k fun K1 hK1 => WP.region hT rfl ?_
    simp only [↓opsA, ↓stepA, ↓callA, ev, ↓e_assign, ofVal, ↓thenA]
    refine hK1 _ _ _ ?_
    clear hK1 K1
    refine WP.ret ?_
    simp only [Env.get_put_some, ↓thenA, reduceIte, Option.map_some, ↓reduceIte, retA, resA]
    refine ⟨_, rfl, ret_p ?_ (.bool _) ?_⟩
    · repeat (first | exact Left.refl hlt | refine Left.upd (by omega) ?_)
    have hne : a ≠ b := fun he => by subst he; simp at hc3
    simpa [resV, hne] using hk
  refine WP.skip (hK2 _ _ _ ?_)
  clear hK2 K2
  refine WP.seq_k fun K1 hK1 => WP.region hT rfl ?_
  simp only [↓opsA, ↓stepA, ↓callA, ev, ↓e_assign, ofVal, ↓thenA]
  refine hK1 _ _ _ ?_
  clear hK1 K1
  refine WP.ret ?_
  simp only [Env.get_put_some, reduceIte, Option.map_some, ↓reduceIte, retA, resA]
  refine ⟨_, rfl, ret_p ?_ (.bool _) ?_⟩
  · repeat (first | exact Left.refl hlt | refine Left.upd (by omega) ?_)
  have he : a = b := by
    cases a; cases b
    simp only [ne_eq, decide_not, Bool.not_eq_false', decide_eq_true_eq] at hc0 hc1 hc2 hc3
    simp only [hc0 , hc1 , hc2 , hc3]
  simpa [resV, he] using hk

def ActsR : AV → List ActD → Prop := SlR 4 ActR
def ActSSR : AV → List (List ActD) → Prop := SlR 1 ActsR

theorem tyActs_78 : TyR T 78 ActsR := tyR_slice (e := 107) rfl rfl rfl
theorem tyActs_38 : TyR T 38 ActsR := tyR_slice (e := 81) rfl rfl rfl
theorem tyActSS_28 : TyR T 28 ActSSR := tyR_slice (e := 78) rfl rfl rfl
theorem tyActSS_31 : TyR T 31 ActSSR := tyR_slice (e := 38) rfl rfl rfl

def sizAct (l : List ActD) : Nat := sizL (fun _ => 0) l

section
variable {h : Heap} {n : Nat} {K : AV → Heap → Nat → Prop}

theorem c50 {x : AV} {l : List ActD} (hx : ActsR x l) (hl : l.length ≤ 1048576) (hk : ∀ r, ActsR r l → K r h n) : CA Try.prog 50 [x] h n K :=
  toS_gen (φ := fun a => a) (R := ActR) (U := ActR) hT Try.call50 Try.func50 rfl rfl rfl rfl rfl tyAct_107 tyAct_81 (by decide) hx hl (fun h n K e a _ hR hk => c80 hR hk) (fun r hr => hk r (by rw [List.map_id'] at hr; exact hr))

theorem c16 {x : AV} {l : List (List ActD)} (hx : ActSSR x l) (hl : sizL sizAct l ≤ 1048576) (hk : ∀ r, ActSSR r l → K r h n) : CA Try.prog 16 [x] h n K := by
  have h1 : l.length ≤ sizL sizAct l := Nat.le_add_right _ _
  refine toS_gen (φ := fun a => a) (R := ActsR) (U := ActsR) hT Try.call16 Try.func16 rfl rfl rfl rfl rfl tyActs_78 tyActs_38 (by decide) hx (by omega) (fun h n K e a ha hR hk => c50 hR ?_ hk) (fun r hr => hk r (by rw [List.map_id'] at hr; exact hr))
  have h2 : sizAct a ≤ (l.map sizAct).sum := le_sum ha
  have h3 : sizAct a = a.length := siz_zero a
  unfold sizL at hl
  omega

theorem c48 {x : AV} {l : List ActD} (hx : ActsR x l) {k : Int} (h0 : 0 ≤ k) (h1 : k ≤ 4611686018427387904) (hk : K (.int .i64 (left (sizAct l) k)) h n) : CA Try.prog 48 [x, .int .i64 k] h n K :=
  szS0_gen (t := 107) hT Try.call48 Try.func48 rfl rfl rfl rfl rfl hx h0 h1 hk

theorem c14 {x : AV} {l : List (List ActD)} (hx : ActSSR x l) {k : Int} (h0 : 0 ≤ k) (h1 : k ≤ 4611686018427387904) (hk : K (.int .i64 (left (sizL sizAct l) k)) h n) : CA Try.prog 14 [x, .int .i64 k] h n K :=
  szS_gen hT Try.call14 Try.func14 rfl rfl rfl rfl tyActs_78 hx (fun _ _ _ _ _ _ hR h0 h1 hk => c48 hR h0 h1 hk) h0 h1 hk

theorem c54 {x y : AV} {l l2 : List ActD} (hx : ActsR x l) (hy : ActsR y l2) (hk : K (.bool (decide (l = l2))) h n) : CA Try.prog 54 [x, y] h n K :=
  eqS_gen hT hM Try.call54 Try.func54 rfl rfl rfl rfl tyAct_81 tyAct_81 hx hy (fun _ _ _ _ _ _ _ hR hR' hk => c82 hR hR' hk) hk

theorem c18 {x y : AV} {l l2 : List (List ActD)} (hx : ActSSR x l) (hy : ActSSR y l2) (hk : K (.bool (decide (l = l2))) h n) : CA Try.prog 18 [x, y] h n K :=
  eqS_gen hT hM Try.call18 Try.func18 rfl rfl rfl rfl tyActs_38 tyActs_38 hx hy (fun _ _ _ _ _ _ _ hR hR' hk => c54 hR hR' hk) hk

def within (x lo hi : Int) : Bool := decide (lo ≤ x) && decide (x ≤ hi)

theorem c49 {x lo hi : Int} (hk : K (.bool (within x lo hi)) h n) : CA Try.prog 49 [.int .i64 x, .int .i64 lo, .int .i64 hi] h n K := by
  refine CA.conv (CA.enter (N := 15) (rs := [.tmp 6]) hT Try.call49 Try.func49 rfl rfl (by simp) rfl fun hlt => ?_)
  refine WP.seq_k fun K1 hK1 => WP.region hT rfl ?_
  simp only [↓opsA, ↓stepA, ↓callA, ev, ↓e_assign, ofVal, ↓thenA]
  refine hK1 _ _ _ ?_
  clear hK1 K1
  unfold within at hk
  by_cases hq : lo ≤ x
  all_goals
    simp only [hq, decide_true, decide_false, Bool.true_and, Bool.false_and] at hk
    refine WP.seq_k fun K1 hK1 => WP.region hT rfl ?_
    simp only [↓opsA, ↓stepA, ↓callA, ev, Env.get_put_some, Env.get_envOf, ↓e_move, ↓e_assign, ↓e_binOp, ↓e_pick, b_leq, b_geq, ofVal, ↓thenA, reduceIte, Nat.reduceEqDiff, List.getElem?_cons_zero, List.getElem?_cons_succ, Option.getD_some, decide_true, decide_false, Option.bind_some, ↓reduceIte, yieldA, hq, List.getElem?_cons_succ, Option.some.injEq, Bool.false_eq_true, reduceCtorEq]
    refine hK1 _ _ _ ?_
    clear hK1 K1
    refine WP.ret ?_
    simp only [Env.get_put_some, reduceIte, Option.map_some, ↓reduceIte, retA, resA]
    exact ⟨_, rfl, ret_p (Left.refl hlt) (.bool _) hk⟩

theorem c53 {x lo hi : Int} (hk : K (.bool (within x lo hi)) h n) : CA Try.prog 53 [.int .i64 x, .int .i64 lo, .int .i64 hi] h n K := by
  refine CA.conv (CA.enter (N := 15) (rs := [.tmp 6]) hT Try.call53 Try.func53 rfl rfl (by simp) rfl fun hlt => ?_)
  refine WP.seq_k fun K1 hK1 => WP.region hT rfl ?_
  simp only [↓opsA, ↓stepA, ↓callA, ev, ↓e_assign, ofVal, ↓thenA]
  refine hK1 _ _ _ ?_
  clear hK1 K1
  unfold within at hk
  by_cases hq : lo ≤ x
  all_goals
    simp only [hq, decide_true, decide_false, Bool.true_and, Bool.false_and] at hk
    refine WP.seq_k fun K1 hK1 => WP.region hT rfl ?_
    simp only [↓opsA, ↓stepA, ↓callA, ev, Env.get_put_some, Env.get_envOf, ↓e_move, ↓e_assign, ↓e_binOp, ↓e_pick, b_leq, ofVal, ↓thenA, reduceIte, Nat.reduceEqDiff, List.getElem?_cons_zero, List.getElem?_cons_succ, Option.getD_some, decide_true, decide_false, Option.bind_some, ↓reduceIte, yieldA, hq, List.getElem?_cons_succ, Option.some.injEq, Bool.false_eq_true, reduceCtorEq]
    refine hK1 _ _ _ ?_
    clear hK1 K1
    refine WP.ret ?_
    simp only [Env.get_put_some, reduceIte, Option.map_some, ↓reduceIte, retA, resA]
    exact ⟨_, rfl, ret_p (Left.refl hlt) (.bool _) hk⟩

theorem c52 {x : AV} {l : List ActD} (hx : ActsR x l) (hk : K (.bool (decide (12 < l.length))) h n) : CA Try.prog 52 [x] h n K := by
  obtain ⟨es, hes, hal, hml, _, _⟩ := hx
  have hel := all2_length hal
  refine CA.conv (CA.enter (N := 6) (rs := [.tmp 2]) hT Try.call52 Try.func52 rfl rfl (by simp) rfl fun hlt => ?_)
  refine WP.seq_k fun K1 hK1 => WP.region hT rfl ?_
  simp only [↓opsA, ↓stepA, ↓callA, ev, ↓e_assign, ofVal, ↓thenA]
  refine hK1 _ _ _ ?_
  clear hK1 K1
  refine WP.seq_k fun K1 hK1 => WP.region hT rfl ?_
  simp only [↓opsA, ↓stepA, ↓e_len1, ↓callA, ev, Env.get_put_some, Env.get_envOf, ↓e_move, ↓e_assign, ↓e_binOp, b_gtr, ofVal, ↓thenA, reduceIte, Nat.reduceEqDiff, List.getElem?_cons_zero, Option.getD_some, ↓reduceIte, T_81, T_38, rdSl_emp hes]
  refine hK1 _ _ _ ?_
  clear hK1 K1
  refine WP.ret ?_
  simp only [Env.get_put_some, reduceIte, Option.map_some, ↓reduceIte, retA, resA]
  refine ⟨_, rfl, ret_p (Left.refl hlt) (.bool _) ?_⟩
  have : decide ((12 : Int) < (es.length : Int)) = decide (12 < l.length) := by rw [hel]; congr 1; simp; omega
  simpa [resV, this] using hk

theorem c81 {x : AV} {l : List (List ActD)} (hx : ActSSR x l) (hk : K (.int .i64 (idxV (l.findIdx? fun s => decide (12 < s.length)))) h n) : CA Try.prog 81 [x, .fn 52 []] h n K :=
  idxF_gen (tf := 84) hT Try.call81 Try.func81 rfl rfl rfl rfl tyActs_38 hx (fun _ _ _ _ hR hk => c52 hR hk) hk

theorem c51 {x : AV} {l : List (List ActD)} (hx : ActSSR x l) (hk : K (.bool (l.any fun s => decide (12 < s.length))) h n) : CA Try.prog 51 [x, .fn 52 []] h n K :=
  conF_gen hT Try.call51 Try.func51 rfl rfl rfl hx (fun _ hk => c81 hx hk) hk

def faultA (a : ActD) : Option Int := if within a.kind 2 7 = false then some 3 else if a.txn ≠ 0 then some 1 else none
def sessFault (l : List (List ActD)) : Int := if l.length < 1 ∨ 5 < l.length ∨ l.any (fun s => decide (12 < s.length)) = true then 2 else (l.flatten.findSome? faultA).getD 0

end
end Go.Proofs.Ytplkjfnjdekgpaa
