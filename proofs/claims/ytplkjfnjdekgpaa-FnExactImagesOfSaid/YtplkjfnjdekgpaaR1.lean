/- Row 1: what its functions do. Own work. -/
import Derived.Test.YtplkjfnjdekgpaaLtSeat
import Derived.Test.YtplkjfnjdekgpaaLtFamF
namespace Go.Proofs.Ytplkjfnjdekgpaa
open Go

/-- A cell: key and value. -/
def CellR (e : AV) (a : Int × Int) : Prop := e = .agg [.int .i64 a.1, .int .i64 a.2]

theorem cell75 : TyR T 75 CellR where
  pos := by decide
  cell := rfl
  zlen := rfl
  part e a h := by subst h; rfl
  len e a h := by subst h; rfl
  good e a h := by subst h; rfl
  lt e a n h := by subst h; simp only [lt_agg, lt_int, List.mem_cons, List.not_mem_nil, or_false, forall_eq_or_imp, forall_eq, and_self]
  setz e a h := by subst h; rfl

theorem cell73 : TyR T 73 CellR where
  pos := by decide
  cell := rfl
  zlen := rfl
  part e a h := by subst h; rfl
  len e a h := by subst h; rfl
  good e a h := by subst h; rfl
  lt e a n h := by subst h; simp only [lt_agg, lt_int, List.mem_cons, List.not_mem_nil, or_false, forall_eq_or_imp, forall_eq, and_self]
  setz e a h := by subst h; rfl

section
variable {h : Heap} {n : Nat} {K : AV → Heap → Nat → Prop}

theorem c45 {e : AV} {a : Int × Int} (ha : CellR e a) (hk : ∀ r, CellR r a → K r h n) : CA Try.prog 45 [e] h n K := by
  subst ha
  refine CA.conv (CA.enter (N := 11) (rs := [.cell 2 73]) hT Try.call45 Try.func45 rfl rfl (by simp) rfl fun hlt => ?_)
  refine WP.seq_k fun K1 hK1 => WP.region hT rfl ?_
  simp only [↓opsA, ↓stepA, ↓callA, ev, Env.get_envOf, ↓e_alloc, ↓e_box, ↓thenA, Nat.pos_of_neZero, good_agg, AV.cells_agg, Nat.reduceAdd, Nat.add_assoc, true_and, List.getElem?_cons_zero, Option.getD_some, List.length_cons, List.length_nil, Nat.zero_add, T_75, T_73]
  refine hK1 _ _ _ ?_
  clear hK1 K1
  refine WP.seq_k fun K1 hK1 => WP.region hT rfl ?_
  simp only [↓opsA, ↓stepA, ↓callA, ↓e_alloc, ↓thenA, Nat.pos_of_neZero, Nat.reduceAdd, Nat.add_assoc, true_and, T_73]
  refine hK1 _ _ _ ?_
  clear hK1 K1
  refine WP.seq_k fun K1 hK1 => WP.region hT rfl ?_
  simp only [↓opsA, ↓stepA, ↓callA, ev, Env.get_put_some, Env.put_none, ↓e_load, ↓e_store, ↓e_fieldAddr, rdSl_sl, setPart_agg, ↓thenA, Heap.upd_get, Heap.upd_upd, good_int, AV.cells_int, AV.cells_agg, reduceIte, Nat.reduceEqDiff, Nat.reduceLeDiff, Nat.reduceAdd, true_and, List.getElem?_cons_zero, List.length_cons, List.length_nil, List.set_cons_zero, Nat.zero_add, Nat.add_zero, List.drop_zero, List.take_succ_cons, List.take_zero, List.drop_succ_cons, List.cons_append, List.nil_append, Nat.left_eq_add, Nat.one_ne_zero, Nat.lt_add_one, ↓reduceIte, Nat.le_refl, T_75, T_73, T_2, part, cellOk]
  refine hK1 _ _ _ ?_
  clear hK1 K1
  refine WP.seq_k fun K1 hK1 => WP.region hT rfl ?_
  simp only [↓opsA, ↓stepA, ↓callA, ev, Env.get_put_some, Env.put_none, ↓e_load, ↓e_store, ↓e_fieldAddr, rdSl_sl, setPart_agg, ↓thenA, Heap.upd_get, Heap.upd_upd, good_int, AV.cells_int, AV.cells_agg, reduceIte, Nat.reduceEqDiff, Nat.reduceAdd, true_and, List.getElem?_cons_zero, List.getElem?_cons_succ, List.length_cons, List.length_nil, List.set_cons_zero, Nat.zero_add, Nat.add_zero, List.drop_zero, List.take_succ_cons, List.take_zero, List.drop_succ_cons, List.drop_nil, List.cons_append, List.nil_append, List.append_nil, Nat.left_eq_add, Nat.one_ne_zero, Nat.lt_add_one, ↓reduceIte, Nat.le_refl, T_75, T_73, T_2, part, cellOk]
  refine hK1 _ _ _ ?_
  clear hK1 K1
  refine WP.seq_k fun K1 hK1 => WP.region hT rfl ?_
  simp only [↓opsA, ↓stepA, ↓callA, ev, Env.get_put_some, Env.put_none, ↓e_load, ↓e_store, rdSl_sl, setPart_agg, ↓thenA, Heap.upd_get, Heap.upd_upd, Heap.upd_sort, Nat.pos_of_neZero, good_agg, AV.cells_agg, reduceIte, Nat.reduceEqDiff, Nat.reduceAdd, true_and, List.getElem?_cons_zero, List.length_cons, List.length_nil, List.set_cons_zero, Nat.zero_add, Nat.add_zero, List.drop_zero, List.take_succ_cons, List.take_zero, List.drop_succ_cons, List.drop_nil, List.nil_append, List.append_nil, decide_true, Nat.lt_add_one, ↓reduceIte, Nat.le_refl, Nat.add_left_cancel_iff, T_73, part, cellOk]
  refine hK1 _ _ _ ?_
  clear hK1 K1
  refine WP.ret ?_
  simp only [Env.get_put_some, rdSl_sl, Heap.upd_get, Nat.pos_of_neZero, AV.cells_agg, reduceIte, Nat.reduceEqDiff, Nat.reduceAdd, List.getElem?_cons_zero, List.length_cons, List.length_nil, Nat.zero_add, List.drop_zero, List.take_succ_cons, List.take_zero, decide_true, Option.bind_some, Option.map_some, ↓reduceIte, Nat.le_refl, Nat.add_left_cancel_iff, T_73, retA, resA, cellA, resV, part, cellOk]
  refine ⟨_, rfl, ret_p ?_ ?_ (hk _ rfl)⟩
  · repeat (first | exact Left.refl hlt | refine Left.upd (by omega) ?_)
  · exact cell73.lt _ a n rfl

theorem c47 {e e' : AV} {a b : Int × Int} (ha : CellR e a) (hb : CellR e' b) (hk : K (.bool (decide (a = b))) h n) : CA Try.prog 47 [e, e'] h n K := by
  subst ha hb
  refine CA.conv (CA.enter (N := 15) (rs := [.tmp 4]) hT Try.call47 Try.func47 rfl rfl (by simp) rfl fun hlt => ?_)
  refine WP.seq_k fun K1 hK1 => WP.region hT rfl ?_
  simp only [↓opsA, ↓stepA, ↓callA, ev, Env.get_put_some, Env.get_envOf, ↓e_assign, ↓e_box, ofVal, ↓thenA, Nat.pos_of_neZero, good_agg, AV.cells_agg, reduceIte, Nat.reduceEqDiff, Nat.reduceAdd, Nat.add_assoc, true_and, List.getElem?_cons_zero, List.getElem?_cons_succ, Option.getD_some, List.length_cons, List.length_nil, Nat.zero_add, ↓reduceIte, T_73]
  refine hK1 _ _ _ ?_
  clear hK1 K1
  refine WP.seq_k fun K2 hK2 => ?_
  refine WP.seq_k fun K1 hK1 => WP.region hT rfl ?_
  simp only [↓opsA, ↓stepA, ↓callA, ev, Env.get_put_some, ↓e_binOp, ↓e_load, ↓e_fieldAddr, b_neq, rdSl_sl, ↓thenA, Heap.upd_get, AV.cells_agg, reduceIte, Nat.reduceEqDiff, true_and, List.getElem?_cons_zero, List.length_cons, List.length_nil, Nat.zero_add, Nat.add_zero, List.drop_zero, List.take_succ_cons, List.take_zero, Nat.left_eq_add, Nat.one_ne_zero, Nat.lt_add_one, ↓reduceIte, Nat.le_refl, T_73, T_2, part, cellOk]
  refine hK1 _ _ _ ?_
  clear hK1 K1
  refine WP.cond (by simp only [ev, Env.get_put_some, ↓reduceIte]; rfl) (fun hc => ?_) (fun hc => ?_)
  · refine WP.seq_k fun K1 hK1 => WP.region hT rfl ?_
    simp only [↓opsA, ↓stepA, ↓callA, ev, ↓e_assign, ofVal, ↓thenA]
    refine hK1 _ _ _ ?_
    clear hK1 K1
    refine WP.ret ?_
    simp only [Env.get_put_some, ↓thenA, reduceIte, Option.map_some, ↓reduceIte, retA, resA]
    refine ⟨_, rfl, ret_p ?_ (.bool _) ?_⟩
    · repeat (first | exact Left.refl hlt | refine Left.upd (by omega) ?_)
    have hne : a ≠ b := fun he => by subst he; simp at hc
    simpa [resV, hne] using hk
  refine WP.skip (hK2 _ _ _ ?_)
  clear hK2 K2
  refine WP.seq_k fun K2 hK2 => ?_
  refine WP.seq_k fun K1 hK1 => WP.region hT rfl ?_
  simp only [↓opsA, ↓stepA, ↓callA, ev, Env.get_put_some, ↓e_binOp, ↓e_load, ↓e_fieldAddr, b_neq, rdSl_sl, ↓thenA, Heap.upd_get, AV.cells_agg, reduceIte, Nat.reduceEqDiff, true_and, List.getElem?_cons_zero, List.getElem?_cons_succ, List.length_cons, List.length_nil, Nat.zero_add, List.drop_zero, List.take_succ_cons, List.take_zero, Nat.left_eq_add, Nat.one_ne_zero, Nat.lt_add_one, ↓reduceIte, Nat.le_refl, T_73, T_2, part, cellOk]
  refine hK1 _ _ _ ?_
  clear hK1 K1
  refine WP.cond (by simp only [ev, Env.get_put_some, ↓reduceIte]; rfl) (fun hc2 => ?_) (fun hc2 => ?_)
  · refine WP.seq_k fun K1 hK1 => WP.region hT rfl ?_
    simp only [↓opsA, ↓stepA, ↓callA, ev, ↓e_assign, ofVal, ↓thenA]
    refine hK1 _ _ _ ?_
    clear hK1 K1
    refine WP.ret ?_
    simp only [Env.get_put_some, ↓thenA, reduceIte, Option.map_some, ↓reduceIte, retA, resA]
    refine ⟨_, rfl, ret_p ?_ (.bool _) ?_⟩
    · repeat (first | exact Left.refl hlt | refine Left.upd (by omega) ?_)
    have hne : a ≠ b := fun he => by subst he; simp at hc2
    simpa [resV, hne] using hk
  refine WP.skip (hK2 _ _ _ ?_)
  clear hK2 K2
  refine WP.seq_k fun K1 hK1 => WP.region hT rfl ?_
  simp only [↓opsA, ↓stepA, ↓callA, ev, ↓e_assign, ofVal, ↓thenA]
  refine hK1 _ _ _ ?_
  clear hK1 K1
  refine WP.ret ?_
  simp only [Env.get_put_some, reduceIte, Option.map_some, ↓reduceIte, retA, resA]
  refine ⟨_, rfl, ret_p ?_ (.bool _) ?_⟩
  · repeat (first | exact Left.refl hlt | refine Left.upd (by omega) ?_)
  have he : a = b := Prod.ext (by simpa using hc) (by simpa using hc2)
  simpa [resV, he] using hk

theorem c11 {x : AV} {l : List (Int × Int)} (hx : SlR 2 CellR x l) (hl : l.length ≤ 1048576) (hk : ∀ r, SlR 2 CellR r l → K r h n) : CA Try.prog 11 [x] h n K :=
  toS_gen (φ := fun a => a) (R := CellR) (U := CellR) hT Try.call11 Try.func11 rfl rfl rfl rfl rfl cell75 cell73 (by decide) hx hl (fun h n K e a _ hR hk => c45 hR hk) (fun r hr => hk r (by rw [List.map_id'] at hr; exact hr))

theorem c9 {x : AV} {l : List (Int × Int)} (hx : SlR 2 CellR x l) {k : Int} (h0 : 0 ≤ k) (h1 : k ≤ 4611686018427387904) (hk : K (.int .i64 (left (sizL (fun _ => 0) l) k)) h n) : CA Try.prog 9 [x, .int .i64 k] h n K :=
  szS0_gen (t := 75) hT Try.call9 Try.func9 rfl rfl rfl rfl rfl hx h0 h1 hk

theorem c13 {x y : AV} {l l2 : List (Int × Int)} (hx : SlR 2 CellR x l) (hy : SlR 2 CellR y l2) (hk : K (.bool (decide (l = l2))) h n) : CA Try.prog 13 [x, y] h n K :=
  eqS_gen hT hM Try.call13 Try.func13 rfl rfl rfl rfl cell73 cell73 hx hy (fun _ _ _ _ _ _ _ hR hR' hk => c47 hR hR' hk) hk

theorem cell_neq {t : Nat} (ht : T t = T 73) (e e' : AV) (a b : Int × Int) (K : AV → Prop) (ha : CellR e a) (hb : CellR e' b) (hk : K (.bool (decide (a ≠ b)))) : binP T .neq t e e' K := by
  subst ha hb
  refine ⟨[(0, 2), (1, 2)], by rw [ht]; rfl, by rw [ht]; rfl, ⟨trivial, trivial, trivial⟩, _, rfl, ?_⟩
  have : decide (a ≠ b) = !((a.1 == b.1) && ((a.2 == b.2) && true)) := by
    rw [Bool.eq_iff_iff]
    simp [Prod.ext_iff]
  rw [this] at hk
  exact hk

theorem c44 {x y : AV} {l l2 : List (Int × Int)} (hx : SlR 2 CellR x l) (hy : SlR 2 CellR y l2) (hk : K (.bool (decide (l = l2))) h n) : CA Try.prog 44 [x, y] h n K :=
  eqS0_gen hT hM Try.call44 Try.func44 rfl rfl rfl rfl cell73 cell73 hx hy (cell_neq rfl) hk

theorem c46 {x y : AV} {l l2 : List (Int × Int)} (hx : SlR 2 CellR x l) (hy : SlR 2 CellR y l2) (hk : K (.bool (decide (l = l2))) h n) : CA Try.prog 46 [x, y] h n K :=
  eqG_gen hT hM Try.call46 Try.func46 rfl rfl rfl rfl cell73 cell73 hx hy (cell_neq rfl) hk

theorem c10 {x y : AV} {l l2 : List (Int × Int)} (hx : SlR 2 CellR x l) (hy : SlR 2 CellR y l2) (hk : K (.bool (decide (l = l2))) h n) : CA Try.prog 10 [x, y] h n K := by
  refine CA.conv (CA.enter (N := 8) (rs := [.tmp 4]) hT Try.call10 Try.func10 rfl rfl (by simp) rfl fun hlt => ?_)
  refine WP.seq_k fun K1 hK1 => WP.region hT rfl ?_
  simp only [↓opsA, ↓stepA, ↓callA, ev, ↓e_assign, ofVal, ↓thenA]
  refine hK1 _ _ _ ?_
  clear hK1 K1
  refine WP.seq_k fun K1 hK1 => WP.region hT rfl ?_
  simp only [↓opsA, ↓stepA, ↓callA, List.map_cons, List.map_nil, ev, Env.get_put_some, Env.get_envOf, ↓e_move, ↓e_assign, ↓thenA, reduceIte, Nat.reduceEqDiff, List.getElem?_cons_zero, List.getElem?_cons_succ, Option.getD_some, List.append_nil, ↓reduceIte]
  refine c44 hx hy (hK1 _ _ _ ?_)
  clear hK1 K1
  refine WP.ret ?_
  simp only [Env.get_put_some, reduceIte, Option.map_some, ↓reduceIte, retA, resA]
  exact ⟨_, rfl, ret_p (Left.refl hlt) (.bool _) hk⟩

theorem c12 {x y : AV} {l l2 : List (Int × Int)} (hx : SlR 2 CellR x l) (hy : SlR 2 CellR y l2) (hk : K (.bool (decide (l = l2))) h n) : CA Try.prog 12 [x, y] h n K := by
  refine CA.conv (CA.enter (N := 8) (rs := [.tmp 4]) hT Try.call12 Try.func12 rfl rfl (by simp) rfl fun hlt => ?_)
  refine WP.seq_k fun K1 hK1 => WP.region hT rfl ?_
  simp only [↓opsA, ↓stepA, ↓callA, ev, ↓e_assign, ofVal, ↓thenA]
  refine hK1 _ _ _ ?_
  clear hK1 K1
  refine WP.seq_k fun K1 hK1 => WP.region hT rfl ?_
  simp only [↓opsA, ↓stepA, ↓callA, List.map_cons, List.map_nil, ev, Env.get_put_some, Env.get_envOf, ↓e_move, ↓e_assign, ↓thenA, reduceIte, Nat.reduceEqDiff, List.getElem?_cons_zero, List.getElem?_cons_succ, Option.getD_some, List.append_nil, ↓reduceIte]
  refine c46 hx hy (hK1 _ _ _ ?_)
  clear hK1 K1
  refine WP.ret ?_
  simp only [Env.get_put_some, reduceIte, Option.map_some, ↓reduceIte, retA, resA]
  exact ⟨_, rfl, ret_p (Left.refl hlt) (.bool _) hk⟩

theorem left_nonneg {s : Nat} {k : Int} (_ : 0 ≤ k) (h : ¬ left s k < 0) : (s : Int) ≤ k ∧ left s k = k - s := by
  unfold left at h ⊢
  split
  · rename_i hq; exact ⟨hq, rfl⟩
  · rename_i hq; rw [if_neg hq] at h; omega

theorem siz_zero {α : Type} (l : List α) : sizL (fun _ => 0) l = l.length := by
  have hsum : ∀ l : List α, (l.map fun _ => 0).sum = 0 := fun l => by induction l with
    | nil => rfl
    | cons x l ih => simp [ih]
  unfold sizL; rw [hsum]; rfl

theorem c3 {x y : AV} {l l2 : List (Int × Int)} (hx : SlR 2 CellR x l) (hy : SlR 2 CellR y l2) (hk : K (.bool true) h n) : CA Try.prog 3 [x, y] h n K := by
  refine CA.conv (CA.enter (N := 45) (rs := [.tmp 4]) hT Try.call3 Try.func3 rfl rfl (by simp) rfl fun hlt => ?_)
  refine WP.seq_k fun K1 hK1 => WP.region hT rfl ?_
  simp only [↓opsA, ↓stepA, ↓callA, ev, ↓e_assign, ofVal, ↓thenA]
  refine hK1 _ _ _ ?_
  clear hK1 K1
  refine WP.seq_k fun K1 hK1 => WP.region hT rfl ?_
  simp only [↓opsA, ↓stepA, ↓callA, ev, ↓e_assign, ofVal, ↓thenA]
  refine hK1 _ _ _ ?_
  clear hK1 K1
  refine WP.seq_k fun K1 hK1 => WP.region hT rfl ?_
  simp only [↓opsA, ↓stepA, ↓callA, List.map_cons, List.map_nil, ev, Env.get_put_some, Env.get_envOf, ↓e_move, ↓e_assign, ↓thenA, reduceIte, Nat.reduceEqDiff, List.getElem?_cons_zero, Option.getD_some, List.append_nil, ↓reduceIte]
  refine c9 hx (by omega) (by omega) (hK1 _ _ _ ?_)
  clear hK1 K1
  refine WP.seq_k fun K2 hK2 => ?_
  refine WP.seq_k fun K1 hK1 => WP.region hT rfl ?_
  simp only [↓opsA, ↓stepA, ↓callA, ev, Env.get_put_some, ↓e_move, ↓e_binOp, b_lss, ofVal, ↓thenA, reduceIte, ↓reduceIte]
  refine hK1 _ _ _ ?_
  clear hK1 K1
  refine WP.cond (by simp only [ev, Env.get_put_some, ↓reduceIte]; rfl) (fun hc => ?_) (fun hc => ?_)
  · refine WP.seq_k fun K1 hK1 => WP.region hT rfl ?_
    simp only [↓opsA, ↓stepA, ↓callA, ev, ↓e_assign, ofVal, ↓thenA]
    refine hK1 _ _ _ ?_
    clear hK1 K1
    refine WP.ret ?_
    simp only [Env.get_put_some, ↓thenA, reduceIte, Option.map_some, ↓reduceIte, retA, resA]
    exact ⟨_, rfl, ret_p (Left.refl hlt) (.bool _) hk⟩
  refine WP.skip (hK2 _ _ _ ?_)
  clear hK2 K2
  obtain ⟨b1, b2⟩ := left_nonneg (by omega) (of_decide_eq_false hc)
  have b3 := b1
  rw [siz_zero] at b3
  refine WP.seq_k fun K1 hK1 => WP.region hT rfl ?_
  simp only [↓opsA, ↓stepA, ↓callA, List.map_cons, List.map_nil, ev, Env.get_put_some, Env.get_envOf, ↓e_move, ↓e_assign, ↓thenA, reduceIte, Nat.reduceEqDiff, List.getElem?_cons_zero, List.getElem?_cons_succ, Option.getD_some, List.append_nil, ↓reduceIte]
  refine c9 hy (by omega) (by omega) (hK1 _ _ _ ?_)
  clear hK1 K1
  refine WP.seq_k fun K2 hK2 => ?_
  refine WP.seq_k fun K1 hK1 => WP.region hT rfl ?_
  simp only [↓opsA, ↓stepA, ↓callA, ev, Env.get_put_some, ↓e_move, ↓e_binOp, b_lss, ofVal, ↓thenA, reduceIte, ↓reduceIte]
  refine hK1 _ _ _ ?_
  clear hK1 K1
  refine WP.cond (by simp only [ev, Env.get_put_some, ↓reduceIte]; rfl) (fun hc2 => ?_) (fun hc2 => ?_)
  · refine WP.seq_k fun K1 hK1 => WP.region hT rfl ?_
    simp only [↓opsA, ↓stepA, ↓callA, ev, ↓e_assign, ofVal, ↓thenA]
    refine hK1 _ _ _ ?_
    clear hK1 K1
    refine WP.ret ?_
    simp only [Env.get_put_some, ↓thenA, reduceIte, Option.map_some, ↓reduceIte, retA, resA]
    exact ⟨_, rfl, ret_p (Left.refl hlt) (.bool _) hk⟩
  refine WP.skip (hK2 _ _ _ ?_)
  clear hK2 K2
  obtain ⟨d1, d2⟩ := left_nonneg (by omega) (of_decide_eq_false hc2)
  have d3 := d1
  rw [siz_zero] at d3
  have hl1 : l.length ≤ 1048576 := by omega
  have hl2 : l2.length ≤ 1048576 := by omega
  refine WP.seq_k fun K1 hK1 => WP.region hT rfl ?_
  simp only [↓opsA, ↓stepA, ↓callA, List.map_cons, List.map_nil, ev, Env.get_put_some, Env.get_envOf, ↓e_move, ↓e_assign, ↓thenA, reduceIte, Nat.reduceEqDiff, List.getElem?_cons_zero, List.getElem?_cons_succ, Option.getD_some, List.append_nil, ↓reduceIte]
  refine c11 hx hl1 fun r1 hr1 => c11 hy hl2 fun r2 hr2 => c10 hr1 hr2 (hK1 _ _ _ ?_)
  clear hK1 K1
  refine WP.seq_k fun K1 hK1 => WP.region hT rfl ?_
  simp only [↓opsA, ↓stepA, ↓callA, List.map_cons, List.map_nil, ev, Env.get_put_some, Env.get_envOf, ↓e_move, ↓e_assign, ↓thenA, reduceIte, Nat.reduceEqDiff, List.getElem?_cons_zero, Option.getD_some, List.append_nil, ↓reduceIte]
  refine c11 hx hl1 fun r3 hr3 => hK1 _ _ _ ?_
  clear hK1 K1
  refine WP.seq_k fun K1 hK1 => WP.region hT rfl ?_
  simp only [↓opsA, ↓stepA, ↓callA, List.map_cons, List.map_nil, ev, Env.get_put_some, Env.get_envOf, ↓e_move, ↓e_assign, ↓thenA, reduceIte, Nat.reduceEqDiff, List.getElem?_cons_zero, List.getElem?_cons_succ, Option.getD_some, List.append_nil, ↓reduceIte]
  refine c11 hy hl2 fun r4 hr4 => hK1 _ _ _ ?_
  clear hK1 K1
  refine WP.seq_k fun K1 hK1 => WP.region hT rfl ?_
  simp only [↓opsA, ↓stepA, ↓callA, List.map_cons, List.map_nil, ev, Env.get_put_some, ↓e_move, ↓e_assign, ↓thenA, reduceIte, Nat.reduceEqDiff, List.append_nil, ↓reduceIte]
  refine c12 hr3 hr4 (hK1 _ _ _ ?_)
  clear hK1 K1
  refine WP.seq_k fun K2 hK2 => ?_
  refine WP.seq_k fun K1 hK1 => WP.region hT rfl ?_
  simp only [↓opsA, ↓stepA, ↓callA, ev, Env.get_put_some, ↓e_move, ↓e_binOp, b_bneq, ↓thenA, reduceIte, Nat.reduceEqDiff, true_and, ↓reduceIte, T_4]
  refine hK1 _ _ _ ?_
  clear hK1 K1
  refine WP.cond (by simp only [ev, Env.get_put_some, ↓reduceIte]; rfl) (fun hc => ?_) (fun hc => ?_)
  · exfalso
    simp at hc
  refine WP.skip (hK2 _ _ _ ?_)
  clear hK2 K2
  refine WP.seq_k fun K2 hK2 => ?_
  refine WP.seq_k fun K1 hK1 => WP.region hT rfl ?_
  simp only [↓opsA, ↓stepA, ↓callA, List.map_cons, List.map_nil, ev, Env.get_put_some, Env.get_envOf, ↓e_move, ↓e_unOp, ↓thenA, reduceIte, Nat.reduceEqDiff, List.getElem?_cons_zero, Option.getD_some, List.append_nil, ↓reduceIte]
  refine c11 hx hl1 fun r5 hr5 => c13 hr3 hr5 (hK1 _ _ _ ?_)
  clear hK1 K1
  refine WP.cond (by simp only [ev, Env.get_put_some, ↓reduceIte]; rfl) (fun hc => ?_) (fun hc => ?_)
  · exfalso
    simp at hc
  refine WP.skip (hK2 _ _ _ ?_)
  clear hK2 K2
  refine WP.seq_k fun K2 hK2 => ?_
  refine WP.seq_k fun K1 hK1 => WP.region hT rfl ?_
  simp only [↓opsA, ↓stepA, ↓callA, List.map_cons, List.map_nil, ev, Env.get_put_some, Env.get_envOf, ↓e_move, ↓e_unOp, ↓thenA, reduceIte, Nat.reduceEqDiff, List.getElem?_cons_zero, List.getElem?_cons_succ, Option.getD_some, List.append_nil, decide_true, ↓reduceIte]
  refine c11 hy hl2 fun r6 hr6 => c13 hr4 hr6 (hK1 _ _ _ ?_)
  clear hK1 K1
  refine WP.cond (by simp only [ev, Env.get_put_some, ↓reduceIte]; rfl) (fun hc => ?_) (fun hc => ?_)
  · exfalso
    simp at hc
  refine WP.skip (hK2 _ _ _ ?_)
  clear hK2 K2
  refine WP.seq_k fun K1 hK1 => WP.region hT rfl ?_
  simp only [↓opsA, ↓stepA, ↓callA, ev, ↓e_assign, ofVal, ↓thenA, decide_true]
  refine hK1 _ _ _ ?_
  clear hK1 K1
  refine WP.ret ?_
  simp only [Env.get_put_some, reduceIte, Option.map_some, ↓reduceIte, retA, resA]
  exact ⟨_, rfl, ret_p (Left.refl hlt) (.bool _) hk⟩

end
end Go.Proofs.Ytplkjfnjdekgpaa
