import Derived.Test.YtcngfjmfgeckmaaZ19i
set_option linter.unusedSimpArgs false
set_option linter.unusedVariables false
set_option linter.unusedSectionVars false
namespace Go.Proofs.Ytcngfjmfgeckmaa
open Go
def Int64SR : AV → List Int → Prop := SlR 1 Int64R
def wtInt64S (l : List Int) : Nat := (l.map wtInt).sum
structure IntsResultD where
  code : Int
  list : List Int
  deriving DecidableEq
def IntsResultR (e : AV) (a : IntsResultD) : Prop := ∃ x1, e = .agg [.int .i64 a.code, x1] ∧ I64 a.code ∧ Int64SR x1 a.list
def wsIntsResult (a : IntsResultD) : Nat := wtInt64S a.list
structure CellsResultD where
  code : Int
  cells : List CellD
  deriving DecidableEq
section
variable {h : Heap} {n : Nat} {K : AV → Heap → Nat → Prop}
theorem c61 {x y : AV} {l l2 : List Int} (hx : Int64SR x l) (hy : Int64SR y l2) (hk : K (.bool (decide (l = l2))) h n) : CA Try.prog 61 [x, y] h n K :=
  eqS0_gen hT hM Try.call61 Try.func61 rfl rfl rfl rfl tyInt_2 tyInt_2 hx hy (fun e e' a b K hR hR' hk => by obtain ⟨rfl, _⟩ := hR; obtain ⟨rfl, _⟩ := hR'; rw [b_neq]; exact hk) hk
theorem c21 {x y : AV} {a b : IntsResultD} (hx : IntsResultR x a) (hy : IntsResultR y b) (hk : K (.bool (decide (a = b))) h n) : CA Try.prog 21 [x, y] h n K := by
  obtain ⟨x1, rfl, h0, h1⟩ := hx
  obtain ⟨y1, rfl, j0, j1⟩ := hy
  have z1 := one_cells h1.isOne
  have zy1 := one_cells j1.isOne
  have hd : decide (a = b) = (decide (a.code = b.code) && decide (a.list = b.list)) := by cases a; cases b; simp [IntsResultD.mk.injEq]
  rw [hd] at hk
  refine CA.conv (CA.enter (N := 16) (rs := [.tmp 4]) hT Try.call21 Try.func21 rfl rfl (by simp) rfl fun hlt => ?_)
  refine WP.seq_k fun K1 hK1 => WP.region hT rfl ?_
  refine q_S ?_
  refine hK1 _ _ _ ?_
  clear hK1 K1
  refine WP.seq_k fun K3 hK3 => ?_
  refine WP.seq_k fun K1 hK1 => WP.region hT rfl ?_
  refine q_fS (And.intro z1 zy1) ?_
  refine hK1 _ _ _ ?_
  clear hK1 K1
  refine WP.cond (by simp only [ev, Env.get_put_some, ↓reduceIte]; rfl) (fun hc => ?_) (fun hc => ?_)
  · refine WP.seq_k fun K1 hK1 => WP.region hT rfl ?_
    refine q_S ?_
    refine hK1 _ _ _ ?_
    clear hK1 K1
    refine WP.ret ?_
    refine qr_S ?_
    refine ⟨_, rfl, ret_p (Left.upd (by omega) (Left.upd (Nat.le_refl _) (Left.refl hlt))) (.bool _) ?_⟩
    have hne : a.code ≠ b.code := by simpa using hc
    simpa [resV, hne] using hk
  have he0 : a.code = b.code := by simpa using hc
  refine WP.skip (hK3 _ _ _ ?_)
  clear hK3 K3 hc
  refine WP.seq_k fun K3 hK3 => ?_
  refine WP.seq_k fun K1 hK1 => WP.region hT rfl ?_
  refine q_fS (And.intro z1 zy1) ?_
  refine c61 h1 j1 ?_
  refine hK1 _ _ _ ?_
  clear hK1 K1
  refine WP.cond (by simp only [ev, Env.get_put_some, ↓reduceIte]; rfl) (fun hc => ?_) (fun hc => ?_)
  · refine WP.seq_k fun K1 hK1 => WP.region hT rfl ?_
    refine q_S ?_
    refine hK1 _ _ _ ?_
    clear hK1 K1
    refine WP.ret ?_
    refine qr_S ?_
    refine ⟨_, rfl, ret_p (Left.upd (by omega) (Left.upd (Nat.le_refl _) (Left.refl hlt))) (.bool _) ?_⟩
    have hne : a.list ≠ b.list := by simpa using hc
    simpa [resV, hne] using hk
  have he1 : a.list = b.list := by simpa using hc
  refine WP.skip (hK3 _ _ _ ?_)
  clear hK3 K3 hc
  refine WP.seq_k fun K1 hK1 => WP.region hT rfl ?_
  refine q_S ?_
  refine hK1 _ _ _ ?_
  clear hK1 K1
  refine WP.ret ?_
  refine qr_S ?_
  refine ⟨_, rfl, ret_p (Left.upd (by omega) (Left.upd (Nat.le_refl _) (Left.refl hlt))) (.bool _) ?_⟩
  simpa [resV, he0, he1] using hk
def HeRec (e : AV) (w : Nat) (k : Int) : Prop := w = 8 ∧ e = .agg [.int .i64 (k), .int .i64 (k + 1), .int .i64 (k + 1 + 1), .bool (decide ((k + 1 + 1 + 1).tmod 3 = 0)), .int .i64 (k + 1 + 1 + 1 + 1), .bool (decide ((k + 1 + 1 + 1 + 1 + 1).tmod 3 = 0)), .int .i64 (k + 1 + 1 + 1 + 1 + 1 + 1), .int .i64 (k + 1 + 1 + 1 + 1 + 1 + 1 + 1)]
theorem HeRec.ltn {e : AV} {w : Nat} {k : Int} (h : HeRec e w k) (m : Nat) : e.Lt m := by
  obtain ⟨_, rfl⟩ := h
  rw [lt_agg]; intro u hu
  simp only [List.mem_cons, List.not_mem_nil, or_false] at hu
  rcases hu with rfl | rfl | rfl | rfl | rfl | rfl | rfl | rfl
  · exact .int _ _
  · exact .int _ _
  · exact .int _ _
  · exact .bool _
  · exact .int _ _
  · exact .bool _
  · exact .int _ _
  · exact .int _ _
def HdRecS (y : AV) (w : Nat) (k : Int) : Prop := ∃ ws, w = ws.sum ∧ ws.length ≤ 9223372036854775807 ∧ HdS 8 HeRec ws y 0 k
theorem HdRecS.ltn {y : AV} {w : Nat} {k : Int} (h : HdRecS y w k) (n : Nat) : y.Lt n := by obtain ⟨_, _, _, _, _, _, h, _⟩ := h; exact h n
theorem HdRecS.isOne {y : AV} {w : Nat} {k : Int} (h : HdRecS y w k) : y.one = true := by obtain ⟨_, _, _, _, _, h, _, _⟩ := h; exact h
def HdInt64S (y : AV) (w : Nat) (k : Int) : Prop := ∃ ws, w = ws.sum ∧ ws.length ≤ 9223372036854775807 ∧ HdS 1 HeInt ws y 0 k
theorem HdInt64S.ltn {y : AV} {w : Nat} {k : Int} (h : HdInt64S y w k) (n : Nat) : y.Lt n := by obtain ⟨_, _, _, _, _, _, h, _⟩ := h; exact h n
theorem HdInt64S.isOne {y : AV} {w : Nat} {k : Int} (h : HdInt64S y w k) : y.one = true := by obtain ⟨_, _, _, _, _, h, _, _⟩ := h; exact h
def HeIntsResult (e : AV) (w : Nat) (k : Int) : Prop := ∃ (y1 : AV) (w1 : Nat), w = 1 + w1 ∧ e = .agg [.int .i64 (k), y1] ∧ HdInt64S y1 w1 (k + 1)
theorem HeIntsResult.ltn {e : AV} {w : Nat} {k : Int} (h : HeIntsResult e w k) (m : Nat) : e.Lt m := by
  obtain ⟨_, _, _, rfl, h1⟩ := h
  rw [lt_agg]; intro u hu
  simp only [List.mem_cons, List.not_mem_nil, or_false] at hu
  rcases hu with rfl | rfl
  · exact .int _ _
  · exact h1.ltn m
def HeCell (e : AV) (w : Nat) (k : Int) : Prop := w = 2 ∧ e = .agg [.int .i64 (k), .int .i64 (k + 1)]
theorem HeCell.ltn {e : AV} {w : Nat} {k : Int} (h : HeCell e w k) (m : Nat) : e.Lt m := by
  obtain ⟨_, rfl⟩ := h
  rw [lt_agg]; intro u hu
  simp only [List.mem_cons, List.not_mem_nil, or_false] at hu
  rcases hu with rfl | rfl
  · exact .int _ _
  · exact .int _ _
def HdCellS (y : AV) (w : Nat) (k : Int) : Prop := ∃ ws, w = ws.sum ∧ ws.length ≤ 9223372036854775807 ∧ HdS 2 HeCell ws y 0 k
theorem HdCellS.ltn {y : AV} {w : Nat} {k : Int} (h : HdCellS y w k) (n : Nat) : y.Lt n := by obtain ⟨_, _, _, _, _, _, h, _⟩ := h; exact h n
theorem HdCellS.isOne {y : AV} {w : Nat} {k : Int} (h : HdCellS y w k) : y.one = true := by obtain ⟨_, _, _, _, _, h, _, _⟩ := h; exact h
def HeCellsResult (e : AV) (w : Nat) (k : Int) : Prop := ∃ (y1 : AV) (w1 : Nat), w = 1 + w1 ∧ e = .agg [.int .i64 (k), y1] ∧ HdCellS y1 w1 (k + 1)
theorem HeCellsResult.ltn {e : AV} {w : Nat} {k : Int} (h : HeCellsResult e w k) (m : Nat) : e.Lt m := by
  obtain ⟨_, _, _, rfl, h1⟩ := h
  rw [lt_agg]; intro u hu
  simp only [List.mem_cons, List.not_mem_nil, or_false] at hu
  rcases hu with rfl | rfl
  · exact .int _ _
  · exact h1.ltn m
theorem m22 {x' : AV} {l : List RecD} (hx : RecSR x' l) : MarkC Try.prog 22 HdRecS x' (wtRecS l) := by
  obtain ⟨es, hes, hal, hml, _, _⟩ := id hx
  have hel := all2_length hal
  unfold maxLen at hml
  have hm : MarkC Try.prog 22 (HdS 8 HeRec (l.map wtRec)) x' (wtRecS l) := by
    refine markS_gen (ts := 36) (t := 76) (z := 20) (r := 72) (N := 73) (T := T) (U := RecR) (w := wtRec) hT Try.call22 Try.func22 rfl rfl (by decide) (by decide) rfl rfl (fun e w k he m => he.ltn m) hx (fun e' a _ hU => ?_)
    intro Q E h n id ex b i e J k hte hid hrow hbi hib hbl h0 h1 h5 hk hkw hK
    obtain ⟨rfl, c0, c1, c2, c3, c4, c5⟩ := hU
    obtain ⟨cs, rfl, hl⟩ := hte.aggE
    cases hl with
    | cons u0 _ _ _ I0 J0 t0 hl0 d0 =>
    obtain ⟨rfl, rfl⟩ := t0.int
    cases hl0 with
    | cons u1 _ _ _ I1 J1 t1 hl1 d1 =>
    obtain ⟨rfl, rfl⟩ := t1.int
    cases hl1 with
    | cons u2 _ _ _ I2 J2 t2 hl2 d2 =>
    obtain ⟨rfl, rfl⟩ := t2.int
    cases hl2 with
    | cons u3 _ _ _ I3 J3 t3 hl3 d3 =>
    obtain ⟨rfl, rfl⟩ := t3.bool
    cases hl3 with
    | cons u4 _ _ _ I4 J4 t4 hl4 d4 =>
    obtain ⟨rfl, rfl⟩ := t4.int
    cases hl4 with
    | cons u5 _ _ _ I5 J5 t5 hl5 d5 =>
    obtain ⟨rfl, rfl⟩ := t5.bool
    cases hl5 with
    | cons u6 _ _ _ I6 J6 t6 hl6 d6 =>
    obtain ⟨rfl, rfl⟩ := t6.int
    cases hl6 with
    | cons u7 _ _ _ I7 J7 t7 hl7 d7 =>
    obtain ⟨rfl, rfl⟩ := t7.int
    cases hl7 with
    | nil =>
    unfold wtRec at hkw
    have hl : List.take b.length b = b := by simp
    have hb0 : (0 : Int) ≤ i := by omega
    have hb1 : (i : Int) < b.length := by omega
    have hgs : ∀ e, (b.set i e)[i]? = some e := fun e => List.getElem?_set_self hib
    have hts : ∀ e, List.take b.length (b.set i e) = b.set i e := fun e => List.take_of_length_le (by simp)
    have wr0 : IntKind.i64.wrap (k + 1) = k + 1 := wrap_in (by omega) (by omega)
    refine WP.seq_k fun K1 hK1 => WP.region hT rfl ?_
    simp only [↓planL, ↓opsA, List.contains_nil, List.contains_cons, Bool.or_false, Bool.false_or, ↓stepA, ↓e_len1, ↓e_append1, ↓e_min1, ↓e_max1, ↓callA, List.toList_toArray, Int.toNat_natCast, List.map_cons, List.map_nil, ev, Env.get_put_some, Env.put_none, Env.get_envOf, ↓e_move, ↓e_assign, ↓e_alloc, ↓e_box, ↓e_binOp, ↓e_unOp, ↓e_nilCheck, ↓e_pick, ↓e_load, ↓e_store, ↓e_fieldAddr, ↓e_field, ↓e_indexAddr, ↓e_index, ↓e_extract, ↓e_convert, ↓e_makeSlice, ↓e_build, ↓e_buildSlice, ↓e_makeFunc, b_add, b_sub, b_mul, b_eql, b_neq, b_lss, b_leq, b_gtr, b_geq, b_and, b_or, b_quo, b_rem, b_shl, b_shr, b_seql, b_sneq, b_beql, b_bneq, u_not, u_neg, rdSl_ro, rdSl_nils, rdSl_sl, setPart_agg, setPart_bool, setPart_int, setPart_str, setPart_nils, setPart_ro, setPart_sl, ofVal, ↓thenA, ↓blockA, Heap.upd_get, Heap.upd_upd, Heap.upd_sort, Nat.add_lt_add_iff_left, Nat.lt_add_right_iff_pos, Nat.pos_of_neZero, good_bool, good_int, good_str, good_nils, good_ro, good_sl, good_ep, good_nilp, good_nilf, good_fn, good_agg, AV.cells_bool, AV.cells_int, AV.cells_str, AV.cells_nils, AV.cells_ro, AV.cells_sl, AV.cells_ep, AV.cells_nilp, AV.cells_nilf, AV.cells_fn, AV.cells_agg, reduceIte, Nat.reduceEqDiff, Nat.reduceLT, Nat.reduceLeDiff, Nat.reduceAdd, Nat.add_assoc, true_and, and_true, List.getElem?_cons_zero, List.getElem?_cons_succ, Option.getD_some, List.length_cons, List.length_nil, List.set_cons_zero, List.set_cons_succ, Nat.zero_add, Nat.add_zero, List.drop_zero, List.take_succ_cons, List.take_zero, List.drop_succ_cons, List.drop_nil, List.cons_append, List.nil_append, List.append_nil, Nat.add_eq, Nat.left_eq_add, Nat.add_eq_left, List.getElem?_nil, Nat.zero_lt_succ, decide_true, decide_false, Option.bind_some, Option.map_some, Nat.one_ne_zero, Nat.lt_add_one, ↓reduceIte, Nat.le_refl, Nat.add_left_cancel_iff, T_2, T_3, T_4, T_33, T_36, T_40, T_42, T_47, T_76, T_78, T_123, T_49, h0, h1, h5, hrow, hbi, hl, hgs, hts, List.length_set, List.set_set]
    refine ⟨hb0, hb1, hK1 _ _ _ ?_⟩
    clear hK1 K1
    refine WP.seq_k fun K1 hK1 => WP.region hT rfl ?_
    refine q_fS (And.intro h1 wr0) ?_
    refine hK1 _ _ _ ?_
    clear hK1 K1
    have wr1 : IntKind.i64.wrap (k + 1 + 1) = k + 1 + 1 := wrap_in (by omega) (by omega)
    refine WP.seq_k fun K1 hK1 => WP.region hT rfl ?_
    simp only [↓planL, ↓opsA, List.contains_nil, List.contains_cons, Bool.or_false, Bool.false_or, ↓stepA, ↓e_len1, ↓e_append1, ↓e_min1, ↓e_max1, ↓callA, List.toList_toArray, Int.toNat_natCast, List.map_cons, List.map_nil, ev, Env.get_put_some, Env.put_none, Env.get_envOf, ↓e_move, ↓e_assign, ↓e_alloc, ↓e_box, ↓e_binOp, ↓e_unOp, ↓e_nilCheck, ↓e_pick, ↓e_load, ↓e_store, ↓e_fieldAddr, ↓e_field, ↓e_indexAddr, ↓e_index, ↓e_extract, ↓e_convert, ↓e_makeSlice, ↓e_build, ↓e_buildSlice, ↓e_makeFunc, b_add, b_sub, b_mul, b_eql, b_neq, b_lss, b_leq, b_gtr, b_geq, b_and, b_or, b_quo, b_rem, b_shl, b_shr, b_seql, b_sneq, b_beql, b_bneq, u_not, u_neg, rdSl_ro, rdSl_nils, rdSl_sl, setPart_agg, setPart_bool, setPart_int, setPart_str, setPart_nils, setPart_ro, setPart_sl, ofVal, ↓thenA, ↓blockA, Heap.upd_get, Heap.upd_upd, Heap.upd_sort, Nat.add_lt_add_iff_left, Nat.lt_add_right_iff_pos, Nat.pos_of_neZero, good_bool, good_int, good_str, good_nils, good_ro, good_sl, good_ep, good_nilp, good_nilf, good_fn, good_agg, AV.cells_bool, AV.cells_int, AV.cells_str, AV.cells_nils, AV.cells_ro, AV.cells_sl, AV.cells_ep, AV.cells_nilp, AV.cells_nilf, AV.cells_fn, AV.cells_agg, reduceIte, Nat.reduceEqDiff, Nat.reduceLT, Nat.reduceLeDiff, Nat.reduceAdd, Nat.add_assoc, true_and, and_true, List.getElem?_cons_zero, List.getElem?_cons_succ, Option.getD_some, List.length_cons, List.length_nil, List.set_cons_zero, List.set_cons_succ, Nat.zero_add, Nat.add_zero, List.drop_zero, List.take_succ_cons, List.take_zero, List.drop_succ_cons, List.drop_nil, List.cons_append, List.nil_append, List.append_nil, Nat.add_eq, Nat.left_eq_add, Nat.add_eq_left, List.getElem?_nil, Nat.zero_lt_succ, decide_true, decide_false, Option.bind_some, Option.map_some, Nat.one_ne_zero, Nat.lt_add_one, ↓reduceIte, Nat.le_refl, Nat.add_left_cancel_iff, T_2, T_3, T_4, T_33, T_36, T_40, T_42, T_47, T_76, T_78, T_123, T_49, h0, h1, h5, hgs, hgs, hts, List.length_set, List.set_set]
    refine ⟨hb0, hb1, hK1 _ _ _ ?_⟩
    clear hK1 K1
    refine WP.seq_k fun K1 hK1 => WP.region hT rfl ?_
    refine q_fS (And.intro h1 wr1) ?_
    refine hK1 _ _ _ ?_
    clear hK1 K1
    have wr2 : IntKind.i64.wrap (k + 1 + 1 + 1) = k + 1 + 1 + 1 := wrap_in (by omega) (by omega)
    refine WP.seq_k fun K1 hK1 => WP.region hT rfl ?_
    simp only [↓planL, ↓opsA, List.contains_nil, List.contains_cons, Bool.or_false, Bool.false_or, ↓stepA, ↓e_len1, ↓e_append1, ↓e_min1, ↓e_max1, ↓callA, List.toList_toArray, Int.toNat_natCast, List.map_cons, List.map_nil, ev, Env.get_put_some, Env.put_none, Env.get_envOf, ↓e_move, ↓e_assign, ↓e_alloc, ↓e_box, ↓e_binOp, ↓e_unOp, ↓e_nilCheck, ↓e_pick, ↓e_load, ↓e_store, ↓e_fieldAddr, ↓e_field, ↓e_indexAddr, ↓e_index, ↓e_extract, ↓e_convert, ↓e_makeSlice, ↓e_build, ↓e_buildSlice, ↓e_makeFunc, b_add, b_sub, b_mul, b_eql, b_neq, b_lss, b_leq, b_gtr, b_geq, b_and, b_or, b_quo, b_rem, b_shl, b_shr, b_seql, b_sneq, b_beql, b_bneq, u_not, u_neg, rdSl_ro, rdSl_nils, rdSl_sl, setPart_agg, setPart_bool, setPart_int, setPart_str, setPart_nils, setPart_ro, setPart_sl, ofVal, ↓thenA, ↓blockA, Heap.upd_get, Heap.upd_upd, Heap.upd_sort, Nat.add_lt_add_iff_left, Nat.lt_add_right_iff_pos, Nat.pos_of_neZero, good_bool, good_int, good_str, good_nils, good_ro, good_sl, good_ep, good_nilp, good_nilf, good_fn, good_agg, AV.cells_bool, AV.cells_int, AV.cells_str, AV.cells_nils, AV.cells_ro, AV.cells_sl, AV.cells_ep, AV.cells_nilp, AV.cells_nilf, AV.cells_fn, AV.cells_agg, reduceIte, Nat.reduceEqDiff, Nat.reduceLT, Nat.reduceLeDiff, Nat.reduceAdd, Nat.add_assoc, true_and, and_true, List.getElem?_cons_zero, List.getElem?_cons_succ, Option.getD_some, List.length_cons, List.length_nil, List.set_cons_zero, List.set_cons_succ, Nat.zero_add, Nat.add_zero, List.drop_zero, List.take_succ_cons, List.take_zero, List.drop_succ_cons, List.drop_nil, List.cons_append, List.nil_append, List.append_nil, Nat.add_eq, Nat.left_eq_add, Nat.add_eq_left, List.getElem?_nil, Nat.zero_lt_succ, decide_true, decide_false, Option.bind_some, Option.map_some, Nat.one_ne_zero, Nat.lt_add_one, ↓reduceIte, Nat.le_refl, Nat.add_left_cancel_iff, T_2, T_3, T_4, T_33, T_36, T_40, T_42, T_47, T_76, T_78, T_123, T_49, h0, h1, h5, hgs, hgs, hts, List.length_set, List.set_set]
    refine ⟨hb0, hb1, hK1 _ _ _ ?_⟩
    clear hK1 K1
    refine WP.seq_k fun K1 hK1 => WP.region hT rfl ?_
    refine q_fS (And.intro h1 wr2) ?_
    refine hK1 _ _ _ ?_
    clear hK1 K1
    have wr3 : IntKind.i64.wrap (k + 1 + 1 + 1 + 1) = k + 1 + 1 + 1 + 1 := wrap_in (by omega) (by omega)
    refine WP.seq_k fun K1 hK1 => WP.region hT rfl ?_
    simp only [↓planL, ↓opsA, List.contains_nil, List.contains_cons, Bool.or_false, Bool.false_or, ↓stepA, ↓e_len1, ↓e_append1, ↓e_min1, ↓e_max1, ↓callA, List.toList_toArray, Int.toNat_natCast, List.map_cons, List.map_nil, ev, Env.get_put_some, Env.put_none, Env.get_envOf, ↓e_move, ↓e_assign, ↓e_alloc, ↓e_box, ↓e_binOp, ↓e_unOp, ↓e_nilCheck, ↓e_pick, ↓e_load, ↓e_store, ↓e_fieldAddr, ↓e_field, ↓e_indexAddr, ↓e_index, ↓e_extract, ↓e_convert, ↓e_makeSlice, ↓e_build, ↓e_buildSlice, ↓e_makeFunc, b_add, b_sub, b_mul, b_eql, b_neq, b_lss, b_leq, b_gtr, b_geq, b_and, b_or, b_quo, b_rem, b_shl, b_shr, b_seql, b_sneq, b_beql, b_bneq, u_not, u_neg, rdSl_ro, rdSl_nils, rdSl_sl, setPart_agg, setPart_bool, setPart_int, setPart_str, setPart_nils, setPart_ro, setPart_sl, ofVal, ↓thenA, ↓blockA, Heap.upd_get, Heap.upd_upd, Heap.upd_sort, Nat.add_lt_add_iff_left, Nat.lt_add_right_iff_pos, Nat.pos_of_neZero, good_bool, good_int, good_str, good_nils, good_ro, good_sl, good_ep, good_nilp, good_nilf, good_fn, good_agg, AV.cells_bool, AV.cells_int, AV.cells_str, AV.cells_nils, AV.cells_ro, AV.cells_sl, AV.cells_ep, AV.cells_nilp, AV.cells_nilf, AV.cells_fn, AV.cells_agg, reduceIte, Nat.reduceEqDiff, Nat.reduceLT, Nat.reduceLeDiff, Nat.reduceAdd, Nat.add_assoc, true_and, and_true, List.getElem?_cons_zero, List.getElem?_cons_succ, Option.getD_some, List.length_cons, List.length_nil, List.set_cons_zero, List.set_cons_succ, Nat.zero_add, Nat.add_zero, List.drop_zero, List.take_succ_cons, List.take_zero, List.drop_succ_cons, List.drop_nil, List.cons_append, List.nil_append, List.append_nil, Nat.add_eq, Nat.left_eq_add, Nat.add_eq_left, List.getElem?_nil, Nat.zero_lt_succ, decide_true, decide_false, Option.bind_some, Option.map_some, Nat.one_ne_zero, Nat.lt_add_one, ↓reduceIte, Nat.le_refl, Nat.add_left_cancel_iff, T_2, T_3, T_4, T_33, T_36, T_40, T_42, T_47, T_76, T_78, T_123, T_49, h0, h1, h5, hgs, hgs, hts, List.length_set, List.set_set]
    refine ⟨by decide, hb0, hb1, hK1 _ _ _ ?_⟩
    clear hK1 K1
    refine WP.seq_k fun K1 hK1 => WP.region hT rfl ?_
    refine q_fS (And.intro h1 wr3) ?_
    refine hK1 _ _ _ ?_
    clear hK1 K1
    have wr4 : IntKind.i64.wrap (k + 1 + 1 + 1 + 1 + 1) = k + 1 + 1 + 1 + 1 + 1 := wrap_in (by omega) (by omega)
    refine WP.seq_k fun K1 hK1 => WP.region hT rfl ?_
    simp only [↓planL, ↓opsA, List.contains_nil, List.contains_cons, Bool.or_false, Bool.false_or, ↓stepA, ↓e_len1, ↓e_append1, ↓e_min1, ↓e_max1, ↓callA, List.toList_toArray, Int.toNat_natCast, List.map_cons, List.map_nil, ev, Env.get_put_some, Env.put_none, Env.get_envOf, ↓e_move, ↓e_assign, ↓e_alloc, ↓e_box, ↓e_binOp, ↓e_unOp, ↓e_nilCheck, ↓e_pick, ↓e_load, ↓e_store, ↓e_fieldAddr, ↓e_field, ↓e_indexAddr, ↓e_index, ↓e_extract, ↓e_convert, ↓e_makeSlice, ↓e_build, ↓e_buildSlice, ↓e_makeFunc, b_add, b_sub, b_mul, b_eql, b_neq, b_lss, b_leq, b_gtr, b_geq, b_and, b_or, b_quo, b_rem, b_shl, b_shr, b_seql, b_sneq, b_beql, b_bneq, u_not, u_neg, rdSl_ro, rdSl_nils, rdSl_sl, setPart_agg, setPart_bool, setPart_int, setPart_str, setPart_nils, setPart_ro, setPart_sl, ofVal, ↓thenA, ↓blockA, Heap.upd_get, Heap.upd_upd, Heap.upd_sort, Nat.add_lt_add_iff_left, Nat.lt_add_right_iff_pos, Nat.pos_of_neZero, good_bool, good_int, good_str, good_nils, good_ro, good_sl, good_ep, good_nilp, good_nilf, good_fn, good_agg, AV.cells_bool, AV.cells_int, AV.cells_str, AV.cells_nils, AV.cells_ro, AV.cells_sl, AV.cells_ep, AV.cells_nilp, AV.cells_nilf, AV.cells_fn, AV.cells_agg, reduceIte, Nat.reduceEqDiff, Nat.reduceLT, Nat.reduceLeDiff, Nat.reduceAdd, Nat.add_assoc, true_and, and_true, List.getElem?_cons_zero, List.getElem?_cons_succ, Option.getD_some, List.length_cons, List.length_nil, List.set_cons_zero, List.set_cons_succ, Nat.zero_add, Nat.add_zero, List.drop_zero, List.take_succ_cons, List.take_zero, List.drop_succ_cons, List.drop_nil, List.cons_append, List.nil_append, List.append_nil, Nat.add_eq, Nat.left_eq_add, Nat.add_eq_left, List.getElem?_nil, Nat.zero_lt_succ, decide_true, decide_false, Option.bind_some, Option.map_some, Nat.one_ne_zero, Nat.lt_add_one, ↓reduceIte, Nat.le_refl, Nat.add_left_cancel_iff, T_2, T_3, T_4, T_33, T_36, T_40, T_42, T_47, T_76, T_78, T_123, T_49, h0, h1, h5, hgs, hgs, hts, List.length_set, List.set_set]
    refine ⟨hb0, hb1, hK1 _ _ _ ?_⟩
    clear hK1 K1
    refine WP.seq_k fun K1 hK1 => WP.region hT rfl ?_
    refine q_fS (And.intro h1 wr4) ?_
    refine hK1 _ _ _ ?_
    clear hK1 K1
    have wr5 : IntKind.i64.wrap (k + 1 + 1 + 1 + 1 + 1 + 1) = k + 1 + 1 + 1 + 1 + 1 + 1 := wrap_in (by omega) (by omega)
    refine WP.seq_k fun K1 hK1 => WP.region hT rfl ?_
    simp only [↓planL, ↓opsA, List.contains_nil, List.contains_cons, Bool.or_false, Bool.false_or, ↓stepA, ↓e_len1, ↓e_append1, ↓e_min1, ↓e_max1, ↓callA, List.toList_toArray, Int.toNat_natCast, List.map_cons, List.map_nil, ev, Env.get_put_some, Env.put_none, Env.get_envOf, ↓e_move, ↓e_assign, ↓e_alloc, ↓e_box, ↓e_binOp, ↓e_unOp, ↓e_nilCheck, ↓e_pick, ↓e_load, ↓e_store, ↓e_fieldAddr, ↓e_field, ↓e_indexAddr, ↓e_index, ↓e_extract, ↓e_convert, ↓e_makeSlice, ↓e_build, ↓e_buildSlice, ↓e_makeFunc, b_add, b_sub, b_mul, b_eql, b_neq, b_lss, b_leq, b_gtr, b_geq, b_and, b_or, b_quo, b_rem, b_shl, b_shr, b_seql, b_sneq, b_beql, b_bneq, u_not, u_neg, rdSl_ro, rdSl_nils, rdSl_sl, setPart_agg, setPart_bool, setPart_int, setPart_str, setPart_nils, setPart_ro, setPart_sl, ofVal, ↓thenA, ↓blockA, Heap.upd_get, Heap.upd_upd, Heap.upd_sort, Nat.add_lt_add_iff_left, Nat.lt_add_right_iff_pos, Nat.pos_of_neZero, good_bool, good_int, good_str, good_nils, good_ro, good_sl, good_ep, good_nilp, good_nilf, good_fn, good_agg, AV.cells_bool, AV.cells_int, AV.cells_str, AV.cells_nils, AV.cells_ro, AV.cells_sl, AV.cells_ep, AV.cells_nilp, AV.cells_nilf, AV.cells_fn, AV.cells_agg, reduceIte, Nat.reduceEqDiff, Nat.reduceLT, Nat.reduceLeDiff, Nat.reduceAdd, Nat.add_assoc, true_and, and_true, List.getElem?_cons_zero, List.getElem?_cons_succ, Option.getD_some, List.length_cons, List.length_nil, List.set_cons_zero, List.set_cons_succ, Nat.zero_add, Nat.add_zero, List.drop_zero, List.take_succ_cons, List.take_zero, List.drop_succ_cons, List.drop_nil, List.cons_append, List.nil_append, List.append_nil, Nat.add_eq, Nat.left_eq_add, Nat.add_eq_left, List.getElem?_nil, Nat.zero_lt_succ, decide_true, decide_false, Option.bind_some, Option.map_some, Nat.one_ne_zero, Nat.lt_add_one, ↓reduceIte, Nat.le_refl, Nat.add_left_cancel_iff, T_2, T_3, T_4, T_33, T_36, T_40, T_42, T_47, T_76, T_78, T_123, T_49, h0, h1, h5, hgs, hgs, hts, List.length_set, List.set_set]
    refine ⟨by decide, hb0, hb1, hK1 _ _ _ ?_⟩
    clear hK1 K1
    refine WP.seq_k fun K1 hK1 => WP.region hT rfl ?_
    refine q_fS (And.intro h1 wr5) ?_
    refine hK1 _ _ _ ?_
    clear hK1 K1
    have wr6 : IntKind.i64.wrap (k + 1 + 1 + 1 + 1 + 1 + 1 + 1) = k + 1 + 1 + 1 + 1 + 1 + 1 + 1 := wrap_in (by omega) (by omega)
    refine WP.seq_k fun K1 hK1 => WP.region hT rfl ?_
    simp only [↓planL, ↓opsA, List.contains_nil, List.contains_cons, Bool.or_false, Bool.false_or, ↓stepA, ↓e_len1, ↓e_append1, ↓e_min1, ↓e_max1, ↓callA, List.toList_toArray, Int.toNat_natCast, List.map_cons, List.map_nil, ev, Env.get_put_some, Env.put_none, Env.get_envOf, ↓e_move, ↓e_assign, ↓e_alloc, ↓e_box, ↓e_binOp, ↓e_unOp, ↓e_nilCheck, ↓e_pick, ↓e_load, ↓e_store, ↓e_fieldAddr, ↓e_field, ↓e_indexAddr, ↓e_index, ↓e_extract, ↓e_convert, ↓e_makeSlice, ↓e_build, ↓e_buildSlice, ↓e_makeFunc, b_add, b_sub, b_mul, b_eql, b_neq, b_lss, b_leq, b_gtr, b_geq, b_and, b_or, b_quo, b_rem, b_shl, b_shr, b_seql, b_sneq, b_beql, b_bneq, u_not, u_neg, rdSl_ro, rdSl_nils, rdSl_sl, setPart_agg, setPart_bool, setPart_int, setPart_str, setPart_nils, setPart_ro, setPart_sl, ofVal, ↓thenA, ↓blockA, Heap.upd_get, Heap.upd_upd, Heap.upd_sort, Nat.add_lt_add_iff_left, Nat.lt_add_right_iff_pos, Nat.pos_of_neZero, good_bool, good_int, good_str, good_nils, good_ro, good_sl, good_ep, good_nilp, good_nilf, good_fn, good_agg, AV.cells_bool, AV.cells_int, AV.cells_str, AV.cells_nils, AV.cells_ro, AV.cells_sl, AV.cells_ep, AV.cells_nilp, AV.cells_nilf, AV.cells_fn, AV.cells_agg, reduceIte, Nat.reduceEqDiff, Nat.reduceLT, Nat.reduceLeDiff, Nat.reduceAdd, Nat.add_assoc, true_and, and_true, List.getElem?_cons_zero, List.getElem?_cons_succ, Option.getD_some, List.length_cons, List.length_nil, List.set_cons_zero, List.set_cons_succ, Nat.zero_add, Nat.add_zero, List.drop_zero, List.take_succ_cons, List.take_zero, List.drop_succ_cons, List.drop_nil, List.cons_append, List.nil_append, List.append_nil, Nat.add_eq, Nat.left_eq_add, Nat.add_eq_left, List.getElem?_nil, Nat.zero_lt_succ, decide_true, decide_false, Option.bind_some, Option.map_some, Nat.one_ne_zero, Nat.lt_add_one, ↓reduceIte, Nat.le_refl, Nat.add_left_cancel_iff, T_2, T_3, T_4, T_33, T_36, T_40, T_42, T_47, T_76, T_78, T_123, T_49, h0, h1, h5, hgs, hgs, hts, List.length_set, List.set_set]
    refine ⟨hb0, hb1, hK1 _ _ _ ?_⟩
    clear hK1 K1
    refine WP.seq_k fun K1 hK1 => WP.region hT rfl ?_
    refine q_fS (And.intro h1 wr6) ?_
    refine hK1 _ _ _ ?_
    clear hK1 K1
    have wr7 : IntKind.i64.wrap (k + 1 + 1 + 1 + 1 + 1 + 1 + 1 + 1) = k + 1 + 1 + 1 + 1 + 1 + 1 + 1 + 1 := wrap_in (by omega) (by omega)
    refine WP.seq_k fun K1 hK1 => WP.region hT rfl ?_
    simp only [↓planL, ↓opsA, List.contains_nil, List.contains_cons, Bool.or_false, Bool.false_or, ↓stepA, ↓e_len1, ↓e_append1, ↓e_min1, ↓e_max1, ↓callA, List.toList_toArray, Int.toNat_natCast, List.map_cons, List.map_nil, ev, Env.get_put_some, Env.put_none, Env.get_envOf, ↓e_move, ↓e_assign, ↓e_alloc, ↓e_box, ↓e_binOp, ↓e_unOp, ↓e_nilCheck, ↓e_pick, ↓e_load, ↓e_store, ↓e_fieldAddr, ↓e_field, ↓e_indexAddr, ↓e_index, ↓e_extract, ↓e_convert, ↓e_makeSlice, ↓e_build, ↓e_buildSlice, ↓e_makeFunc, b_add, b_sub, b_mul, b_eql, b_neq, b_lss, b_leq, b_gtr, b_geq, b_and, b_or, b_quo, b_rem, b_shl, b_shr, b_seql, b_sneq, b_beql, b_bneq, u_not, u_neg, rdSl_ro, rdSl_nils, rdSl_sl, setPart_agg, setPart_bool, setPart_int, setPart_str, setPart_nils, setPart_ro, setPart_sl, ofVal, ↓thenA, ↓blockA, Heap.upd_get, Heap.upd_upd, Heap.upd_sort, Nat.add_lt_add_iff_left, Nat.lt_add_right_iff_pos, Nat.pos_of_neZero, good_bool, good_int, good_str, good_nils, good_ro, good_sl, good_ep, good_nilp, good_nilf, good_fn, good_agg, AV.cells_bool, AV.cells_int, AV.cells_str, AV.cells_nils, AV.cells_ro, AV.cells_sl, AV.cells_ep, AV.cells_nilp, AV.cells_nilf, AV.cells_fn, AV.cells_agg, reduceIte, Nat.reduceEqDiff, Nat.reduceLT, Nat.reduceLeDiff, Nat.reduceAdd, Nat.add_assoc, true_and, and_true, List.getElem?_cons_zero, List.getElem?_cons_succ, Option.getD_some, List.length_cons, List.length_nil, List.set_cons_zero, List.set_cons_succ, Nat.zero_add, Nat.add_zero, List.drop_zero, List.take_succ_cons, List.take_zero, List.drop_succ_cons, List.drop_nil, List.cons_append, List.nil_append, List.append_nil, Nat.add_eq, Nat.left_eq_add, Nat.add_eq_left, List.getElem?_nil, Nat.zero_lt_succ, decide_true, decide_false, Option.bind_some, Option.map_some, Nat.one_ne_zero, Nat.lt_add_one, ↓reduceIte, Nat.le_refl, Nat.add_left_cancel_iff, T_2, T_3, T_4, T_33, T_36, T_40, T_42, T_47, T_76, T_78, T_123, T_49, h0, h1, h5, hgs, hgs, hts, List.length_set, List.set_set]
    refine ⟨hb0, hb1, hK1 _ _ _ ?_⟩
    clear hK1 K1
    refine WP.region hT rfl ?_
    refine q_fS (And.intro h1 wr7) ?_
    refine hK _ _ _ (.agg [.int .i64 (k), .int .i64 (k + 1), .int .i64 (k + 1 + 1), .bool (decide ((k + 1 + 1 + 1).tmod 3 = 0)), .int .i64 (k + 1 + 1 + 1 + 1), .bool (decide ((k + 1 + 1 + 1 + 1 + 1).tmod 3 = 0)), .int .i64 (k + 1 + 1 + 1 + 1 + 1 + 1), .int .i64 (k + 1 + 1 + 1 + 1 + 1 + 1 + 1)]) _ (by omega) (.agg _ _ _ (TreeL.cons _ _ _ _ _ _ (Tree.ofPlain1 rfl) (TreeL.cons _ _ _ _ _ _ (Tree.ofPlain1 rfl) (TreeL.cons _ _ _ _ _ _ (Tree.ofPlain1 rfl) (TreeL.cons _ _ _ _ _ _ (Tree.ofPlain1 rfl) (TreeL.cons _ _ _ _ _ _ (Tree.ofPlain1 rfl) (TreeL.cons _ _ _ _ _ _ (Tree.ofPlain1 rfl) (TreeL.cons _ _ _ _ _ _ (Tree.ofPlain1 rfl) (TreeL.cons _ _ _ _ _ _ (Tree.ofPlain1 rfl) TreeL.nil d7) d6) d5) d4) d3) d2) d1) d0)) ⟨rfl, rfl⟩ (Heap.upd_same _ _ _) (fun j hj hnj => by rw [Heap.upd_ne _ _ hj]) ?_ ?_ ?_
    · simp [Env.get, Env.put]
    · have he : k + 1 + 1 + 1 + 1 + 1 + 1 + 1 + 1 = k + ((wtRec a : Nat) : Int) := by unfold wtRec; omega
      simp only [Env.get_put_some, ↓reduceIte, Nat.reduceEqDiff]
      rw [← he]
    · simpa [Env.get, Env.put] using h5
  exact hm.mono fun e k he => ⟨_, rfl, by rw [List.length_map]; omega, he⟩
theorem m62 {x' : AV} {l : List Int} (hx : Int64SR x' l) : MarkC Try.prog 62 HdInt64S x' (wtInt64S l) := by
  obtain ⟨es, hes, hal, hml, _, _⟩ := id hx
  have hel := all2_length hal
  unfold maxLen at hml
  have hm : MarkC Try.prog 62 (HdS 1 HeInt (l.map wtInt)) x' (wtInt64S l) := by
    refine markS_gen (ts := 40) (t := 2) (z := 6) (r := 18) (N := 19) (T := T) (U := Int64R) (w := wtInt) hT Try.call62 Try.func62 rfl rfl (by decide) (by decide) rfl rfl (fun e w k he m => by obtain ⟨_, rfl⟩ := he; exact .int _ _) hx (fun e' a _ hU => ?_)
    exact markInt_body (ts := 40) (t := 2) hT (by decide) rfl rfl rfl hU.1
  exact hm.mono fun e k he => ⟨_, rfl, by rw [List.length_map]; omega, he⟩
theorem h63 {x : AV} {w : Nat} {k : Int} (hk0 : 0 ≤ k) (hkw : k + w ≤ 4611686018427387904) (hx : HdInt64S x w k) : HeldBy Try.prog 63 x w k := by
  obtain ⟨ws, rfl, hlen, hx⟩ := hx
  refine heldS_gen (ts := 40) (t := 2) (z := 7) (r := 20) (N := 21) (T := T) hT Try.call63 Try.func63 rfl rfl (by decide) (by decide) rfl rfl ?_ hk0 hkw hlen hx
  exact heldInt_body (ts := 40) (t := 2) hT (by decide) rfl rfl rfl (fun _ => rfl)
def HsIntsResult (e : AV) (w : Nat) (k : Int) : Prop := ∃ (y0 y1 : AV) (w1 : Nat), e = .agg [y0, y1] ∧ w = w1 ∧ HdInt64S y1 w1 (k)
theorem m23 {x' : AV} {a : IntsResultD} (hx : IntsResultR x' a) : MarkC Try.prog 23 HsIntsResult x' (wsIntsResult a) := by
  obtain ⟨x1, rfl, c0, c1⟩ := hx
  intro h n K x I k ht hk hkw hK
  obtain ⟨cs, rfl, hl⟩ := ht.aggE
  cases hl with
  | cons u0 _ _ _ I0 J0 t0 hl0 d0 =>
  obtain ⟨rfl, rfl⟩ := t0.int
  cases hl0 with
  | cons u1 _ _ _ I1 J1 t1 hl1 d1 =>
  cases hl1 with
  | nil =>
  unfold wsIntsResult at hkw
  refine CA.conv (CA.enter (N := 10) (rs := [.tmp 4]) hT Try.call23 Try.func23 rfl rfl (by simp) rfl fun hlt => ?_)
  have z1 := t1.slOne c1
  have il1 : ∀ i, i ∈ I1 → i < n := fun i hi => by obtain ⟨b, hb⟩ := t1.some i hi; exact hlt i b hb
  have nn1 : n ∉ I1 := fun hm => by have := il1 n hm; omega
  refine WP.seq_k fun K1 hK1 => WP.region hT rfl ?_
  refine q_S ?_
  refine hK1 _ _ _ ?_
  clear hK1 K1
  refine WP.seq_k fun K1 hK1 => WP.region hT rfl ?_
  refine q_fS z1 ?_
  refine m62 c1 _ _ _ u1 I1 _ (t1.keep fun i hi => by rw [Heap.upd_ne _ _ (by have := il1 i hi; omega)]) (by omega) (by omega) fun y1 g1 n1 hn1 ty1 fr1 hH1 => ?_
  refine hK1 _ _ _ ?_
  clear hK1 K1
  have box1 : g1 n = some [.agg [.int .i64 a.code, u1]] := by rw [fr1 n nn1, Heap.upd_same]
  refine WP.seq_k fun K1 hK1 => WP.region hT rfl ?_
  refine q_S ?_
  refine hK1 _ _ _ ?_
  clear hK1 K1
  refine WP.ret ?_
  refine qr_S ?_
  let g : Heap := fun id => if id = n then none else g1 id
  have g0 : ∀ id, id ≠ n → g id = g1 id := fun id hid => by simp only [g]; rw [if_neg hid]
  refine ⟨_, rfl, _, g, n1, .keep _ _ _ _ (fun id x hx => ?_), ?_⟩
  · simp only [g] at hx
    split at hx
    · cases hx
    · exact hx
  have hfin := hK (.agg [.int .i64 a.code, y1]) g n1 (by omega) (.agg _ _ _ (TreeL.cons _ _ _ _ _ _ (Tree.ofPlain1 rfl) (TreeL.cons _ _ _ _ _ _ (ty1.keep fun i hi => g0 i (by have := il1 i hi; omega)) TreeL.nil d1) d0)) (fun id hid => ?_) ⟨.int .i64 a.code, y1, _, rfl, rfl, hH1⟩
  · have he : k + (wtInt64S a.list : Nat) = k + ((wsIntsResult a : Nat) : Int) := by unfold wsIntsResult; omega
    simp only [resV]
    rw [he]; exact hfin
  · by_cases hn : id = n
    · subst hn
      simp only [g, if_true]
      exact (Heap.below.none hlt (Nat.le_refl _)).symm
    · rw [g0 id hn, fr1 id (fun hm => hid (by simp [hm])), Heap.upd_ne _ _ hn]
theorem h24 {x : AV} {w : Nat} {k : Int} (hk0 : 0 ≤ k) (hkw : k + w ≤ 4611686018427387904) (hx : HsIntsResult x w k) : HeldBy Try.prog 24 x w k := by
  obtain ⟨y0, y1, w1, rfl, hw, c1⟩ := hx
  rw [hw] at hkw ⊢
  intro h n K hK
  have z1 := one_cells c1.isOne
  refine CA.conv (CA.enter (N := 12) (rs := [.tmp 4]) hT Try.call24 Try.func24 rfl rfl (by simp) rfl fun hlt => ?_)
  refine WP.seq_k fun K1 hK1 => WP.region hT rfl ?_
  refine q_S ?_
  refine hK1 _ _ _ ?_
  clear hK1 K1
  refine WP.seq_k fun K1 hK1 => WP.region hT rfl ?_
  refine q_fS z1 ?_
  refine h63 (by omega) (by omega) c1 _ _ _ (hK1 _ _ _ ?_)
  clear hK1 K1
  refine WP.seq_k fun K3 hK3 => ?_
  refine WP.seq_k fun K1 hK1 => WP.region hT rfl ?_
  refine q_S ?_
  refine hK1 _ _ _ ?_
  clear hK1 K1
  refine WP.cond (by simp only [ev, Env.get_put_some, ↓reduceIte]; rfl) (fun hc => ?_) (fun hc => ?_)
  · simp at hc; omega
  refine WP.skip (hK3 _ _ _ ?_)
  clear hK3 K3 hc
  refine WP.seq_k fun K1 hK1 => WP.region hT rfl ?_
  refine q_S ?_
  refine hK1 _ _ _ ?_
  clear hK1 K1
  refine WP.ret ?_
  refine qr_S ?_
  refine ⟨_, rfl, ret_p (Left.upd (Nat.le_refl _) (Left.refl hlt)) (.int _ _) ?_⟩
  have he : k + (w1 : Nat) = k + ((w1 : Nat) : Int) := by omega
  simp only [resV]
  rw [he]
  exact hK
end
end Go.Proofs.Ytcngfjmfgeckmaa
section
namespace Go.Proofs.Ytcngfjmfgeckmaa
open Go
set_option linter.unusedSimpArgs false
set_option linter.unusedVariables false
set_option maxRecDepth 20000
attribute [local irreducible] IntKind.wrap bitA
section
variable {h : Heap} {n : Nat} {K : AV → Heap → Nat → Prop}
end
end Go.Proofs.Ytcngfjmfgeckmaa
end
namespace Go.Proofs.Ytcngfjmfgeckmaa
open Go
section
variable {h : Heap} {n : Nat} {K : AV → Heap → Nat → Prop}
def soundP (l : List RecD) : Int := if 400 < l.length then 2 else runC [] [] l
theorem s_sound {x : AV} {l : List RecD} (hx : RecSR x l) (hk : I64 (soundP l) → K (.int .i64 (soundP l)) h n) : CA Try.prog 15 [x] h n K := by
  refine w_s_SoundRecs (SlR.toH hx) (fu := 100000) (r := soundP l) ?_ fun y hy => ?_
  · unfold m_s_SoundRecs
    rw [m_s_l13Sound_eq (by omega)]; rfl
  · obtain ⟨rfl, hi⟩ := hy
    exact hk hi
theorem i_sound {x : AV} {l : List RecD} (hx : RecSR x l) (hk : I64 (soundP l) → K (.int .i64 (soundP l)) h n) : CA Try.prog 17 [x] h n K := by
  refine w_i_SoundRecs (SlR.toH hx) (fu := 100000) (r := soundP l) (m_i_SoundRecs_eq (by omega)) fun y hy => ?_
  obtain ⟨rfl, hi⟩ := hy
  exact hk hi
theorem c4 {x : AV} {l : List RecD} (hx : RecSR x l) (hk : K (.bool true) h n) : CA Try.prog 4 [x] h n K := by
  refine CA.conv (CA.enter (N := 27) (rs := [.tmp 2]) hT Try.call4 Try.func4 rfl rfl (by simp) rfl fun hlt => ?_)
  refine WP.seq_k fun K1 hK1 => WP.region hT rfl ?_
  refine q_S ?_
  refine hK1 _ _ _ ?_
  clear hK1 K1
  refine WP.seq_k fun K1 hK1 => WP.region hT rfl ?_
  refine q_S ?_
  refine hK1 _ _ _ ?_
  clear hK1 K1
  refine WP.seq_k fun K1 hK1 => WP.region hT rfl ?_
  refine q_S ?_
  refine c14 hx (by omega) (by omega) (hK1 _ _ _ ?_)
  clear hK1 K1
  refine WP.seq_k fun K2 hK2 => ?_
  refine WP.seq_k fun K1 hK1 => WP.region hT rfl ?_
  refine q_S ?_
  refine hK1 _ _ _ ?_
  clear hK1 K1
  refine WP.cond (by simp only [ev, Env.get_put_some, ↓reduceIte]; rfl) (fun hc => ?_) (fun hc => ?_)
  · refine WP.seq_k fun K1 hK1 => WP.region hT rfl ?_
    refine q_S ?_
    refine hK1 _ _ _ ?_
    clear hK1 K1
    refine WP.ret ?_
    refine qr_S ?_
    exact ⟨_, rfl, ret_p (Left.refl hlt) (.bool _) hk⟩
  refine WP.skip (hK2 _ _ _ ?_)
  clear hK2 K2
  obtain ⟨b1, b2⟩ := left_nonneg (by omega) (of_decide_eq_false hc)
  have hl : sizRecS l ≤ 1048576 := by omega
  refine WP.seq_k fun K1 hK1 => WP.region hT rfl ?_
  refine q_S ?_
  refine c16 hx hl fun r1 hr1 => s_sound hr1 fun hi => (hK1 _ _ _ ?_)
  clear hK1 K1
  refine WP.seq_k fun K1 hK1 => WP.region hT rfl ?_
  refine q_S ?_
  refine c16 hx hl fun r2 hr2 => hK1 _ _ _ ?_
  clear hK1 K1
  refine WP.seq_k fun K1 hK1 => WP.region hT rfl ?_
  refine q_S ?_
  refine i_sound hr2 fun hi2 => (hK1 _ _ _ ?_)
  clear hK1 K1
  refine WP.seq_k fun K2 hK2 => ?_
  refine WP.seq_k fun K1 hK1 => WP.region hT rfl ?_
  refine q_S ?_
  refine hK1 _ _ _ ?_
  clear hK1 K1
  refine WP.cond (by simp only [ev, Env.get_put_some, ↓reduceIte]; rfl) (fun hc => ?_) (fun hc => ?_)
  · exfalso
    simp at hc
  refine WP.skip (hK2 _ _ _ ?_)
  clear hK2 K2
  refine WP.seq_k fun K2 hK2 => ?_
  refine WP.seq_k fun K1 hK1 => WP.region hT rfl ?_
  refine q_S ?_
  refine c16 hx hl fun r3 hr3 => c18 hr2 hr3 (hK1 _ _ _ ?_)
  clear hK1 K1
  refine WP.cond (by simp only [ev, Env.get_put_some, ↓reduceIte]; rfl) (fun hc => ?_) (fun hc => ?_)
  · exfalso
    simp at hc
  refine WP.skip (hK2 _ _ _ ?_)
  clear hK2 K2
  refine WP.seq_k fun K1 hK1 => WP.region hT rfl ?_
  refine q_S ?_
  refine hK1 _ _ _ ?_
  clear hK1 K1
  refine WP.ret ?_
  refine qr_S ?_
  exact ⟨_, rfl, ret_p (Left.refl hlt) (.bool _) hk⟩
end
end Go.Proofs.Ytcngfjmfgeckmaa
namespace Go.Proofs.Ytcngfjmfgeckmaa
open Go
theorem map_const_sum {α : Type} (c : Nat) (l : List α) : (l.map fun _ => c).sum = c * l.length := by
  induction l with
  | nil => rfl
  | cons a l ih => simp only [List.map_cons, List.sum_cons, List.length_cons, ih]; rw [Nat.mul_add]; omega
theorem sound_len {l : List RecD} (h : soundP l = 0) : l.length ≤ 400 ∧ runC [] [] l = 0 := by
  unfold soundP at h
  split at h
  · cases h
  · rename_i hq; exact ⟨by omega, h⟩
section
variable {fu : Nat} {h : Heap} {n : Nat} {K : AV → Heap → Nat → Prop}
theorem sortI_txns_len (l : List RecD) (k : Int) : (sortI (txnsOf l k)).length ≤ l.length := by rw [sortI_len]; exact txnsOf_len l k
end
end Go.Proofs.Ytcngfjmfgeckmaa
section
namespace Go.Proofs.Ytcngfjmfgeckmaa
open Go
section
variable {h : Heap} {n : Nat} {K : AV → Heap → Nat → Prop}
theorem filt_take {l : List Int} {p : Int → Bool} {j : Nat} {a : Int} (hj : l[j]? = some a) : (l.take (j + 1)).filter (fun a => !p a) = (l.take j).filter (fun a => !p a) ++ (if p a = true then [] else [a]) := by
  rw [List.take_add_one, hj, List.filter_append]
  cases hp : p a <;> simp [hp]
theorem filt_le {l : List Int} {p : Int → Bool} (j : Nat) (hj : j ≤ l.length) : ((l.take j).filter fun a => !p a).length ≤ j := by
  have := List.length_filter_le (fun a => !p a) (l.take j)
  rw [List.length_take] at this; omega
theorem filt_none {l : List Int} {p : Int → Bool} (h : l.findIdx? p = none) : l.filter (fun a => !p a) = l := by
  rw [List.findIdx?_eq_none_iff] at h
  exact List.filter_eq_self.2 fun a ha => by simp [h a ha]
theorem filt_first {l : List Int} {p : Int → Bool} {i : Nat} (h : l.findIdx? p = some i) : i < l.length ∧ (l.take (i + 1)).filter (fun a => !p a) = l.take i := by
  obtain ⟨h1, h2, h3⟩ := List.findIdx?_eq_some_iff_getElem.1 h
  refine ⟨h1, ?_⟩
  rw [filt_take (List.getElem?_eq_getElem h1), if_pos h2, List.append_nil]
  refine List.filter_eq_self.2 fun a ha => ?_
  obtain ⟨j, hj, rfl⟩ := List.mem_iff_getElem.1 ha
  rw [List.length_take] at hj
  rw [List.getElem_take]
  have := h3 j (by omega)
  simpa using this
set_option maxHeartbeats 1000000 in
theorem del_ints {id len : Nat} {ex : Bool} {l : List Int} {p : Int → Bool} {g : FuncId} {cap : List AV} (hid : id < n) (hb : h id = some (l.map (AV.int .i64))) (hl : l.length = len) (hm : len ≤ 140737488355328)
    (hidx : ∀ K : AV → Heap → Nat → Prop, K (.int .i64 (match l.findIdx? p with | some j => ((j : Nat) : Int) | none => -1)) h n → CA Try.prog 141 [.sl 1 id 0 len len ex, .fn g cap] h n K)
    (hcall : ∀ (B : List AV) (K : AV → Heap → Nat → Prop) (a : Int), a ∈ l → K (.bool (p a)) (h.upd id B) n → CA Try.prog g ([.int .i64 a] ++ cap) (h.upd id B) n K)
    (hk : K (.sl 1 id 0 (l.filter fun a => !p a).length (l.filter fun a => !p a).length false) (h.upd id ((l.filter fun a => !p a).map (AV.int .i64))) n) :
    CA Try.prog 113 [.sl 1 id 0 len len ex, .fn g cap] h n K := by
  refine CA.trim (CA.conv (CA.enter (N := 42) (rs := [.tmp 4]) hT Try.call113 Try.func113 rfl rfl (by simp) rfl fun hlt => ?_))
  refine WP.seq_k fun K0 hK0 => ?_
  refine WP.region hT rfl ?_
  simp only [go_sem, ↓reduceIte, reduceCtorEq, Nat.reduceEqDiff, Nat.reduceLT, Nat.reduceLeDiff, Nat.reduceAdd, Nat.reduceMul, Int.reduceLE]
  refine hK0 _ _ _ ?_
  clear hK0 K0
  refine WP.seq_k fun K0 hK0 => ?_
  refine WP.region hT rfl ?_
  simp only [go_sem, ↓reduceIte, reduceCtorEq, Nat.reduceEqDiff, Nat.reduceLT, Nat.reduceLeDiff, Nat.reduceAdd, Nat.reduceMul, Int.reduceLE]
  refine hidx _ ?_
  unfold sealK
  simp only [go_sem, ↓reduceIte, reduceCtorEq, Nat.reduceEqDiff, Nat.reduceLT, Nat.reduceLeDiff, Nat.reduceAdd, Nat.reduceMul, Int.reduceLE]
  refine hK0 _ _ _ ?_
  clear hK0 K0
  refine WP.seq_k fun K2 hK2 => ?_
  refine WP.seq_k fun K3 hK3 => ?_
  refine WP.region hT rfl ?_
  simp only [go_sem, ↓reduceIte, reduceCtorEq, Nat.reduceEqDiff, Nat.reduceLT, Nat.reduceLeDiff, Nat.reduceAdd, Nat.reduceMul, Int.reduceLE]
  refine hK3 _ _ _ ?_
  clear hK3 K3
  cases hf : l.findIdx? p with
  | none =>
    refine WP.cond (t := true) (by kernel_rfl) (fun _ => ?_) (fun hc => by cases hc)
    refine WP.seq_k fun K4 hK4 => ?_
    refine WP.region hT rfl ?_
    simp only [go_sem, ↓reduceIte, reduceCtorEq, Nat.reduceEqDiff, Nat.reduceLT, Nat.reduceLeDiff, Nat.reduceAdd, Nat.reduceMul, Int.reduceLE]
    refine hK4 _ _ _ ?_
    clear hK4 K4
    refine WP.ret ?_
    rw [filt_none hf] at hk
    refine ⟨_, rfl, _, _, _, .keep _ _ _ _ (fun _ _ h => h), 1, id, len, len, ex, _, rfl, hb, by rw [List.length_map]; omega, ?_⟩
    rw [List.take_of_length_le (by rw [List.length_map]; omega), ← hl]
    exact hk
  | some i0 =>
    obtain ⟨hi0, hfirst⟩ := filt_first hf
    refine WP.cond (t := false) ?_ (fun hc => by cases hc) (fun _ => ?_)
    · have : decide (((i0 : Nat) : Int) = -1) = false := decide_eq_false (by omega)
      simp only [ev, Env.get_put_some, ↓reduceIte, this]
    refine WP.skip ?_
    simp only [go_sem, ↓reduceIte, reduceCtorEq, Nat.reduceEqDiff, Nat.reduceLT, Nat.reduceLeDiff, Nat.reduceAdd, Nat.reduceMul, Int.reduceLE]
    refine hK2 _ _ _ ?_
    clear hK2 K2
    have w1 : IntKind.i64.wrap ((i0 : Int) + 1) = ((i0 + 1 : Nat) : Int) := by rw [wrap_in (by omega) (by omega)]; rfl
    refine WP.seq_k fun K4 hK4 => ?_
    refine WP.seq_k fun K2 hK2 => ?_
    refine WP.region hT rfl ?_
    simp only [go_sem, ↓reduceIte, reduceCtorEq, Nat.reduceEqDiff, Nat.reduceLT, Nat.reduceLeDiff, Nat.reduceAdd, Nat.reduceMul, Int.reduceLE, w1]
    refine hK2 _ _ _ ?_
    clear hK2 K2
    refine WP.block (WP.loop (fun m E h' n' => ∃ (B : List AV) (i j : Nat), m = len - j ∧ B.length = len ∧ i < j ∧ j ≤ len ∧ i = ((l.take j).filter fun a => !p a).length ∧ B.take i = ((l.take j).filter fun a => !p a).map (AV.int .i64) ∧ B.drop j = (l.drop j).map (AV.int .i64) ∧ (∀ e, e ∈ B → ∃ a, e = .int .i64 a) ∧ h.upd id B = h' ∧ n = n' ∧
      E.get 0 = .sl 1 id 0 len len ex ∧ E.get 1 = .fn g cap ∧ E.get 5 = .int .i64 i ∧ E.get 6 = .int .i64 j) (len - (i0 + 1)) ?_ ?_)
    · refine ⟨l.map (AV.int .i64), i0, i0 + 1, rfl, by rw [List.length_map]; exact hl, by omega, by omega, ?_, ?_, ?_, (fun e he => by obtain ⟨a, _, rfl⟩ := List.mem_map.1 he; exact ⟨a, rfl⟩), ?_, rfl, rfl, rfl, rfl, rfl⟩
      · rw [hfirst, List.length_take]; omega
      · rw [hfirst, List.map_take]
      · rw [List.map_drop]
      · funext x
        unfold Heap.upd
        split
        · rename_i hx; rw [hx, hb]
        · rfl
    rintro m E h' n' ⟨B, i, j, rfl, hBl, hij, hj, hi, hBt, hBd, hBa, rfl, rfl, e0, e1, e5, e6⟩
    have hbB : (h.upd id B) id = some B := Heap.upd_same _ _ _
    have htB : List.take len B = B := List.take_of_length_le (Nat.le_of_eq hBl)
    refine WP.seq_k fun K6 hK6 => ?_
    refine WP.seq_k fun K7 hK7 => ?_
    refine WP.region hT rfl ?_
    simp only [go_sem, ↓reduceIte, reduceCtorEq, Nat.reduceEqDiff, Nat.reduceLT, Nat.reduceLeDiff, Nat.reduceAdd, Nat.reduceMul, Int.reduceLE, e0, e6, hbB, htB, hBl]
    refine hK7 _ _ _ ?_
    clear hK7 K7
    refine WP.cond (t := decide ((j : Int) < len)) (by kernel_rfl) (fun hc => ?_) (fun hc => ?_)
    · have hjl : j < l.length := by have := of_decide_eq_true hc; omega
      refine WP.skip ?_
      simp only [go_sem, ↓reduceIte, reduceCtorEq, Nat.reduceEqDiff, Nat.reduceLT, Nat.reduceLeDiff, Nat.reduceAdd, Nat.reduceMul, Int.reduceLE]
      refine hK6 _ _ _ ?_
      clear hK6 K6
      have hge := List.getElem?_eq_getElem hjl
      have hBj : B[j]? = some (.int .i64 l[j]) := by
        have q : (B.drop j)[0]? = ((l.drop j).map (AV.int .i64))[0]? := by rw [hBd]
        rw [List.getElem?_drop, List.getElem?_map, List.getElem?_drop] at q
        simpa [hge] using q
      have hj0 : (0 : Int) ≤ j := by omega
      have hj1 : (j : Int) < B.length := by omega
      have hjn : (j : Int).toNat = j := Int.toNat_natCast j
      have w2 : IntKind.i64.wrap ((j : Int) + 1) = ((j + 1 : Nat) : Int) := by rw [wrap_in (by omega) (by omega)]; rfl
      have w3 : IntKind.i64.wrap ((i : Int) + 1) = ((i + 1 : Nat) : Int) := by rw [wrap_in (by omega) (by omega)]; rfl
      refine WP.seq_k fun K9 hK9 => ?_
      refine WP.block ?_
      refine WP.seq_k fun K10 hK10 => ?_
      refine WP.region hT rfl ?_
      simp only [go_sem, ↓reduceIte, reduceCtorEq, Nat.reduceEqDiff, Nat.reduceLT, Nat.reduceLeDiff, Nat.reduceAdd, Nat.reduceMul, Int.reduceLE, e0, e6, hbB, htB, hBl, hBj, hjn]
      refine ⟨hj0, by omega, ?_⟩
      refine hK10 _ _ _ ?_
      clear hK10 K10
      refine WP.seq_k fun K11 hK11 => ?_
      refine WP.region hT rfl ?_
      simp only [go_sem, ↓reduceIte, reduceCtorEq, Nat.reduceEqDiff, Nat.reduceLT, Nat.reduceLeDiff, Nat.reduceAdd, Nat.reduceMul, Int.reduceLE, e1]
      refine hcall B _ l[j] (List.getElem_mem hjl) ?_
      unfold sealK
      simp only [go_sem, ↓reduceIte, reduceCtorEq, Nat.reduceEqDiff, Nat.reduceLT, Nat.reduceLeDiff, Nat.reduceAdd, Nat.reduceMul, Int.reduceLE]
      refine hK11 _ _ _ ?_
      clear hK11 K11
      have hft := filt_take (p := p) hge
      have hlej := filt_le (l := l) (p := p) j (by omega)
      have step : ∀ (E' : Env) (B' : List AV) (i' : Nat), B'.length = len → i' < j + 1 → i' = ((l.take (j + 1)).filter fun a => !p a).length → B'.take i' = ((l.take (j + 1)).filter fun a => !p a).map (AV.int .i64) → B'.drop (j + 1) = (l.drop (j + 1)).map (AV.int .i64) → (∀ e, e ∈ B' → ∃ a, e = AV.int .i64 a) →
          E'.get 0 = .sl 1 id 0 len len ex → E'.get 1 = .fn g cap → E'.get 5 = .int .i64 i' → E'.get 6 = .int .i64 j → K9 E' (h.upd id B') n := by
        intro E' B' i' q1 q2 q3 q4 q5 q6 f0 f1 f5 f6
        refine hK9 _ _ _ ?_
        refine WP.region hT rfl ?_
        simp only [go_sem, ↓reduceIte, reduceCtorEq, Nat.reduceEqDiff, Nat.reduceLT, Nat.reduceLeDiff, Nat.reduceAdd, Nat.reduceMul, Int.reduceLE, f6, w2]
        refine ⟨len - (j + 1), by omega, B', i', j + 1, rfl, q1, q2, by omega, q3, q4, q5, q6, rfl, ?_, ?_, ?_, ?_⟩
        · simpa [Env.get, Env.put] using f0
        · simpa [Env.get, Env.put] using f1
        · simpa [Env.get, Env.put] using f5
        · simp [Env.get, Env.put]
      have hBd1 : B.drop (j + 1) = (l.drop (j + 1)).map (AV.int .i64) := by
        have q : (B.drop j).drop 1 = ((l.drop j).map (AV.int .i64)).drop 1 := by rw [hBd]
        rw [← List.map_drop, List.drop_drop, List.drop_drop] at q
        exact q
      cases hp : p l[j] with
      | true =>
        rw [if_pos hp, List.append_nil] at hft
        refine WP.cond (t := false) ?_ (fun hc => by cases hc) (fun _ => ?_)
        · simp only [ev, Env.get_put_some, ↓reduceIte, Nat.reduceEqDiff, hp, Bool.not_true]
        refine WP.skip ?_
        simp only [go_sem, ↓reduceIte, reduceCtorEq, Nat.reduceEqDiff, Nat.reduceLT, Nat.reduceLeDiff, Nat.reduceAdd, Nat.reduceMul, Int.reduceLE]
        refine step _ B i hBl (by omega) (by rw [hft]; exact hi) (by rw [hft]; exact hBt) hBd1 hBa ?_ ?_ ?_ ?_
        · simpa [Env.get, Env.put] using e0
        · simpa [Env.get, Env.put] using e1
        · simpa [Env.get, Env.put] using e5
        · simpa [Env.get, Env.put] using e6
      | false =>
        rw [if_neg (by rw [hp]; decide)] at hft
        refine WP.cond (t := true) ?_ (fun _ => ?_) (fun hc => by cases hc)
        · simp only [ev, Env.get_put_some, ↓reduceIte, Nat.reduceEqDiff, hp, Bool.not_false]
        refine WP.seq_k fun K12 hK12 => ?_
        refine WP.region hT rfl ?_
        have hi0' : (0 : Int) ≤ i := by omega
        have hin : (i : Int).toNat = i := Int.toNat_natCast i
        have hil : i < B.length := by omega
        obtain ⟨b0, hb0⟩ := hBa _ (List.getElem_mem hil)
        have hBi := List.getElem?_eq_getElem hil
        rw [hb0] at hBi
        simp only [go_sem, ↓reduceIte, reduceCtorEq, Nat.reduceEqDiff, Nat.reduceLT, Nat.reduceLeDiff, Nat.reduceAdd, Nat.reduceMul, Int.reduceLE, e0, e5, hbB, htB, hBl, hin, hBi]
        refine ⟨hi0', by omega, hK12 _ _ _ ?_⟩
        clear hK12 K12
        refine WP.region hT rfl ?_
        simp only [go_sem, ↓reduceIte, reduceCtorEq, Nat.reduceEqDiff, Nat.reduceLT, Nat.reduceLeDiff, Nat.reduceAdd, Nat.reduceMul, Int.reduceLE, e5, w3]
        rw [Heap.upd_upd]
        refine step _ (B.set i (.int .i64 l[j])) (i + 1) (by rw [List.length_set]; exact hBl) (by omega) (by rw [hft, List.length_append]; simp [← hi]) ?_ ?_ ?_ ?_ ?_ ?_ ?_
        · rw [List.take_add_one, List.take_set_of_le (Nat.le_refl i), List.getElem?_set_self hil, hBt, hft, List.map_append]; rfl
        · rw [List.drop_set_of_lt (by omega)]; exact hBd1
        · intro e he
          rcases List.mem_or_eq_of_mem_set he with he | rfl
          · exact hBa e he
          · exact ⟨_, rfl⟩
        · simpa [Env.get, Env.put] using e0
        · simpa [Env.get, Env.put] using e1
        · simp [Env.get, Env.put]
        · simpa [Env.get, Env.put] using e6
    · have hjl : j = len := by have := of_decide_eq_false hc; omega
      subst hjl
      have htl : l.take j = l := List.take_of_length_le (by omega)
      rw [htl] at hi hBt
      refine WP.exit ?_
      simp only [go_sem, ↓reduceIte, reduceCtorEq, Nat.reduceEqDiff, Nat.reduceLT, Nat.reduceLeDiff, Nat.reduceAdd, Nat.reduceMul, Int.reduceLE]
      refine hK4 _ _ _ ?_
      clear hK4 K4 hK6 K6
      refine WP.seq_k fun K13 hK13 => ?_
      refine WP.region hT rfl ?_
      simp only [go_sem, ↓reduceIte, reduceCtorEq, Nat.reduceEqDiff, Nat.reduceLT, Nat.reduceLeDiff, Nat.reduceAdd, Nat.reduceMul, Int.reduceLE, e0, e5]
      refine op_slice_sl i j j rfl rfl rfl (by decide) (fun hq => by cases hq) ⟨Int.natCast_nonneg _, rfl⟩ rfl rfl (by omega) (Nat.le_refl _) (Nat.le_refl _) ?_
      unfold sealK
      simp only [go_sem, ↓reduceIte, reduceCtorEq, Nat.reduceEqDiff, Nat.reduceLT, Nat.reduceLeDiff, Nat.reduceAdd, Nat.reduceMul, Int.reduceLE]
      refine ⟨2, rfl, by decide, rfl, B, hbB, by omega, ?_⟩
      unfold sealK
      simp only [go_sem, ↓reduceIte, reduceCtorEq, Nat.reduceEqDiff, Nat.reduceLT, Nat.reduceLeDiff, Nat.reduceAdd, Nat.reduceMul, Int.reduceLE]
      refine hK13 _ _ _ ?_
      clear hK13 K13
      refine WP.seq_k fun K14 hK14 => ?_
      refine WP.region hT rfl ?_
      simp only [go_sem, ↓reduceIte, reduceCtorEq, Nat.reduceEqDiff, Nat.reduceLT, Nat.reduceLeDiff, Nat.reduceAdd, Nat.reduceMul, Int.reduceLE, e0, e5]
      refine op_slice_sl 0 i j rfl rfl rfl (by decide) (fun hq => by cases hq) rfl ⟨Int.natCast_nonneg _, rfl⟩ rfl (Nat.zero_le _) (by omega) (Nat.le_refl _) ?_
      unfold sealK
      simp only [go_sem, ↓reduceIte, reduceCtorEq, Nat.reduceEqDiff, Nat.reduceLT, Nat.reduceLeDiff, Nat.reduceAdd, Nat.reduceMul, Int.reduceLE]
      refine hK14 _ _ _ ?_
      clear hK14 K14
      refine WP.ret ?_
      have hBil : (B.take i).length = i := by rw [List.length_take]; omega
      refine ⟨_, rfl, _, _, _, .keep _ _ _ _ (fun _ _ h => h), 1, id, i, j, _, _, rfl, Heap.upd_same _ _ _, ?_, ?_⟩
      · simp only [Nat.zero_add, List.length_append, hBil]; omega
      rw [Heap.upd_upd, Heap.upd_upd]
      rw [List.append_assoc]
      rw [List.take_left' hBil, hBt, hi]
      exact hk
end
end Go.Proofs.Ytcngfjmfgeckmaa
end
section
namespace Go.Proofs.Ytcngfjmfgeckmaa
open Go
set_option linter.unusedSimpArgs false
set_option linter.unusedVariables false
set_option maxRecDepth 20000
attribute [local irreducible] IntKind.wrap bitA
section
variable {h : Heap} {n : Nat} {K : AV → Heap → Nat → Prop}
def m_s_l13Losers_a1 (fu : Nat) (v327 : List Int) : Option (List Int) :=
  some v327
def m_s_l13Losers_a2 (fu : Nat) (v521 : Int) (v561 : List Int) (v566 : List Int) (v570 : List Int) : Option (((List Int) × (List Int) × (List Int) × Int) ⊕ ((List Int) ⊕ Option (List Int))) :=
  some (Sum.inl (v561, v566, v570, IntKind.i64.wrap (v521 + 1)))
def m_s_l13Losers_a3 (fu : Nat) (v510 : List Int) (v515 : List Int) (v519 : List Int) (v521 : Int) : Option (((List Int) × (List Int) × (List Int) × Int) ⊕ ((List Int) ⊕ Option (List Int))) :=
  (if (decide (v521 < (v515.length : Int))) = true then (Option.bind (atL v515 v521) fun a589 => (Option.bind (m_s_l1Has fu v519 a589) fun v597 => (if (!v597) = true then (Option.bind (snocL 8 v510 a589) fun v601 => (m_s_l13Losers_a2 fu v521 v601 v515 v519)) else (m_s_l13Losers_a2 fu v521 v510 v515 v519)))) else some (Sum.inr (Sum.inl v510)))
def m_s_l13Losers_a4 (fu : Nat) (v51 : List Int) (v55 : List Int) : Option (List Int) :=
  (Option.bind (iterN (fun (s : (List Int) × (List Int) × (List Int) × Int) => m_s_l13Losers_a3 fu s.1 s.2.1 s.2.2.1 s.2.2.2) fu (([] : List Int), v51, v55, 0)) fun q524 => Sum.elim (fun (b : (List Int)) => (m_s_l13Losers_a1 fu b)) (fun x => x) q524)
def m_s_l13Losers (fu : Nat) (v0 : List RecD) : Option (List Int) :=
  (Option.bind (m_s_l13Kinds fu v0 1) fun v24 => (Option.bind (m_s_l13Kinds fu v0 3) fun v606 => (Option.bind (m_s_l13Kinds fu v0 4) fun v611 => (Option.bind (appL 8 v606 v611) fun v619 => (m_s_l13Losers_a4 fu v24 v619)))))
set_option maxHeartbeats 2000000 in
theorem w_s_l13Losers_o {x0 : AV} {v0 : List RecD} (h0 : (SlH h n 8 RecR) x0 v0) {fu : Nat} {r : (List Int)} (hm : m_s_l13Losers fu v0 = some r) (hk : ∀ A rw, NOwn n 0 1 Int64R A rw r → K A (hp h n [rw]) (n + 1)) : CA Try.prog 64 [x0] h n K := by
 refine CA.enterQ (N := 36) (rs := [.tmp 2]) hT Try.call64 Try.func64 rfl rfl (of_decide_eq_true rfl) rfl fun hlt => ?_
 unfold m_s_l13Losers at hm
 obtain ⟨es11, a12, l13, b14, F15⟩ := sHo h0
 refine rg0 hT ?_
 obtain ⟨v24, q23, hm⟩ := obs hm
 refine WQ.sr hT rfl fun K17 hK17 => ?_
 refine sq F15 ?_
 refine w_s_l13Kinds_o (SlH.up h0 0) (i64c (a := 1) rfl) q23 (fun x25 rw26 h27 => ?_)
 refine sk (a5 F15 (nown_rd h27) (nown_len h27) (nown_cells h27) (nown_good h27)) ?_
 refine kn hK17 ?_
 clear hK17 K17
 refine WQ.seq_k fun K28 hK28 => ?_
 have j57 : ∀ (E' : Env) (h' : Heap) (n' : Nat) (x49 : AV) (rw50 : Option (List AV)) (v51 : List Int) (h52 : NOwn n 0 1 Int64R x49 rw50 v51) (x53 : AV) (rw54 : Option (List AV)) (v55 : List Int) (h56 : NOwn n 1 1 Int64R x53 rw54 v55), Norm n h E' h' n' (envZ [3, 4] [x49, x53]) (hp h n [rw50, rw54]) (n + 2) → (m_s_l13Losers_a4 fu v51 v55) = some r → K28 E' h' n' := by
  intro E59 H60 n61 x49 rw50 v51 h52 x53 rw54 v55 h56 N58 hm
  refine hK28 _ _ _ _ _ _ N58 ?_
  clear N58 hK28 K28
  unfold m_s_l13Losers_a4 at hm
  refine rg0 hT ?_
  refine WQ.seq_k fun K63 hK63 => ?_
  have j330 : ∀ (E' : Env) (h' : Heap) (n' : Nat) (es326 : List AV) (v327 : List Int) (a328 : All2 Int64R es326 v327) (b329 : es326.length ≤ 140737488355328), Norm n h E' h' n' (envZ [5] [(.sl 1 n 0 v327.length v327.length false)]) (hp h n [some es326]) (n + 1) → (m_s_l13Losers_a1 fu v327) = some r → K63 E' h' n' := by
   intro E332 H333 n334 es326 v327 a328 b329 N331 hm
   refine hK63 _ _ _ _ _ _ N331 ?_
   clear N331 hK63 K63
   unfold m_s_l13Losers_a1 at hm
   refine rg hT (a2 (all2_length a328) (own_take a328)) ?_
   refine WQ.norm (E2 := envZ [2] [(.sl 1 n 0 v327.length v327.length false)]) (h2 := hp h n [(some es326)]) (n2 := n + 1) ?_ (WQ.ret ⟨_, rfl, _, _, _, .keep _ _ _ _ (fun _ _ h => h), ?_⟩)
   exact nm [0] [2] [(.sl 1 n 0 v327.length v327.length false)] (rc (Rn.own (js := [0]) 0 0) rn) (RowsR.row 0 _ _ _ _ hp_get0 (RnL.all2 a328 int64_lt) RowsR.nil)
   exact hkN hk (m := v327) hm (nown_own a328 b329)
  clear hK63
  refine rg0 hT ?_
  refine WQ.block ?_
  obtain ⟨q524, hq525, hm⟩ := obs hm
  refine WQ.norm ?_ (WQ.iter (step := (fun (s : (List Int) × (List Int) × (List Int) × Int) => m_s_l13Losers_a3 fu s.1 s.2.1 s.2.2.1 s.2.2.2)) (fun (s : (List Int) × (List Int) × (List Int) × Int) E' h' n' => ∃ (es509 : List AV), ∃ (x513 : AV), ∃ (rw514 : Option (List AV)), ∃ (x517 : AV), ∃ (rw518 : Option (List AV)), All2 Int64R es509 s.1 ∧ es509.length ≤ 140737488355328 ∧ NOwn n 0 1 Int64R x513 rw514 s.2.1 ∧ NOwn n 1 1 Int64R x517 rw518 s.2.2.1 ∧ I64 s.2.2.2 ∧ (envZ [3, 4, 5, 6] [x513, x517, (.sl 1 (n + 2) 0 s.1.length s.1.length false), (.int .i64 s.2.2.2)]) = E' ∧ (hp h n [rw514, rw518, some es509]) = h' ∧ (n + 3) = n') hq525 ⟨([]), x49, rw50, x53, rw54, (nl0 Int64R), (of_decide_eq_true rfl), h52, h56, (i64c (a := 0) rfl), rfl, rfl, rfl⟩ ?_)
  exact nm [0, 1, 2] [3, 4, 5, 6] [x49, x53, (.sl 1 (n + 2) 0 0 0 true), (.int .i64 0)] (rc (nown_rn h52 rfl) (rc (nown_rn h56 rfl) (rc (Rn.ownF (js := [0, 1, 2]) 2 2) (rc rki rn)))) (RowsR.opt 0 _ _ _ (.inr hp_get0) (nown_rows (j := 0) h52 int64_lt) (RowsR.opt 1 _ _ _ (.inr (hp_get 1)) (nown_rows (j := 1) h56 int64_lt) (RowsR.row 2 _ _ _ _ (hp_get 2) (RnL.all2 (nl0 Int64R) int64_lt) RowsR.nil)))
  rintro ⟨v510, v515, v519, v521⟩ E' h' n' o523 ⟨es509, x513, rw514, x517, rw518, a511, b512, h516, h520, i522, rfl, rfl, rfl⟩ ho527 hf526
  replace a511 : All2 Int64R es509 v510 := a511
  replace b512 : es509.length ≤ 140737488355328 := b512
  replace h516 : NOwn n 0 1 Int64R x513 rw514 v515 := h516
  replace h520 : NOwn n 1 1 Int64R x517 rw518 v519 := h520
  replace i522 : I64 v521 := i522
  replace ho527 : m_s_l13Losers_a3 fu v510 v515 v519 v521 = some o523 := ho527
  unfold m_s_l13Losers_a3 at ho527
  show WQ Try.prog _ n h _ _ (envZ [3, 4, 5, 6] [x513, x517, (.sl 1 (n + 2) 0 v510.length v510.length false), (.int .i64 v521)]) (hp h n [rw514, rw518, some es509]) (n + 3)
  refine WQ.seq_k fun K528 hK528 => ?_
  refine rg hT (a4 (nown_rd h516) (nown_len h516) (nown_cells h516) (nown_good h516)) ?_
  refine cn ho527 (fun z532 ho527 => ?_) fun z532 ho527 => ?_
  refine WQ.skip ?_
  refine sg ?_
  refine kn hK528 ?_
  clear hK528 K528
  refine WQ.seq_k fun K533 hK533 => ?_
  have j572 : ∀ (E' : Env) (h' : Heap) (n' : Nat) (es560 : List AV) (v561 : List Int) (a562 : All2 Int64R es560 v561) (b563 : es560.length ≤ 140737488355328) (x564 : AV) (rw565 : Option (List AV)) (v566 : List Int) (h567 : NOwn n 0 1 Int64R x564 rw565 v566) (x568 : AV) (rw569 : Option (List AV)) (v570 : List Int) (h571 : NOwn n 1 1 Int64R x568 rw569 v570), Norm n h E' h' n' (envZ [3, 4, 5, 6] [x564, x568, (.sl 1 (n + 2) 0 v561.length v561.length false), (.int .i64 v521)]) (hp h n [rw565, rw569, some es560]) (n + 3) → (m_s_l13Losers_a2 fu v521 v561 v566 v570) = some o523 → K533 E' h' n' := by
   intro E574 H575 n576 es560 v561 a562 b563 x564 rw565 v566 h567 x568 rw569 v570 h571 N573 ho527
   refine hK533 _ _ _ _ _ _ N573 ?_
   clear N573 hK533 K533
   unfold m_s_l13Losers_a2 at ho527
   refine WQ.region hT rfl ?_
   refine sq0 ?_
   refine ⟨_, _, _, _, (Option.some.inj ho527).symm, ?_, es560, x564, rw565, x568, rw569, a562, b563, h567, h571, (rng_wrap64 _), rfl, rfl, rfl⟩
   exact nm [0, 1, 2] [3, 4, 5, 6] [x564, x568, (.sl 1 (n + 2) 0 v561.length v561.length false), (.int .i64 (IntKind.i64.wrap (v521 + 1)))] (rc (nown_rn h567 rfl) (rc (nown_rn h571 rfl) (rc (Rn.own (js := [0, 1, 2]) 2 2) (rc rki rn)))) (RowsR.opt 0 _ _ _ (.inr hp_get0) (nown_rows (j := 0) h567 int64_lt) (RowsR.opt 1 _ _ _ (.inr (hp_get 1)) (nown_rows (j := 1) h571 int64_lt) (RowsR.row 2 _ _ _ _ (hp_get 2) (RnL.all2 a562 int64_lt) RowsR.nil)))
  clear hK533
  refine WQ.block ?_
  refine WQ.seq_k fun K577 hK577 => ?_
  obtain ⟨a589, q590, ho527⟩ := obs ho527
  obtain ⟨e593, p591, h595⟩ := atk q590 (nown_all h516)
  obtain ⟨rfl, ia589⟩ := h595
  obtain ⟨v597, q596, ho527⟩ := obs ho527
  refine WQ.region hT rfl ?_
  refine sq (a5 (nown_rd h516) (nown_len h516) (nown_cells h516) (nown_good h516) (a5 (nown_rd h520) (nown_len h520) (nown_cells h520) (nown_good h520) p591)) ?_
  refine w_s_l1Has (nown_H (j := 1) (m := 3) h520 (hp_get 1) rfl) ia589 q596 (fun y598 h599 => ?_)
  obtain rfl := h599
  refine sk (a5 (nown_rd h516) (nown_len h516) (nown_cells h516) (nown_good h516) (a5 (nown_rd h520) (nown_len h520) (nown_cells h520) (nown_good h520) p591)) ?_
  refine kn hK577 ?_
  clear hK577 K577
  refine cn ho527 (fun z600 ho527 => ?_) fun z600 ho527 => ?_
  obtain ⟨v601, q602, ho527⟩ := obs ho527
  refine WQ.region hT rfl ?_
  refine sq (a5 (nown_rd h516) (nown_len h516) (nown_cells h516) (nown_good h516) (a3 (all2_length a511) (own_take a511) p591)) ?_
  refine ⟨2, rfl, app_mv1 (j := 2) rfl (of_decide_eq_true rfl) rfl ?_ ?_ (all2_length a511) q602 a511 (int64R ia589) ?_⟩
  exact sc (a5 (nown_rd h516) (nown_len h516) (nown_cells h516) (nown_good h516) (a3 (all2_length a511) (own_take a511) p591))
  exact sc0
  refine sk (a5 (nown_rd h516) (nown_len h516) (nown_cells h516) (nown_good h516) (a5 (all2_length (snoc_all2 q602 a511 (int64R ia589))) (own_take (snoc_all2 q602 a511 (int64R ia589))) (all2_length a511) (own_take a511) p591)) ?_
  refine j572 _ _ _ (es509 ++ [(.int .i64 a589)]) v601 (snoc_all2 q602 a511 (int64R ia589)) (snoc_len q602 a511 (int64R ia589)) x513 rw514 v515 h516 x517 rw518 v519 h520 ?_ ho527
  exact nm [0, 1, 4] [3, 4, 5, 6] [x513, x517, (.sl 1 (n + 4) 0 v601.length v601.length false), (.int .i64 v521)] (rc (nown_rn h516 rfl) (rc (nown_rn h520 rfl) (rc (Rn.own (js := [0, 1, 4]) 4 2) (rc rki rn)))) (RowsR.opt 0 _ _ _ (.inr hp_get0) (nown_rows (j := 0) h516 int64_lt) (RowsR.opt 1 _ _ _ (.inr (hp_get 1)) (nown_rows (j := 1) h520 int64_lt) (RowsR.row 4 _ _ _ _ (hp_get 4) (RnL.all2 (snoc_all2 q602 a511 (int64R ia589)) int64_lt) RowsR.nil)))
  refine WQ.skip ?_
  refine sg ?_
  refine j572 _ _ _ es509 v510 a511 b512 x513 rw514 v515 h516 x517 rw518 v519 h520 ?_ ho527
  exact nm [0, 1, 2] [3, 4, 5, 6] [x513, x517, (.sl 1 (n + 2) 0 v510.length v510.length false), (.int .i64 v521)] (rc (nown_rn h516 rfl) (rc (nown_rn h520 rfl) (rc (Rn.own (js := [0, 1, 2]) 2 2) (rc rki rn)))) (RowsR.opt 0 _ _ _ (.inr hp_get0) (nown_rows (j := 0) h516 int64_lt) (RowsR.opt 1 _ _ _ (.inr (hp_get 1)) (nown_rows (j := 1) h520 int64_lt) (RowsR.row 2 _ _ _ _ (hp_get 2) (RnL.all2 a511 int64_lt) RowsR.nil)))
  refine WQ.exit ?_
  refine sg ?_
  have e603 := hf526 _ (Option.some.inj ho527).symm
  rw [← e603] at hm
  refine j330 _ _ _ es509 v510 a511 b512 ?_ hm
  exact nm [2] [5] [(.sl 1 (n + 2) 0 v510.length v510.length false)] (rc (Rn.own (js := [2]) 2 0) rn) (RowsR.row 2 _ _ _ _ (hp_get 2) (RnL.all2 a511 int64_lt) RowsR.nil)
 clear hK28
 obtain ⟨v606, q605, hm⟩ := obs hm
 obtain ⟨v611, q610, hm⟩ := obs hm
 refine WQ.region hT rfl ?_
 refine sq F15 ?_
 refine w_s_l13Kinds_o (SlH.up h0 1) (i64c (a := 3) rfl) q605 (fun x607 rw608 h609 => ?_)
 replace h609 := nown_up (m := 1) h609
 refine sk (a5 F15 (nown_rd h609) (nown_len h609) (nown_cells h609) (nown_good h609)) ?_
 refine w_s_l13Kinds_o (SlH.up h0 2) (i64c (a := 4) rfl) q610 (fun x612 rw613 h614 => ?_)
 replace h614 := nown_up (m := 2) h614
 refine sk (a5 F15 (nown_rd h609) (nown_len h609) (nown_cells h609) (a5 (nown_good h609) (nown_rd h614) (nown_len h614) (nown_cells h614) (nown_good h614))) ?_
 rcases h609 with ⟨rfl, rfl, z615⟩ | ⟨es616, rfl, rfl, a617, b618⟩
 obtain ⟨v619, q620, hm⟩ := obs hm
 rcases nil_or v611 with z621 | z621
 refine ⟨2, rfl, app_nlN (sz := 1) rfl (of_decide_eq_true rfl) rfl ?_ q620 z615 (nown_all h614) z621 ?_⟩
 exact sc (a5 F15 (nown_rd h614) (nown_len h614) (nown_cells h614) (nown_good h614))
 try unfold sealK
 try simp only [go_sem, ↓reduceIte, reduceCtorEq, Nat.reduceEqDiff, Nat.reduceLT, Nat.reduceLeDiff, Nat.reduceAdd, Nat.reduceMul, Int.reduceLE, F15, nown_rd h614, nown_len h614, nown_cells h614, nown_good h614]
 refine j57 _ _ _ x25 rw26 v24 h27 .nils none v619 (nown_nil (appN_nil q620 z615 z621)) ?_ hm
 exact nm [0, 1001] [3, 4] [x25, .nils] (rc (nown_rn h27 rfl) (rc (.keep _ .nils) rn)) (RowsR.opt 0 _ _ _ (.inr hp_get0) (nown_rows (j := 0) h27 int64_lt) (RowsR.opt 1001 none _ _ (.inl rfl) (fun _ h => nomatch h) RowsR.nil))
 refine ⟨2, rfl, app_nlC (sz := 1) rfl (of_decide_eq_true rfl) rfl ?_ q620 z615 (nown_all h614) z621 ?_⟩
 exact sc (a5 F15 (nown_rd h614) (nown_len h614) (nown_cells h614) (nown_good h614))
 try unfold sealK
 try simp only [go_sem, ↓reduceIte, reduceCtorEq, Nat.reduceEqDiff, Nat.reduceLT, Nat.reduceLeDiff, Nat.reduceAdd, Nat.reduceMul, Int.reduceLE, F15, nown_rd h614, nown_len h614, nown_cells h614, nown_good h614, all2_length (app_all2 q620 (all2_of_nil z615) (nown_all h614)), own_take (app_all2 q620 (all2_of_nil z615) (nown_all h614))]
 refine j57 _ _ _ x25 rw26 v24 h27 (.sl 1 (n + 1) 0 v619.length v619.length false) (some ([] ++ (Option.getD rw613 []))) v619 (nown_own (app_all2 q620 (all2_of_nil z615) (nown_all h614)) (app_len q620 (all2_of_nil z615) (nown_all h614))) ?_ hm
 exact nm [0, 3] [3, 4] [x25, (.sl 1 (n + 3) 0 v619.length v619.length false)] (rc (nown_rn h27 rfl) (rc (Rn.own (js := [0, 3]) 3 1) rn)) (RowsR.opt 0 _ _ _ (.inr hp_get0) (nown_rows (j := 0) h27 int64_lt) (RowsR.row 3 _ _ _ _ (hp_get 3) (RnL.all2 (app_all2 q620 (all2_of_nil z615) (nown_all h614)) int64_lt) RowsR.nil))
 obtain ⟨v622, q623, hm⟩ := obs hm
 rcases nil_or v611 with z624 | z624
 refine ⟨2, rfl, app_mvN (j := 1) rfl (of_decide_eq_true rfl) rfl ?_ ?_ (all2_length a617) q623 a617 (nown_all h614) z624 ?_⟩
 exact sc (a5 F15 (all2_length a617) (own_take a617) (nown_rd h614) (a3 (nown_len h614) (nown_cells h614) (nown_good h614)))
 exact sc0
 try unfold sealK
 try simp only [go_sem, ↓reduceIte, reduceCtorEq, Nat.reduceEqDiff, Nat.reduceLT, Nat.reduceLeDiff, Nat.reduceAdd, Nat.reduceMul, Int.reduceLE, F15, all2_length a617, own_take a617, all2_length (app_all2n q623 z624 a617), own_take (app_all2n q623 z624 a617), nown_rd h614, nown_len h614, nown_cells h614, nown_good h614]
 refine j57 _ _ _ x25 rw26 v24 h27 (.sl 1 (n + 1) 0 v622.length v622.length false) (some es616) v622 (nown_own (app_all2n q623 z624 a617) b618) ?_ hm
 exact nm [0, 1] [3, 4] [x25, (.sl 1 (n + 1) 0 v622.length v622.length false)] (rc (nown_rn h27 rfl) (rc (Rn.own (js := [0, 1]) 1 1) rn)) (RowsR.opt 0 _ _ _ (.inr hp_get0) (nown_rows (j := 0) h27 int64_lt) (RowsR.row 1 _ _ _ _ (hp_get 1) (RnL.all2 (app_all2n q623 z624 a617) int64_lt) RowsR.nil))
 refine ⟨2, rfl, app_mvC (j := 1) rfl (of_decide_eq_true rfl) rfl ?_ ?_ (all2_length a617) q623 a617 (nown_all h614) z624 ?_⟩
 exact sc (a5 F15 (all2_length a617) (own_take a617) (nown_rd h614) (a3 (nown_len h614) (nown_cells h614) (nown_good h614)))
 exact sc0
 try unfold sealK
 try simp only [go_sem, ↓reduceIte, reduceCtorEq, Nat.reduceEqDiff, Nat.reduceLT, Nat.reduceLeDiff, Nat.reduceAdd, Nat.reduceMul, Int.reduceLE, F15, all2_length a617, own_take a617, nown_rd h614, nown_len h614, nown_cells h614, nown_good h614, all2_length (app_all2 q623 a617 (nown_all h614)), own_take (app_all2 q623 a617 (nown_all h614))]
 refine j57 _ _ _ x25 rw26 v24 h27 (.sl 1 (n + 1) 0 v622.length v622.length false) (some (es616 ++ (Option.getD rw613 []))) v622 (nown_own (app_all2 q623 a617 (nown_all h614)) (app_len q623 a617 (nown_all h614))) ?_ hm
 exact nm [0, 3] [3, 4] [x25, (.sl 1 (n + 3) 0 v622.length v622.length false)] (rc (nown_rn h27 rfl) (rc (Rn.own (js := [0, 3]) 3 1) rn)) (RowsR.opt 0 _ _ _ (.inr hp_get0) (nown_rows (j := 0) h27 int64_lt) (RowsR.row 3 _ _ _ _ (hp_get 3) (RnL.all2 (app_all2 q623 a617 (nown_all h614)) int64_lt) RowsR.nil))
end
end Go.Proofs.Ytcngfjmfgeckmaa
end
namespace Go.Proofs.Ytcngfjmfgeckmaa
open Go
section
variable {h : Heap} {n : Nat} {K : AV → Heap → Nat → Prop}
def delF (fu : Nat) (f : Int → Option Bool) (l : List Int) : Option (List Int) := if l.length < fu then (if (l.all fun a => (f a).isSome) = true then some (l.filter fun a => !((f a).getD false)) else none) else none
theorem delF_ok {fu : Nat} {f : Int → Option Bool} {l r : List Int} (hq : delF fu f l = some r) : l.length < fu ∧ (∀ a, a ∈ l → f a = some ((f a).getD false)) ∧ r = l.filter fun a => !((f a).getD false) := by
  unfold delF at hq
  split at hq
  · split at hq
    · rename_i h1 h2
      refine ⟨h1, fun a ha => ?_, (Option.some.inj hq).symm⟩
      have := List.all_eq_true.1 h2 a ha
      cases hf : f a with
      | none => rw [hf] at this; cases this
      | some b => rfl
    · cases hq
  · cases hq
theorem w_del {rows : List (Option (List AV))} {es : List AV} {v r : List Int} {id N len fu : Nat} {ex : Bool} {g : FuncId} {cap : List AV} {f : Int → Option Bool} (hq : delF fu f v = some r) (ha : All2 Int64R es v) (hg : hp h n rows id = some es) (hid : id < N) (hb : es.length ≤ 140737488355328) (hlen : es.length = len)
    (hidx : ∀ K : AV → Heap → Nat → Prop, K (.int .i64 (match v.findIdx? (fun a => (f a).getD false) with | some j => ((j : Nat) : Int) | none => -1)) (hp h n rows) N → CA Try.prog 141 [.sl 1 id 0 len len ex, .fn g cap] (hp h n rows) N K)
    (hcall : ∀ (B : List AV) (K : AV → Heap → Nat → Prop) (a : Int) (b : Bool), I64 a → f a = some b → K (.bool b) ((hp h n rows).upd id B) N → CA Try.prog g ([.int .i64 a] ++ cap) ((hp h n rows).upd id B) N K)
    (hk : ∀ es', All2 Int64R es' r → es'.length ≤ 140737488355328 → K (.sl 1 id 0 r.length r.length false) ((hp h n rows).upd id es') N) : CA Try.prog 113 [.sl 1 id 0 len len ex, .fn g cap] (hp h n rows) N K := by
  obtain ⟨h1, h2, rfl⟩ := delF_ok hq
  have he := all2_ints ha
  have hl := all2_length ha
  have hi := all2_i64 ha
  have hfl : (v.filter fun a => !((f a).getD false)).length ≤ v.length := List.length_filter_le _ _
  rw [he] at hg
  refine del_ints (p := fun a => (f a).getD false) hid hg (hl.symm.trans hlen) (by omega) hidx (fun B K a hm hK => hcall B K a _ (hi a hm) (h2 a hm) hK) (hk _ (ints_all2 fun a hm => hi a (List.mem_filter.1 hm).1) ?_)
  rw [List.length_map]; omega
theorem delF_nil {fu : Nat} {f : Int → Option Bool} {l r : List Int} (hq : delF fu f l = some r) (hz : l = []) : r = [] := by
  obtain ⟨_, _, rfl⟩ := delF_ok hq
  subst hz; rfl
theorem w_del_nil {H : Heap} {v : List Int} {N : Nat} {g : FuncId} {cap : List AV} {p : Int → Bool} (hz : v = []) (hidx : ∀ K : AV → Heap → Nat → Prop, K (.int .i64 (match v.findIdx? p with | some j => ((j : Nat) : Int) | none => -1)) H N → CA Try.prog 141 [.nils, .fn g cap] H N K)
    (hk : K .nils H N) : CA Try.prog 113 [.nils, .fn g cap] H N K := by
  subst hz
  refine CA.conv (CA.enter (N := 42) (rs := [.tmp 4]) hT Try.call113 Try.func113 rfl rfl (by simp) rfl fun hlt => ?_)
  refine WP.seq_k fun K0 hK0 => ?_
  refine WP.region hT rfl ?_
  simp only [go_sem, ↓reduceIte, reduceCtorEq, Nat.reduceEqDiff, Nat.reduceLT, Nat.reduceLeDiff, Nat.reduceAdd, Nat.reduceMul, Int.reduceLE]
  refine hK0 _ _ _ ?_
  clear hK0 K0
  refine WP.seq_k fun K0 hK0 => ?_
  refine WP.region hT rfl ?_
  simp only [go_sem, ↓reduceIte, reduceCtorEq, Nat.reduceEqDiff, Nat.reduceLT, Nat.reduceLeDiff, Nat.reduceAdd, Nat.reduceMul, Int.reduceLE]
  refine hidx _ ?_
  unfold sealK
  simp only [List.findIdx?_nil]
  simp only [go_sem, ↓reduceIte, reduceCtorEq, Nat.reduceEqDiff, Nat.reduceLT, Nat.reduceLeDiff, Nat.reduceAdd, Nat.reduceMul, Int.reduceLE]
  refine hK0 _ _ _ ?_
  clear hK0 K0
  refine WP.seq_k fun K2 hK2 => ?_
  refine WP.seq_k fun K3 hK3 => ?_
  refine WP.region hT rfl ?_
  simp only [go_sem, ↓reduceIte, reduceCtorEq, Nat.reduceEqDiff, Nat.reduceLT, Nat.reduceLeDiff, Nat.reduceAdd, Nat.reduceMul, Int.reduceLE]
  refine hK3 _ _ _ ?_
  clear hK3 K3
  refine WP.cond (t := true) (by kernel_rfl) (fun _ => ?_) (fun hc => by cases hc)
  refine WP.seq_k fun K4 hK4 => ?_
  refine WP.region hT rfl ?_
  simp only [go_sem, ↓reduceIte, reduceCtorEq, Nat.reduceEqDiff, Nat.reduceLT, Nat.reduceLeDiff, Nat.reduceAdd, Nat.reduceMul, Int.reduceLE]
  refine hK4 _ _ _ ?_
  clear hK4 K4
  refine WP.ret ?_
  exact ⟨_, rfl, _, _, _, .keep _ _ _ _ (fun _ _ h => h), hk⟩
theorem len_small0 {v : List Int} (hz : v = []) : v.length < 9223372036854775807 := by subst hz; decide
theorem len_small {es : List AV} {v : List Int} (ha : All2 Int64R es v) (hb : es.length ≤ 140737488355328) : v.length < 9223372036854775807 := by have := all2_length ha; omega
end
end Go.Proofs.Ytcngfjmfgeckmaa
section
namespace Go.Proofs.Ytcngfjmfgeckmaa
open Go
set_option linter.unusedSimpArgs false
set_option linter.unusedVariables false
set_option maxRecDepth 20000
attribute [local irreducible] IntKind.wrap bitA
section
variable {h : Heap} {n : Nat} {K : AV → Heap → Nat → Prop}
def m_i_losers_1 (fu : Nat) (v0 : Int) (vc0 : List RecD) : Option Bool :=
  (Option.bind (m_i_kindsOf fu vc0 v0 ([3, 4])) fun v23 => some v23)
set_option maxHeartbeats 2000000 in
theorem w_i_losers_1 {v0 : Int} (i0 : I64 v0) {xc0 : AV} {vc0 : List RecD} (hc0 : (SlH h n 8 RecR) xc0 vc0) {idc0 : Nat} (hidc0 : idc0 < n) (hbc0 : h idc0 = some [xc0]) {fu : Nat} {r : Bool} (hm : m_i_losers_1 fu v0 vc0 = some r) (hk : ∀ y, BoolR y r → K y h n) : CA Try.prog 114 [(.int .i64 v0), (.ep 1 (.sl 1 idc0 0 1 1 true) 0 0)] h n K := by
 refine CA.enterQ (N := 8) (rs := [.tmp 3]) hT Try.call114 Try.func114 rfl rfl (of_decide_eq_true rfl) rfl fun hlt => ?_
 unfold m_i_losers_1 at hm
 obtain ⟨es11, a12, l13, b14, F15⟩ := sHo hc0
 refine rg0 hT ?_
 obtain ⟨v23, q22, hm⟩ := obs hm
 refine WQ.sr hT rfl fun K17 hK17 => ?_
 refine sq (a3 (hpl h hidc0) hbc0 F15) ?_
 refine w_i_kindsOf (SlH.up hc0 1) i0 (slH_own (j := 0) (m := 1) hp_get0 (show All2 Int64R [(.int .i64 3), (.int .i64 4)] [3, 4] from (.cons (int64R (i64c (a := 3) rfl)) (.cons (int64R (i64c (a := 4) rfl)) .nil))) (of_decide_eq_true rfl) rfl rfl) q22 (fun y24 h25 => ?_)
 obtain rfl := h25
 refine sk (a3 (hpl h hidc0) hbc0 F15) ?_
 refine kn hK17 ?_
 clear hK17 K17
 exact rtB 3 hlt hk (a := v23) hm
def m_g_IndexFunc_int64__i_losers_1_a1 (fu : Nat) : Option Int :=
  some (-1)
def m_g_IndexFunc_int64__i_losers_1_a2 (fu : Nat) (v0 : List Int) (vk10 : List RecD) (v322 : Int) : Option (Int ⊕ (Unit ⊕ Option Int)) :=
  (if (decide (v322 < (v0.length : Int))) = true then (Option.bind (atL v0 v322) fun a373 => (Option.bind (m_i_losers_1 fu a373 vk10) fun v381 => (if v381 = true then some (Sum.inr (Sum.inr (some v322))) else some (Sum.inl (IntKind.i64.wrap (v322 + 1)))))) else some (Sum.inr (Sum.inl ())))
def m_g_IndexFunc_int64__i_losers_1 (fu : Nat) (v0 : List Int) (vk10 : List RecD) : Option Int :=
  (Option.bind (iterN (fun (s : Int) => m_g_IndexFunc_int64__i_losers_1_a2 fu v0 vk10 s) fu 0) fun q325 => Sum.elim (fun (b : Unit) => (m_g_IndexFunc_int64__i_losers_1_a1 fu)) (fun x => x) q325)
set_option maxHeartbeats 2000000 in
theorem w_g_IndexFunc_int64__i_losers_1 {x0 : AV} {v0 : List Int} (h0 : (SlH h n 1 Int64R) x0 v0) {xk10 : AV} {vk10 : List RecD} (hk10 : (SlH h n 8 RecR) xk10 vk10) {idk10 : Nat} (hidk10 : idk10 < n) (hbk10 : h idk10 = some [xk10]) {fu : Nat} {r : Int} (hm : m_g_IndexFunc_int64__i_losers_1 fu v0 vk10 = some r) (hk : ∀ y, Int64R y r → K y h n) : CA Try.prog 141 [x0, (.fn 114 [(.ep 1 (.sl 1 idk10 0 1 1 true) 0 0)])] h n K := by
 refine CA.enterQ (N := 19) (rs := [.tmp 4]) hT Try.call141 Try.func141 rfl rfl (of_decide_eq_true rfl) rfl fun hlt => ?_
 unfold m_g_IndexFunc_int64__i_losers_1 at hm
 obtain ⟨es11, a12, l13, b14, F15⟩ := sHo h0
 obtain ⟨es16, a17, l18, b19, F20⟩ := sHo hk10
 refine rg0 hT ?_
 refine WQ.seq_k fun K22 hK22 => ?_
 have j199 : ∀ (E' : Env) (h' : Heap) (n' : Nat), Norm n h E' h' n' (envZ [] []) (hp h n []) n → (m_g_IndexFunc_int64__i_losers_1_a1 fu) = some r → K22 E' h' n' := by
  intro E201 H202 n203 N200 hm
  refine hK22 _ _ _ _ _ _ N200 ?_
  clear N200 hK22 K22
  unfold m_g_IndexFunc_int64__i_losers_1_a1 at hm
  refine rg0 hT ?_
  exact rtI 4 hlt hk (a := (-1)) hm (i64c (a := (-1)) rfl)
 clear hK22
 refine rg hT F15 ?_
 refine WQ.block ?_
 obtain ⟨q325, hq326, hm⟩ := obs hm
 refine WQ.norm ?_ (WQ.iter (step := (fun (s : Int) => m_g_IndexFunc_int64__i_losers_1_a2 fu v0 vk10 s)) (fun (s : Int) E' h' n' => I64 s ∧ (envZ [0, 1, 7, 8] [x0, (.fn 114 [(.ep 1 (.sl 1 idk10 0 1 1 true) 0 0)]), (.int .i64 (v0.length : Int)), (.int .i64 s)]) = E' ∧ (hp h n []) = h' ∧ n = n') hq326 ⟨(i64c (a := 0) rfl), rfl, rfl, rfl⟩ ?_)
 exact nm [] [0, 1, 7, 8] [x0, (.fn 114 [(.ep 1 (.sl 1 idk10 0 1 1 true) 0 0)]), (.int .i64 (v0.length : Int)), (.int .i64 0)] (rc (.keep _ (slH_lt h0)) (rc (.keep _ (lt_fn (ltL_cons (.ep _ _ _ _ (.sl _ _ _ _ _ _ hidk10)) ltL_nil))) (rc rki (rc rki rn)))) RowsR.nil
 rintro v322 E' h' n' o324 ⟨i323, rfl, rfl, rfl⟩ ho328 hf327
 replace i323 : I64 v322 := i323
 replace ho328 : m_g_IndexFunc_int64__i_losers_1_a2 fu v0 vk10 v322 = some o324 := ho328
 unfold m_g_IndexFunc_int64__i_losers_1_a2 at ho328
 show WQ Try.prog _ n h _ _ (envZ [0, 1, 7, 8] [x0, (.fn 114 [(.ep 1 (.sl 1 idk10 0 1 1 true) 0 0)]), (.int .i64 (v0.length : Int)), (.int .i64 v322)]) (hp h n []) n
 refine rg0 hT ?_
 refine WQ.seq_k fun K330 hK330 => ?_
 refine cn ho328 (fun z332 ho328 => ?_) fun z332 ho328 => ?_
 refine WQ.skip ?_
 refine sg ?_
 refine kn hK330 ?_
 clear hK330 K330
 refine WQ.seq_k fun K333 hK333 => ?_
 refine WQ.block ?_
 refine rg0 hT ?_
 refine WQ.seq_k fun K361 hK361 => ?_
 obtain ⟨a373, q374, ho328⟩ := obs ho328
 obtain ⟨e377, p375, h379⟩ := atk q374 a12
 obtain ⟨rfl, ia373⟩ := h379
 obtain ⟨v381, q380, ho328⟩ := obs ho328
 refine WQ.region hT rfl ?_
 refine sq (a5 F15 (hpl h hidk10) hbk10 F20 p375) ?_
 refine w_i_losers_1 ia373 (SlH.up hk10 0) hidk10 ((hp_low hidk10).trans hbk10) q380 (fun y382 h383 => ?_)
 obtain rfl := h383
 refine sk (a5 F15 (hpl h hidk10) hbk10 F20 p375) ?_
 refine kn hK361 ?_
 clear hK361 K361
 refine cn ho328 (fun z384 ho328 => ?_) fun z384 ho328 => ?_
 refine rg0 hT ?_
 have e386 := hf327 _ (Option.some.inj ho328).symm
 rw [← e386] at hm
 exact rtI 4 hlt hk (a := v322) hm i323
 refine WQ.skip ?_
 refine sg ?_
 refine kn hK333 ?_
 clear hK333 K333
 refine WQ.region hT rfl ?_
 refine sq0 ?_
 refine ⟨_, _, _, _, (Option.some.inj ho328).symm, ?_, (rng_wrap64 _), rfl, rfl, rfl⟩
 exact nm [] [0, 1, 7, 8] [x0, (.fn 114 [(.ep 1 (.sl 1 idk10 0 1 1 true) 0 0)]), (.int .i64 (v0.length : Int)), (.int .i64 (IntKind.i64.wrap (v322 + 1)))] (rc (.keep _ (slH_lt h0)) (rc (.keep _ (lt_fn (ltL_cons (.ep _ _ _ _ (.sl _ _ _ _ _ _ hidk10)) ltL_nil))) (rc rki (rc rki rn)))) RowsR.nil
 refine WQ.exit ?_
 refine sg ?_
 have e387 := hf327 _ (Option.some.inj ho328).symm
 rw [← e387] at hm
 refine j199 _ _ _  ?_ hm
 exact nm [] [] [] rn RowsR.nil
def m_i_losers_a1 (fu : Nat) (v39 : List Int) : Option (List Int) :=
  some v39
def m_i_losers (fu : Nat) (v0 : List RecD) : Option (List Int) :=
  (Option.bind (m_i_those fu v0 1) fun v47 => (Option.bind (delF fu (fun a => m_i_losers_1 fu a v0) v47) fun v55 => (m_i_losers_a1 fu v55)))
set_option maxHeartbeats 2000000 in
theorem w_i_losers_o {x0 : AV} {v0 : List RecD} (h0 : (SlH h n 8 RecR) x0 v0) {fu : Nat} {r : (List Int)} (hm : m_i_losers fu v0 = some r) (hk : ∀ A rw, NOwn n 0 1 Int64R A rw r → K A (hp h n [rw]) (n + 1)) : CA Try.prog 65 [x0] h n K := by
 refine CA.enterQ (N := 7) (rs := [.tmp 2]) hT Try.call65 Try.func65 rfl rfl (of_decide_eq_true rfl) rfl fun hlt => ?_
 unfold m_i_losers at hm
 obtain ⟨es11, a12, l13, b14, F15⟩ := sHo h0
 refine rg hT F15 ?_
 refine WQ.seq_k fun K17 hK17 => ?_
 have j41 : ∀ (E' : Env) (h' : Heap) (n' : Nat) (x37 : AV) (rw38 : Option (List AV)) (v39 : List Int) (h40 : NOwn n 0 1 Int64R x37 rw38 v39), Norm n h E' h' n' (envZ [2] [x37]) (hp h n [rw38]) (n + 1) → (m_i_losers_a1 fu v39) = some r → K17 E' h' n' := by
  intro E43 H44 n45 x37 rw38 v39 h40 N42 hm
  refine hK17 _ _ _ _ _ _ N42 ?_
  clear N42 hK17 K17
  unfold m_i_losers_a1 at hm
  refine WQ.norm (E2 := envZ [2] [x37]) (h2 := hp h n [rw38]) (n2 := n + 1) ?_ (WQ.ret ⟨_, rfl, _, _, _, .keep _ _ _ _ (fun _ _ h => h), ?_⟩)
  exact nm [0] [2] [x37] (rc (nown_rn h40 rfl) rn) (RowsR.opt 0 _ _ _ (.inr hp_get0) (nown_rows (j := 0) h40 int64_lt) RowsR.nil)
  exact hkN hk (m := v39) hm h40
 clear hK17
 obtain ⟨v47, q46, hm⟩ := obs hm
 refine WQ.region hT rfl ?_
 refine sq F15 ?_
 refine w_i_those_o (SlH.up h0 1) (i64c (a := 1) rfl) q46 (fun x48 rw49 h50 => ?_)
 replace h50 := nown_up (m := 1) h50
 refine sk (a5 F15 (nown_rd h50) (nown_len h50) (nown_cells h50) (nown_good h50)) ?_
 rcases h50 with ⟨rfl, rfl, z51⟩ | ⟨es52, rfl, rfl, a53, b54⟩
 obtain ⟨v55, q56, hm⟩ := obs hm
 refine w_del_nil z51 (fun K hK => w_g_IndexFunc_int64__i_losers_1 (slH_nilE z51) (SlH.up h0 2) (lt_row (j := 0) (m := 2) rfl) hp_get0 (idx_search (f := (fun a => m_i_losers_1 fu a v0)) (g := fun a => Option.getD ((fun a => m_i_losers_1 fu a v0) a) false) (delF_ok q56).2.1 (len_small0 z51) (delF_ok q56).1) (fun y hy => by obtain ⟨rfl, _⟩ := hy; exact hK)) ?_
 try unfold sealK
 try simp only [go_sem, ↓reduceIte, reduceCtorEq, Nat.reduceEqDiff, Nat.reduceLT, Nat.reduceLeDiff, Nat.reduceAdd, Nat.reduceMul, Int.reduceLE, F15]
 refine j41 _ _ _ .nils none v55 (nown_nil (delF_nil q56 z51)) ?_ hm
 exact nm [1000] [2] [.nils] (rc (.keep _ .nils) rn) (RowsR.opt 1000 none _ _ (.inl rfl) (fun _ h => nomatch h) RowsR.nil)
 obtain ⟨v60, q61, hm⟩ := obs hm
 refine w_del q61 a53 (hp_get 1) (lt_row (j := 1) (m := 2) rfl) b54 (all2_length a53) (fun K hK => w_g_IndexFunc_int64__i_losers_1 (slH_own (j := 1) (m := 2) (hp_get 1) a53 b54 (all2_length a53) rfl) (SlH.up h0 2) (lt_row (j := 0) (m := 2) rfl) hp_get0 (idx_search (f := (fun a => m_i_losers_1 fu a v0)) (g := fun a => Option.getD ((fun a => m_i_losers_1 fu a v0) a) false) (delF_ok q61).2.1 (len_small a53 b54) (delF_ok q61).1) (fun y hy => by obtain ⟨rfl, _⟩ := hy; exact hK)) (fun B K a b hi hf hK => by rw [hp_upd] at hK ⊢; exact w_i_losers_1 hi (SlH.up h0 2) (lt_row (j := 0) (m := 2) rfl) hp_get0 hf (fun y hy => by obtain rfl := hy; exact hK)) (fun es62 a63 b64 => ?_)
 try unfold sealK
 try simp only [go_sem, ↓reduceIte, reduceCtorEq, Nat.reduceEqDiff, Nat.reduceLT, Nat.reduceLeDiff, Nat.reduceAdd, Nat.reduceMul, Int.reduceLE, F15, all2_length a63, own_take a63]
 refine j41 _ _ _ (.sl 1 n 0 v60.length v60.length false) (some es62) v60 (nown_own a63 b64) ?_ hm
 exact nm [1] [2] [(.sl 1 (n + 1) 0 v60.length v60.length false)] (rc (Rn.own (js := [1]) 1 0) rn) (RowsR.row 1 _ _ _ _ (hp_get 1) (RnL.all2 a63 int64_lt) RowsR.nil)
end
end Go.Proofs.Ytcngfjmfgeckmaa
end
section
namespace Go.Proofs.Ytcngfjmfgeckmaa
open Go
set_option linter.unusedSimpArgs false
set_option linter.unusedVariables false
set_option maxRecDepth 20000
attribute [local irreducible] IntKind.wrap bitA
section
variable {h : Heap} {n : Nat} {K : AV → Heap → Nat → Prop}
end
end Go.Proofs.Ytcngfjmfgeckmaa
end
namespace Go.Proofs.Ytcngfjmfgeckmaa
open Go
section
variable {fu : Nat} {h : Heap} {n : Nat} {K : AV → Heap → Nat → Prop}
def losersL (l : List RecD) : List Int := (sortI (txnsOf l 1)).filter fun t => !kinds l t [3, 4]
theorem m_i_losers_1_eq {a : Int} {l : List RecD} (hl : l.length ≤ 100000) (hfu : 1000000 < fu) : m_i_losers_1 fu a l = some (kinds l a [3, 4]) := by
  unfold m_i_losers_1
  rw [m_i_kindsOf_eq (ks := [3, 4]) (by omega) (by omega) (by decide) (by simp; omega)]; rfl
theorem m_i_losers_eq {l : List RecD} (hl : l.length ≤ 100000) (hfu : 1000000 < fu) : m_i_losers fu l = some (losersL l) := by
  have h1 := sortI_txns_len l 1
  unfold m_i_losers losersL
  rw [m_i_those_eq (by omega) (by omega), Option.bind_some]
  have hf : (fun a => m_i_losers_1 fu a l) = fun a => some (kinds l a [3, 4]) := funext fun a => m_i_losers_1_eq hl hfu
  have hd : delF fu (fun a => m_i_losers_1 fu a l) (sortI (txnsOf l 1)) = some ((sortI (txnsOf l 1)).filter fun t => !kinds l t [3, 4]) := by
    rw [hf]
    unfold delF
    rw [if_pos (by omega), if_pos (by simp)]
    rfl
  rw [hd]; rfl
theorem mem_txns {l : List RecD} {k t : Int} : t ∈ txnsOf l k ↔ ∃ x, x ∈ l ∧ x.kind = k ∧ x.txn = t := by
  unfold txnsOf
  rw [List.mem_map]
  constructor
  · rintro ⟨x, hx, rfl⟩
    obtain ⟨q1, q2⟩ := List.mem_filter.1 hx
    exact ⟨x, q1, of_decide_eq_true q2, rfl⟩
  · rintro ⟨x, q1, q2, q3⟩
    exact ⟨x, List.mem_filter.2 ⟨q1, decide_eq_true q2⟩, q3⟩
theorem ended_any (l : List RecD) (t : Int) : ((riseAll (txnsOf l 3) ++ riseAll (txnsOf l 4)).any fun a => decide (a = t)) = kinds l t [3, 4] := by
  rw [Bool.eq_iff_iff, kinds_iff, List.any_eq_true]
  constructor
  · rintro ⟨a, ha, h⟩
    obtain rfl := of_decide_eq_true h
    rcases List.mem_append.1 ha with ha | ha
    · obtain ⟨x, q1, q2, q3⟩ := mem_txns.1 ((riseAll_mem a).1 ha)
      exact ⟨x, q1, q3, by simp [q2]⟩
    · obtain ⟨x, q1, q2, q3⟩ := mem_txns.1 ((riseAll_mem a).1 ha)
      exact ⟨x, q1, q3, by simp [q2]⟩
  · rintro ⟨x, q1, q2, q3⟩
    refine ⟨t, ?_, decide_eq_true rfl⟩
    rw [List.mem_append, riseAll_mem, riseAll_mem, mem_txns, mem_txns]
    simp only [List.mem_cons, List.not_mem_nil, or_false] at q3
    rcases q3 with q3 | q3
    · exact .inl ⟨x, q1, q3, q2⟩
    · exact .inr ⟨x, q1, q3, q2⟩
theorem m_s_l13Losers_eq {l : List RecD} (hl : l.length ≤ 100000) (hfu : 1000000 < fu) (h1 : (txnsOf l 1).Nodup) : m_s_l13Losers fu l = some (losersL l) := by
  have e1 := sortI_txns_len l 1
  have l3 := riseAll_len (txnsOf l 3)
  have l4 := riseAll_len (txnsOf l 4)
  have k3 := txnsOf_len l 3
  have k4 := txnsOf_len l 4
  unfold m_s_l13Losers losersL
  rw [m_s_l13Kinds_eq (by omega) (by omega), m_s_l13Kinds_eq (by omega) (by omega), m_s_l13Kinds_eq (by omega) (by omega), Option.bind_some, Option.bind_some, Option.bind_some, appI_eq (by omega), Option.bind_some, riseAll_sort h1]
  have hd : (riseAll (txnsOf l 3) ++ riseAll (txnsOf l 4)).length ≤ 200000 := by rw [List.length_append]; omega
  have hany := ended_any l
  generalize riseAll (txnsOf l 3) ++ riseAll (txnsOf l 4) = done at hd hany
  generalize sortI (txnsOf l 1) = b at e1
  have key : ∀ (m i : Nat), i ≤ b.length → b.length - i < m → iterN (fun (s : (List Int) × (List Int) × (List Int) × Int) => m_s_l13Losers_a3 fu s.1 s.2.1 s.2.2.1 s.2.2.2) m ((b.take i).filter (fun t => !kinds l t [3, 4]), b, done, (i : Int)) = some (Sum.inl (b.filter fun t => !kinds l t [3, 4])) := by
    intro m
    induction m with
    | zero => intro i _ h; omega
    | succ m ih =>
      intro i hi hm
      unfold iterN
      by_cases hlt : i < b.length
      · have hge := List.getElem?_eq_getElem hlt
        have hfl := List.length_filter_le (fun t => !kinds l t [3, 4]) (b.take i)
        rw [List.length_take] at hfl
        have step : m_s_l13Losers_a3 fu ((b.take i).filter (fun t => !kinds l t [3, 4])) b done (i : Int) = some (Sum.inl ((b.take (i + 1)).filter (fun t => !kinds l t [3, 4]), b, done, ((i + 1 : Nat) : Int))) := by
          unfold m_s_l13Losers_a3 m_s_l13Losers_a2
          rw [if_pos (decide_eq_true (Int.ofNat_lt.2 hlt)), atL_nat, hge, Option.bind_some, m_s_l1Has_eq (by omega) (by omega), Option.bind_some, hany, snocL_eq (by omega), wrap_succ (by omega), List.take_add_one, hge, List.filter_append]
          cases hk : kinds l b[i] [3, 4] <;> simp [hk]
        simp only [step]
        exact ih (i + 1) hlt (by omega)
      · have step : m_s_l13Losers_a3 fu ((b.take i).filter (fun t => !kinds l t [3, 4])) b done (i : Int) = some (Sum.inr (Sum.inl (b.filter fun t => !kinds l t [3, 4]))) := by
          unfold m_s_l13Losers_a3
          rw [if_neg (by simp; omega), List.take_of_length_le (by omega)]
        simp only [step]
  have hh := key fu 0 (Nat.zero_le _) (by omega)
  unfold m_s_l13Losers_a4 m_s_l13Losers_a1
  rw [show (([] : List Int), b, done, (0 : Int)) = ((b.take 0).filter (fun t => !kinds l t [3, 4]), b, done, ((0 : Nat) : Int)) from rfl, hh]
  rfl
end
end Go.Proofs.Ytcngfjmfgeckmaa
namespace Go.Proofs.Ytcngfjmfgeckmaa
open Go
section
variable {h : Heap} {n : Nat} {K : AV → Heap → Nat → Prop}
theorem w_rev {rows : List (Option (List AV))} {es : List AV} {v : List Int} {id N len : Nat} {ex : Bool} (ha : All2 Int64R es v) (hg : hp h n rows id = some es) (hid : id < N) (hb : es.length ≤ 140737488355328) (hlen : es.length = len)
    (hk : ∀ es', All2 Int64R es' v.reverse → es'.length ≤ 140737488355328 → K (.tup []) ((hp h n rows).upd id es') N) : CA Try.prog 118 [.sl 1 id 0 len len ex] (hp h n rows) N K := by
  have he := all2_ints ha
  have hl := all2_length ha
  have hi := all2_i64 ha
  have hk := hk (v.reverse.map (AV.int .i64)) (ints_all2 fun a hm => hi a (List.mem_reverse.1 hm)) (by rw [List.length_map, List.length_reverse]; omega)
  subst hlen
  rw [List.map_reverse, ← he] at hk
  have hint : ∀ e, e ∈ es → ∃ a, e = AV.int .i64 a := fun e hm => by rw [he] at hm; obtain ⟨a, _, rfl⟩ := List.mem_map.1 hm; exact ⟨a, rfl⟩
  clear he hl hi ha
  generalize hp h n rows = h at hg hk ⊢
  generalize hlen : es.length = len
  rw [hlen] at hb
  refine CA.conv (CA.enter (N := 28) (rs := []) hT Try.call118 Try.func118 rfl rfl (by simp) rfl fun hlt => ?_)
  have htk : List.take len es = es := List.take_of_length_le (Nat.le_of_eq hlen)
  refine WP.seq_k fun K0 hK0 => ?_
  refine WP.region hT rfl ?_
  have w0 : IntKind.i64.wrap ((len : Int) - 1) = (len : Int) - 1 := wrap_in (by omega) (by omega)
  simp only [go_sem, ↓reduceIte, reduceCtorEq, Nat.reduceEqDiff, Nat.reduceLT, Nat.reduceLeDiff, Nat.reduceAdd, Nat.reduceMul, Int.reduceLE, hg, htk, hlen, w0]
  refine hK0 _ _ _ ?_
  clear hK0 K0
  refine WP.block (WP.loop (fun m E h' n' => ∃ (B : List AV) (i : Nat), m = len - i ∧ B.length = len ∧ 2 * i ≤ len + 1 ∧ i ≤ len ∧ (∀ k, k < len → B[k]? = es[if i ≤ k ∧ k < len - i then k else len - 1 - k]?) ∧ h.upd id B = h' ∧ N = n' ∧
      E.get 0 = .sl 1 id 0 len len ex ∧ E.get 2 = .int .i64 i ∧ E.get 3 = .int .i64 ((len : Int) - 1 - i)) (len - 0) ?_ ?_)
  · refine ⟨es, 0, rfl, hlen, by omega, by omega, fun k hk => by rw [if_pos ⟨Nat.zero_le _, hk⟩], ?_, rfl, rfl, rfl, ?_⟩
    · funext x
      unfold Heap.upd
      split
      · rename_i hx; rw [hx, hg]
      · rfl
    · simp [Env.get, Env.put]
  rintro m E h' n' ⟨B, i, rfl, hBl, hi2, hil, hB, rfl, rfl, e0, e2, e3⟩
  have hbB : (h.upd id B) id = some B := Heap.upd_same _ _ _
  have htB : List.take len B = B := List.take_of_length_le (Nat.le_of_eq hBl)
  refine WP.seq_k fun K6 hK6 => ?_
  refine WP.seq_k fun K7 hK7 => ?_
  refine WP.region hT rfl ?_
  simp only [go_sem, ↓reduceIte, reduceCtorEq, Nat.reduceEqDiff, Nat.reduceLT, Nat.reduceLeDiff, Nat.reduceAdd, Nat.reduceMul, Int.reduceLE, e2, e3]
  refine hK7 _ _ _ ?_
  clear hK7 K7
  refine WP.cond (t := decide ((i : Int) < (len : Int) - 1 - i)) (by kernel_rfl) (fun hc => ?_) (fun hc => ?_)
  · have hij : (i : Int) < (len : Int) - 1 - i := of_decide_eq_true hc
    refine WP.skip ?_
    simp only [go_sem, ↓reduceIte, reduceCtorEq, Nat.reduceEqDiff, Nat.reduceLT, Nat.reduceLeDiff, Nat.reduceAdd, Nat.reduceMul, Int.reduceLE]
    refine hK6 _ _ _ ?_
    clear hK6 K6
    have hi0 : i < len := by omega
    have hj0 : len - 1 - i < len := by omega
    have hjn : ((len : Int) - 1 - i).toNat = len - 1 - i := by omega
    have hin : (i : Int).toNat = i := Int.toNat_natCast i
    have q1 : (0 : Int) ≤ (len : Int) - 1 - i := by omega
    have q2 : ((len : Int) - 1 - i) < len := by omega
    have q3 : (0 : Int) ≤ i := by omega
    have q4 : (i : Int) < len := by omega
    have hBi : B[i]? = es[i]? := by rw [hB i hi0, if_pos ⟨by omega, by omega⟩]
    have hBj : B[len - 1 - i]? = es[len - 1 - i]? := by rw [hB _ hj0, if_pos ⟨by omega, by omega⟩]
    obtain ⟨a, ha⟩ := hint _ (List.getElem_mem (show i < es.length by omega))
    obtain ⟨b, hb'⟩ := hint _ (List.getElem_mem (show len - 1 - i < es.length by omega))
    have ea := List.getElem?_eq_getElem (show i < es.length by omega)
    have eb := List.getElem?_eq_getElem (show len - 1 - i < es.length by omega)
    rw [ha] at ea; rw [hb'] at eb
    rw [ea] at hBi; rw [eb] at hBj
    have w2 : IntKind.i64.wrap ((i : Int) + 1) = ((i + 1 : Nat) : Int) := by rw [wrap_in (by omega) (by omega)]; rfl
    have w3 : IntKind.i64.wrap ((len : Int) - 1 - i - 1) = (len : Int) - 1 - (i + 1 : Nat) := by rw [wrap_in (by omega) (by omega)]; omega
    have hne : i ≠ len - 1 - i := by omega
    have hsl : (B.set i (.int .i64 b)).length = len := by rw [List.length_set]; exact hBl
    have hsj : (B.set i (.int .i64 b))[len - 1 - i]? = some (.int .i64 b) := by rw [List.getElem?_set_ne hne]; exact hBj
    refine WP.seq_k fun K9 hK9 => ?_
    refine WP.block ?_
    refine WP.drawL hT hM [(0, 0), (1, 0), (2, 0), (3, 0), (4, 0), (5, 0), (6, 1), (7, 1), (8, 0), (9, 0), (10, 2), (11, 1), (12, 2), (13, 2), (14, 2), (15, 2)] [13, 15] (h.upd id B) (by kernel_rfl) rfl (Heap.Sub.refl _) fun _ => ?_
    simp only [go_sem, ↓reduceIte, reduceCtorEq, Nat.reduceEqDiff, Nat.reduceLT, Nat.reduceLeDiff, Nat.reduceAdd, Nat.reduceMul, Int.reduceLE, e0, e2, e3, hbB, htB, hBl, hjn, hin, hBi, hBj, hsl, hsj, Heap.upd_upd, Heap.upd_same, Bool.true_or, List.contains_cons, List.contains_nil, Bool.or_false, Nat.reduceBEq]
    refine ⟨q1, q2, q3, q4, q3, q4, q1, by rw [List.length_take, hsl]; omega, ?_⟩
    refine hK9 _ _ _ ?_
    clear hK9 K9
    refine WP.region hT rfl ?_
    simp only [go_sem, ↓reduceIte, reduceCtorEq, Nat.reduceEqDiff, Nat.reduceLT, Nat.reduceLeDiff, Nat.reduceAdd, Nat.reduceMul, Int.reduceLE, e2, e3, w2, w3]
    refine ⟨len - (i + 1), by omega, _, i + 1, rfl, by rw [List.length_set]; exact hsl, by omega, by omega, ?_, rfl, ?_, ?_, ?_⟩
    · intro k hk
      by_cases c1 : k = len - 1 - i
      · subst c1
        rw [List.getElem?_set_self (by omega), if_neg (by omega), show len - 1 - (len - 1 - i) = i by omega, ea]
      · rw [List.getElem?_set_ne (fun hh => c1 hh.symm)]
        by_cases c2 : k = i
        · subst c2
          rw [List.getElem?_set_self (by omega), if_neg (by omega), eb]
        · rw [List.getElem?_set_ne (fun hh => c2 hh.symm), hB k hk]
          by_cases c3 : i ≤ k ∧ k < len - i
          · rw [if_pos c3, if_pos (by omega)]
          · rw [if_neg c3, if_neg (by omega)]
    · simpa [Env.get, Env.put] using e0
    · simp [Env.get, Env.put]
    · simp [Env.get, Env.put]
  · have hij : ¬ (i : Int) < (len : Int) - 1 - i := of_decide_eq_false hc
    refine WP.exit ?_
    simp only [thenA, blockA, retA, ↓reduceIte]
    have hBr : B = es.reverse := by
      refine List.ext_getElem? fun k => ?_
      by_cases hk : k < len
      · rw [hB k hk, List.getElem?_reverse (by omega), hlen]
        split
        · congr 1; omega
        · rfl
      · rw [List.getElem?_eq_none (by omega), List.getElem?_eq_none (by rw [List.length_reverse]; omega)]
    subst hBr
    exact ⟨_, rfl, _, _, _, .keep _ _ _ _ (fun _ _ h => h), hk⟩
end
end Go.Proofs.Ytcngfjmfgeckmaa
section
namespace Go.Proofs.Ytcngfjmfgeckmaa
open Go
set_option linter.unusedSimpArgs false
set_option linter.unusedVariables false
set_option maxRecDepth 20000
attribute [local irreducible] IntKind.wrap bitA
section
variable {h : Heap} {n : Nat} {K : AV → Heap → Nat → Prop}
def m_s_l13Undone_a1 (fu : Nat) (v1395 : List Int) : Option (List Int) :=
  some v1395
def m_s_l13Undone_a2 (fu : Nat) (v1468 : List Int) (v1473 : List Int) (v1475 : Int) : Option (((List Int) × (List Int) × Int) ⊕ ((List Int) ⊕ Option (List Int))) :=
  (if (decide (0 ≤ v1475)) = true then (Option.bind (atL v1473 v1475) fun a1497 => (Option.bind (snocL 8 v1468 a1497) fun v1504 => some (Sum.inl (v1504, v1473, IntKind.i64.wrap (v1475 - 1))))) else some (Sum.inr (Sum.inl v1468)))
def m_s_l13Undone_a3 (fu : Nat) (v1288 : List Int) : Option (List Int) :=
  (Option.bind (iterN (fun (s : (List Int) × (List Int) × Int) => m_s_l13Undone_a2 fu s.1 s.2.1 s.2.2) fu (([] : List Int), v1288, IntKind.i64.wrap ((v1288.length : Int) - 1))) fun q1478 => Sum.elim (fun (b : (List Int)) => (m_s_l13Undone_a1 fu b)) (fun x => x) q1478)
def m_s_l13Undone_a4 (fu : Nat) (v2349 : Int) (v2561 : List Int) (v2565 : List Int) : Option (((List Int) × (List Int) × Int) ⊕ ((List Int) ⊕ Option (List Int))) :=
  some (Sum.inl (v2561, v2565, IntKind.i64.wrap (v2349 + 1)))
def m_s_l13Undone_a5 (fu : Nat) (v2722 : Int) (v2750 : List Int) (v2754 : List Int) : Option (((List Int) × (List Int) × Int) ⊕ (Unit ⊕ Option (((List Int) × (List Int) × Int) ⊕ ((List Int) ⊕ Option (List Int))))) :=
  some (Sum.inl (v2750, v2754, IntKind.i64.wrap (v2722 + 1)))
def m_s_l13Undone_a6 (fu : Nat) (v2349 : Int) (v2597 : List Int) (v2716 : List Int) (v2720 : List Int) (v2722 : Int) : Option (((List Int) × (List Int) × Int) ⊕ (Unit ⊕ Option (((List Int) × (List Int) × Int) ⊕ ((List Int) ⊕ Option (List Int))))) :=
  (if (decide (v2722 < (v2597.length : Int))) = true then (Option.bind (atL v2597 v2722) fun a2761 => (Option.bind (m_s_l1Rise fu v2716 a2761) fun v2769 => (m_s_l13Undone_a5 fu v2722 v2769 v2720))) else some (Sum.inr (Sum.inr (m_s_l13Undone_a4 fu v2349 v2716 v2720))))
def m_s_l13Undone_a7 (fu : Nat) (v0 : List RecD) (v2343 : List Int) (v2347 : List Int) (v2349 : Int) : Option (((List Int) × (List Int) × Int) ⊕ ((List Int) ⊕ Option (List Int))) :=
  (if (decide (v2349 < (v2347.length : Int))) = true then (Option.bind (atL v2347 v2349) fun a2589 => (Option.bind (m_s_l3Back fu v0 a2589) fun v2597 => (Option.bind (iterN (fun (s : (List Int) × (List Int) × Int) => m_s_l13Undone_a6 fu v2349 v2597 s.1 s.2.1 s.2.2) fu (v2343, v2347, 0)) fun q2725 => Sum.elim (fun (b : Unit) => none) (fun x => x) q2725))) else some (Sum.inr (Sum.inl v2343)))
def m_s_l13Undone (fu : Nat) (v0 : List RecD) : Option (List Int) :=
  (Option.bind (m_s_l13Losers fu v0) fun v25 => (Option.bind (iterN (fun (s : (List Int) × (List Int) × Int) => m_s_l13Undone_a7 fu v0 s.1 s.2.1 s.2.2) fu (([] : List Int), v25, 0)) fun q2352 => Sum.elim (fun (b : (List Int)) => (m_s_l13Undone_a3 fu b)) (fun x => x) q2352))
set_option maxHeartbeats 2000000 in
theorem w_s_l13Undone_o {x0 : AV} {v0 : List RecD} (h0 : (SlH h n 8 RecR) x0 v0) {fu : Nat} {r : (List Int)} (hm : m_s_l13Undone fu v0 = some r) (hk : ∀ A rw, NOwn n 0 1 Int64R A rw r → K A (hp h n [rw]) (n + 1)) : CA Try.prog 73 [x0] h n K := by
 refine CA.enterQ (N := 53) (rs := [.tmp 2]) hT Try.call73 Try.func73 rfl rfl (of_decide_eq_true rfl) rfl fun hlt => ?_
 unfold m_s_l13Undone at hm
 obtain ⟨es11, a12, l13, b14, F15⟩ := sHo h0
 refine rg0 hT ?_
 refine rg0 hT ?_
 obtain ⟨v25, q24, hm⟩ := obs hm
 refine WQ.sr hT rfl fun K18 hK18 => ?_
 refine sq F15 ?_
 refine w_s_l13Losers_o (SlH.up h0 1) q24 (fun x26 rw27 h28 => ?_)
 replace h28 := nown_up (m := 1) h28
 refine sk (a5 F15 (nown_rd h28) (nown_len h28) (nown_cells h28) (nown_good h28)) ?_
 refine kn hK18 ?_
 clear hK18 K18
 refine WQ.seq_k fun K29 hK29 => ?_
 have j1290 : ∀ (E' : Env) (h' : Heap) (n' : Nat) (x1286 : AV) (rw1287 : Option (List AV)) (v1288 : List Int) (h1289 : NOwn n 0 1 Int64R x1286 rw1287 v1288), Norm n h E' h' n' (envZ [3] [x1286]) (hp h n [rw1287]) (n + 1) → (m_s_l13Undone_a3 fu v1288) = some r → K29 E' h' n' := by
  intro E1292 H1293 n1294 x1286 rw1287 v1288 h1289 N1291 hm
  refine hK29 _ _ _ _ _ _ N1291 ?_
  clear N1291 hK29 K29
  unfold m_s_l13Undone_a3 at hm
  refine rg0 hT ?_
  refine WQ.seq_k fun K1296 hK1296 => ?_
  have j1398 : ∀ (E' : Env) (h' : Heap) (n' : Nat) (es1394 : List AV) (v1395 : List Int) (a1396 : All2 Int64R es1394 v1395) (b1397 : es1394.length ≤ 140737488355328), Norm n h E' h' n' (envZ [8] [(.sl 1 n 0 v1395.length v1395.length false)]) (hp h n [some es1394]) (n + 1) → (m_s_l13Undone_a1 fu v1395) = some r → K1296 E' h' n' := by
   intro E1400 H1401 n1402 es1394 v1395 a1396 b1397 N1399 hm
   refine hK1296 _ _ _ _ _ _ N1399 ?_
   clear N1399 hK1296 K1296
   unfold m_s_l13Undone_a1 at hm
   refine rg hT (a2 (all2_length a1396) (own_take a1396)) ?_
   refine WQ.norm (E2 := envZ [2] [(.sl 1 n 0 v1395.length v1395.length false)]) (h2 := hp h n [(some es1394)]) (n2 := n + 1) ?_ (WQ.ret ⟨_, rfl, _, _, _, .keep _ _ _ _ (fun _ _ h => h), ?_⟩)
   exact nm [0] [2] [(.sl 1 n 0 v1395.length v1395.length false)] (rc (Rn.own (js := [0]) 0 0) rn) (RowsR.row 0 _ _ _ _ hp_get0 (RnL.all2 a1396 int64_lt) RowsR.nil)
   exact hkN hk (m := v1395) hm (nown_own a1396 b1397)
  clear hK1296
  refine rg hT (a4 (nown_rd h1289) (nown_len h1289) (nown_cells h1289) (nown_good h1289)) ?_
  refine WQ.block ?_
  obtain ⟨q1478, hq1479, hm⟩ := obs hm
  refine WQ.norm ?_ (WQ.iter (step := (fun (s : (List Int) × (List Int) × Int) => m_s_l13Undone_a2 fu s.1 s.2.1 s.2.2)) (fun (s : (List Int) × (List Int) × Int) E' h' n' => ∃ (es1467 : List AV), ∃ (x1471 : AV), ∃ (rw1472 : Option (List AV)), All2 Int64R es1467 s.1 ∧ es1467.length ≤ 140737488355328 ∧ NOwn n 0 1 Int64R x1471 rw1472 s.2.1 ∧ I64 s.2.2 ∧ (envZ [3, 8, 9] [x1471, (.sl 1 (n + 1) 0 s.1.length s.1.length false), (.int .i64 s.2.2)]) = E' ∧ (hp h n [rw1472, some es1467]) = h' ∧ (n + 2) = n') hq1479 ⟨([]), x1286, rw1287, (nl0 Int64R), (of_decide_eq_true rfl), h1289, (rng_wrap64 _), rfl, rfl, rfl⟩ ?_)
  exact nm [0, 1] [3, 8, 9] [x1286, (.sl 1 (n + 1) 0 0 0 true), (.int .i64 (IntKind.i64.wrap ((v1288.length : Int) - 1)))] (rc (nown_rn h1289 rfl) (rc (Rn.ownF (js := [0, 1]) 1 1) (rc rki rn))) (RowsR.opt 0 _ _ _ (.inr hp_get0) (nown_rows (j := 0) h1289 int64_lt) (RowsR.row 1 _ _ _ _ (hp_get 1) (RnL.all2 (nl0 Int64R) int64_lt) RowsR.nil))
  rintro ⟨v1468, v1473, v1475⟩ E' h' n' o1477 ⟨es1467, x1471, rw1472, a1469, b1470, h1474, i1476, rfl, rfl, rfl⟩ ho1481 hf1480
  replace a1469 : All2 Int64R es1467 v1468 := a1469
  replace b1470 : es1467.length ≤ 140737488355328 := b1470
  replace h1474 : NOwn n 0 1 Int64R x1471 rw1472 v1473 := h1474
  replace i1476 : I64 v1475 := i1476
  replace ho1481 : m_s_l13Undone_a2 fu v1468 v1473 v1475 = some o1477 := ho1481
  unfold m_s_l13Undone_a2 at ho1481
  show WQ Try.prog _ n h _ _ (envZ [3, 8, 9] [x1471, (.sl 1 (n + 1) 0 v1468.length v1468.length false), (.int .i64 v1475)]) (hp h n [rw1472, some es1467]) (n + 2)
  refine WQ.seq_k fun K1482 hK1482 => ?_
  refine rg0 hT ?_
  refine cn ho1481 (fun z1486 ho1481 => ?_) fun z1486 ho1481 => ?_
  refine WQ.skip ?_
  refine sg ?_
  refine kn hK1482 ?_
  clear hK1482 K1482
  refine WQ.seq_k fun K1487 hK1487 => ?_
  refine WQ.block ?_
  obtain ⟨a1497, q1498, ho1481⟩ := obs ho1481
  obtain ⟨e1501, p1499, h1503⟩ := atk q1498 (nown_all h1474)
  obtain ⟨rfl, ia1497⟩ := h1503
  obtain ⟨v1504, q1505, ho1481⟩ := obs ho1481
  refine WQ.region hT rfl ?_
  refine sq (a5 (nown_rd h1474) (nown_len h1474) (nown_cells h1474) (nown_good h1474) (a3 (all2_length a1469) (own_take a1469) p1499)) ?_
  refine ⟨2, rfl, app_mv1 (j := 1) rfl (of_decide_eq_true rfl) rfl ?_ ?_ (all2_length a1469) q1505 a1469 (int64R ia1497) ?_⟩
  exact sc (a5 (nown_rd h1474) (nown_len h1474) (nown_cells h1474) (nown_good h1474) (a3 (all2_length a1469) (own_take a1469) p1499))
  exact sc0
  refine sk (a5 (nown_rd h1474) (nown_len h1474) (nown_cells h1474) (nown_good h1474) (a5 (all2_length (snoc_all2 q1505 a1469 (int64R ia1497))) (own_take (snoc_all2 q1505 a1469 (int64R ia1497))) (all2_length a1469) (own_take a1469) p1499)) ?_
  refine kn hK1487 ?_
  clear hK1487 K1487
  refine WQ.region hT rfl ?_
  refine sq0 ?_
  refine ⟨_, _, _, _, (Option.some.inj ho1481).symm, ?_, (es1467 ++ [(.int .i64 a1497)]), x1471, rw1472, (snoc_all2 q1505 a1469 (int64R ia1497)), (snoc_len q1505 a1469 (int64R ia1497)), h1474, (rng_wrap64 _), rfl, rfl, rfl⟩
  exact nm [0, 3] [3, 8, 9] [x1471, (.sl 1 (n + 3) 0 v1504.length v1504.length false), (.int .i64 (IntKind.i64.wrap (v1475 - 1)))] (rc (nown_rn h1474 rfl) (rc (Rn.own (js := [0, 3]) 3 1) (rc rki rn))) (RowsR.opt 0 _ _ _ (.inr hp_get0) (nown_rows (j := 0) h1474 int64_lt) (RowsR.row 3 _ _ _ _ (hp_get 3) (RnL.all2 (snoc_all2 q1505 a1469 (int64R ia1497)) int64_lt) RowsR.nil))
  refine WQ.exit ?_
  refine sg ?_
  have e1506 := hf1480 _ (Option.some.inj ho1481).symm
  rw [← e1506] at hm
  refine j1398 _ _ _ es1467 v1468 a1469 b1470 ?_ hm
  exact nm [1] [8] [(.sl 1 (n + 1) 0 v1468.length v1468.length false)] (rc (Rn.own (js := [1]) 1 0) rn) (RowsR.row 1 _ _ _ _ (hp_get 1) (RnL.all2 a1469 int64_lt) RowsR.nil)
 clear hK29
 refine rg0 hT ?_
 refine WQ.block ?_
 obtain ⟨q2352, hq2353, hm⟩ := obs hm
 refine WQ.norm ?_ (WQ.iter (step := (fun (s : (List Int) × (List Int) × Int) => m_s_l13Undone_a7 fu v0 s.1 s.2.1 s.2.2)) (fun (s : (List Int) × (List Int) × Int) E' h' n' => ∃ (x2341 : AV), ∃ (rw2342 : Option (List AV)), ∃ (x2345 : AV), ∃ (rw2346 : Option (List AV)), NOwn n 0 1 Int64R x2341 rw2342 s.1 ∧ NOwn n 1 1 Int64R x2345 rw2346 s.2.1 ∧ I64 s.2.2 ∧ (envZ [0, 3, 4, 5] [x0, x2341, x2345, (.int .i64 s.2.2)]) = E' ∧ (hp h n [rw2342, rw2346]) = h' ∧ (n + 2) = n') hq2353 ⟨(.sl 1 n 0 ([] : List Int).length ([] : List Int).length false), (some ([])), x26, rw27, (nown_own (nl0 Int64R) (of_decide_eq_true rfl)), h28, (i64c (a := 0) rfl), rfl, rfl, rfl⟩ ?_)
 exact nm [0, 1] [0, 3, 4, 5] [x0, (.sl 1 n 0 0 0 true), x26, (.int .i64 0)] (rc (.keep _ (slH_lt h0)) (rc (Rn.ownF (js := [0, 1]) 0 0) (rc (nown_rn h28 rfl) (rc rki rn)))) (RowsR.row 0 _ _ _ _ hp_get0 (RnL.all2 (nl0 Int64R) int64_lt) (RowsR.opt 1 _ _ _ (.inr (hp_get 1)) (nown_rows (j := 1) h28 int64_lt) RowsR.nil))
 rintro ⟨v2343, v2347, v2349⟩ E' h' n' o2351 ⟨x2341, rw2342, x2345, rw2346, h2344, h2348, i2350, rfl, rfl, rfl⟩ ho2355 hf2354
 replace h2344 : NOwn n 0 1 Int64R x2341 rw2342 v2343 := h2344
 replace h2348 : NOwn n 1 1 Int64R x2345 rw2346 v2347 := h2348
 replace i2350 : I64 v2349 := i2350
 replace ho2355 : m_s_l13Undone_a7 fu v0 v2343 v2347 v2349 = some o2351 := ho2355
 unfold m_s_l13Undone_a7 at ho2355
 show WQ Try.prog _ n h _ _ (envZ [0, 3, 4, 5] [x0, x2341, x2345, (.int .i64 v2349)]) (hp h n [rw2342, rw2346]) (n + 2)
 refine WQ.seq_k fun K2356 hK2356 => ?_
 refine rg hT (a4 (nown_rd h2348) (nown_len h2348) (nown_cells h2348) (nown_good h2348)) ?_
 refine cn ho2355 (fun z2360 ho2355 => ?_) fun z2360 ho2355 => ?_
 refine WQ.skip ?_
 refine sg ?_
 refine kn hK2356 ?_
 clear hK2356 K2356
 refine WQ.seq_k fun K2361 hK2361 => ?_
 have j2567 : ∀ (E' : Env) (h' : Heap) (n' : Nat) (x2559 : AV) (rw2560 : Option (List AV)) (v2561 : List Int) (h2562 : NOwn n 0 1 Int64R x2559 rw2560 v2561) (x2563 : AV) (rw2564 : Option (List AV)) (v2565 : List Int) (h2566 : NOwn n 1 1 Int64R x2563 rw2564 v2565), Norm n h E' h' n' (envZ [0, 3, 4, 5] [x0, x2559, x2563, (.int .i64 v2349)]) (hp h n [rw2560, rw2564]) (n + 2) → (m_s_l13Undone_a4 fu v2349 v2561 v2565) = some o2351 → K2361 E' h' n' := by
  intro E2569 H2570 n2571 x2559 rw2560 v2561 h2562 x2563 rw2564 v2565 h2566 N2568 ho2355
  refine hK2361 _ _ _ _ _ _ N2568 ?_
  clear N2568 hK2361 K2361
  unfold m_s_l13Undone_a4 at ho2355
  refine WQ.region hT rfl ?_
  refine sq0 ?_
  refine ⟨_, _, _, _, (Option.some.inj ho2355).symm, ?_, x2559, rw2560, x2563, rw2564, h2562, h2566, (rng_wrap64 _), rfl, rfl, rfl⟩
  exact nm [0, 1] [0, 3, 4, 5] [x0, x2559, x2563, (.int .i64 (IntKind.i64.wrap (v2349 + 1)))] (rc (.keep _ (slH_lt h0)) (rc (nown_rn h2562 rfl) (rc (nown_rn h2566 rfl) (rc rki rn)))) (RowsR.opt 0 _ _ _ (.inr hp_get0) (nown_rows (j := 0) h2562 int64_lt) (RowsR.opt 1 _ _ _ (.inr (hp_get 1)) (nown_rows (j := 1) h2566 int64_lt) RowsR.nil))
 clear hK2361
 refine WQ.block ?_
 refine WQ.seq_k fun K2572 hK2572 => ?_
 obtain ⟨a2589, q2590, ho2355⟩ := obs ho2355
 obtain ⟨e2593, p2591, h2595⟩ := atk q2590 (nown_all h2348)
 obtain ⟨rfl, ia2589⟩ := h2595
 obtain ⟨v2597, q2596, ho2355⟩ := obs ho2355
 refine WQ.region hT rfl ?_
 refine sq (a5 F15 (nown_rd h2348) (nown_len h2348) (nown_cells h2348) (a2 (nown_good h2348) p2591)) ?_
 refine w_s_l3Back (SlH.up h0 2) ia2589 q2596 (fun y2598 h2599 => ?_)
 obtain ⟨es2600, a2601, l2602, b2603, F2604⟩ := sRo h2599
 refine sk (a5 F15 (nown_rd h2348) (nown_len h2348) (nown_cells h2348) (a3 (nown_good h2348) F2604 p2591)) ?_
 refine kn hK2572 ?_
 clear hK2572 K2572
 refine rg0 hT ?_
 refine WQ.block ?_
 obtain ⟨q2725, hq2726, ho2355⟩ := obs ho2355
 refine WQ.norm ?_ (WQ.iter (step := (fun (s : (List Int) × (List Int) × Int) => m_s_l13Undone_a6 fu v2349 v2597 s.1 s.2.1 s.2.2)) (fun (s : (List Int) × (List Int) × Int) E' h' n' => ∃ (x2714 : AV), ∃ (rw2715 : Option (List AV)), ∃ (x2718 : AV), ∃ (rw2719 : Option (List AV)), NOwn n 0 1 Int64R x2714 rw2715 s.1 ∧ NOwn n 1 1 Int64R x2718 rw2719 s.2.1 ∧ I64 s.2.2 ∧ (envZ [0, 3, 4, 5, 6, 7] [x0, x2714, x2718, (.int .i64 v2349), y2598, (.int .i64 s.2.2)]) = E' ∧ (hp h n [rw2715, rw2719]) = h' ∧ (n + 2) = n') hq2726 ⟨x2341, rw2342, x2345, rw2346, h2344, h2348, (i64c (a := 0) rfl), rfl, rfl, rfl⟩ ?_)
 exact nm [0, 1] [0, 3, 4, 5, 6, 7] [x0, x2341, x2345, (.int .i64 v2349), y2598, (.int .i64 0)] (rc (.keep _ (slH_lt h0)) (rc (nown_rn h2344 rfl) (rc (nown_rn h2348 rfl) (rc rki (rc (.keep _ (slr_ltA _ _ _ h2599)) (rc rki rn)))))) (RowsR.opt 0 _ _ _ (.inr hp_get0) (nown_rows (j := 0) h2344 int64_lt) (RowsR.opt 1 _ _ _ (.inr (hp_get 1)) (nown_rows (j := 1) h2348 int64_lt) RowsR.nil))
 rintro ⟨v2716, v2720, v2722⟩ E' h' n' o2724 ⟨x2714, rw2715, x2718, rw2719, h2717, h2721, i2723, rfl, rfl, rfl⟩ ho2728 hf2727
 replace h2717 : NOwn n 0 1 Int64R x2714 rw2715 v2716 := h2717
 replace h2721 : NOwn n 1 1 Int64R x2718 rw2719 v2720 := h2721
 replace i2723 : I64 v2722 := i2723
 replace ho2728 : m_s_l13Undone_a6 fu v2349 v2597 v2716 v2720 v2722 = some o2724 := ho2728
 unfold m_s_l13Undone_a6 at ho2728
 show WQ Try.prog _ n h _ _ (envZ [0, 3, 4, 5, 6, 7] [x0, x2714, x2718, (.int .i64 v2349), y2598, (.int .i64 v2722)]) (hp h n [rw2715, rw2719]) (n + 2)
 refine WQ.seq_k fun K2729 hK2729 => ?_
 refine rg hT F2604 ?_
 refine cn ho2728 (fun z2733 ho2728 => ?_) fun z2733 ho2728 => ?_
 refine WQ.skip ?_
 refine sg ?_
 refine kn hK2729 ?_
 clear hK2729 K2729
 refine WQ.seq_k fun K2734 hK2734 => ?_
 have j2756 : ∀ (E' : Env) (h' : Heap) (n' : Nat) (x2748 : AV) (rw2749 : Option (List AV)) (v2750 : List Int) (h2751 : NOwn n 0 1 Int64R x2748 rw2749 v2750) (x2752 : AV) (rw2753 : Option (List AV)) (v2754 : List Int) (h2755 : NOwn n 1 1 Int64R x2752 rw2753 v2754), Norm n h E' h' n' (envZ [0, 3, 4, 5, 6, 7] [x0, x2748, x2752, (.int .i64 v2349), y2598, (.int .i64 v2722)]) (hp h n [rw2749, rw2753]) (n + 2) → (m_s_l13Undone_a5 fu v2722 v2750 v2754) = some o2724 → K2734 E' h' n' := by
  intro E2758 H2759 n2760 x2748 rw2749 v2750 h2751 x2752 rw2753 v2754 h2755 N2757 ho2728
  refine hK2734 _ _ _ _ _ _ N2757 ?_
  clear N2757 hK2734 K2734
  unfold m_s_l13Undone_a5 at ho2728
  refine WQ.region hT rfl ?_
  refine sq0 ?_
  refine ⟨_, _, _, _, (Option.some.inj ho2728).symm, ?_, x2748, rw2749, x2752, rw2753, h2751, h2755, (rng_wrap64 _), rfl, rfl, rfl⟩
  exact nm [0, 1] [0, 3, 4, 5, 6, 7] [x0, x2748, x2752, (.int .i64 v2349), y2598, (.int .i64 (IntKind.i64.wrap (v2722 + 1)))] (rc (.keep _ (slH_lt h0)) (rc (nown_rn h2751 rfl) (rc (nown_rn h2755 rfl) (rc rki (rc (.keep _ (slr_ltA _ _ _ h2599)) (rc rki rn)))))) (RowsR.opt 0 _ _ _ (.inr hp_get0) (nown_rows (j := 0) h2751 int64_lt) (RowsR.opt 1 _ _ _ (.inr (hp_get 1)) (nown_rows (j := 1) h2755 int64_lt) RowsR.nil))
 clear hK2734
 refine WQ.block ?_
 obtain ⟨a2761, q2762, ho2728⟩ := obs ho2728
 obtain ⟨e2765, p2763, h2767⟩ := atk q2762 a2601
 obtain ⟨rfl, ia2761⟩ := h2767
 obtain ⟨v2769, q2768, ho2728⟩ := obs ho2728
 refine WQ.region hT rfl ?_
 refine sq (a5 (nown_rd h2717) (nown_len h2717) (nown_cells h2717) (nown_good h2717) (a2 F2604 p2763)) ?_
 refine w_s_l1Rise_c (nown_H (j := 0) (m := 2) h2717 hp_get0 rfl) ia2761 q2768 (fun e2770 => ?_) (fun x2771 rw2772 h2773 => ?_)
 subst e2770
 try unfold sealK
 try simp only [go_sem, ↓reduceIte, reduceCtorEq, Nat.reduceEqDiff, Nat.reduceLT, Nat.reduceLeDiff, Nat.reduceAdd, Nat.reduceMul, Int.reduceLE, nown_rd h2717, nown_len h2717, nown_cells h2717, nown_good h2717, F2604, p2763]
 refine j2756 _ _ _ x2714 rw2715 v2716 h2717 x2718 rw2719 v2720 h2721 ?_ ho2728
 exact nm [0, 1] [0, 3, 4, 5, 6, 7] [x0, x2714, x2718, (.int .i64 v2349), y2598, (.int .i64 v2722)] (rc (.keep _ (slH_lt h0)) (rc (nown_rn h2717 rfl) (rc (nown_rn h2721 rfl) (rc rki (rc (.keep _ (slr_ltA _ _ _ h2599)) (rc rki rn)))))) (RowsR.opt 0 _ _ _ (.inr hp_get0) (nown_rows (j := 0) h2717 int64_lt) (RowsR.opt 1 _ _ _ (.inr (hp_get 1)) (nown_rows (j := 1) h2721 int64_lt) RowsR.nil))
 replace h2773 := nown_up (m := 2) h2773
 try unfold sealK
 try simp only [go_sem, ↓reduceIte, reduceCtorEq, Nat.reduceEqDiff, Nat.reduceLT, Nat.reduceLeDiff, Nat.reduceAdd, Nat.reduceMul, Int.reduceLE, nown_rd h2773, nown_len h2773, nown_cells h2773, nown_good h2773, F2604, nown_rd h2717, nown_len h2717, nown_cells h2717, nown_good h2717, p2763]
 obtain ⟨x2774, h2775, q2776⟩ := nown_mv 0 h2773
 refine j2756 _ _ _ x2774 rw2772 v2769 h2775 x2718 rw2719 v2720 h2721 ?_ ho2728
 exact nm [2, 1] [0, 3, 4, 5, 6, 7] [x0, x2771, x2718, (.int .i64 v2349), y2598, (.int .i64 v2722)] (rc (.keep _ (slH_lt h0)) (rc (q2776 _ _ rfl) (rc (nown_rn h2721 rfl) (rc rki (rc (.keep _ (slr_ltA _ _ _ h2599)) (rc rki rn)))))) (RowsR.opt 2 _ _ _ (.inr (hp_get 2)) (nown_rows (j := 2) h2773 int64_lt) (RowsR.opt 1 _ _ _ (.inr (hp_get 1)) (nown_rows (j := 1) h2721 int64_lt) RowsR.nil))
 refine WQ.exit ?_
 refine sg ?_
 have e2777 := hf2727 _ (Option.some.inj ho2728).symm
 rw [← e2777] at ho2355
 refine j2567 _ _ _ x2714 rw2715 v2716 h2717 x2718 rw2719 v2720 h2721 ?_ ho2355
 exact nm [0, 1] [0, 3, 4, 5] [x0, x2714, x2718, (.int .i64 v2349)] (rc (.keep _ (slH_lt h0)) (rc (nown_rn h2717 rfl) (rc (nown_rn h2721 rfl) (rc rki rn)))) (RowsR.opt 0 _ _ _ (.inr hp_get0) (nown_rows (j := 0) h2717 int64_lt) (RowsR.opt 1 _ _ _ (.inr (hp_get 1)) (nown_rows (j := 1) h2721 int64_lt) RowsR.nil))
 refine WQ.exit ?_
 refine sg ?_
 have e2779 := hf2354 _ (Option.some.inj ho2355).symm
 rw [← e2779] at hm
 refine j1290 _ _ _ x2341 rw2342 v2343 h2344 ?_ hm
 exact nm [0] [3] [x2341] (rc (nown_rn h2344 rfl) rn) (RowsR.opt 0 _ _ _ (.inr hp_get0) (nown_rows (j := 0) h2344 int64_lt) RowsR.nil)
end
end Go.Proofs.Ytcngfjmfgeckmaa
end
section
namespace Go.Proofs.Ytcngfjmfgeckmaa
open Go
set_option linter.unusedSimpArgs false
set_option linter.unusedVariables false
set_option maxRecDepth 20000
attribute [local irreducible] IntKind.wrap bitA
section
variable {h : Heap} {n : Nat} {K : AV → Heap → Nat → Prop}
def m_i_undone_a1 (fu : Nat) (v247 : List Int) : Option (List Int) :=
  some (List.reverse (sortI v247))
def m_i_undone_a2 (fu : Nat) (v431 : Int) (v467 : List Int) (v472 : List Int) : Option (((List Int) × (List Int) × Int) ⊕ ((List Int) ⊕ Option (List Int))) :=
  some (Sum.inl (v467, v472, IntKind.i64.wrap (v431 + 1)))
def m_i_undone_a3 (fu : Nat) (v0 : List RecD) (v277 : List Int) (v424 : List Int) (v429 : List Int) (v431 : Int) : Option (((List Int) × (List Int) × Int) ⊕ ((List Int) ⊕ Option (List Int))) :=
  (if (decide (v431 < (v277.length : Int))) = true then (Option.bind (atL v429 v431) fun a487 => (Option.bind (m_i_chain fu v0 a487) fun v495 => (Option.bind (appL 8 v424 v495) fun v499 => (m_i_undone_a2 fu v431 v499 v429)))) else some (Sum.inr (Sum.inl v424)))
def m_i_undone (fu : Nat) (v0 : List RecD) : Option (List Int) :=
  (Option.bind (m_i_losers fu v0) fun v277 => (Option.bind (iterN (fun (s : (List Int) × (List Int) × Int) => m_i_undone_a3 fu v0 v277 s.1 s.2.1 s.2.2) fu (([] : List Int), v277, 0)) fun q434 => Sum.elim (fun (b : (List Int)) => (m_i_undone_a1 fu b)) (fun x => x) q434))
set_option maxHeartbeats 2000000 in
theorem w_i_undone_o {x0 : AV} {v0 : List RecD} (h0 : (SlH h n 8 RecR) x0 v0) {fu : Nat} {r : (List Int)} (hm : m_i_undone fu v0 = some r) (hk : ∀ A rw, NOwn n 0 1 Int64R A rw r → K A (hp h n [rw]) (n + 1)) : CA Try.prog 74 [x0] h n K := by
 refine CA.enterQ (N := 25) (rs := [.tmp 2]) hT Try.call74 Try.func74 rfl rfl (of_decide_eq_true rfl) rfl fun hlt => ?_
 unfold m_i_undone at hm
 obtain ⟨es11, a12, l13, b14, F15⟩ := sHo h0
 refine rg0 hT ?_
 refine rg0 hT ?_
 refine WQ.seq_k fun K18 hK18 => ?_
 have j250 : ∀ (E' : Env) (h' : Heap) (n' : Nat) (es246 : List AV) (v247 : List Int) (a248 : All2 Int64R es246 v247) (b249 : es246.length ≤ 140737488355328), Norm n h E' h' n' (envZ [3] [(.sl 1 n 0 v247.length v247.length false)]) (hp h n [some es246]) (n + 1) → (m_i_undone_a1 fu v247) = some r → K18 E' h' n' := by
  intro E252 H253 n254 es246 v247 a248 b249 N251 hm
  refine hK18 _ _ _ _ _ _ N251 ?_
  clear N251 hK18 K18
  unfold m_i_undone_a1 at hm
  refine WQ.sr hT rfl fun K255 hK255 => ?_
  refine sq (a2 (all2_length a248) (own_take a248)) ?_
  refine w_sort a248 hp_get0 b249 (all2_length a248) (fun es259 a260 b261 => ?_)
  try unfold sealK
  try simp only [go_sem, ↓reduceIte, reduceCtorEq, Nat.reduceEqDiff, Nat.reduceLT, Nat.reduceLeDiff, Nat.reduceAdd, Nat.reduceMul, Int.reduceLE, all2_length a260, own_take a260]
  refine kn hK255 ?_
  clear hK255 K255
  refine WQ.sr hT rfl fun K262 hK262 => ?_
  refine sq (a2 (all2_length a260) (own_take a260)) ?_
  refine w_rev a260 hp_get0 (lt_row (j := 0) (m := 1) rfl) b261 ((all2_length a260).trans ((sortI_len _))) (fun es266 a267 b268 => ?_)
  try unfold sealK
  try simp only [go_sem, ↓reduceIte, reduceCtorEq, Nat.reduceEqDiff, Nat.reduceLT, Nat.reduceLeDiff, Nat.reduceAdd, Nat.reduceMul, Int.reduceLE, all2_length a267, own_take a267]
  refine kn hK262 ?_
  clear hK262 K262
  refine rg hT (a2 (all2_length a267) (own_take a267)) ?_
  refine WQ.norm (E2 := envZ [2] [(.sl 1 n 0 (List.reverse (sortI v247)).length (List.reverse (sortI v247)).length false)]) (h2 := hp h n [(some es266)]) (n2 := n + 1) ?_ (WQ.ret ⟨_, rfl, _, _, _, .keep _ _ _ _ (fun _ _ h => h), ?_⟩)
  exact nm [0] [2] [(.sl 1 n 0 v247.length v247.length false)] (rc (Rn.ownE (js := [0]) 0 0 (List.length_reverse.trans ((sortI_len _)))) rn) (RowsR.row 0 _ _ _ _ hp_get0 (RnL.all2 a267 int64_lt) RowsR.nil)
  exact hkN hk (m := (List.reverse (sortI v247))) hm (nown_own a267 b268)
 clear hK18
 obtain ⟨v277, q276, hm⟩ := obs hm
 refine WQ.sr hT rfl fun K270 hK270 => ?_
 refine sq F15 ?_
 refine w_i_losers_o (SlH.up h0 1) q276 (fun x278 rw279 h280 => ?_)
 replace h280 := nown_up (m := 1) h280
 refine sk (a5 F15 (nown_rd h280) (nown_len h280) (nown_cells h280) (nown_good h280)) ?_
 refine kn hK270 ?_
 clear hK270 K270
 refine WQ.block ?_
 obtain ⟨q434, hq435, hm⟩ := obs hm
 refine WQ.norm ?_ (WQ.iter (step := (fun (s : (List Int) × (List Int) × Int) => m_i_undone_a3 fu v0 v277 s.1 s.2.1 s.2.2)) (fun (s : (List Int) × (List Int) × Int) E' h' n' => ∃ (es423 : List AV), ∃ (x427 : AV), ∃ (rw428 : Option (List AV)), All2 Int64R es423 s.1 ∧ es423.length ≤ 140737488355328 ∧ NOwn n 1 1 Int64R x427 rw428 s.2.1 ∧ I64 s.2.2 ∧ (envZ [0, 3, 8, 9, 10] [x0, (.sl 1 n 0 s.1.length s.1.length false), x427, (.int .i64 (v277.length : Int)), (.int .i64 s.2.2)]) = E' ∧ (hp h n [some es423, rw428]) = h' ∧ (n + 2) = n') hq435 ⟨([]), x278, rw279, (nl0 Int64R), (of_decide_eq_true rfl), h280, (i64c (a := 0) rfl), rfl, rfl, rfl⟩ ?_)
 exact nm [0, 1] [0, 3, 8, 9, 10] [x0, (.sl 1 n 0 0 0 true), x278, (.int .i64 (v277.length : Int)), (.int .i64 0)] (rc (.keep _ (slH_lt h0)) (rc (Rn.ownF (js := [0, 1]) 0 0) (rc (nown_rn h280 rfl) (rc rki (rc rki rn))))) (RowsR.row 0 _ _ _ _ hp_get0 (RnL.all2 (nl0 Int64R) int64_lt) (RowsR.opt 1 _ _ _ (.inr (hp_get 1)) (nown_rows (j := 1) h280 int64_lt) RowsR.nil))
 rintro ⟨v424, v429, v431⟩ E' h' n' o433 ⟨es423, x427, rw428, a425, b426, h430, i432, rfl, rfl, rfl⟩ ho437 hf436
 replace a425 : All2 Int64R es423 v424 := a425
 replace b426 : es423.length ≤ 140737488355328 := b426
 replace h430 : NOwn n 1 1 Int64R x427 rw428 v429 := h430
 replace i432 : I64 v431 := i432
 replace ho437 : m_i_undone_a3 fu v0 v277 v424 v429 v431 = some o433 := ho437
 unfold m_i_undone_a3 at ho437
 show WQ Try.prog _ n h _ _ (envZ [0, 3, 8, 9, 10] [x0, (.sl 1 n 0 v424.length v424.length false), x427, (.int .i64 (v277.length : Int)), (.int .i64 v431)]) (hp h n [some es423, rw428]) (n + 2)
 refine rg0 hT ?_
 refine WQ.seq_k fun K439 hK439 => ?_
 refine cn ho437 (fun z441 ho437 => ?_) fun z441 ho437 => ?_
 refine WQ.skip ?_
 refine sg ?_
 refine kn hK439 ?_
 clear hK439 K439
 refine WQ.seq_k fun K442 hK442 => ?_
 have j474 : ∀ (E' : Env) (h' : Heap) (n' : Nat) (es466 : List AV) (v467 : List Int) (a468 : All2 Int64R es466 v467) (b469 : es466.length ≤ 140737488355328) (x470 : AV) (rw471 : Option (List AV)) (v472 : List Int) (h473 : NOwn n 1 1 Int64R x470 rw471 v472), Norm n h E' h' n' (envZ [0, 3, 8, 9, 10] [x0, (.sl 1 n 0 v467.length v467.length false), x470, (.int .i64 (v277.length : Int)), (.int .i64 v431)]) (hp h n [some es466, rw471]) (n + 2) → (m_i_undone_a2 fu v431 v467 v472) = some o433 → K442 E' h' n' := by
  intro E476 H477 n478 es466 v467 a468 b469 x470 rw471 v472 h473 N475 ho437
  refine hK442 _ _ _ _ _ _ N475 ?_
  clear N475 hK442 K442
  unfold m_i_undone_a2 at ho437
  refine WQ.region hT rfl ?_
  refine sq0 ?_
  refine ⟨_, _, _, _, (Option.some.inj ho437).symm, ?_, es466, x470, rw471, a468, b469, h473, (rng_wrap64 _), rfl, rfl, rfl⟩
  exact nm [0, 1] [0, 3, 8, 9, 10] [x0, (.sl 1 n 0 v467.length v467.length false), x470, (.int .i64 (v277.length : Int)), (.int .i64 (IntKind.i64.wrap (v431 + 1)))] (rc (.keep _ (slH_lt h0)) (rc (Rn.own (js := [0, 1]) 0 0) (rc (nown_rn h473 rfl) (rc rki (rc rki rn))))) (RowsR.row 0 _ _ _ _ hp_get0 (RnL.all2 a468 int64_lt) (RowsR.opt 1 _ _ _ (.inr (hp_get 1)) (nown_rows (j := 1) h473 int64_lt) RowsR.nil))
 clear hK442
 refine WQ.block ?_
 refine WQ.seq_k fun K479 hK479 => ?_
 obtain ⟨a487, q488, ho437⟩ := obs ho437
 obtain ⟨e491, p489, h493⟩ := atk q488 (nown_all h430)
 obtain ⟨rfl, ia487⟩ := h493
 refine WQ.region hT rfl ?_
 refine sq (a5 (nown_rd h430) (nown_len h430) (nown_cells h430) (nown_good h430) p489) ?_
 refine kn hK479 ?_
 clear hK479 K479
 obtain ⟨v495, q494, ho437⟩ := obs ho437
 obtain ⟨v499, q500, ho437⟩ := obs ho437
 rcases nil_or v495 with z501 | z501
 refine WQ.region hT rfl ?_
 refine sq (a3 F15 (all2_length a425) (own_take a425)) ?_
 refine w_i_chain_o (SlH.up h0 2) ia487 q494 (fun x496 rw497 h498 => ?_)
 replace h498 := nown_up (m := 2) h498
 refine sk (a5 F15 (all2_length a425) (own_take a425) (nown_rd h498) (a3 (nown_len h498) (nown_cells h498) (nown_good h498))) ?_
 refine ⟨2, rfl, app_mvN (j := 0) rfl (of_decide_eq_true rfl) rfl ?_ ?_ (all2_length a425) q500 a425 (nown_all h498) z501 ?_⟩
 exact sc (a5 F15 (all2_length a425) (own_take a425) (nown_rd h498) (a3 (nown_len h498) (nown_cells h498) (nown_good h498)))
 exact sc0
 refine sk (a5 F15 (all2_length (app_all2n q500 z501 a425)) (own_take (app_all2n q500 z501 a425)) (all2_length a425) (a5 (own_take a425) (nown_rd h498) (nown_len h498) (nown_cells h498) (nown_good h498))) ?_
 refine j474 _ _ _ es423 v499 (app_all2n q500 z501 a425) b426 x427 rw428 v429 h430 ?_ ho437
 exact nm [0, 1] [0, 3, 8, 9, 10] [x0, (.sl 1 n 0 v499.length v499.length false), x427, (.int .i64 (v277.length : Int)), (.int .i64 v431)] (rc (.keep _ (slH_lt h0)) (rc (Rn.own (js := [0, 1]) 0 0) (rc (nown_rn h430 rfl) (rc rki (rc rki rn))))) (RowsR.row 0 _ _ _ _ hp_get0 (RnL.all2 (app_all2n q500 z501 a425) int64_lt) (RowsR.opt 1 _ _ _ (.inr (hp_get 1)) (nown_rows (j := 1) h430 int64_lt) RowsR.nil))
 refine WQ.region hT rfl ?_
 refine sq (a3 F15 (all2_length a425) (own_take a425)) ?_
 refine w_i_chain_o (SlH.up h0 2) ia487 q494 (fun x496 rw497 h498 => ?_)
 replace h498 := nown_up (m := 2) h498
 refine sk (a5 F15 (all2_length a425) (own_take a425) (nown_rd h498) (a3 (nown_len h498) (nown_cells h498) (nown_good h498))) ?_
 refine ⟨2, rfl, app_mvC (j := 0) rfl (of_decide_eq_true rfl) rfl ?_ ?_ (all2_length a425) q500 a425 (nown_all h498) z501 ?_⟩
 exact sc (a5 F15 (all2_length a425) (own_take a425) (nown_rd h498) (a3 (nown_len h498) (nown_cells h498) (nown_good h498)))
 exact sc0
 refine sk (a5 F15 (all2_length (app_all2 q500 a425 (nown_all h498))) (own_take (app_all2 q500 a425 (nown_all h498))) (all2_length a425) (a5 (own_take a425) (nown_rd h498) (nown_len h498) (nown_cells h498) (nown_good h498))) ?_
 refine j474 _ _ _ (es423 ++ (Option.getD rw497 [])) v499 (app_all2 q500 a425 (nown_all h498)) (app_len q500 a425 (nown_all h498)) x427 rw428 v429 h430 ?_ ho437
 exact nm [3, 1] [0, 3, 8, 9, 10] [x0, (.sl 1 (n + 3) 0 v499.length v499.length false), x427, (.int .i64 (v277.length : Int)), (.int .i64 v431)] (rc (.keep _ (slH_lt h0)) (rc (Rn.own (js := [3, 1]) 3 0) (rc (nown_rn h430 rfl) (rc rki (rc rki rn))))) (RowsR.row 3 _ _ _ _ (hp_get 3) (RnL.all2 (app_all2 q500 a425 (nown_all h498)) int64_lt) (RowsR.opt 1 _ _ _ (.inr (hp_get 1)) (nown_rows (j := 1) h430 int64_lt) RowsR.nil))
 refine WQ.exit ?_
 refine sg ?_
 have e502 := hf436 _ (Option.some.inj ho437).symm
 rw [← e502] at hm
 refine j250 _ _ _ es423 v424 a425 b426 ?_ hm
 exact nm [0] [3] [(.sl 1 n 0 v424.length v424.length false)] (rc (Rn.own (js := [0]) 0 0) rn) (RowsR.row 0 _ _ _ _ hp_get0 (RnL.all2 a425 int64_lt) RowsR.nil)
end
end Go.Proofs.Ytcngfjmfgeckmaa
end
section
namespace Go.Proofs.Ytcngfjmfgeckmaa
open Go
set_option linter.unusedSimpArgs false
set_option linter.unusedVariables false
set_option maxRecDepth 20000
attribute [local irreducible] IntKind.wrap bitA
section
variable {h : Heap} {n : Nat} {K : AV → Heap → Nat → Prop}
def m_s_UndoneOf (fu : Nat) (v0 : List RecD) : Option IntsResultD :=
  (Option.bind (m_s_l13Sound fu v0) fun v39 => (if (decide (v39 ≠ 0)) = true then some (IntsResultD.mk v39 ([])) else (Option.bind (m_s_l13Undone fu v0) fun v53 => some (IntsResultD.mk 0 v53))))
set_option maxHeartbeats 2000000 in
theorem w_s_UndoneOf_o {x0 : AV} {v0 : List RecD} (h0 : (SlH h n 8 RecR) x0 v0) {fu : Nat} {r : IntsResultD} (hm : m_s_UndoneOf fu v0 = some r) (hk : I64 r.code → ∀ A rw, NOwn n 0 1 Int64R A rw r.list → K (.agg [.int .i64 r.code, A]) (hp h n [rw]) (n + 1)) : CA Try.prog 32 [x0] h n K := by
 refine CA.cut (sz := 1) Try.call32 int64_lt ?_
 refine CA.enterQ (N := 13) (rs := [.cell 2 42]) hT Try.call32 Try.func32 rfl rfl (of_decide_eq_true rfl) rfl fun hlt => ?_
 unfold m_s_UndoneOf at hm
 obtain ⟨es11, a12, l13, b14, F15⟩ := sHo h0
 refine rg0 hT ?_
 refine WQ.seq_k fun K17 hK17 => ?_
 obtain ⟨v39, q38, hm⟩ := obs hm
 refine WQ.sr hT rfl fun K32 hK32 => ?_
 refine sq F15 ?_
 refine w_s_l13Sound (SlH.up h0 1) q38 (fun y40 h41 => ?_)
 obtain ⟨rfl, i42⟩ := h41
 refine sk F15 ?_
 refine kn hK32 ?_
 clear hK32 K32
 refine rg0 hT ?_
 refine cn hm (fun z44 hm => ?_) fun z44 hm => ?_
 refine rg0 hT ?_
 refine WQ.norm (E2 := envZ [2] [(.ep 2 (.sl 2 (n + 1) 0 1 1 true) 0 0)]) (h2 := hp h n [none, some [(.agg [(.int .i64 v39), .nils])]]) (n2 := n + 2) ?_ (WQ.ret ⟨[(.agg [(.int .i64 v39), .nils])], resA_cell rfl (hp_get 1) rfl rfl, _, _, _, .keep _ _ _ _ (fun _ _ h => h), _, .nils, none, _, _, (nown_nil rfl), rfl, lt_aggL (ltL_cons (.int _ _) (ltL_cons .nils ltL_nil)), rfl, rfl, ?_⟩)
 exact nm [1000, 0] [2] [(.ep 2 (.sl 2 n 0 1 1 true) 0 0)] (rc (Rn.ptr (js := [1000, 0]) 0 1) rn) (RowsR.opt 1000 none _ _ (.inl rfl) (fun _ h => nomatch h) (RowsR.row 0 _ _ _ _ hp_get0 (rc (Rn.agg' (rc rki (rc (.keep _ .nils) rn))) rn) RowsR.nil))
 obtain rfl := Option.some.inj hm
 exact hk i42 _ _ (nown_nil rfl)
 refine WQ.skip ?_
 refine sg ?_
 refine kn hK17 ?_
 clear hK17 K17
 obtain ⟨v53, q52, hm⟩ := obs hm
 refine WQ.sr hT rfl fun K46 hK46 => ?_
 refine sq F15 ?_
 refine w_s_l13Undone_o (SlH.up h0 1) q52 (fun x54 rw55 h56 => ?_)
 replace h56 := nown_up (m := 1) h56
 refine sk (a5 F15 (nown_rd h56) (nown_len h56) (nown_cells h56) (nown_good h56)) ?_
 refine kn hK46 ?_
 clear hK46 K46
 obtain ⟨x57, h58, q59⟩ := nown_mv 0 h56
 refine WQ.norm (E2 := envZ [2] [(.ep 2 (.sl 2 (n + 1) 0 1 1 true) 0 0)]) (h2 := hp h n [rw55, some [(.agg [(.int .i64 0), x57])]]) (n2 := n + 2) ?_ (WQ.ret ⟨[(.agg [(.int .i64 0), x57])], resA_cell rfl (hp_get 1) rfl rfl, _, _, _, .keep _ _ _ _ (fun _ _ h => h), _, x57, rw55, _, _, h58, rfl, lt_aggL (ltL_cons (.int _ _) (ltL_cons (nown_lt h58) ltL_nil)), rfl, rfl, ?_⟩)
 exact nm [1, 0] [2] [(.ep 2 (.sl 2 n 0 1 1 true) 0 0)] (rc (Rn.ptr (js := [1, 0]) 0 1) rn) (RowsR.opt 1 _ _ _ (.inr (hp_get 1)) (nown_rows (j := 1) h56 int64_lt) (RowsR.row 0 _ _ _ _ hp_get0 (rc (Rn.agg' (rc rki (rc (q59 _ _ rfl) rn))) rn) RowsR.nil))
 obtain rfl := Option.some.inj hm
 exact hk (i64c (a := 0) rfl) _ _ h58
theorem w_s_UndoneOf {x0 : AV} {v0 : List RecD} (h0 : (SlH h n 8 RecR) x0 v0) {fu : Nat} {r : IntsResultD} (hm : m_s_UndoneOf fu v0 = some r) (hk : ∀ y, IntsResultR y r → K y h n) : CA Try.prog 32 [x0] h n K :=
 CA.ofN1 (c := .int .i64 r.code) (fun m => .int _ _) Try.call32 int64_lt (fun K hk => w_s_UndoneOf_o h0 hm hk) (fun hi y hy => hk _ ⟨y, rfl, hi, hy⟩)
def m_i_UndoneOf (fu : Nat) (v0 : List RecD) : Option IntsResultD :=
  (Option.bind (m_i_SoundRecs fu v0) fun v39 => (if (decide (v39 ≠ 0)) = true then some (IntsResultD.mk v39 ([])) else (Option.bind (m_i_undone fu v0) fun v53 => some (IntsResultD.mk 0 v53))))
set_option maxHeartbeats 2000000 in
theorem w_i_UndoneOf_o {x0 : AV} {v0 : List RecD} (h0 : (SlH h n 8 RecR) x0 v0) {fu : Nat} {r : IntsResultD} (hm : m_i_UndoneOf fu v0 = some r) (hk : I64 r.code → ∀ A rw, NOwn n 0 1 Int64R A rw r.list → K (.agg [.int .i64 r.code, A]) (hp h n [rw]) (n + 1)) : CA Try.prog 33 [x0] h n K := by
 refine CA.cut (sz := 1) Try.call33 int64_lt ?_
 refine CA.enterQ (N := 13) (rs := [.cell 2 42]) hT Try.call33 Try.func33 rfl rfl (of_decide_eq_true rfl) rfl fun hlt => ?_
 unfold m_i_UndoneOf at hm
 obtain ⟨es11, a12, l13, b14, F15⟩ := sHo h0
 refine rg0 hT ?_
 refine WQ.seq_k fun K17 hK17 => ?_
 obtain ⟨v39, q38, hm⟩ := obs hm
 refine WQ.sr hT rfl fun K32 hK32 => ?_
 refine sq F15 ?_
 refine w_i_SoundRecs (SlH.up h0 1) q38 (fun y40 h41 => ?_)
 obtain ⟨rfl, i42⟩ := h41
 refine sk F15 ?_
 refine kn hK32 ?_
 clear hK32 K32
 refine rg0 hT ?_
 refine cn hm (fun z44 hm => ?_) fun z44 hm => ?_
 refine rg0 hT ?_
 refine WQ.norm (E2 := envZ [2] [(.ep 2 (.sl 2 (n + 1) 0 1 1 true) 0 0)]) (h2 := hp h n [none, some [(.agg [(.int .i64 v39), .nils])]]) (n2 := n + 2) ?_ (WQ.ret ⟨[(.agg [(.int .i64 v39), .nils])], resA_cell rfl (hp_get 1) rfl rfl, _, _, _, .keep _ _ _ _ (fun _ _ h => h), _, .nils, none, _, _, (nown_nil rfl), rfl, lt_aggL (ltL_cons (.int _ _) (ltL_cons .nils ltL_nil)), rfl, rfl, ?_⟩)
 exact nm [1000, 0] [2] [(.ep 2 (.sl 2 n 0 1 1 true) 0 0)] (rc (Rn.ptr (js := [1000, 0]) 0 1) rn) (RowsR.opt 1000 none _ _ (.inl rfl) (fun _ h => nomatch h) (RowsR.row 0 _ _ _ _ hp_get0 (rc (Rn.agg' (rc rki (rc (.keep _ .nils) rn))) rn) RowsR.nil))
 obtain rfl := Option.some.inj hm
 exact hk i42 _ _ (nown_nil rfl)
 refine WQ.skip ?_
 refine sg ?_
 refine kn hK17 ?_
 clear hK17 K17
 obtain ⟨v53, q52, hm⟩ := obs hm
 refine WQ.sr hT rfl fun K46 hK46 => ?_
 refine sq F15 ?_
 refine w_i_undone_o (SlH.up h0 1) q52 (fun x54 rw55 h56 => ?_)
 replace h56 := nown_up (m := 1) h56
 refine sk (a5 F15 (nown_rd h56) (nown_len h56) (nown_cells h56) (nown_good h56)) ?_
 refine kn hK46 ?_
 clear hK46 K46
 obtain ⟨x57, h58, q59⟩ := nown_mv 0 h56
 refine WQ.norm (E2 := envZ [2] [(.ep 2 (.sl 2 (n + 1) 0 1 1 true) 0 0)]) (h2 := hp h n [rw55, some [(.agg [(.int .i64 0), x57])]]) (n2 := n + 2) ?_ (WQ.ret ⟨[(.agg [(.int .i64 0), x57])], resA_cell rfl (hp_get 1) rfl rfl, _, _, _, .keep _ _ _ _ (fun _ _ h => h), _, x57, rw55, _, _, h58, rfl, lt_aggL (ltL_cons (.int _ _) (ltL_cons (nown_lt h58) ltL_nil)), rfl, rfl, ?_⟩)
 exact nm [1, 0] [2] [(.ep 2 (.sl 2 n 0 1 1 true) 0 0)] (rc (Rn.ptr (js := [1, 0]) 0 1) rn) (RowsR.opt 1 _ _ _ (.inr (hp_get 1)) (nown_rows (j := 1) h56 int64_lt) (RowsR.row 0 _ _ _ _ hp_get0 (rc (Rn.agg' (rc rki (rc (q59 _ _ rfl) rn))) rn) RowsR.nil))
 obtain rfl := Option.some.inj hm
 exact hk (i64c (a := 0) rfl) _ _ h58
end
end Go.Proofs.Ytcngfjmfgeckmaa
end
namespace Go.Proofs.Ytcngfjmfgeckmaa
open Go
section
variable {fu : Nat} {h : Heap} {n : Nat} {K : AV → Heap → Nat → Prop}
theorem asc_len : ∀ (l : List Int) (a m : Int), a ≤ m → l.Pairwise (· < ·) → (∀ x, x ∈ l → a < x ∧ x ≤ m) → (l.length : Int) ≤ m - a
  | [], a, m, h, _, _ => by simp; omega
  | x :: l, a, m, h, hp, hb => by
    have hp' := List.pairwise_cons.1 hp
    obtain ⟨h1, h2⟩ := hb x (by simp)
    have := asc_len l x m h2 hp'.2 fun y hy => ⟨hp'.1 y hy, (hb y (by simp [hy])).2⟩
    rw [List.length_cons]; omega
theorem nodup_len {l : List Int} {m : Nat} (hn : l.Nodup) (hb : ∀ x, x ∈ l → 1 ≤ x ∧ x ≤ (m : Int)) : l.length ≤ m := by
  have h1 := asc_len (riseAll l) 0 m (by omega) (riseAll_sorted l) fun x hx => by have := hb x ((riseAll_mem x).1 hx); omega
  rw [riseAll_sort hn, sortI_len] at h1
  omega
theorem chainG_nodup (t : Int) : ∀ (l : List RecD) (k : Nat), (chainG t k l).Nodup
  | [], k => by simp [chainG]
  | r :: l, k => by
    rw [chainG, List.nodup_append]
    refine ⟨chainG_nodup t l (k + 1), by split <;> simp, fun a ha b hb => ?_⟩
    obtain ⟨i, _, _, h2, _⟩ := chainG_mem t l (k + 1) a ha
    split at hb
    · rw [List.mem_singleton] at hb; omega
    · cases hb
def chains (l : List RecD) (b : List Int) : List Int := b.flatMap fun t => chainG t 0 l
theorem chains_mem {l : List RecD} {b : List Int} {a : Int} (ha : a ∈ chains l b) : ∃ (t : Int) (i : Nat) (r : RecD), t ∈ b ∧ l[i]? = some r ∧ a = (i : Int) + 1 ∧ r.txn = t := by
  unfold chains at ha
  obtain ⟨t, ht, ha⟩ := List.mem_flatMap.1 ha
  obtain ⟨i, r, h1, h2, _, h4⟩ := chainG_mem t l 0 a ha
  exact ⟨t, i, r, ht, h1, by omega, h4⟩
theorem chains_nodup {l : List RecD} : ∀ {b : List Int}, b.Nodup → (chains l b).Nodup
  | [], _ => by simp [chains]
  | t :: b, hb => by
    obtain ⟨h1, h2⟩ := List.nodup_cons.1 hb
    show (chainG t 0 l ++ chains l b).Nodup
    rw [List.nodup_append]
    refine ⟨chainG_nodup t l 0, chains_nodup h2, fun a ha c hc => ?_⟩
    rintro rfl
    obtain ⟨i, r, g1, g2, _, g4⟩ := chainG_mem t l 0 a ha
    obtain ⟨t', i', r', q1, q2, q3, q4⟩ := chains_mem hc
    have : i' = i := by omega
    subst this
    rw [g1] at q2
    obtain rfl := Option.some.inj q2
    rw [g4] at q4
    subst q4
    exact h1 q1
theorem chains_len {l : List RecD} {b : List Int} (hb : b.Nodup) : (chains l b).length ≤ l.length := by
  refine nodup_len (chains_nodup hb) fun a ha => ?_
  obtain ⟨_, i, r, _, h1, h2, _⟩ := chains_mem ha
  have := (List.getElem?_eq_some_iff.1 h1).1
  omega
theorem chains_take {l : List RecD} {b : List Int} {i : Nat} (hlt : i < b.length) : chains l (b.take (i + 1)) = chains l (b.take i) ++ chainG b[i] 0 l := by
  unfold chains
  rw [List.take_add_one, List.getElem?_eq_getElem hlt, List.flatMap_append]
  simp
theorem losersL_nodup {l : List RecD} (h1 : (txnsOf l 1).Nodup) : (losersL l).Nodup := by
  unfold losersL
  refine List.Nodup.sublist (List.filter_sublist) ?_
  rw [← riseAll_sort h1]
  exact rise_nodup (riseAll_sorted _)
def undoneL (l : List RecD) : List Int := (sortI (chains l (losersL l))).reverse
theorem undoneL_len {l : List RecD} (h1 : (txnsOf l 1).Nodup) : (undoneL l).length ≤ l.length := by
  unfold undoneL
  rw [List.length_reverse, sortI_len]
  exact chains_len (losersL_nodup h1)
theorem m_i_undone_eq {l : List RecD} (hl : l.length ≤ 100000) (hfu : 1000000 < fu) (h1 : (txnsOf l 1).Nodup) : m_i_undone fu l = some (undoneL l) := by
  have e1 : (losersL l).length ≤ l.length := Nat.le_trans (List.length_filter_le _ _) (sortI_txns_len l 1)
  have hn := losersL_nodup h1
  unfold m_i_undone undoneL
  rw [m_i_losers_eq hl hfu, Option.bind_some]
  generalize losersL l = b at e1 hn
  have key : ∀ (m i : Nat), i ≤ b.length → b.length - i < m → iterN (fun (s : (List Int) × (List Int) × Int) => m_i_undone_a3 fu l b s.1 s.2.1 s.2.2) m (chains l (b.take i), b, (i : Int)) = some (Sum.inl (chains l b)) := by
    intro m
    induction m with
    | zero => intro i _ h; omega
    | succ m ih =>
      intro i hi hm
      unfold iterN
      by_cases hlt : i < b.length
      · have hge := List.getElem?_eq_getElem hlt
        have hcl := chains_len (l := l) (b := b.take (i + 1)) (hn.sublist (List.take_sublist _ _))
        rw [chains_take hlt, List.length_append] at hcl
        have step : m_i_undone_a3 fu l b (chains l (b.take i)) b (i : Int) = some (Sum.inl (chains l (b.take (i + 1)), b, ((i + 1 : Nat) : Int))) := by
          unfold m_i_undone_a3 m_i_undone_a2
          rw [if_pos (decide_eq_true (Int.ofNat_lt.2 hlt)), atL_nat, hge, Option.bind_some, m_i_chain_eq (by omega) (by omega), Option.bind_some, appI_eq (by omega), Option.bind_some, wrap_succ (by omega), chains_take hlt]
        simp only [step]
        exact ih (i + 1) hlt (by omega)
      · have step : m_i_undone_a3 fu l b (chains l (b.take i)) b (i : Int) = some (Sum.inr (Sum.inl (chains l b))) := by
          unfold m_i_undone_a3
          rw [if_neg (by simp; omega), List.take_of_length_le (by omega)]
        simp only [step]
  have hh := key fu 0 (Nat.zero_le _) (by omega)
  unfold m_i_undone_a1
  rw [show (([] : List Int), b, (0 : Int)) = (chains l (b.take 0), b, ((0 : Nat) : Int)) from rfl, hh]
  rfl
theorem s_rev {v : List Int} (hl : v.length ≤ 1000000) (hfu : 1000000 < fu) : m_s_l13Undone_a3 fu v = some v.reverse := by
  have key : ∀ (j k : Nat), j ≤ v.length → j < k → iterN (fun (s : (List Int) × (List Int) × Int) => m_s_l13Undone_a2 fu s.1 s.2.1 s.2.2) k ((v.drop j).reverse, v, (j : Int) - 1) = some (Sum.inl v.reverse) := by
    intro j
    induction j with
    | zero =>
      intro k _ hk
      obtain ⟨k, rfl⟩ : ∃ m, k = m + 1 := ⟨k - 1, by omega⟩
      unfold iterN
      have step : m_s_l13Undone_a2 fu (v.drop 0).reverse v (((0 : Nat) : Int) - 1) = some (Sum.inr (Sum.inl v.reverse)) := by
        unfold m_s_l13Undone_a2
        rw [if_neg (by simp)]; rfl
      simp only [step]
    | succ j ih =>
      intro k hj hk
      obtain ⟨k, rfl⟩ : ∃ m, k = m + 1 := ⟨k - 1, by omega⟩
      unfold iterN
      have hge := List.getElem?_eq_getElem (show j < v.length by omega)
      have step : m_s_l13Undone_a2 fu (v.drop (j + 1)).reverse v (((j + 1 : Nat) : Int) - 1) = some (Sum.inl ((v.drop j).reverse, v, (j : Int) - 1)) := by
        unfold m_s_l13Undone_a2
        rw [show (((j + 1 : Nat) : Int) - 1) = (j : Int) by omega, if_pos (decide_eq_true (Int.natCast_nonneg _)), atL_nat, hge, Option.bind_some, snocL_eq (by rw [List.length_reverse, List.length_drop]; omega), Option.bind_some, wrap_in (by omega) (by omega), List.drop_eq_getElem_cons (show j < v.length by omega), List.reverse_cons]
      simp only [step]
      exact ih k (by omega) (by omega)
  have hh := key v.length fu (Nat.le_refl _) (by omega)
  rw [List.drop_length, List.reverse_nil] at hh
  unfold m_s_l13Undone_a3 m_s_l13Undone_a1
  rw [wrap_in (by omega) (by omega), hh]; rfl
theorem s_inner {acc c b : List Int} {i : Nat} (hl : acc.length + c.length ≤ 1000000) (hfu : 1000000 < fu) (hi : i ≤ 1000000) :
    iterN (fun (s : (List Int) × (List Int) × Int) => m_s_l13Undone_a6 fu (i : Int) c s.1 s.2.1 s.2.2) fu (riseAll acc, b, 0) = some (Sum.inr (some (Sum.inl (riseAll (acc ++ c), b, ((i + 1 : Nat) : Int))))) := by
  have key : ∀ (m j : Nat), j ≤ c.length → c.length - j < m → iterN (fun (s : (List Int) × (List Int) × Int) => m_s_l13Undone_a6 fu (i : Int) c s.1 s.2.1 s.2.2) m (riseAll (acc ++ c.take j), b, (j : Int)) = some (Sum.inr (some (Sum.inl (riseAll (acc ++ c), b, ((i + 1 : Nat) : Int))))) := by
    intro m
    induction m with
    | zero => intro i _ h; omega
    | succ m ih =>
      intro j hj hm
      unfold iterN
      by_cases hlt : j < c.length
      · have hge := List.getElem?_eq_getElem hlt
        have hrl := riseAll_len (acc ++ c.take j)
        rw [List.length_append, List.length_take] at hrl
        have step : m_s_l13Undone_a6 fu (i : Int) c (riseAll (acc ++ c.take j)) b (j : Int) = some (Sum.inl (riseAll (acc ++ c.take (j + 1)), b, ((j + 1 : Nat) : Int))) := by
          unfold m_s_l13Undone_a6 m_s_l13Undone_a5
          rw [if_pos (decide_eq_true (Int.ofNat_lt.2 hlt)), atL_nat, hge, Option.bind_some, m_s_l1Rise_eq (by omega) (by omega), Option.bind_some, wrap_succ (by omega), List.take_add_one, hge, ← List.append_assoc, Option.toList_some, riseAll_snoc]
        simp only [step]
        exact ih (j + 1) hlt (by omega)
      · have step : m_s_l13Undone_a6 fu (i : Int) c (riseAll (acc ++ c.take j)) b (j : Int) = some (Sum.inr (Sum.inr (some (Sum.inl (riseAll (acc ++ c), b, ((i + 1 : Nat) : Int)))))) := by
          unfold m_s_l13Undone_a6 m_s_l13Undone_a4
          rw [if_neg (by simp; omega), List.take_of_length_le (by omega), wrap_succ (by omega)]
        simp only [step]
  have hh := key fu 0 (Nat.zero_le _) (by omega)
  rw [List.take_zero, List.append_nil] at hh
  exact hh
theorem m_s_l13Undone_eq {l : List RecD} (hl : l.length ≤ 100000) (hfu : 1000000 < fu) (h1 : (txnsOf l 1).Nodup) : m_s_l13Undone fu l = some (undoneL l) := by
  have e1 : (losersL l).length ≤ l.length := Nat.le_trans (List.length_filter_le _ _) (sortI_txns_len l 1)
  have hn := losersL_nodup h1
  unfold m_s_l13Undone undoneL
  rw [m_s_l13Losers_eq hl hfu h1, Option.bind_some]
  generalize losersL l = b at e1 hn
  have key : ∀ (m i : Nat), i ≤ b.length → b.length - i < m → iterN (fun (s : (List Int) × (List Int) × Int) => m_s_l13Undone_a7 fu l s.1 s.2.1 s.2.2) m (riseAll (chains l (b.take i)), b, (i : Int)) = some (Sum.inl (riseAll (chains l b))) := by
    intro m
    induction m with
    | zero => intro i _ h; omega
    | succ m ih =>
      intro i hi hm
      unfold iterN
      by_cases hlt : i < b.length
      · have hge := List.getElem?_eq_getElem hlt
        have hcl := chains_len (l := l) (b := b.take (i + 1)) (hn.sublist (List.take_sublist _ _))
        rw [chains_take hlt, List.length_append] at hcl
        have step : m_s_l13Undone_a7 fu l (riseAll (chains l (b.take i))) b (i : Int) = some (Sum.inl (riseAll (chains l (b.take (i + 1))), b, ((i + 1 : Nat) : Int))) := by
          unfold m_s_l13Undone_a7
          rw [if_pos (decide_eq_true (Int.ofNat_lt.2 hlt)), atL_nat, hge, Option.bind_some, m_s_l3Back_eq (by omega) (by omega), Option.bind_some, s_inner (by omega) hfu (by omega), Option.bind_some, chains_take hlt]
          rfl
        simp only [step]
        exact ih (i + 1) hlt (by omega)
      · have step : m_s_l13Undone_a7 fu l (riseAll (chains l (b.take i))) b (i : Int) = some (Sum.inr (Sum.inl (riseAll (chains l b)))) := by
          unfold m_s_l13Undone_a7
          rw [if_neg (by simp; omega), List.take_of_length_le (by omega)]
        simp only [step]
  have hh := key fu 0 (Nat.zero_le _) (by omega)
  rw [show (([] : List Int), b, (0 : Int)) = (riseAll (chains l (b.take 0)), b, ((0 : Nat) : Int)) from rfl, hh, Option.bind_some, Sum.elim_inl, riseAll_sort (chains_nodup hn)]
  have hcl := chains_len (l := l) hn
  exact s_rev (by rw [sortI_len]; omega) hfu
def undoP (l : List RecD) : IntsResultD := if soundP l ≠ 0 then ⟨soundP l, []⟩ else ⟨0, undoneL l⟩
theorem m_i_UndoneOf_eq {l : List RecD} (hfu : 1000000 < fu) : m_i_UndoneOf fu l = some (undoP l) := by
  unfold m_i_UndoneOf undoP
  rw [m_i_SoundRecs_eq (by omega), Option.bind_some]
  show (if decide (soundP l ≠ 0) = true then some (IntsResultD.mk (soundP l) []) else _) = _
  by_cases hs : soundP l = 0
  · obtain ⟨h1, h2⟩ := sound_len hs
    rw [if_neg (by simp [hs]), if_neg (by simp [hs]), m_i_undone_eq (by omega) (by omega) (runC_once h2).1]; rfl
  · rw [if_pos (decide_eq_true hs), if_pos hs]
theorem m_s_UndoneOf_eq {l : List RecD} (hfu : 1000000 < fu) : m_s_UndoneOf fu l = some (undoP l) := by
  unfold m_s_UndoneOf undoP
  rw [m_s_l13Sound_eq (by omega), Option.bind_some]
  show (if decide (soundP l ≠ 0) = true then some (IntsResultD.mk (soundP l) []) else _) = _
  by_cases hs : soundP l = 0
  · obtain ⟨h1, h2⟩ := sound_len hs
    rw [if_neg (by simp [hs]), if_neg (by simp [hs]), m_s_l13Undone_eq (by omega) (by omega) (runC_once h2).1]; rfl
  · rw [if_pos (decide_eq_true hs), if_pos hs]
theorem undoP_small (l : List RecD) : wsIntsResult (undoP l) ≤ 2097152 := by
  unfold wsIntsResult wtInt64S wtInt undoP
  rw [map_const_sum]
  split
  · simp
  · rename_i hs
    obtain ⟨g1, g2⟩ := sound_len (by simpa using hs)
    have := undoneL_len (runC_once g2).1
    simp only
    omega
theorem s_undo {x : AV} {l : List RecD} (hx : RecSR x l) (hk : ∀ y, IntsResultR y (undoP l) → K y h n) : CA Try.prog 32 [x] h n K :=
  w_s_UndoneOf (SlR.toH hx) (fu := 10000000) (m_s_UndoneOf_eq (by omega)) hk
theorem i_undoO {x : AV} {l : List RecD} (hx : RecSR x l) (hk : ∀ r h' n', OwnRes IntsResultR h n r (undoP l) h' n' → K r h' n') : CA Try.prog 33 [x] h n K :=
  CA.ownN1 (c := .int .i64 (undoP l).code) (.int _ _) (.int _ _) Try.call33 tyInt_2.lt (fun H e a he => by obtain ⟨rfl, _⟩ := he; exact .atom _ (.int _ _) (.int _ _)) (fun K hk => w_i_UndoneOf_o (SlR.toH hx) (fu := 10000000) (m_i_UndoneOf_eq (by omega)) hk) (fun hi y hy => ⟨y, rfl, hi, hy⟩) hk
end
end Go.Proofs.Ytcngfjmfgeckmaa
