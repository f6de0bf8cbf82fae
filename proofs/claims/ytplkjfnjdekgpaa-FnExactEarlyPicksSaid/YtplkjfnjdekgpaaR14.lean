/- Row 5: the law. Own work. -/
import Derived.Test.YtplkjfnjdekgpaaR13
namespace Go.Proofs.Ytplkjfnjdekgpaa
open Go

section
variable {h : Heap} {n : Nat} {K : AV → Heap → Nat → Prop}

theorem c7 {x y : AV} {l : List (List ActD)} {who : List Int} {w : Int} (hx : ActSSR x l) (hy : IntsR y who) (hw : I64 w) (hk : K (.bool true) h n) : CA Try.prog 7 [x, y, .int .i64 w] h n K := by
  obtain ⟨ws, hws, hwl, hml2, _, _⟩ := id hy
  have hwlen := all2_length hwl
  unfold maxLen at hml2
  have sm2 := early_small l who w
  refine CA.conv (CA.enter (N := 95) (rs := [.tmp 6]) hT Try.call7 Try.func7 rfl rfl (by simp) rfl fun hlt => ?_)
  refine WP.seq_k fun K1 hK1 => WP.region hT rfl ?_
  simp only [↓opsA, ↓stepA, ↓callA, ev, ↓e_assign, ofVal, ↓thenA]
  refine hK1 _ _ _ ?_
  clear hK1 K1
  refine WP.seq_k fun K3 hK3 => ?_
  refine WP.seq_k fun K1 hK1 => WP.region hT rfl ?_
  simp only [↓opsA, ↓stepA, ↓e_len1, ↓callA, ev, Env.get_put_some, Env.get_envOf, ↓e_move, ↓e_binOp, b_gtr, ofVal, ↓thenA, reduceIte, Nat.reduceEqDiff, List.getElem?_cons_zero, List.getElem?_cons_succ, Option.getD_some, ↓reduceIte, T_2, T_37, rdSl_emp hws]
  refine hK1 _ _ _ ?_
  clear hK1 K1
  refine WP.cond (by simp only [ev, Env.get_put_some, ↓reduceIte]; rfl) (fun hc => ?_) (fun hc => ?_)
  · refine WP.seq_k fun K1 hK1 => WP.region hT rfl ?_
    simp only [↓opsA, ↓stepA, ↓callA, ev, ↓e_assign, ofVal, ↓thenA]
    refine hK1 _ _ _ ?_
    clear hK1 K1
    refine WP.ret ?_
    simp only [Env.get_put_some, ↓thenA, reduceIte, Option.map_some, ↓reduceIte, retA, resA]
    exact ⟨_, rfl, ret_p (Left.refl hlt) (.bool _) hk⟩
  have hwho : who.length ≤ 1048576 := by simp at hc; omega
  refine WP.skip (hK3 _ _ _ ?_)
  clear hK3 K3
  refine WP.seq_k fun K1 hK1 => WP.region hT rfl ?_
  simp only [↓opsA, ↓stepA, ↓callA, ev, ↓e_assign, ofVal, ↓thenA]
  refine hK1 _ _ _ ?_
  clear hK1 K1
  refine WP.seq_k fun K1 hK1 => WP.region hT rfl ?_
  simp only [↓opsA, ↓stepA, ↓callA, List.map_cons, List.map_nil, ev, Env.get_put_some, Env.get_envOf, ↓e_move, ↓e_assign, ↓thenA, reduceIte, Nat.reduceEqDiff, List.getElem?_cons_zero, Option.getD_some, List.append_nil, ↓reduceIte]
  refine c14 hx (by omega) (by omega) (hK1 _ _ _ ?_)
  clear hK1 K1
  refine WP.seq_k fun K3 hK3 => ?_
  refine WP.seq_k fun K1 hK1 => WP.region hT rfl ?_
  simp only [↓opsA, ↓stepA, ↓callA, ev, Env.get_put_some, ↓e_move, ↓e_binOp, b_lss, ofVal, ↓thenA, reduceIte, ↓reduceIte]
  refine hK1 _ _ _ ?_
  clear hK1 K1
  refine WP.cond (by simp only [ev, Env.get_put_some, ↓reduceIte]; rfl) (fun hc => ?_) (fun hc => ?_)
  · refine WP.seq_k fun K1 hK1 => WP.region hT rfl ?_
    simp only [↓opsA, ↓stepA, ↓callA, ev, ↓e_assign, ofVal, ↓thenA]
    refine hK1 _ _ _ ?_
    clear hK1 K1
    refine WP.ret ?_
    simp only [Env.get_put_some, ↓thenA, reduceIte, Option.map_some, ↓reduceIte, retA, resA]
    exact ⟨_, rfl, ret_p (Left.refl hlt) (.bool _) hk⟩
  refine WP.skip (hK3 _ _ _ ?_)
  clear hK3 K3
  obtain ⟨b1, b2⟩ := left_nonneg (by omega) (of_decide_eq_false hc)
  have hl : sizL sizAct l ≤ 1048576 := by omega
  -- R7
  refine WP.seq_k fun K1 hK1 => WP.region hT rfl ?_
  simp only [↓opsA_cons, isCallV, reduceCtorEq, ↓stepA, ↓callA, List.map_cons, List.map_nil, ev, Env.get_put_some, Env.get_envOf, ↓e_move, ↓thenA, reduceIte, List.getElem?_cons_zero, Option.getD_some, List.append_nil, ↓reduceIte]
  refine c16 hx hl fun r1 hr1 => ?_
  unfold opsW
  simp only [↓opsA_cons, isCallV, List.getElem?_cons_succ, ↓stepA, ↓callA, List.map_cons, List.map_nil, ev, Env.get_put_some, Env.get_envOf, ↓e_move, reduceIte, Nat.reduceEqDiff, List.getElem?_cons_zero, List.getElem?_cons_succ, Option.getD_some, List.append_nil, ↓reduceIte]
  refine c22 hy hwho fun r2 hr2 => ?_
  unfold opsW
  simp only [↓opsA_cons, isCallV, List.getElem?_cons_succ, ↓stepA, ↓callA, List.map_cons, List.map_nil, ev, Env.get_put_some, Env.get_envOf, ↓e_move, reduceIte, Nat.reduceEqDiff, List.getElem?_cons_zero, List.getElem?_cons_succ, Option.getD_some, List.append_nil, ↓reduceIte]
  refine CA.ofOwn Try.call30 (fun K hk => c30 hr1 hr2 hw hk) fun w0 hw0 => ?_
  obtain ⟨A0, rfl, hA0⟩ := id hw0
  unfold opsW
  simp only [↓opsA_nil, ↓opsA_cons, isCallV, ↓stepA, ↓callA, ev, Env.get_put_some, Env.put_none, ↓e_alloc, ↓e_store, setPart_agg, Heap.upd_get, Heap.upd_upd, Nat.pos_of_neZero, good_agg, AV.cells_agg, reduceIte, Nat.reduceEqDiff, Nat.reduceAdd, true_and, List.getElem?_cons_zero, List.length_cons, List.length_nil, List.set_cons_zero, Nat.zero_add, Nat.add_zero, List.take_zero, List.drop_succ_cons, List.drop_nil, List.nil_append, List.append_nil, ↓reduceIte, Nat.le_refl, T_50]
  refine hK1 _ _ _ ?_
  clear hK1 K1
  -- R8: x0
  refine WP.seq_k fun K1 hK1 => WP.region hT rfl ?_
  simp only [↓opsA_cons, isCallV, reduceCtorEq, ↓stepA, ↓callA, List.map_cons, List.map_nil, ev, Env.get_put_some, Env.get_envOf, ↓e_move, ↓thenA, reduceIte, List.getElem?_cons_zero, Option.getD_some, List.append_nil, ↓reduceIte]
  refine c16o hx hl fun x0 h2 n2 o2 => ?_
  unfold opsW
  simp only [↓opsA_nil, ↓opsA_cons, isCallV, ↓stepA, ↓callA, ev, Env.get_put_some, ↓e_assign, reduceIte, ↓reduceIte]
  refine hK1 _ _ _ ?_
  clear hK1 K1
  -- R9: x1
  refine WP.seq_k fun K1 hK1 => WP.region hT rfl ?_
  simp only [↓opsA_cons, isCallV, List.getElem?_cons_succ, ↓stepA, ↓callA, List.map_cons, List.map_nil, ev, Env.get_put_some, Env.get_envOf, ↓e_move, ↓thenA, reduceIte, Nat.reduceEqDiff, List.getElem?_cons_zero, List.getElem?_cons_succ, Option.getD_some, List.append_nil, ↓reduceIte]
  refine c22o hy hwho fun x1 h3 n3 o3 => ?_
  unfold opsW
  simp only [↓opsA_nil, ↓opsA_cons, isCallV, ↓stepA, ↓callA, ev, Env.get_put_some, ↓e_assign, reduceIte, ↓reduceIte]
  refine hK1 _ _ _ ?_
  clear hK1 K1
  have l2 := o2.le
  have l3 := o3.le
  have bw2 : h2 n = some [.agg [.int .i64 (earlyF l who w).code, A0]] := by rw [o2.below n (by omega), Heap.upd_same]
  have bw3 : h3 n = some [.agg [.int .i64 (earlyF l who w).code, A0]] := by rw [o3.below n (by omega)]; exact bw2
  obtain ⟨x0', I0, t0, u0, i0⟩ := o2.frz0
  obtain ⟨x1', I1, t1, u1, i1⟩ := o3.frz0
  have t0 : Tree h3 x0 x0' I0 := t0.keep fun i hi => o3.below i (by have := i0 i hi; omega)
  -- R10: g0
  refine WP.seq_k fun K1 hK1 => WP.region hT rfl ?_
  simp only [↓opsA_cons, isCallV, List.getElem?_cons_succ, ↓stepA, ↓callA, List.map_cons, List.map_nil, ev, Env.get_put_some, Env.get_envOf, ↓e_move, ↓thenA, reduceIte, Nat.reduceEqDiff, List.getElem?_cons_zero, List.getElem?_cons_succ, Option.getD_some, List.append_nil, ↓reduceIte]
  refine CA.lendOwn (args' := [x0', x1', .int .i64 w]) Try.call31 rfl (frzL3 (.inr t0.frz00) (.inr t1.frz00) (.inl rfl)) (fun K hk => c31 u0 u1 hw hwho hk) fun g0 h4 n4 o4 => ?_
  have l4 := o4.le
  have bw4 : h4 n = some [.agg [.int .i64 (earlyF l who w).code, A0]] := by rw [o4.below n (by omega)]; exact bw3
  obtain ⟨g0', I2, t2, u2, i2⟩ := o4.frz0
  have t0 : Tree h4 x0 x0' I0 := t0.keep fun i hi => o4.below i (by have := i0 i hi; omega)
  have t1 : Tree h4 x1 x1' I1 := t1.keep fun i hi => o4.below i (by have := i1 i hi; omega)
  obtain ⟨Ag', rfl, hAg⟩ := id u2
  obtain ⟨gs, rfl, hgl⟩ := t2.aggE
  have gl3 : gs.length = 2 := by have := hgl.length; simpa using this.symm
  obtain ⟨ga, gb, rfl⟩ := len2 gl3
  unfold opsW
  simp only [↓opsA_nil, ↓opsA_cons, isCallV, ↓stepA, ↓callA, ev, Env.get_put_some, Env.put_none, ↓e_alloc, ↓e_store, setPart_agg, Heap.upd_get, Heap.upd_upd, Nat.pos_of_neZero, good_agg, AV.cells_agg, reduceIte, Nat.reduceEqDiff, Nat.reduceAdd, true_and, List.getElem?_cons_zero, List.length_cons, List.length_nil, List.set_cons_zero, Nat.zero_add, Nat.add_zero, List.take_zero, List.drop_succ_cons, List.drop_nil, List.nil_append, List.append_nil, ↓reduceIte, Nat.le_refl, T_50]
  refine hK1 _ _ _ ?_
  clear hK1 K1
  generalize hh5 : h4.upd n4 [.agg [ga, gb]] = h5
  have fr5 : ∀ id, id < n4 → h5 id = h4 id := fun id hid => by rw [← hh5, Heap.upd_ne _ _ (by omega)]
  have bg5 : h5 n4 = some [.agg [ga, gb]] := by rw [← hh5, Heap.upd_same]
  have bw5 : h5 n = some [.agg [.int .i64 (earlyF l who w).code, A0]] := by rw [fr5 n (by omega)]; exact bw4
  have t0 : Tree h5 x0 x0' I0 := t0.keep fun i hi => fr5 i (by have := i0 i hi; omega)
  have t1 : Tree h5 x1 x1' I1 := t1.keep fun i hi => fr5 i (by have := i1 i hi; omega)
  have t2 : Tree h5 (.agg [ga, gb]) (.agg [.int .i64 (earlyF l who w).code, Ag']) I2 := t2.keep fun i hi => fr5 i (by have := i2 i hi; omega)
  clear hh5
  -- R11
  refine WP.seq_k fun K3 hK3 => ?_
  refine WP.seq_k fun K1 hK1 => WP.region hT rfl ?_
  simp only [↓opsA_cons, isCallV, ↓stepA, ↓callA, List.map_cons, List.map_nil, ev, Env.get_put_some, ↓e_load, rdSl_sl, ↓thenA, Nat.pos_of_neZero, AV.cells_agg, reduceIte, Nat.reduceEqDiff, Nat.reduceAdd, true_and, List.getElem?_cons_zero, List.length_cons, List.length_nil, Nat.zero_add, List.drop_zero, List.take_succ_cons, List.take_zero, List.append_nil, decide_true, ↓reduceIte, Nat.le_refl, T_50, bg5, bw5, pt_50, cellOk]
  refine CA.lend (args' := [.agg [.int .i64 (earlyF l who w).code, Ag'], .agg [.int .i64 (earlyF l who w).code, A0]]) Try.call32 rfl (frzL2 (.inr t2.frz00) (.inl rfl)) (.bool _) (fun K hk => c32 u2 hw0 hk) ?_
  unfold opsW
  simp only [↓opsA_nil, ↓opsA_cons, isCallV, ↓stepA, ↓callA, ev, Env.get_put_some, ↓e_unOp, u_not, reduceIte, decide_true, ↓reduceIte]
  refine hK1 _ _ _ ?_
  clear hK1 K1
  refine WP.cond (by simp only [ev, Env.get_put_some, ↓reduceIte]; rfl) (fun hc => ?_) (fun hc => ?_)
  · simp at hc
  refine WP.skip (hK3 _ _ _ ?_)
  clear hK3 K3
  -- R13
  refine WP.seq_k fun K3 hK3 => ?_
  refine WP.seq_k fun K1 hK1 => WP.region hT rfl ?_
  simp only [↓opsA_cons, isCallV, reduceCtorEq, ↓stepA, ↓callA, List.map_cons, List.map_nil, ev, Env.get_put_some, Env.get_envOf, ↓e_move, ↓thenA, reduceIte, Nat.reduceEqDiff, List.getElem?_cons_zero, Option.getD_some, List.append_nil, ↓reduceIte]
  refine c16 hx hl fun r3 hr3 => ?_
  unfold opsW
  simp only [↓opsA_cons, isCallV, ↓stepA, ↓callA, List.map_cons, List.map_nil, ev, Env.get_put_some, reduceIte, Nat.reduceEqDiff, List.append_nil, ↓reduceIte]
  refine CA.lend (args' := [x0', r3]) Try.call18 rfl (frzL2 (.inr t0.frz00) (.inl rfl)) (.bool _) (fun K hk => c18 u0 hr3 hk) ?_
  unfold opsW
  simp only [↓opsA_nil, ↓opsA_cons, isCallV, ↓stepA, ↓callA, ev, Env.get_put_some, ↓e_unOp, u_not, reduceIte, decide_true, ↓reduceIte]
  refine hK1 _ _ _ ?_
  clear hK1 K1
  refine WP.cond (by simp only [ev, Env.get_put_some, ↓reduceIte]; rfl) (fun hc => ?_) (fun hc => ?_)
  · simp at hc
  refine WP.skip (hK3 _ _ _ ?_)
  clear hK3 K3
  -- R15
  refine WP.seq_k fun K3 hK3 => ?_
  refine WP.seq_k fun K1 hK1 => WP.region hT rfl ?_
  simp only [↓opsA_cons, isCallV, List.getElem?_cons_succ, ↓stepA, ↓callA, List.map_cons, List.map_nil, ev, Env.get_put_some, Env.get_envOf, ↓e_move, ↓thenA, reduceIte, Nat.reduceEqDiff, List.getElem?_cons_zero, List.getElem?_cons_succ, Option.getD_some, List.append_nil, ↓reduceIte]
  refine c22 hy hwho fun r4 hr4 => ?_
  unfold opsW
  simp only [↓opsA_cons, isCallV, ↓stepA, ↓callA, List.map_cons, List.map_nil, ev, Env.get_put_some, reduceIte, Nat.reduceEqDiff, List.append_nil, ↓reduceIte]
  refine CA.lend (args' := [x1', r4]) Try.call25 rfl (frzL2 (.inr t1.frz00) (.inl rfl)) (.bool _) (fun K hk => c25 u1 hr4 hk) ?_
  unfold opsW
  simp only [↓opsA_nil, ↓opsA_cons, isCallV, ↓stepA, ↓callA, ev, Env.get_put_some, ↓e_unOp, u_not, reduceIte, decide_true, ↓reduceIte]
  refine hK1 _ _ _ ?_
  clear hK1 K1
  refine WP.cond (by simp only [ev, Env.get_put_some, ↓reduceIte]; rfl) (fun hc => ?_) (fun hc => ?_)
  · simp at hc
  refine WP.skip (hK3 _ _ _ ?_)
  clear hK3 K3
  -- the marks
  have hs0 := sum4 l
  have hs1 : (who.map fun _ => 1).sum = who.length := by rw [sum_const]; omega
  have hs3 : ((earlyF l who w).list.map fun _ => 1).sum ≤ 2097152 := by rw [sum_const]; omega
  refine WP.seq_k fun K1 hK1 => WP.region hT rfl ?_
  simp only [↓opsA, ↓stepA, ↓callA, ev, ↓e_assign, ofVal, ↓thenA]
  refine hK1 _ _ _ ?_
  clear hK1 K1
  refine WP.seq_k fun K1 hK1 => WP.region hT rfl ?_
  simp only [↓opsA_cons, isCallV, ↓stepA, ↓callA, List.map_cons, List.map_nil, ev, Env.get_put_some, ↓e_move, ↓thenA, reduceIte, Nat.reduceEqDiff, List.append_nil, ↓reduceIte]
  refine m26 u0 _ _ _ x0 I0 1 t0 (by omega) (by omega) fun x0'' h6 n6 l6 t0'' fr6 _ => ?_
  unfold opsW
  simp only [↓opsA_nil, ↓opsA_cons, isCallV, ↓stepA, ↓callA, ev, Env.get_put_some, ↓e_assign, reduceIte, ↓reduceIte]
  refine hK1 _ _ _ ?_
  clear hK1 K1
  have bw6 : h6 n = some [.agg [.int .i64 (earlyF l who w).code, A0]] := by rw [fr6 n (fun hm => by have := i0 n hm; omega)]; exact bw5
  have bg6 : h6 n4 = some [.agg [ga, gb]] := by rw [fr6 n4 (fun hm => by have := i0 n4 hm; omega)]; exact bg5
  have t1 : Tree h6 x1 x1' I1 := t1.keep fun i hi => fr6 i (fun hm => by have := i0 i hm; have := i1 i hi; omega)
  have t2 : Tree h6 (.agg [ga, gb]) (.agg [.int .i64 (earlyF l who w).code, Ag']) I2 := t2.keep fun i hi => fr6 i (fun hm => by have := i0 i hm; have := i2 i hi; omega)
  refine WP.seq_k fun K1 hK1 => WP.region hT rfl ?_
  simp only [↓opsA_cons, isCallV, ↓stepA, ↓callA, List.map_cons, List.map_nil, ev, Env.get_put_some, ↓e_move, ↓thenA, reduceIte, Nat.reduceEqDiff, List.append_nil, ↓reduceIte]
  refine m27 u1 _ _ _ x1 I1 _ t1 (by omega) (by omega) fun x1'' h7 n7 l7 t1'' fr7 _ => ?_
  unfold opsW
  simp only [↓opsA_nil, ↓opsA_cons, isCallV, ↓stepA, ↓callA, ev, Env.get_put_some, ↓e_assign, reduceIte, ↓reduceIte]
  refine hK1 _ _ _ ?_
  clear hK1 K1
  have bw7 : h7 n = some [.agg [.int .i64 (earlyF l who w).code, A0]] := by rw [fr7 n (fun hm => by have := i1 n hm; omega)]; exact bw6
  have bg7 : h7 n4 = some [.agg [ga, gb]] := by rw [fr7 n4 (fun hm => by have := i1 n4 hm; omega)]; exact bg6
  have t2 : Tree h7 (.agg [ga, gb]) (.agg [.int .i64 (earlyF l who w).code, Ag']) I2 := t2.keep fun i hi => fr7 i (fun hm => by have := i1 i hm; have := i2 i hi; omega)
  -- R20
  have hneg : decide ((1 : Int) + ((l.map fun s => (s.map fun _ => 4).sum).sum : Nat) + ((who.map fun _ => 1).sum : Nat) < 0) = false := decide_eq_false (by omega)
  refine WP.seq_k fun K3 hK3 => ?_
  refine WP.seq_k fun K1 hK1 => WP.region hT rfl ?_
  simp only [↓opsA_cons, isCallV, yieldA, List.getElem?_cons_succ, ↓stepA, ↓callA, List.map_cons, List.map_nil, ev, Env.get_put_some, ↓e_move, ↓e_binOp, ↓e_load, b_lss, rdSl_sl, ofVal, ↓thenA, Nat.pos_of_neZero, AV.cells_agg, reduceIte, Nat.reduceEqDiff, Nat.reduceAdd, true_and, List.getElem?_cons_zero, List.getElem?_cons_succ, List.length_cons, List.length_nil, Nat.zero_add, List.drop_zero, List.take_succ_cons, List.take_zero, List.append_nil, decide_true, Option.bind_some, ↓reduceIte, Nat.le_refl, T_50, hneg, bg7, bw7, pt_50, cellOk]
  refine CA.lend (args' := [.agg [.int .i64 (earlyF l who w).code, Ag'], .agg [.int .i64 (earlyF l who w).code, A0]]) Try.call32 rfl (frzL2 (.inr t2.frz00) (.inl rfl)) (.bool _) (fun K hk => c32 u2 hw0 hk) ?_
  unfold opsW
  simp only [↓opsA_nil, ↓opsA_cons, isCallV, yieldA, List.getElem?_cons_succ, Bool.false_eq_true, ↓stepA, ↓callA, ev, Env.get_put_some, ↓e_unOp, ↓e_pick, u_not, reduceIte, Nat.reduceEqDiff, List.getElem?_cons_zero, List.getElem?_cons_succ, decide_true, Option.bind_some, ↓reduceIte]
  refine hK1 _ _ _ ?_
  clear hK1 K1
  refine WP.cond (by simp only [ev, Env.get_put_some, ↓reduceIte]; rfl) (fun hc => ?_) (fun hc => ?_)
  · simp at hc
  refine WP.skip (hK3 _ _ _ ?_)
  clear hK3 K3
  -- the result is marked, and read back
  refine WP.seq_k fun K1 hK1 => WP.region hT rfl ?_
  simp only [↓opsA, ↓stepA, ↓callA, ev, ↓e_assign, ofVal, ↓thenA]
  refine hK1 _ _ _ ?_
  clear hK1 K1
  refine WP.seq_k fun K1 hK1 => WP.region hT rfl ?_
  simp only [↓opsA_cons, isCallV, ↓stepA, ↓callA, List.map_cons, List.map_nil, ev, Env.get_put_some, ↓e_move, ↓e_load, rdSl_sl, ↓thenA, Nat.pos_of_neZero, AV.cells_agg, reduceIte, Nat.reduceEqDiff, Nat.reduceAdd, true_and, List.getElem?_cons_zero, List.length_cons, List.length_nil, Nat.zero_add, List.drop_zero, List.take_succ_cons, List.take_zero, List.append_nil, decide_true, ↓reduceIte, Nat.le_refl, T_50, bg7, pt_50, cellOk]
  refine m33 u2 _ _ _ _ I2 1 t2 (by omega) (by omega) fun g'' h8 n8 l8 t2'' fr8 hHg => ?_
  unfold opsW
  simp only [↓opsA_nil, ↓opsA_cons, isCallV, ↓stepA, ↓callA, ev, Env.get_put_some, ↓e_assign, reduceIte, ↓reduceIte]
  refine hK1 _ _ _ ?_
  clear hK1 K1
  have bw8 : h8 n = some [.agg [.int .i64 (earlyF l who w).code, A0]] := by rw [fr8 n (fun hm => by have := i2 n hm; omega)]; exact bw7
  have bg8 : h8 n4 = some [.agg [ga, gb]] := by rw [fr8 n4 (fun hm => by have := i2 n4 hm; omega)]; exact bg7
  have hh : HeldBy Try.prog 34 g'' ((earlyF l who w).list.map fun _ => 1).sum 1 := h34 (by omega) (by omega) hHg
  have hneg2 : decide ((1 : Int) + (((earlyF l who w).list.map fun _ => 1).sum : Nat) < 0) = false := decide_eq_false (by omega)
  refine WP.seq_k fun K1 hK1 => WP.region hT rfl ?_
  simp only [↓opsA, ↓stepA, ↓callA, ev, ↓e_assign, ofVal, ↓thenA]
  refine hK1 _ _ _ ?_
  clear hK1 K1
  refine WP.seq_k fun K1 hK1 => WP.region hT rfl ?_
  simp only [↓opsA_cons, isCallV, ↓stepA, ↓callA, List.map_cons, List.map_nil, ev, Env.get_put_some, ↓e_move, ↓e_load, rdSl_sl, ↓thenA, Nat.pos_of_neZero, AV.cells_agg, reduceIte, Nat.reduceEqDiff, Nat.reduceAdd, true_and, List.getElem?_cons_zero, List.length_cons, List.length_nil, Nat.zero_add, List.drop_zero, List.take_succ_cons, List.take_zero, List.append_nil, decide_true, ↓reduceIte, Nat.le_refl, T_50, bg8, pt_50, cellOk]
  refine CA.lend (args' := [g'', .int .i64 1]) Try.call34 rfl (frzL2 (.inr t2''.frz00) (.inl rfl)) (.int _ _) (fun K hk => hh _ _ _ hk) ?_
  unfold opsW
  simp only [↓opsA_nil, ↓opsA_cons, isCallV, ↓stepA, ↓callA, ev, Env.get_put_some, ↓e_assign, reduceIte, ↓reduceIte]
  refine hK1 _ _ _ ?_
  clear hK1 K1
  refine WP.seq_k fun K3 hK3 => ?_
  refine WP.seq_k fun K1 hK1 => WP.region hT rfl ?_
  simp only [↓opsA, ↓stepA, ↓callA, ev, Env.get_put_some, ↓e_move, ↓e_binOp, b_lss, ofVal, ↓thenA, reduceIte, ↓reduceIte]
  refine hK1 _ _ _ ?_
  clear hK1 K1
  refine WP.cond (by simp only [ev, Env.get_put_some, ↓reduceIte]; rfl) (fun hc => ?_) (fun hc => ?_)
  · rw [hneg2] at hc; cases hc
  refine WP.skip (hK3 _ _ _ ?_)
  clear hK3 K3
  refine WP.seq_k fun K3 hK3 => ?_
  refine WP.seq_k fun K1 hK1 => WP.region hT rfl ?_
  simp only [↓opsA, ↓stepA, ↓callA, ev, Env.get_put_some, ↓e_move, ↓e_binOp, b_neq, ↓thenA, reduceIte, Nat.reduceEqDiff, ↓reduceIte]
  refine hK1 _ _ _ ?_
  clear hK1 K1
  refine WP.cond (by simp only [ev, Env.get_put_some, ↓reduceIte]; rfl) (fun hc => ?_) (fun hc => ?_)
  · simp at hc
  refine WP.skip (hK3 _ _ _ ?_)
  clear hK3 K3
  -- once more
  refine WP.seq_k fun K1 hK1 => WP.region hT rfl ?_
  simp only [↓opsA_cons, isCallV, reduceCtorEq, ↓stepA, ↓callA, List.map_cons, List.map_nil, ev, Env.get_put_some, Env.get_envOf, ↓e_move, ↓thenA, reduceIte, List.getElem?_cons_zero, Option.getD_some, List.append_nil, ↓reduceIte]
  refine c16 hx hl fun r5 hr5 => ?_
  unfold opsW
  simp only [↓opsA_cons, isCallV, List.getElem?_cons_succ, ↓stepA, ↓callA, List.map_cons, List.map_nil, ev, Env.get_put_some, Env.get_envOf, ↓e_move, reduceIte, Nat.reduceEqDiff, List.getElem?_cons_zero, List.getElem?_cons_succ, Option.getD_some, List.append_nil, ↓reduceIte]
  refine c22 hy hwho fun r6 hr6 => ?_
  unfold opsW
  simp only [↓opsA_cons, isCallV, List.getElem?_cons_succ, ↓stepA, ↓callA, List.map_cons, List.map_nil, ev, Env.get_put_some, Env.get_envOf, ↓e_move, reduceIte, Nat.reduceEqDiff, List.getElem?_cons_zero, List.getElem?_cons_succ, Option.getD_some, List.append_nil, ↓reduceIte]
  refine CA.ofOwn Try.call31 (fun K hk => c31 hr5 hr6 hw hwho hk) fun h0 hh0 => ?_
  obtain ⟨A1, rfl, hA1⟩ := id hh0
  have f8 : (n = n8) = False := eq_false (by omega)
  have f9 : (n4 = n8) = False := eq_false (by omega)
  unfold opsW
  simp only [↓opsA_nil, ↓opsA_cons, isCallV, ↓stepA, ↓callA, ev, Env.get_put_some, Env.put_none, ↓e_alloc, ↓e_store, setPart_agg, Heap.upd_get, Heap.upd_upd, Nat.pos_of_neZero, good_agg, AV.cells_agg, reduceIte, Nat.reduceEqDiff, Nat.reduceAdd, true_and, List.getElem?_cons_zero, List.length_cons, List.length_nil, List.set_cons_zero, Nat.zero_add, Nat.add_zero, List.take_zero, List.drop_succ_cons, List.drop_nil, List.nil_append, List.append_nil, ↓reduceIte, Nat.le_refl, T_50]
  refine hK1 _ _ _ ?_
  clear hK1 K1
  refine WP.seq_k fun K3 hK3 => ?_
  refine WP.seq_k fun K1 hK1 => WP.region hT rfl ?_
  simp only [↓opsA_cons, isCallV, ↓stepA, ↓callA, List.map_cons, List.map_nil, ev, Env.get_put_some, ↓e_load, rdSl_sl, ↓thenA, Heap.upd_get, Nat.pos_of_neZero, AV.cells_agg, reduceIte, Nat.reduceEqDiff, Nat.reduceAdd, true_and, List.getElem?_cons_zero, List.length_cons, List.length_nil, Nat.zero_add, List.drop_zero, List.take_succ_cons, List.take_zero, List.append_nil, decide_true, ↓reduceIte, Nat.le_refl, T_50, bw8, pt_50, cellOk, f8]
  refine c32 hh0 hw0 ?_
  unfold opsW
  simp only [↓opsA_nil, ↓opsA_cons, isCallV, ↓stepA, ↓callA, ev, Env.get_put_some, ↓e_unOp, u_not, reduceIte, decide_true, ↓reduceIte]
  refine hK1 _ _ _ ?_
  clear hK1 K1
  refine WP.cond (by simp only [ev, Env.get_put_some, ↓reduceIte]; rfl) (fun hc => ?_) (fun hc => ?_)
  · simp at hc
  refine WP.skip (hK3 _ _ _ ?_)
  clear hK3 K3
  refine WP.seq_k fun K1 hK1 => WP.region hT rfl ?_
  simp only [↓opsA, ↓stepA, ↓callA, ev, ↓e_assign, ofVal, ↓thenA]
  refine hK1 _ _ _ ?_
  clear hK1 K1
  generalize hh9 : h8.upd n8 [.agg [.int .i64 (earlyF l who w).code, A1]] = h9
  have t2'' : Tree h9 (.agg [ga, gb]) g'' I2 := t2''.keep fun i hi => by rw [← hh9, Heap.upd_ne _ _ (by have := i2 i hi; omega)]
  have fr9 : ∀ id, id < n8 → h9 id = h8 id := fun id hid => by rw [← hh9, Heap.upd_ne _ _ (by omega)]
  have bg9 : h9 n4 = some [.agg [ga, gb]] := by rw [← hh9, Heap.upd_ne _ _ (by omega)]; exact bg8
  clear hh9
  refine WP.seq_k fun K1 hK1 => WP.region hT rfl ?_
  simp only [↓opsA_cons, isCallV, ↓stepA, ↓callA, List.map_cons, List.map_nil, ev, Env.get_put_some, ↓e_move, ↓e_load, rdSl_sl, ↓thenA, Nat.pos_of_neZero, AV.cells_agg, reduceIte, Nat.reduceEqDiff, Nat.reduceAdd, true_and, List.getElem?_cons_zero, List.length_cons, List.length_nil, Nat.zero_add, List.drop_zero, List.take_succ_cons, List.take_zero, List.append_nil, decide_true, ↓reduceIte, Nat.le_refl, T_50, bg9, pt_50, cellOk]
  refine CA.lend (args' := [g'', .int .i64 1]) Try.call34 rfl (frzL2 (.inr t2''.frz00) (.inl rfl)) (.int _ _) (fun K hk => hh _ _ _ hk) ?_
  unfold opsW
  simp only [↓opsA_nil, ↓opsA_cons, isCallV, ↓stepA, ↓callA, ev, Env.get_put_some, ↓e_assign, reduceIte, ↓reduceIte]
  refine hK1 _ _ _ ?_
  clear hK1 K1
  refine WP.seq_k fun K3 hK3 => ?_
  refine WP.seq_k fun K1 hK1 => WP.region hT rfl ?_
  simp only [↓opsA, ↓stepA, ↓callA, ev, Env.get_put_some, ↓e_move, ↓e_binOp, b_lss, ofVal, ↓thenA, reduceIte, ↓reduceIte]
  refine hK1 _ _ _ ?_
  clear hK1 K1
  refine WP.cond (by simp only [ev, Env.get_put_some, ↓reduceIte]; rfl) (fun hc => ?_) (fun hc => ?_)
  · rw [hneg2] at hc; cases hc
  refine WP.skip (hK3 _ _ _ ?_)
  clear hK3 K3
  refine WP.seq_k fun K3 hK3 => ?_
  refine WP.seq_k fun K1 hK1 => WP.region hT rfl ?_
  simp only [↓opsA, ↓stepA, ↓callA, ev, Env.get_put_some, ↓e_move, ↓e_binOp, b_neq, ↓thenA, reduceIte, Nat.reduceEqDiff, ↓reduceIte]
  refine hK1 _ _ _ ?_
  clear hK1 K1
  refine WP.cond (by simp only [ev, Env.get_put_some, ↓reduceIte]; rfl) (fun hc => ?_) (fun hc => ?_)
  · simp at hc
  refine WP.skip (hK3 _ _ _ ?_)
  clear hK3 K3
  refine WP.seq_k fun K1 hK1 => WP.region hT rfl ?_
  simp only [↓opsA, ↓stepA, ↓callA, ev, ↓e_assign, ofVal, ↓thenA]
  refine hK1 _ _ _ ?_
  clear hK1 K1
  refine WP.ret ?_
  simp only [Env.get_put_some, reduceIte, Option.map_some, ↓reduceIte, retA, resA]
  refine ⟨_, rfl, ret_p ⟨fun id b hb => ⟨hlt id b hb, ?_⟩, fun id b hb => .inl hb⟩ (.bool _) hk⟩
  have hid := hlt id b hb
  rw [fr9 id (by omega), fr8 id (fun hm => by have := i2 id hm; omega), fr7 id (fun hm => by have := i1 id hm; omega), fr6 id (fun hm => by have := i0 id hm; omega), fr5 id (by omega), o4.below id (by omega), o3.below id (by omega), o2.below id (by omega), Heap.upd_ne _ _ (by omega)]
  exact hb
end
end Go.Proofs.Ytplkjfnjdekgpaa
