/- Row 5: the program's early picks, the walk. Own work. -/
import Derived.Test.YtplkjfnjdekgpaaR11
namespace Go.Proofs.Ytplkjfnjdekgpaa
open Go

section
variable {h : Heap} {n : Nat} {K : AV → Heap → Nat → Prop}

theorem c31 {x y : AV} {l : List (List ActD)} {picks : List Int} {w : Int} (hx : ActSSR x l) (hy : IntsR y picks) (hw : I64 w) (hpl : picks.length ≤ 1048576) (hk : ∀ r h' n', OwnRes IResR h n r (earlyF l picks w) h' n' → K r h' n') : CA Try.prog 31 [x, y, .int .i64 w] h n K := by
  have hx0 := hx
  have hy0 := hy
  obtain ⟨es, hes, hal, hml, _, _⟩ := hx
  obtain ⟨ws, hws, hwl, hml2, _, _⟩ := hy
  have hel := all2_length hal
  have hwlen := all2_length hwl
  unfold maxLen at hml hml2
  refine CA.conv (CA.enter (N := 68) (rs := [.cell 6 50]) hT Try.call31 Try.func31 rfl rfl (by simp) rfl fun hlt => ?_)
  refine WP.seq_k fun K1 hK1 => WP.region hT rfl ?_
  simp only [↓opsA, ↓stepA, ↓callA, ↓e_alloc, ↓thenA, Nat.pos_of_neZero, true_and, T_50]
  refine hK1 _ _ _ ?_
  clear hK1 K1
  refine WP.seq_k fun K2 hK2 => WP.region hT rfl ?_
  simp only [↓opsA_cons, isCallV, List.getElem?_cons_succ, reduceCtorEq, ↓stepA, ↓callA, List.map_cons, List.map_nil, ev, Env.get_put_some, Env.get_envOf, ↓e_move, ↓thenA, reduceIte, Nat.reduceEqDiff, List.getElem?_cons_zero, List.getElem?_cons_succ, Option.getD_some, List.append_nil, ↓reduceIte]
  refine CA.ofOwn Try.call23 (fun K hk => c23 hx0 hy0 hk) fun m0 hm0 => ?_
  obtain ⟨A0, B0, rfl, _, _⟩ := hm0
  unfold opsW
  simp only [↓opsA_nil, ↓opsA_cons, isCallV, ↓stepA, ↓callA, ev, Env.get_put_some, ↓e_assign, ↓e_field, AV.cells_agg, reduceIte, true_and, List.getElem?_cons_zero, ↓reduceIte, T_2, T_40, pt_2, cellOk]
  rw [mergeF_code]
  refine hK2 _ _ _ ?_
  clear hK2 K2
  refine WP.seq_k fun K1 hK1 => ?_
  have hK1' : ∀ (E' : Env), E'.get 0 = x → E'.get 1 = y → E'.get 2 = .int .i64 w → E'.get 6 = .ep 2 (.sl 2 n 0 1 1 true) 0 0 → E'.get 7 = .int .i64 (earlyF l picks w).code → K1 E' (h.upd n [.agg [.int .i64 0, .nils]]) (n + 1) := by
    intro E e0 e1 e2 e6 e7
    refine hK1 _ _ _ ?_
    clear hK1 K1
    refine WP.seq_k fun K1 hK1 => ?_
    refine WP.seq_k fun K1 hK1 => WP.region hT rfl ?_
    simp only [↓opsA, ↓stepA, ↓callA, ev, Env.get_put_some, ↓e_move, ↓e_binOp, b_neq, ofVal, ↓thenA, reduceIte, ↓reduceIte, e7]
    refine hK1 _ _ _ ?_
    clear hK1 K1
    refine WP.cond (by simp only [ev, Env.get_put_some, ↓reduceIte]; rfl) (fun hc0 => ?_) (fun hc0 => ?_)
    · refine WP.seq_k fun K2 hK2 => WP.region hT rfl ?_
      simp only [↓opsA, ↓stepA, ↓callA, ev, Env.get_put_some, Env.put_none, ↓e_move, ↓e_store, ↓e_build, setPart_agg, ↓thenA, Heap.upd_get, Heap.upd_upd, Nat.pos_of_neZero, good_int, good_agg, AV.cells_int, AV.cells_agg, reduceIte, Nat.reduceEqDiff, Nat.reduceLeDiff, Nat.reduceAdd, true_and, List.getElem?_cons_zero, List.length_cons, List.length_nil, List.set_cons_zero, Nat.zero_add, Nat.add_zero, List.drop_zero, List.take_zero, List.drop_succ_cons, List.drop_nil, List.cons_append, List.nil_append, List.append_nil, decide_true, Nat.lt_add_one, ↓reduceIte, Nat.le_refl, T_2, T_37, T_50, e6, e7, buildP_cons, buildP_nil, List.all_cons, List.all_nil, Bool.and_true]
      refine hK2 _ _ _ ?_
      refine WP.ret ?_
      simp only [↓thenA]
      refine ret_cell (sz := 2) (id := n) e6 (Heap.upd_same _ _ _) rfl rfl ?_
      have hmF : earlyF l picks w = ⟨(earlyF l picks w).code, []⟩ := by
        unfold earlyF at hc0 ⊢
        split
        · rfl
        · split
          · rfl
          · rename_i h1 h2; simp [h1, h2] at hc0
      rw [hmF] at hk
      exact ret_own_atom hlt (fun id hid => Heap.upd_ne _ _ (by omega)) (by omega) ires_nil ires_atom.1 ires_atom.2 hk
    refine WP.skip (hK1 _ _ _ ?_)
    clear hK1 K1
    have hc0' : (earlyF l picks w).code = 0 := by simpa using hc0
    have hpk : ∀ p, p ∈ picks → I64 p := fun p hp => by
      obtain ⟨j, hj⟩ := List.mem_iff_getElem?.1 hp
      obtain ⟨e, b, _, g2, g3⟩ := all2_at hwl (List.getElem?_eq_some_iff.1 hj).1
      rw [hj] at g2
      obtain rfl := Option.some.inj g2
      exact g3.2
    have hmF : earlyF l picks w = ⟨0, (picks.foldl (earlyStep w) ([], picks.countP (fun p => decide (p = w)))).1⟩ := by
      have ha : askedF l picks = 0 := by
        by_cases hq : askedF l picks = 0
        · exact hq
        · unfold earlyF at hc0'; rw [if_pos hq] at hc0'; exact hc0'
      have hb : ¬ within w 0 ((l.length : Int) - 1) = false := fun hq => by
        unfold earlyF at hc0'; rw [if_neg (by simp [ha]), if_pos hq] at hc0'; cases hc0'
      unfold earlyF; rw [if_neg (by simp [ha]), if_neg hb]
    rw [hmF] at hk
    -- the first one's place
    refine WP.seq_k fun K2 hK2 => WP.region hT rfl ?_
    simp only [↓opsA, ↓stepA, ↓callA, List.map_cons, List.map_nil, ev, Env.get_put_some, ↓e_move, ↓e_assign, ↓thenA, reduceIte, Nat.reduceEqDiff, List.append_nil, ↓reduceIte, e1, e2]
    refine c63 hy0 hw (hK2 _ _ _ ?_)
    clear hK2 K2
    refine WP.seq_k fun K1 hK1 => ?_
    refine WP.seq_k fun K1 hK1 => WP.region hT rfl ?_
    simp only [↓opsA, ↓stepA, ↓callA, ev, Env.get_put_some, ↓e_move, ↓e_binOp, b_lss, ofVal, ↓thenA, reduceIte, ↓reduceIte]
    refine hK1 _ _ _ ?_
    clear hK1 K1
    cases hidx : picks.findIdx? (fun a => decide (w = a)) with
    | none =>
      rw [early_none hidx] at hk
      refine WP.cond (by simp only [ev, Env.get_put_some, ↓reduceIte]; rfl) (fun hc1 => ?_) (fun hc1 => ?_)
      · refine WP.seq_k fun K2 hK2 => WP.region hT rfl ?_
        simp only [↓opsA_cons, isCallV, ↓stepA, ↓callA, List.map_cons, List.map_nil, ev, Env.get_put_some, ↓e_move, ↓thenA, reduceIte, Nat.reduceEqDiff, List.append_nil, ↓reduceIte, e1]
        refine c64o hy0 hpl fun r h2 n2 o2 => ?_
        have l2 := o2.le
        have b2 : h2 n = some [.agg [.int .i64 0, .nils]] := by rw [o2.below n (by omega), Heap.upd_same]
        obtain ⟨⟨r', I, ht, hU, hI, hno⟩, hbel, _⟩ := o2
        have hr1 := ht.slOne hU
        have hrg : r.good = true := (TyO.slice (T := T) (t := 37) (e := 2) (sz := 1) (U := Int64R) rfl rfl rfl pt_37).good _ _ _ _ _ ht hU
        unfold opsW
        simp only [↓opsA_nil, ↓opsA_cons, isCallV, List.getElem?_cons_succ, ↓stepA, ↓callA, ev, Env.get_put_some, Env.put_none, ↓e_store, ↓e_build, setPart_agg, Nat.pos_of_neZero, good_agg, AV.cells_agg, reduceIte, Nat.reduceEqDiff, Nat.reduceAdd, true_and, List.getElem?_cons_zero, List.getElem?_cons_succ, List.length_cons, List.length_nil, List.set_cons_zero, Nat.zero_add, Nat.add_zero, List.take_succ_cons, List.take_zero, List.drop_succ_cons, List.drop_nil, List.cons_append, List.nil_append, List.append_nil, decide_true, Nat.lt_add_one, ↓reduceIte, Nat.le_refl, T_2, T_37, T_50, e6, b2, buildP_cons, buildP_nil, List.all_cons, List.all_nil, Bool.and_true, hr1, hrg]
        refine hK2 _ _ _ ?_
        refine WP.ret ?_
        simp only [↓thenA]
        refine ret_cell (sz := 2) (id := n) e6 (Heap.upd_same _ _ _) rfl rfl ?_
        let g : Heap := fun id => if id = n then none else h2 id
        have g0 : ∀ id, id ≠ n → g id = h2 id := fun id hid => by simp only [g]; rw [if_neg hid]
        refine ⟨_, g, n2, .keep _ _ _ _ (fun id b hb => ?_), hk _ _ _ ⟨⟨.agg [.int .i64 0, r'], I, ?_, ⟨r', rfl, hU⟩, fun i hi => by have := hI i hi; omega, fun id hid hni => ?_⟩, fun id hid => ?_, by omega⟩⟩
        · simp only [g] at hb
          split at hb
          · cases hb
          · rename_i hne; rw [Heap.upd_ne _ _ hne]; exact hb
        · exact .agg _ _ _ (TreeL.cons (.int .i64 0) (.int .i64 0) [r] [r'] [] I (Tree.ofPlain1 rfl) (TreeL.one (ht.keep fun i hi => g0 i (by have := hI i hi; omega))) (fun i hi => by cases hi))
        · by_cases hn : id = n
          · simp only [g]; rw [if_pos hn]
          · rw [g0 id hn]; exact hno id (by omega) hni
        · rw [g0 id (by omega), hbel id (by omega), Heap.upd_ne _ _ (by omega)]
      · simp [idxV] at hc1
    | some f =>
      obtain ⟨hf, hfw, hlist⟩ := early_some hidx
      rw [hlist] at hk
      refine WP.cond (by simp only [ev, Env.get_put_some, ↓reduceIte]; rfl) (fun hc1 => ?_) (fun hc1 => ?_)
      · have h2 : (f : Int) < 0 := of_decide_eq_true hc1
        omega
      refine WP.skip (hK1 _ _ _ ?_)
      clear hK1 K1
      obtain ⟨exy, rfl⟩ : ∃ ex, y = .ro 1 ex ws := by
        rcases slr_cases hy0 with ⟨rfl, rfl⟩ | ⟨ex, es2, rfl, h2⟩
        · simp at hf
        · rw [rdSl_ro] at hws; obtain rfl := Option.some.inj hws; exact ⟨ex, rfl⟩
      refine WP.seq_k fun K1 hK1 => WP.region hT rfl ?_
      simp only [↓opsA, ↓stepA, ↓callA, ev, Env.get_put_some, ↓e_move, ↓e_assign, ↓thenA, reduceIte, Nat.reduceEqDiff, true_and, Nat.lt_add_one, ↓reduceIte, T_2, T_37, e1, e_bs0]
      refine op_slice_ro (el := 2) (ex := exy) (l := ws) (i := 0) (j := f) (m := f) rfl (by decide) rfl (fun _ => rfl) rfl ⟨Int.natCast_nonneg f, rfl⟩ ⟨Int.natCast_nonneg f, rfl⟩ (Nat.zero_le _) (Nat.le_refl _) (by omega) ?_
      simp only [Nat.reduceAdd, Nat.add_assoc, List.drop_zero, decide_true, T_2, T_2]
      refine hK1 _ _ _ ?_
      clear hK1 K1
      refine WP.seq_k fun K1 hK1 => ?_
      refine WP.seq_k fun K2 hK2 => WP.region hT rfl ?_
      simp only [↓opsA, ↓stepA, ↓e_len1, ↓callA, ev, Env.get_put_some, ↓e_move, ofVal, ↓thenA, reduceIte, Nat.reduceEqDiff, ↓reduceIte, T_2, T_37, e1]
      refine op_slice_ro (el := 2) (ex := exy) (l := ws) (i := f) (j := ws.length) (m := ws.length) rfl (by decide) rfl (fun h => by cases h) ⟨Int.natCast_nonneg f, rfl⟩ rfl rfl (by omega) (Nat.le_refl _) (Nat.le_refl _) ?_
      simp only [rdSl_ro, decide_true, T_2, T_2]
      refine hK2 _ _ _ ?_
      clear hK2 K2
      obtain rfl : ws = picks.map intAV := all2_map_eq hwl fun e a hq => hq.1
      generalize hrest : picks.drop f = rest at *
      have hdr : List.take ((picks.map intAV).length - f) (List.drop f (picks.map intAV)) = rest.map intAV := by
        rw [List.take_of_length_le (by simp), ← List.map_drop, hrest]
      have hrl : rest.length = picks.length - f := by rw [← hrest]; simp
      have hr0 : rest[0]? = some w := by rw [← hrest]; simpa using hfw
      have hrI : ∀ p, p ∈ rest → I64 p := fun p hp => hpk p (by rw [← hrest] at hp; exact List.mem_of_mem_drop hp)
      refine WP.block (WP.loop (fun mm E h' n' => ∃ i A B, mm = rest.length - i ∧ i ≤ rest.length ∧ GrowR h' (n + 1) n' 1 A ((picks.take f ++ (rest.take i).filter (fun p => decide (p = w))).map intAV) ∧ (0 < i → OwnR h' (n + 1) n' 1 A ((picks.take f ++ (rest.take i).filter (fun p => decide (p = w))).map intAV)) ∧
        OwnR h' (n + 1) n' 1 B (((rest.take i).filter (fun p => decide (p ≠ w))).map intAV) ∧ (∀ k, A.idIs k → ¬ B.idIs k) ∧ n + 1 ≤ n' ∧ h' n = some [.agg [.int .i64 0, .nils]] ∧ (∀ id, id < n → h' id = h id) ∧
        E.get 2 = .int .i64 w ∧ E.get 6 = .ep 2 (.sl 2 n 0 1 1 true) 0 0 ∧ E.get 9 = A ∧ E.get 10 = B ∧ (∃ b, E.get 46 = .ro 1 b (rest.map intAV)) ∧ E.get 47 = .int .i64 rest.length ∧ E.get 48 = .int .i64 i) rest.length ?_ ?_)
      · refine ⟨0, .ro 1 true ((picks.take f).map intAV), .sl 1 (n + 1) 0 0 0 true, by omega, Nat.zero_le _, .inr (by simp), (fun h => by omega), .inr ⟨n + 1, true, Nat.le_refl _, by omega, rfl, Heap.upd_same _ _ _⟩, (fun k hk => by cases hk), by omega, ?_, fun id hid => ?_, ?_, ?_, ?_, rfl, ⟨if (none : Option Operand).isSome = true then true else exy && true, ?_⟩, ?_, rfl⟩
        · rw [Heap.upd_ne _ _ (by omega), Heap.upd_same]
        · rw [Heap.upd_ne _ _ (by omega), Heap.upd_ne _ _ (by omega)]
        · simpa [Env.get, Env.put] using e2
        · simpa [Env.get, Env.put] using e6
        · simp [Env.get, Env.put, List.map_take]
        · simp only [Env.get_put_some]; rw [hdr]; rfl
        · simp only [Env.get_put_some]; rw [hdr]; simp
      clear e0 e1 e2 e6 e7
      rintro mm E h' n' ⟨i, A, B, rfl, hi, gA, oAi, oB, hAB, hle, hcell, hbel, e2, e6, e9, e10, ⟨bx, e46⟩, e47, e48⟩
      refine WP.seq_k fun K1 hK1 => WP.region hT rfl ?_
      simp only [↓opsA, ↓stepA, ↓callA, ev, ↓e_binOp, b_lss, ↓thenA, e47, e48]
      refine hK1 _ _ _ ?_
      clear hK1 K1
      refine WP.seq_k fun K6 hK6 => ?_
      refine WP.cond (by simp only [ev, Env.get_put_some, ↓reduceIte]; rfl) (fun hc3 => ?_) (fun hc3 => ?_)
      · have hil : i < rest.length := by simp at hc3; omega
        obtain ⟨p, hp⟩ : ∃ p, rest[i]? = some p := ⟨_, List.getElem?_eq_getElem hil⟩
        have hpI := hrI p (List.mem_of_getElem? hp)
        have hmp : (rest.map intAV)[i]? = some (.int .i64 p) := by rw [List.getElem?_map, hp]; rfl
        have htk : rest.take (i + 1) = rest.take i ++ [p] := by rw [List.take_add_one, hp]; rfl
        have hfl1 : ((rest.take i).filter (fun p => decide (p = w))).length ≤ i := by have := List.length_filter_le (fun p => decide (p = w)) (rest.take i); simp at this; omega
        have hfl2 : ((rest.take i).filter (fun p => decide (p ≠ w))).length ≤ i := by have := List.length_filter_le (fun p => decide (p ≠ w)) (rest.take i); simp at this ⊢; omega
        have hfl3 : (picks.take f).length = f := by simp; omega
        refine WP.skip (hK6 _ _ _ ?_)
        clear hK6 K6
        refine WP.seq_k fun K6 hK6 => WP.block ?_
        refine WP.seq_k fun K1 hK1 => WP.region hT rfl ?_
        simp only [↓opsA, ↓stepA, ↓callA, Int.toNat_natCast, ev, Env.get_put_some, ↓e_assign, ↓e_load, ↓e_indexAddr, rdSl_ro, ↓thenA, AV.cells_int, reduceIte, Nat.reduceEqDiff, true_and, List.getElem?_cons_zero, Nat.lt_add_one, ↓reduceIte, T_2, T_37, e46, e48, hmp, pt_2, cellOk]
        refine ⟨by omega, by simp; omega, hK1 _ _ _ ?_⟩
        clear hK1 K1
        refine WP.seq_k fun K1 hK1 => WP.region hT rfl ?_
        simp only [↓opsA, ↓stepA, ↓callA, ev, Env.get_put_some, ↓e_move, ↓e_binOp, b_eql, ↓thenA, reduceIte, Nat.reduceEqDiff, ↓reduceIte, e2]
        refine hK1 _ _ _ ?_
        clear hK1 K1
        refine WP.cond (by simp only [ev, Env.get_put_some, ↓reduceIte]; rfl) (fun hc4 => ?_) (fun hc4 => ?_)
        · have hpw : p = w := by simpa using hc4
          have hst : (picks.take f ++ (rest.take (i + 1)).filter (fun p => decide (p = w))).map intAV = (picks.take f ++ (rest.take i).filter (fun p => decide (p = w))).map intAV ++ [intAV p] := by rw [htk, List.filter_append]; simp [hpw]
          have hst2 : (rest.take (i + 1)).filter (fun p => decide (p ≠ w)) = (rest.take i).filter (fun p => decide (p ≠ w)) := by rw [htk, List.filter_append]; simp [hpw]
          refine WP.region hT rfl ?_
          simp only [↓opsA, ↓stepA, ↓e_append1, ↓callA, ev, Env.get_put_some, ↓e_move, ↓e_assign, ↓thenA, ↓blockA, good_int, AV.cells_int, reduceIte, Nat.reduceEqDiff, Nat.reduceLeDiff, true_and, List.length_cons, List.length_nil, Nat.zero_add, Nat.lt_add_one, ↓reduceIte, T_2, T_37, e9, e_bs1]
          refine ⟨2, rfl, GrowR.push (n0 := n + 1) rfl (by decide) gA (by simp [T_2]; omega) (by simp; omega) hle fun h2 o2 s2 u2 => ?_⟩
          refine hK6 _ _ _ ?_
          clear hK6 K6
          refine WP.region hT rfl ?_
          simp only [↓opsA, ↓stepA, ↓callA, ev, Env.get_put_some, ↓e_move, ↓e_binOp, b_add, ofVal, ↓thenA, reduceIte, Nat.reduceEqDiff, Nat.reduceLeDiff, ↓reduceIte, T_2, e48]
          have oA2 := hst ▸ o2
          refine ⟨rest.length - (i + 1), by omega, i + 1, _, B, rfl, hil, .inl oA2, fun _ => oA2, ?_, ?_, by omega, by rw [s2 n (by omega)]; exact hcell, fun id hid => by rw [s2 id (by omega)]; exact hbel id hid, ?_, ?_, ?_, ?_, ?_, ?_, ?_⟩
          · rw [hst2]
            refine oB.keep (by omega) fun k hk => u2 k (by have := oB.id_lt hk; omega) (fun hq => hAB k hq hk)
          · intro k hk hq
            have hk' : n' + 1 = k := hk
            have := oB.id_lt hq
            omega
          · simpa [Env.get, Env.put] using e2
          · simpa [Env.get, Env.put] using e6
          · rfl
          · simpa [Env.get, Env.put] using e10
          · exact ⟨bx, by simpa [Env.get, Env.put] using e46⟩
          · simpa [Env.get, Env.put] using e47
          · rw [wrap_in (by omega) (by omega)]
            rfl
        · have hpw : p ≠ w := by simpa using hc4
          have hst : (picks.take f ++ (rest.take (i + 1)).filter (fun p => decide (p = w))).map intAV = (picks.take f ++ (rest.take i).filter (fun p => decide (p = w))).map intAV := by rw [htk, List.filter_append]; simp [hpw]
          have hst2 : ((rest.take (i + 1)).filter (fun p => decide (p ≠ w))).map intAV = ((rest.take i).filter (fun p => decide (p ≠ w))).map intAV ++ [intAV p] := by rw [htk, List.filter_append]; simp [hpw]
          have hi0 : 0 < i := by
            rcases Nat.eq_zero_or_pos i with h0 | h0
            · subst h0; rw [hr0] at hp; exact absurd (Option.some.inj hp).symm hpw
            · exact h0
          have oA := oAi hi0
          refine WP.region hT rfl ?_
          simp only [↓opsA, ↓stepA, ↓e_append1, ↓callA, ev, Env.get_put_some, ↓e_move, ↓e_assign, ↓thenA, ↓blockA, good_int, AV.cells_int, reduceIte, Nat.reduceEqDiff, Nat.reduceLeDiff, true_and, List.length_cons, List.length_nil, Nat.zero_add, Nat.lt_add_one, ↓reduceIte, T_2, T_37, e10, e_bs1]
          refine ⟨2, rfl, OwnR.push (n0 := n + 1) rfl (by decide) oB (by simp [T_2] at hfl2 ⊢; omega) (by simp at hfl2 ⊢; omega) hle fun h2 o2 s2 u2 => ?_⟩
          refine hK6 _ _ _ ?_
          clear hK6 K6
          refine WP.region hT rfl ?_
          simp only [↓opsA, ↓stepA, ↓callA, ev, Env.get_put_some, ↓e_move, ↓e_binOp, b_add, ofVal, ↓thenA, reduceIte, Nat.reduceEqDiff, Nat.reduceLeDiff, ↓reduceIte, T_2, e48]
          have oB2 := hst2 ▸ o2
          have oA2 : OwnR h2 (n + 1) (n' + 2) 1 A ((picks.take f ++ (rest.take i).filter (fun p => decide (p = w))).map intAV) := oA.keep (by omega) fun k hk => u2 k (by have := oA.id_lt hk; omega) (fun hq => hAB k hk hq)
          rw [← hst] at oA2
          refine ⟨rest.length - (i + 1), by omega, i + 1, A, _, rfl, hil, .inl oA2, fun _ => oA2, oB2, ?_, by omega, by rw [s2 n (by omega)]; exact hcell, fun id hid => by rw [s2 id (by omega)]; exact hbel id hid, ?_, ?_, ?_, ?_, ?_, ?_, ?_⟩
          · intro k hk hq
            have hq' : n' + 1 = k := hq
            have := oA.id_lt hk
            omega
          · simpa [Env.get, Env.put] using e2
          · simpa [Env.get, Env.put] using e6
          · simpa [Env.get, Env.put] using e9
          · rfl
          · exact ⟨bx, by simpa [Env.get, Env.put] using e46⟩
          · simpa [Env.get, Env.put] using e47
          · rw [wrap_in (by omega) (by omega)]
            rfl
      · have hil : i = rest.length := by simp at hc3; omega
        subst hil
        rw [List.take_of_length_le (Nat.le_refl _)] at gA oAi oB
        have oA := oAi (by omega)
        have hfl1 : (rest.filter (fun p => decide (p = w))).length ≤ rest.length := List.length_filter_le _ _
        have hfl2 : (rest.filter (fun p => decide (p ≠ w))).length ≤ rest.length := List.length_filter_le _ _
        have hfl3 : (picks.take f).length = f := by simp; omega
        have hfl4 : (rest.filter (fun p => decide (p = w))).length + (rest.filter (fun p => decide (p ≠ w))).length = rest.length := by
          have h1 := List.length_eq_countP_add_countP (fun p => decide (p = w)) (l := rest)
          rw [List.countP_eq_length_filter, List.countP_eq_length_filter] at h1
          simp at h1 ⊢; omega
        refine WP.exit ?_
        simp only [↓thenA, ↓blockA, reduceIte, ↓reduceIte]
        refine hK1 _ _ _ ?_
        clear hK6 K6 hK1 K1
        refine WP.seq_k fun K1 hK1 => WP.region hT rfl ?_
        simp only [↓opsA, ↓stepA, ↓e_append1, ↓callA, ev, Env.get_put_some, Env.put_none, ↓e_move, ↓e_store, ↓e_build, ↓thenA, Nat.pos_of_neZero, good_agg, AV.cells_agg, reduceIte, Nat.reduceEqDiff, true_and, Nat.zero_add, Nat.add_zero, ↓reduceIte, T_37, T_50, e9, e10, e6]
        refine ⟨2, rfl, OwnR.pushAny (n0 := n + 1) rfl (by decide) oA oB.read (by simp [T_2] at hfl1 hfl2 hfl4 ⊢; omega) (by simp at hfl1 hfl2 hfl4 ⊢; omega) hle fun A2 h2 n2 hn2 o2 u2 i2 => ?_⟩
        have hcell2 : h2 n = some [.agg [.int .i64 0, .nils]] := by rw [u2 n (by omega) (fun hq => by have := oA.id_lt hq; omega)]; exact hcell
        have hA2 : A2.cells = [A2] ∧ A2.good = true := by
          rcases o2 with ⟨rfl, _⟩ | ⟨k, ex, _, _, rfl, _⟩ <;> exact ⟨rfl, rfl⟩
        simp only [ev, Env.get_put_some, setPart_agg, AV.cells_agg, reduceIte, Nat.reduceAdd, true_and, List.getElem?_cons_zero, List.getElem?_cons_succ, List.length_cons, List.length_nil, List.set_cons_zero, Nat.zero_add, List.take_succ_cons, List.take_zero, List.drop_succ_cons, List.drop_nil, List.cons_append, List.nil_append, List.append_nil, decide_true, Nat.lt_add_one, ↓reduceIte, Nat.le_refl, T_2, T_37, hcell2, buildP_cons, buildP_nil, List.all_cons, List.all_nil, Bool.and_true, hA2.1, hA2.2]
        refine hK1 _ _ _ ?_
        refine WP.ret ?_
        refine ret_cell (sz := 2) (id := n) e6 (Heap.upd_same _ _ _) rfl rfl ?_
        refine ints_done (l := picks.take f ++ rest.filter (fun p => decide (p = w)) ++ rest.filter (fun p => decide (p ≠ w))) (by rw [List.map_append]; exact o2) (by omega) ?_ ?_ hlt (by omega) (fun id hid => Heap.upd_ne _ _ (by omega)) (fun id hid => ?_) hk
        · rw [List.length_append, List.length_append]; omega
        · intro p hp
          rcases List.mem_append.1 hp with hp | hp
          · rcases List.mem_append.1 hp with hp | hp
            · exact hpk p (List.mem_of_mem_take hp)
            · exact hrI p (List.mem_filter.1 hp).1
          · exact hrI p (List.mem_filter.1 hp).1
        · rw [Heap.upd_ne _ _ (by omega), u2 id (by omega) (fun hq => by have := oA.id_lt hq; omega)]; exact hbel id hid
  by_cases ha : askedF l picks = 0
  · obtain ⟨h80, hl1, hl5, hwho⟩ := asked_who ha
    have hlen1 : IntKind.i64.wrap ((es.length : Int) - 1) = (l.length : Int) - 1 := by rw [wrap_in (by omega) (by omega)]; omega
    refine WP.seq_k fun K2 hK2 => WP.region hT rfl ?_
    simp only [↓opsA_cons, isCallV, yieldA, List.getElem?_cons_succ, reduceCtorEq, ↓stepA, ↓e_len1, ↓callA, List.map_cons, List.map_nil, ev, Env.get_put_some, Env.get_envOf, ↓e_move, ↓e_binOp, b_sub, b_eql, ofVal, ↓thenA, reduceIte, Nat.reduceEqDiff, List.getElem?_cons_zero, List.getElem?_cons_succ, Option.getD_some, List.append_nil, decide_true, Option.bind_some, ↓reduceIte, T_31, T_38, ha, rdSl_emp hes, hlen1]
    refine c53 ?_
    unfold opsW
    simp only [↓opsA_nil, ↓opsA_cons, isCallV, yieldA, List.getElem?_cons_succ, ↓stepA, ↓callA, ev, Env.get_put_some, ↓e_unOp, ↓e_pick, u_not, reduceIte, Nat.reduceEqDiff, List.getElem?_cons_zero, List.getElem?_cons_succ, Option.bind_some, ↓reduceIte]
    refine hK2 _ _ _ ?_
    clear hK2 K2
    refine WP.cond (by simp only [ev, Env.get_put_some, ↓reduceIte]; rfl) (fun hc => ?_) (fun hc => ?_)
    · refine WP.region hT rfl ?_
      simp only [↓opsA, ↓stepA, ↓callA, ev, ↓e_assign, ofVal, ↓thenA]
      refine hK1' _ rfl rfl rfl rfl ?_
      have : earlyF l picks w = ⟨3, []⟩ := by unfold earlyF; rw [if_neg (by simp [ha]), if_pos (by simpa using hc)]
      rw [this]; rfl
    · refine WP.skip ?_
      simp only [↓thenA]
      refine hK1' _ rfl rfl rfl rfl ?_
      have : (earlyF l picks w).code = 0 := by unfold earlyF; rw [if_neg (by simp [ha]), if_neg (by simpa using hc)]
      rw [this]; simp [Env.get, Env.put]
  · refine WP.seq_k fun K2 hK2 => WP.region hT rfl ?_
    simp only [↓opsA_cons, isCallV, yieldA, List.getElem?_cons_succ, Option.some.injEq, Bool.false_eq_true, reduceCtorEq, ↓stepA, ↓e_len1, ↓callA, List.map_cons, List.map_nil, ev, Env.get_put_some, Env.get_envOf, ↓e_move, ↓e_binOp, b_sub, b_eql, ofVal, ↓thenA, reduceIte, Nat.reduceEqDiff, List.getElem?_cons_zero, List.getElem?_cons_succ, Option.getD_some, List.append_nil, Option.bind_some, ↓reduceIte, T_31, T_38, decide_eq_false ha]
    unfold opsW
    simp only [↓opsA_nil, ↓opsA_cons, isCallV, yieldA, List.getElem?_cons_succ, Option.some.injEq, Bool.false_eq_true, ↓stepA, ↓callA, ev, Env.get_put_some, ↓e_pick, ofVal, reduceIte, Nat.reduceEqDiff, List.getElem?_cons_zero, List.getElem?_cons_succ, Option.bind_some, ↓reduceIte]
    refine hK2 _ _ _ ?_
    clear hK2 K2
    refine WP.cond (by simp only [ev, Env.get_put_some, ↓reduceIte]; rfl) (fun hc => ?_) (fun hc => ?_)
    · cases hc
    refine WP.skip ?_
    simp only [↓thenA]
    refine hK1' _ rfl rfl rfl rfl ?_
    have : (earlyF l picks w).code = askedF l picks := by unfold earlyF; rw [if_pos ha]
    rw [this]; rfl
end
end Go.Proofs.Ytplkjfnjdekgpaa
