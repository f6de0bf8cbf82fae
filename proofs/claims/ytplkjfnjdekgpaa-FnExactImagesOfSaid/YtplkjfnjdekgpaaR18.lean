/- Row 6: what is wrong with a disk, the program's walk. Own work. -/
import Derived.Test.YtplkjfnjdekgpaaR17
namespace Go.Proofs.Ytplkjfnjdekgpaa
open Go

section
variable {h : Heap} {n : Nat} {K : AV → Heap → Nat → Prop}

set_option maxHeartbeats 1000000 in
theorem c72 {x : AV} {d : DiskD} (hx : DiskR x d) (hk : K (.int .i64 (diskFault d)) h n) : CA Try.prog 72 [x] h n K := by
  obtain ⟨xp, xl, rfl, hp, hl⟩ := hx
  have hD : DiskR (.agg [xp, xl]) d := ⟨xp, xl, rfl, hp, hl⟩
  have hp0 := hp
  have zp := one_cells hp.isOne
  have zl := one_cells hl.isOne
  obtain ⟨ps, rp, ap, mp, _, _⟩ := hp
  obtain ⟨ls, rl, al, ml, _, _⟩ := hl
  have lp := all2_length ap
  have ll := all2_length al
  unfold maxLen at mp ml
  refine CA.conv (CA.enter (N := 51) (rs := [.tmp 2]) hT Try.call72 Try.func72 rfl rfl (by simp) rfl fun hlt => ?_)
  refine WP.seq_k fun K1 hK1 => WP.region hT rfl ?_
  simp only [↓opsA, ↓stepA, ↓callA, ev, Env.get_envOf, ↓e_assign, ↓e_box, ofVal, ↓thenA, Nat.pos_of_neZero, good_agg, AV.cells_agg, Nat.reduceAdd, true_and, List.getElem?_cons_zero, Option.getD_some, List.length_cons, List.length_nil, Nat.zero_add, T_65]
  refine hK1 _ _ _ ?_
  clear hK1 K1
  refine WP.seq_k fun K2 hK2 => WP.block ?_
  refine WP.seq_k fun K3 hK3 => WP.region hT rfl ?_
  have key : ∀ (E : Env), E.get 1 = .ep 2 (.sl 2 n 0 1 1 true) 0 0 → E.get 5 = .bool (decide (d.pages.length < 1 ∨ 8 < d.pages.length ∨ d.pages.any (fun p => decide (p.length ≠ 48)) = true)) → K3 E (h.upd n [.agg [xp, xl]]) (n + 1) := by
    intro E e1 e5
    refine hK3 _ _ _ ?_
    clear hK3 K3
    refine WP.cond e5 (fun hc => ?_) (fun hc => ?_)
    · have hb := of_decide_eq_true hc
      refine WP.seq_k fun K1 hK1 => WP.region hT rfl ?_
      simp only [↓opsA, ↓stepA, ↓callA, ev, ↓e_assign, ofVal, ↓thenA]
      refine hK1 _ _ _ ?_
      clear hK1 K1
      refine WP.ret ?_
      simp only [Env.get_put_some, ↓thenA, ↓blockA, reduceIte, Option.map_some, ↓reduceIte, retA, resA]
      refine ⟨_, rfl, ret_p (Left.upd (Nat.le_refl _) (Left.refl hlt)) (.int _ _) ?_⟩
      unfold diskFault at hk
      rw [if_pos hb] at hk; exact hk
    have hb := of_decide_eq_false hc
    have h1 : ¬ d.pages.length < 1 := fun q => hb (.inl q)
    have h8 : d.pages.length ≤ 8 := by
      rcases Nat.lt_or_ge 8 d.pages.length with q | q
      · exact absurd (Or.inr (Or.inl q)) hb
      · exact q
    unfold diskFault at hk
    rw [if_neg hb] at hk
    clear hc
    refine WP.seq_k fun K3 hK3 => WP.region hT rfl ?_
    simp only [↓opsA, ↓stepA, ↓e_len1, ↓callA, ev, Env.get_put_some, ↓e_assign, ↓e_binOp, ↓e_load, ↓e_fieldAddr, b_gtr, rdSl_sl, ofVal, ↓thenA, Heap.upd_get, AV.cells_agg, reduceIte, true_and, List.getElem?_cons_zero, List.getElem?_cons_succ, List.length_cons, List.length_nil, Nat.zero_add, List.drop_zero, List.take_succ_cons, List.take_zero, Nat.lt_add_one, ↓reduceIte, Nat.le_refl, T_117, T_63, T_65, e1, pt_63, cellOk, rdSl_emp rl]
    refine hK3 _ _ _ ?_
    clear hK3 K3
    refine WP.cond (by simp only [ev, Env.get_put_some, ↓reduceIte]; rfl) (fun hc => ?_) (fun hc => ?_)
    · refine WP.seq_k fun K1 hK1 => WP.region hT rfl ?_
      simp only [↓opsA, ↓stepA, ↓callA, ev, ↓e_assign, ofVal, ↓thenA]
      refine hK1 _ _ _ ?_
      clear hK1 K1
      refine WP.ret ?_
      simp only [Env.get_put_some, ↓thenA, ↓blockA, reduceIte, Option.map_some, ↓reduceIte, retA, resA]
      refine ⟨_, rfl, ret_p (Left.upd (Nat.le_refl _) (Left.refl hlt)) (.int _ _) ?_⟩
      rw [if_pos (by have := of_decide_eq_true hc; omega)] at hk; exact hk
    have h60 : ¬ 60 < d.loose.length := by have := of_decide_eq_false hc; omega
    rw [if_neg h60] at hk
    refine WP.skip ?_
    simp only [↓thenA, ↓blockA]
    refine hK2 _ _ _ ?_
    clear hK2 K2 hc
    refine WP.seq_k fun K1 hK1 => ?_
    refine WP.seq_k fun K1 hK1 => WP.region hT rfl ?_
    simp only [↓opsA, ↓stepA, ↓e_len1, ↓callA, ev, Env.get_put_some, ↓e_move, ↓e_load, ↓e_fieldAddr, rdSl_sl, ofVal, ↓thenA, Heap.upd_get, AV.cells_agg, reduceIte, Nat.reduceEqDiff, true_and, List.getElem?_cons_zero, List.getElem?_cons_succ, List.length_cons, List.length_nil, Nat.zero_add, List.drop_zero, List.take_succ_cons, List.take_zero, Nat.lt_add_one, ↓reduceIte, Nat.le_refl, T_117, T_63, T_65, e1, pt_63, cellOk, rdSl_emp rl]
    refine hK1 _ _ _ ?_
    clear hK1 K1
    refine WP.block (WP.loop (fun mm E h' n' => ∃ i, mm = d.loose.length - i ∧ i ≤ d.loose.length ∧ (d.loose.take i).findSome? (looseFault d.pages.length) = none ∧ h' n = some [.agg [xp, xl]] ∧ (∀ id, id < n → h' id = h id) ∧ n + 1 ≤ n' ∧ E.get 1 = .ep 2 (.sl 2 n 0 1 1 true) 0 0 ∧ E.get 27 = xl ∧ E.get 28 = .int .i64 ls.length ∧ E.get 29 = .int .i64 i) d.loose.length ?_ ?_)
    · exact ⟨0, by omega, Nat.zero_le _, by simp, Heap.upd_same _ _ _, fun id hid => Heap.upd_ne _ _ (by omega), Nat.le_refl _, by simpa [Env.get, Env.put] using e1, rfl, rfl, rfl⟩
    clear e1 e5
    rintro mm E h' n' ⟨i, rfl, hi, hnone, hbox, hbel, hle, e1, e27, e28, e29⟩
    have hleft : Left n h h' h := ⟨fun id b hb => ⟨hlt id b hb, by rw [hbel id (hlt id b hb)]; exact hb⟩, fun id b hb => .inl hb⟩
    refine WP.seq_k fun K1 hK1 => WP.region hT rfl ?_
    simp only [↓opsA, ↓stepA, ↓callA, ev, ↓e_binOp, b_lss, ↓thenA, e28, e29]
    refine hK1 _ _ _ ?_
    clear hK1 K1
    refine WP.seq_k fun K6 hK6 => ?_
    refine WP.cond (by simp only [ev, Env.get_put_some, ↓reduceIte]; rfl) (fun hc => ?_) (fun hc => ?_)
    · have hil : i < d.loose.length := by have := of_decide_eq_true hc; omega
      obtain ⟨b, p, hbb, hpp, hR⟩ := all2_at al hil
      obtain ⟨xd, rfl, r0, r1, hRd⟩ := hR
      have zd := one_cells hRd.isOne
      obtain ⟨bs, rb, lb⟩ := bytes_len hRd
      have f1 : (n = n') = False := eq_false (by omega)
      have hstop : ∀ c, looseFault d.pages.length p = some c → (d.loose.findSome? (looseFault d.pages.length)).getD 0 = c := fun c hq => by
        rw [fs_hit hpp hnone hq]; rfl
      refine WP.skip (hK6 _ _ _ ?_)
      clear hK6 K6 hc
      refine WP.seq_k fun K6 hK6 => WP.block ?_
      refine WP.seq_k fun K1 hK1 => WP.region hT rfl ?_
      simp only [↓opsA, ↓stepA, ↓callA, Int.toNat_natCast, ev, Env.get_put_some, Env.put_none, ↓e_alloc, ↓e_load, ↓e_store, ↓e_indexAddr, setPart_agg, ↓thenA, Heap.upd_get, Heap.upd_upd, Nat.pos_of_neZero, good_agg, AV.cells_agg, reduceIte, Nat.reduceEqDiff, Nat.reduceAdd, true_and, List.getElem?_cons_zero, List.length_cons, List.length_nil, List.set_cons_zero, Nat.zero_add, Nat.add_zero, List.drop_zero, List.take_succ_cons, List.take_zero, List.drop_succ_cons, List.drop_nil, List.nil_append, List.append_nil, decide_true, ↓reduceIte, Nat.le_refl, T_117, T_63, e27, e29, rdSl_emp rl, hbb, pt_117, cellOk]
      refine ⟨by omega, by omega, hK1 _ _ _ ?_⟩
      clear hK1 K1
      refine WP.block ?_
      refine WP.seq_k fun K7 hK7 => WP.region hT rfl ?_
      simp only [↓opsA_cons, isCallV, ↓stepA, ↓callA, List.map_cons, List.map_nil, ev, Env.get_put_some, ↓e_load, ↓e_fieldAddr, rdSl_sl, ↓thenA, Heap.upd_get, Nat.pos_of_neZero, AV.cells_agg, reduceIte, Nat.reduceEqDiff, Nat.reduceAdd, true_and, List.getElem?_cons_zero, List.length_cons, List.length_nil, Nat.zero_add, Nat.add_zero, List.drop_zero, List.take_succ_cons, List.take_zero, List.append_nil, decide_true, Nat.lt_add_one, ↓reduceIte, Nat.le_refl, T_2, T_117, T_65, e1, hbox, f1, pt_65, pt_2, cellOk]
      refine c73 hD h8 ?_
      cases hw1 : within p.page 0 ((d.pages.length : Int) - 1) with
      | true =>
        unfold opsW
        simp only [↓opsA_cons, isCallV, yieldA, List.getElem?_cons_succ, ↓stepA, ↓callA, List.map_cons, List.map_nil, ev, Env.get_put_some, ↓e_move, ↓e_unOp, ↓e_load, ↓e_fieldAddr, u_not, rdSl_sl, ofVal, Heap.upd_get, AV.cells_agg, reduceIte, Nat.reduceEqDiff, true_and, List.getElem?_cons_zero, List.getElem?_cons_succ, List.length_cons, List.length_nil, Nat.zero_add, List.drop_zero, List.take_succ_cons, List.take_zero, List.append_nil, Option.bind_some, Nat.lt_add_one, ↓reduceIte, Nat.le_refl, T_2, T_117, Bool.not_true, pt_2, cellOk]
        refine c53 ?_
        cases hw2 : within p.part 0 2 with
        | true =>
          unfold opsW
          simp only [↓opsA_nil, ↓opsA_cons, isCallV, yieldA, List.getElem?_cons_succ, Bool.false_eq_true, ↓stepA, ↓callA, ev, Env.get_put_some, ↓e_assign, ↓e_unOp, ↓e_pick, u_not, reduceIte, Nat.reduceEqDiff, List.getElem?_cons_zero, List.getElem?_cons_succ, Option.bind_some, ↓reduceIte, Bool.not_true]
          refine hK7 _ _ _ ?_
          clear hK7 K7
          refine WP.cond (by simp only [ev, Env.get_put_some, ↓reduceIte]; rfl) (fun hc => ?_) (fun hc => ?_)
          · cases hc
          clear hc
          refine WP.seq_k fun K7 hK7 => WP.region hT rfl ?_
          simp only [↓opsA, ↓stepA, ↓e_len1, ↓callA, ev, Env.get_put_some, ↓e_assign, ↓e_binOp, ↓e_load, ↓e_fieldAddr, b_neq, rdSl_sl, ofVal, ↓thenA, Heap.upd_get, AV.cells_agg, reduceIte, Nat.reduceEqDiff, true_and, List.getElem?_cons_zero, List.getElem?_cons_succ, List.length_cons, List.length_nil, Nat.zero_add, List.drop_zero, List.take_succ_cons, List.take_zero, Nat.lt_add_one, ↓reduceIte, Nat.le_refl, T_5, T_113, T_117, pt_113, cellOk, rdSl_emp rb]
          refine hK7 _ _ _ ?_
          clear hK7 K7
          refine WP.cond (by simp only [ev, Env.get_put_some, ↓reduceIte]; rfl) (fun hc => ?_) (fun hc => ?_)
          · refine WP.seq_k fun K1 hK1 => WP.region hT rfl ?_
            simp only [↓opsA, ↓stepA, ↓callA, ev, ↓e_assign, ofVal, ↓thenA]
            refine hK1 _ _ _ ?_
            clear hK1 K1
            refine WP.ret ?_
            simp only [Env.get_put_some, ↓thenA, ↓blockA, reduceIte, Option.map_some, ↓reduceIte, retA, resA]
            refine ⟨_, rfl, ret_p (Left.upd (by omega) hleft) (.int _ _) ?_⟩
            rw [hstop 1 (by unfold looseFault; rw [if_neg (by simp [hw1, hw2]), if_pos (by have := of_decide_eq_true hc; omega)])] at hk; exact hk
          have h16 : p.data.length = 16 := by have := of_decide_eq_false hc; omega
          refine WP.skip ?_
          simp only [↓thenA, ↓blockA]
          refine hK6 _ _ _ ?_
          clear hK6 K6 hc
          refine WP.region hT rfl ?_
          simp only [↓opsA, ↓stepA, ↓callA, ev, Env.get_put_some, ↓e_move, ↓e_binOp, b_add, ofVal, ↓thenA, Heap.upd_get, reduceIte, Nat.reduceEqDiff, Nat.reduceLeDiff, ↓reduceIte, e29]
          refine ⟨d.loose.length - (i + 1), by omega, i + 1, rfl, hil, fs_snoc hpp hnone (by unfold looseFault; rw [if_neg (by simp [hw1, hw2]), if_neg (by simp [h16])]), ?_, fun id hid => ?_, by omega, ?_, ?_, ?_, ?_⟩
          · rw [if_neg (by omega)]; exact hbox
          · rw [if_neg (by omega)]; exact hbel id hid
          · simpa [Env.get, Env.put] using e1
          · simpa [Env.get, Env.put] using e27
          · simpa [Env.get, Env.put] using e28
          · rw [wrap_in (by omega) (by omega)]; rfl
        | false =>
          unfold opsW
          simp only [↓opsA_nil, ↓opsA_cons, isCallV, yieldA, List.getElem?_cons_succ, Bool.false_eq_true, ↓stepA, ↓callA, ev, Env.get_put_some, ↓e_assign, ↓e_unOp, ↓e_pick, u_not, reduceIte, Nat.reduceEqDiff, List.getElem?_cons_zero, List.getElem?_cons_succ, Option.bind_some, ↓reduceIte, Bool.not_false]
          refine hK7 _ _ _ ?_
          clear hK7 K7
          refine WP.cond (by simp only [ev, Env.get_put_some, ↓reduceIte]; rfl) (fun hc => ?_) (fun hc => ?_)
          · refine WP.seq_k fun K1 hK1 => WP.region hT rfl ?_
            simp only [↓opsA, ↓stepA, ↓callA, ev, ↓e_assign, ofVal, ↓thenA]
            refine hK1 _ _ _ ?_
            clear hK1 K1
            refine WP.ret ?_
            simp only [Env.get_put_some, ↓thenA, ↓blockA, reduceIte, Option.map_some, ↓reduceIte, retA, resA]
            refine ⟨_, rfl, ret_p (Left.upd (by omega) hleft) (.int _ _) ?_⟩
            rw [hstop 3 (by unfold looseFault; rw [if_pos (.inr hw2)])] at hk; exact hk
          · cases hc
      | false =>
        unfold opsW
        simp only [↓opsA_cons, isCallV, yieldA, List.getElem?_cons_succ, Option.some.injEq, Bool.true_eq_false, ↓stepA, ↓callA, List.map_cons, List.map_nil, ev, Env.get_put_some, ↓e_move, ↓e_unOp, ↓e_load, ↓e_fieldAddr, u_not, rdSl_sl, ofVal, Heap.upd_get, reduceIte, Nat.reduceEqDiff, true_and, List.getElem?_cons_zero, List.getElem?_cons_succ, List.length_cons, List.length_nil, Nat.zero_add, List.drop_zero, List.take_succ_cons, List.take_zero, List.append_nil, Option.bind_some, Nat.lt_add_one, ↓reduceIte, Nat.le_refl, T_2, T_117, Bool.not_false, Bool.true_eq_false]
        unfold opsW
        simp only [↓opsA_nil, ↓opsA_cons, isCallV, yieldA, List.getElem?_cons_succ, Option.some.injEq, Bool.true_eq_false, ↓stepA, ↓callA, ev, Env.get_put_some, ↓e_assign, ↓e_pick, ofVal, reduceIte, Nat.reduceEqDiff, List.getElem?_cons_zero, List.getElem?_cons_succ, Option.bind_some, ↓reduceIte]
        refine hK7 _ _ _ ?_
        clear hK7 K7
        refine WP.cond (by simp only [ev, Env.get_put_some, ↓reduceIte]; rfl) (fun hc => ?_) (fun hc => ?_)
        · refine WP.seq_k fun K1 hK1 => WP.region hT rfl ?_
          simp only [↓opsA, ↓stepA, ↓callA, ev, ↓e_assign, ofVal, ↓thenA]
          refine hK1 _ _ _ ?_
          clear hK1 K1
          refine WP.ret ?_
          simp only [Env.get_put_some, ↓thenA, ↓blockA, reduceIte, Option.map_some, ↓reduceIte, retA, resA]
          refine ⟨_, rfl, ret_p (Left.upd (by omega) hleft) (.int _ _) ?_⟩
          rw [hstop 3 (by unfold looseFault; rw [if_pos (.inl hw1)])] at hk; exact hk
        · cases hc
    · have hil : i = d.loose.length := by have := of_decide_eq_false hc; omega
      subst hil
      rw [List.take_of_length_le (Nat.le_refl _)] at hnone
      refine WP.exit ?_
      simp only [↓thenA, ↓blockA, reduceIte, ↓reduceIte]
      refine hK1 _ _ _ ?_
      clear hK6 K6 hK1 K1 hc
      refine WP.seq_k fun K1 hK1 => WP.region hT rfl ?_
      simp only [↓opsA, ↓stepA, ↓callA, ev, ↓e_assign, ofVal, ↓thenA]
      refine hK1 _ _ _ ?_
      clear hK1 K1
      refine WP.ret ?_
      simp only [Env.get_put_some, reduceIte, Option.map_some, ↓reduceIte, retA, resA]
      refine ⟨_, rfl, ret_p hleft (.int _ _) ?_⟩
      rw [hnone] at hk; exact hk
  by_cases h1 : d.pages.length < 1
  · have hd : decide ((ps.length : Int) < 1) = true := decide_eq_true (by omega)
    simp only [↓opsA_cons, isCallV, yieldA, List.getElem?_cons_succ, Option.some.injEq, Bool.true_eq_false, ↓stepA, ↓e_len1, ↓callA, List.map_cons, List.map_nil, ev, Env.get_put_some, ↓e_move, ↓e_binOp, ↓e_pick, ↓e_load, ↓e_fieldAddr, b_lss, b_gtr, rdSl_sl, ofVal, ↓thenA, Heap.upd_get, AV.cells_agg, reduceIte, Nat.reduceEqDiff, true_and, List.getElem?_cons_zero, List.getElem?_cons_succ, List.length_cons, List.length_nil, Nat.zero_add, Nat.add_zero, List.drop_zero, List.take_succ_cons, List.take_zero, List.append_nil, Option.bind_some, Nat.lt_add_one, ↓reduceIte, Nat.le_refl, T_55, T_113, T_65, pt_55, cellOk, rdSl_emp rp, hd]
    unfold opsW
    simp only [↓opsA_nil, ↓opsA_cons, isCallV, ↓stepA, ↓callA, ev, Env.get_put_some, ↓e_assign, ↓e_pick, ofVal, reduceIte, Nat.reduceEqDiff, ↓reduceIte]
    exact key _ rfl (congrArg AV.bool (decide_eq_true (Or.inl h1)).symm)
  have hd : decide ((ps.length : Int) < 1) = false := decide_eq_false (by omega)
  by_cases h8 : 8 < d.pages.length
  · have hd8 : decide (8 < (ps.length : Int)) = true := decide_eq_true (by omega)
    simp only [↓opsA_cons, isCallV, yieldA, List.getElem?_cons_succ, Option.some.injEq, Bool.false_eq_true, Bool.true_eq_false, ↓stepA, ↓e_len1, ↓callA, List.map_cons, List.map_nil, ev, Env.get_put_some, ↓e_move, ↓e_binOp, ↓e_pick, ↓e_load, ↓e_fieldAddr, b_lss, b_gtr, rdSl_sl, ofVal, ↓thenA, Heap.upd_get, AV.cells_agg, reduceIte, Nat.reduceEqDiff, true_and, List.getElem?_cons_zero, List.getElem?_cons_succ, List.length_cons, List.length_nil, Nat.zero_add, Nat.add_zero, List.drop_zero, List.take_succ_cons, List.take_zero, List.append_nil, Option.bind_some, Nat.lt_add_one, ↓reduceIte, Nat.le_refl, T_55, T_113, T_65, pt_55, cellOk, rdSl_emp rp, hd, hd8]
    unfold opsW
    simp only [↓opsA_nil, ↓opsA_cons, isCallV, ↓stepA, ↓callA, ev, Env.get_put_some, ↓e_assign, ↓e_pick, ofVal, reduceIte, Nat.reduceEqDiff, ↓reduceIte]
    exact key _ rfl (congrArg AV.bool (decide_eq_true (Or.inr (Or.inl h8))).symm)
  have hd8 : decide (8 < (ps.length : Int)) = false := decide_eq_false (by omega)
  simp only [↓opsA_cons, isCallV, yieldA, List.getElem?_cons_succ, Option.some.injEq, Bool.false_eq_true, ↓stepA, ↓e_len1, ↓callA, List.map_cons, List.map_nil, ev, Env.get_put_some, ↓e_move, ↓e_binOp, ↓e_pick, ↓e_load, ↓e_fieldAddr, b_lss, b_gtr, rdSl_sl, ofVal, ↓thenA, Heap.upd_get, AV.cells_agg, reduceIte, Nat.reduceEqDiff, true_and, List.getElem?_cons_zero, List.getElem?_cons_succ, List.length_cons, List.length_nil, Nat.zero_add, Nat.add_zero, List.drop_zero, List.take_succ_cons, List.take_zero, List.append_nil, Option.bind_some, Nat.lt_add_one, ↓reduceIte, Nat.le_refl, T_55, T_113, T_65, pt_55, cellOk, rdSl_emp rp, hd, hd8]
  refine c89 hp0 ?_
  unfold opsW
  simp only [↓opsA_nil, ↓opsA_cons, isCallV, Bool.false_eq_true, ↓stepA, ↓callA, ev, Env.get_put_some, ↓e_assign, ↓e_pick, reduceIte, Nat.reduceEqDiff, ↓reduceIte]
  have hq : (d.pages.any fun p => decide (p.length ≠ 48)) = decide (d.pages.length < 1 ∨ 8 < d.pages.length ∨ d.pages.any (fun p => decide (p.length ≠ 48)) = true) := by
    generalize (d.pages.any fun p => decide (p.length ≠ 48)) = b
    cases b
    · exact (decide_eq_false (by rintro (q | q | q) <;> first | exact h1 q | exact h8 q | cases q)).symm
    · exact (decide_eq_true (Or.inr (Or.inr rfl))).symm
  exact key _ rfl (congrArg AV.bool hq)
end
end Go.Proofs.Ytplkjfnjdekgpaa
