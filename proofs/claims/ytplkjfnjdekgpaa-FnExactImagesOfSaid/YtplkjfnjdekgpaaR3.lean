/- Row 3: what its functions do. Own work. -/
import Derived.Test.YtplkjfnjdekgpaaR2b
namespace Go.Proofs.Ytplkjfnjdekgpaa
open Go

section
variable {h : Heap} {n : Nat} {K : AV → Heap → Nat → Prop}

def readsOnly (l : List (List ActD)) (w : Int) : Bool :=
  decide (sessFault l = 0) && (within w 0 ((l.length : Int) - 1) && ((l.getD w.toNat []).all fun a => decide (a.kind ≤ 3)))

theorem fault_len {l : List (List ActD)} (hf : sessFault l = 0) : 1 ≤ l.length ∧ l.length ≤ 5 := by
  unfold sessFault at hf
  split at hf
  · cases hf
  · rename_i hq
    simp only [not_or] at hq
    omega

theorem fault_kind {l : List (List ActD)} (hf : sessFault l = 0) {s : List ActD} (hs : s ∈ l) {a : ActD} (ha : a ∈ s) : 2 ≤ a.kind ∧ a.kind ≤ 7 ∧ a.txn = 0 := by
  have hnone : faultA a = none := by
    unfold sessFault at hf
    split at hf
    · cases hf
    · cases hq : l.flatten.findSome? faultA with
      | none => exact List.findSome?_eq_none_iff.1 hq a (List.mem_flatten.2 ⟨s, hs, ha⟩)
      | some v =>
        exfalso
        rw [hq] at hf
        obtain ⟨b, _, hb⟩ := List.exists_of_findSome?_eq_some hq
        unfold faultA at hb
        split at hb
        · obtain rfl := Option.some.inj hb; cases hf
        · split at hb
          · obtain rfl := Option.some.inj hb; cases hf
          · cases hb
  unfold faultA at hnone
  split at hnone
  · cases hnone
  · rename_i h1
    split at hnone
    · cases hnone
    · rename_i h2
      simp [within] at h1
      exact ⟨h1.1, h1.2, by simpa using h2⟩

theorem c56 {x : AV} {a : ActD} (hx : ActR x a) (hk : K (.bool (decide (a.kind ≠ 2) && decide (a.kind ≠ 3))) h n) : CA Try.prog 56 [x] h n K := by
  obtain ⟨rfl, hok⟩ := hx
  refine CA.conv (CA.enter (N := 11) (rs := [.tmp 2]) hT Try.call56 Try.func56 rfl rfl (by simp) rfl fun hlt => ?_)
  refine WP.seq_k fun K1 hK1 => WP.region hT rfl ?_
  simp only [↓opsA, ↓stepA, ↓callA, ev, Env.get_envOf, ↓e_assign, ↓e_box, ofVal, ↓thenA, Nat.pos_of_neZero, good_agg, AV.cells_agg, Nat.reduceAdd, true_and, List.getElem?_cons_zero, Option.getD_some, List.length_cons, List.length_nil, Nat.zero_add, T_81]
  refine hK1 _ _ _ ?_
  clear hK1 K1
  by_cases hq : a.kind = 2
  all_goals
    simp only [ne_eq, hq, not_true_eq_false, not_false_eq_true, decide_true, decide_false, Bool.true_and, Bool.false_and] at hk
    refine WP.seq_k fun K1 hK1 => WP.region hT rfl ?_
    simp only [↓opsA, ↓stepA, ↓callA, ev, Env.get_put_some, ↓e_move, ↓e_assign, ↓e_binOp, ↓e_pick, ↓e_load, ↓e_fieldAddr, b_neq, rdSl_sl, ofVal, ↓thenA, Heap.upd_get, AV.cells_agg, reduceIte, Nat.reduceEqDiff, true_and, List.getElem?_cons_zero, List.getElem?_cons_succ, List.length_cons, List.length_nil, Nat.zero_add, Nat.add_zero, List.drop_zero, List.take_succ_cons, List.take_zero, decide_true, decide_false, Option.bind_some, Nat.lt_add_one, ↓reduceIte, Nat.le_refl, T_81, T_2, yieldA, hq, List.getElem?_cons_succ, Option.some.injEq, Bool.false_eq_true, pt_2, cellOk, ne_eq, not_true_eq_false, not_false_eq_true]
    refine hK1 _ _ _ ?_
    clear hK1 K1
    refine WP.ret ?_
    simp only [Env.get_put_some, reduceIte, Option.map_some, ↓reduceIte, retA, resA]
    exact ⟨_, rfl, ret_p (Left.upd (Nat.le_refl _) (Left.refl hlt)) (.bool _) hk⟩

theorem c83 {x : AV} {l : List ActD} (hx : ActsR x l) (hk : K (.int .i64 (idxV (l.findIdx? fun a => decide (a.kind ≠ 2) && decide (a.kind ≠ 3)))) h n) : CA Try.prog 83 [x, .fn 56 []] h n K :=
  idxF_gen (tf := 87) hT Try.call83 Try.func83 rfl rfl rfl rfl tyAct_81 hx (fun _ _ _ _ hR hk => c56 hR hk) hk

theorem c55 {x : AV} {l : List ActD} (hx : ActsR x l) (hk : K (.bool (l.any fun a => decide (a.kind ≠ 2) && decide (a.kind ≠ 3))) h n) : CA Try.prog 55 [x, .fn 56 []] h n K :=
  conF_gen hT Try.call55 Try.func55 rfl rfl rfl hx (fun _ hk => c83 hx hk) hk

theorem getD_of {α : Type} {l : List α} {i : Nat} {a d : α} (h : l[i]? = some a) : l.getD i d = a := by
  rw [List.getD_eq_getElem?_getD, h]; rfl

theorem c20 {x : AV} {l : List (List ActD)} {w : Int} (hx : ActSSR x l) (hk : K (.bool (readsOnly l w)) h n) : CA Try.prog 20 [x, .int .i64 w] h n K := by
  have hx0 := hx
  obtain ⟨es, hes, hal, hml, _, _⟩ := hx
  have hel := all2_length hal
  refine CA.conv (CA.enter (N := 23) (rs := [.tmp 4]) hT Try.call20 Try.func20 rfl rfl (by simp) rfl fun hlt => ?_)
  refine WP.seq_k fun K1 hK1 => WP.region hT rfl ?_
  simp only [↓opsA, ↓stepA, ↓callA, ev, ↓e_assign, ofVal, ↓thenA]
  refine hK1 _ _ _ ?_
  clear hK1 K1
  refine WP.seq_k fun K1 hK1 => WP.region hT rfl ?_
  simp only [↓opsA_cons, isCallV, reduceCtorEq, ↓stepA, ↓callA, List.map_cons, List.map_nil, ev, Env.get_put_some, Env.get_envOf, ↓e_move, ↓thenA, reduceIte, List.getElem?_cons_zero, Option.getD_some, List.append_nil, ↓reduceIte]
  refine c17 hx0 ?_
  by_cases hf : sessFault l = 0
  · obtain ⟨hl1, hl5⟩ := fault_len hf
    have hw : IntKind.i64.wrap ((es.length : Int) - 1) = (l.length : Int) - 1 := by rw [wrap_in (by omega) (by omega)]; omega
    unfold opsW
    simp only [↓opsA_cons, isCallV, yieldA, List.getElem?_cons_succ, reduceCtorEq, ↓stepA, ↓e_len1, ↓callA, List.map_cons, List.map_nil, ev, Env.get_put_some, Env.get_envOf, ↓e_move, ↓e_binOp, b_sub, b_eql, ofVal, reduceIte, Nat.reduceEqDiff, List.getElem?_cons_zero, List.getElem?_cons_succ, Option.getD_some, List.append_nil, decide_true, Option.bind_some, ↓reduceIte, T_31, T_38, hf, rdSl_emp hes, hw]
    refine c53 ?_
    unfold readsOnly at hk
    simp only [hf, decide_true, Bool.true_and] at hk
    cases hwi : within w 0 ((l.length : Int) - 1) with
    | false =>
      rw [hwi] at hk
      unfold opsW
      simp only [↓opsA_cons, isCallV, yieldA, List.getElem?_cons_succ, Option.some.injEq, Bool.false_eq_true, reduceCtorEq, ↓stepA, ↓callA, List.map_cons, List.map_nil, ev, Env.get_put_some, Env.get_envOf, ↓e_move, ↓e_pick, ↓e_load, ↓e_indexAddr, reduceIte, Nat.reduceEqDiff, true_and, List.getElem?_cons_zero, List.getElem?_cons_succ, Option.getD_some, List.append_nil, Option.bind_some, Nat.lt_add_one, ↓reduceIte, T_31, T_38]
      unfold opsW
      simp only [↓opsA_nil, ↓opsA_cons, isCallV, yieldA, List.getElem?_cons_succ, Option.some.injEq, Bool.false_eq_true, ↓stepA, ↓callA, ev, Env.get_put_some, ↓e_assign, ↓e_pick, ofVal, reduceIte, Nat.reduceEqDiff, List.getElem?_cons_zero, List.getElem?_cons_succ, Option.bind_some, ↓reduceIte]
      refine hK1 _ _ _ ?_
      clear hK1 K1
      refine WP.ret ?_
      simp only [Env.get_put_some, reduceIte, Option.map_some, ↓reduceIte, retA, resA]
      exact ⟨_, rfl, ret_p (Left.refl hlt) (.bool _) hk⟩
    | true =>
      rw [hwi] at hk
      have hwb : 0 ≤ w ∧ w ≤ (l.length : Int) - 1 := by simpa [within] using hwi
      obtain ⟨e, a, he, ha, hR⟩ := all2_at hal (show w.toNat < l.length by omega)
      have hp := tyActs_38.part e a hR
      unfold opsW
      simp only [↓opsA_cons, isCallV, yieldA, List.getElem?_cons_succ, reduceCtorEq, ↓stepA, ↓callA, List.map_cons, List.map_nil, ev, Env.get_put_some, Env.get_envOf, ↓e_move, ↓e_pick, ↓e_load, ↓e_indexAddr, reduceIte, Nat.reduceEqDiff, true_and, List.getElem?_cons_zero, List.getElem?_cons_succ, Option.getD_some, List.append_nil, Option.bind_some, Nat.lt_add_one, ↓reduceIte, T_31, T_38, rdSl_emp hes, he, hp, cellOk]
      refine ⟨by omega, by omega, c55 hR ?_⟩
      unfold opsW
      simp only [↓opsA_nil, ↓opsA_cons, isCallV, yieldA, List.getElem?_cons_succ, ↓stepA, ↓callA, ev, Env.get_put_some, ↓e_assign, ↓e_unOp, ↓e_pick, u_not, reduceIte, Nat.reduceEqDiff, List.getElem?_cons_zero, List.getElem?_cons_succ, Option.bind_some, ↓reduceIte]
      refine hK1 _ _ _ ?_
      clear hK1 K1
      refine WP.ret ?_
      simp only [Env.get_put_some, reduceIte, Option.map_some, ↓reduceIte, retA, resA]
      refine ⟨_, rfl, ret_p (Left.refl hlt) (.bool _) ?_⟩
      rw [getD_of ha] at hk
      have : (!(a.any fun a => decide (a.kind ≠ 2) && decide (a.kind ≠ 3))) = (true && a.all fun a => decide (a.kind ≤ 3)) := by
        rw [Bool.true_and, List.not_any_eq_all_not]
        rw [Bool.eq_iff_iff, List.all_eq_true, List.all_eq_true]
        refine forall_congr' fun b => ?_
        constructor
        · intro hq hb
          have hkk := fault_kind hf (List.mem_of_getElem? ha) hb
          have := hq hb
          simp at this ⊢
          omega
        · intro hq hb
          have hkk := fault_kind hf (List.mem_of_getElem? ha) hb
          have := hq hb
          simp at this ⊢
          omega
      rw [← this] at hk
      exact hk
  · unfold opsW
    simp only [↓opsA_cons, isCallV, yieldA, List.getElem?_cons_succ, Option.some.injEq, Bool.false_eq_true, reduceCtorEq, ↓stepA, ↓e_len1, ↓callA, List.map_cons, List.map_nil, ev, Env.get_put_some, Env.get_envOf, ↓e_move, ↓e_binOp, b_sub, b_eql, ofVal, reduceIte, Nat.reduceEqDiff, List.getElem?_cons_zero, List.getElem?_cons_succ, Option.getD_some, List.append_nil, decide_false, Option.bind_some, ↓reduceIte, T_31, T_38, hf]
    unfold opsW
    simp only [↓opsA_cons, isCallV, yieldA, List.getElem?_cons_succ, Option.some.injEq, Bool.false_eq_true, reduceCtorEq, ↓stepA, ↓callA, List.map_cons, List.map_nil, ev, Env.get_put_some, Env.get_envOf, ↓e_move, ↓e_pick, ↓e_load, ↓e_indexAddr, ofVal, reduceIte, Nat.reduceEqDiff, true_and, List.getElem?_cons_zero, List.getElem?_cons_succ, Option.getD_some, List.append_nil, Option.bind_some, Nat.lt_add_one, ↓reduceIte, T_31, T_38]
    unfold opsW
    simp only [↓opsA_nil, ↓opsA_cons, isCallV, yieldA, List.getElem?_cons_succ, Option.some.injEq, Bool.false_eq_true, ↓stepA, ↓callA, ev, Env.get_put_some, ↓e_assign, ↓e_pick, ofVal, reduceIte, Nat.reduceEqDiff, List.getElem?_cons_zero, List.getElem?_cons_succ, Option.bind_some, ↓reduceIte]
    refine hK1 _ _ _ ?_
    clear hK1 K1
    refine WP.ret ?_
    simp only [Env.get_put_some, reduceIte, Option.map_some, ↓reduceIte, retA, resA]
    refine ⟨_, rfl, ret_p (Left.refl hlt) (.bool _) ?_⟩
    unfold readsOnly at hk
    simpa [resV, hf] using hk

theorem c19 {x : AV} {l : List (List ActD)} {w : Int} (hx : ActSSR x l) (hk : K (.bool (readsOnly l w)) h n) : CA Try.prog 19 [x, .int .i64 w] h n K := by
  have hx0 := hx
  obtain ⟨es, hes, hal, hml, _, _⟩ := hx
  have hel := all2_length hal
  refine CA.conv (CA.enter (N := 35) (rs := [.tmp 4]) hT Try.call19 Try.func19 rfl rfl (by simp) rfl fun hlt => ?_)
  refine WP.seq_k fun K1 hK1 => WP.region hT rfl ?_
  simp only [↓opsA, ↓stepA, ↓callA, ev, ↓e_assign, ofVal, ↓thenA]
  refine hK1 _ _ _ ?_
  clear hK1 K1
  refine WP.seq_k fun K0 hK0 => ?_
  refine WP.seq_k fun K1 hK1 => WP.region hT rfl ?_
  simp only [↓opsA_cons, isCallV, reduceCtorEq, ↓stepA, ↓callA, List.map_cons, List.map_nil, ev, Env.get_put_some, Env.get_envOf, ↓e_move, ↓thenA, reduceIte, List.getElem?_cons_zero, Option.getD_some, List.append_nil, ↓reduceIte]
  refine c15 hx0 ?_
  by_cases hf : sessFault l = 0
  · obtain ⟨hl1, hl5⟩ := fault_len hf
    have hw : IntKind.i64.wrap ((es.length : Int) - 1) = (l.length : Int) - 1 := by rw [wrap_in (by omega) (by omega)]; omega
    unfold opsW
    simp only [↓opsA_cons, isCallV, yieldA, List.getElem?_cons_succ, reduceCtorEq, ↓stepA, ↓e_len1, ↓callA, List.map_cons, List.map_nil, ev, Env.get_put_some, Env.get_envOf, ↓e_move, ↓e_binOp, b_sub, b_neq, ofVal, reduceIte, Nat.reduceEqDiff, List.getElem?_cons_zero, List.getElem?_cons_succ, Option.getD_some, List.append_nil, decide_false, Option.bind_some, ↓reduceIte, T_31, T_38, hf, rdSl_emp hes, hw, ne_eq, not_true_eq_false]
    refine c49 ?_
    unfold readsOnly at hk
    simp only [hf, decide_true, Bool.true_and] at hk
    unfold opsW
    simp only [↓opsA_nil, ↓opsA_cons, isCallV, yieldA, List.getElem?_cons_succ, Bool.false_eq_true, ↓stepA, ↓callA, ev, Env.get_put_some, ↓e_unOp, ↓e_pick, u_not, reduceIte, Nat.reduceEqDiff, List.getElem?_cons_zero, List.getElem?_cons_succ, Option.bind_some, ↓reduceIte]
    refine hK1 _ _ _ ?_
    clear hK1 K1
    refine WP.cond (by simp only [ev, Env.get_put_some, ↓reduceIte]; rfl) (fun hc => ?_) (fun hc => ?_)
    · refine WP.seq_k fun K1 hK1 => WP.region hT rfl ?_
      simp only [↓opsA, ↓stepA, ↓callA, ev, ↓e_assign, ofVal, ↓thenA]
      refine hK1 _ _ _ ?_
      clear hK1 K1
      refine WP.ret ?_
      simp only [Env.get_put_some, ↓thenA, reduceIte, Option.map_some, ↓reduceIte, retA, resA]
      have hwi : within w 0 ((l.length : Int) - 1) = false := by simpa using hc
      rw [hwi] at hk
      exact ⟨_, rfl, ret_p (Left.refl hlt) (.bool _) hk⟩
    have hwi : within w 0 ((l.length : Int) - 1) = true := by simpa using hc
    rw [hwi] at hk
    have hwb : 0 ≤ w ∧ w ≤ (l.length : Int) - 1 := by simpa [within] using hwi
    obtain ⟨e, a, he, ha, hR⟩ := all2_at hal (show w.toNat < l.length by omega)
    have hp := tyActs_38.part e a hR
    rw [getD_of ha, Bool.true_and] at hk
    obtain ⟨fs, hfs, hbl, hml2, _, _⟩ := hR
    have hfl := all2_length hbl
    unfold maxLen at hml2
    refine WP.skip (hK0 _ _ _ ?_)
    clear hK0 K0
    refine WP.seq_k fun K4 hK4 => ?_
    refine WP.seq_k fun K1 hK1 => WP.region hT rfl ?_
    simp only [↓opsA, ↓stepA, ↓callA, ev, ↓e_assign, ofVal, ↓thenA]
    refine hK1 _ _ _ ?_
    clear hK1 K1
    refine WP.block (WP.loop (fun m E h' n' => ∃ j, m = a.length - j ∧ j ≤ a.length ∧ (∀ b, b ∈ a.take j → decide (b.kind ≤ 3) = true) ∧ n = n' ∧ h = h' ∧ E.get 0 = x ∧ E.get 1 = .int .i64 w ∧ E.get 5 = .int .i64 j) a.length ?_ ?_)
    · exact ⟨0, by omega, Nat.zero_le _, by simp, rfl, rfl, rfl, rfl, rfl⟩
    rintro m E h' n' ⟨j, rfl, hj, hall, rfl, rfl, e0, e1, e5⟩
    refine WP.seq_k fun K6 hK6 => ?_
    refine WP.seq_k fun K7 hK7 => WP.region hT rfl ?_
    simp only [↓opsA, ↓stepA, ↓e_len1, ↓callA, ev, Env.get_put_some, ↓e_move, ↓e_binOp, ↓e_load, ↓e_indexAddr, b_lss, ↓thenA, reduceIte, Nat.reduceEqDiff, true_and, Nat.lt_add_one, ↓reduceIte, T_81, T_31, T_38, rdSl_emp hes, e0, e1, e5, he, hp, rdSl_emp hfs, cellOk]
    refine ⟨by omega, by omega, hK7 _ _ _ ?_⟩
    clear hK7 K7
    refine WP.cond (by simp only [ev, Env.get_put_some, ↓reduceIte]; rfl) (fun hc1 => ?_) (fun hc1 => ?_)
    · have hjl : j < a.length := by simp at hc1; omega
      obtain ⟨b, c, hb, hc, hR2⟩ := all2_at hbl hjl
      obtain ⟨rfl, hok⟩ := hR2
      refine WP.skip (hK6 _ _ _ ?_)
      clear hK6 K6
      refine WP.seq_k fun K10 hK10 => WP.block (WP.seq_k fun K12 hK12 => WP.region hT rfl ?_)
      simp only [↓opsA, ↓stepA, ↓callA, Int.toNat_natCast, ev, Env.get_put_some, ↓e_move, ↓e_binOp, ↓e_load, ↓e_fieldAddr, ↓e_indexAddr, b_gtr, ofVal, ↓thenA, Nat.pos_of_neZero, AV.cells_agg, reduceIte, Nat.reduceEqDiff, true_and, List.getElem?_cons_zero, Nat.add_zero, Nat.lt_add_one, ↓reduceIte, T_81, T_2, T_31, T_38, rdSl_emp hes, e0, e1, e5, he, hp, rdSl_emp hfs, hb, cellOk, pt_2]
      refine ⟨by omega, by omega, by omega, by omega, hK12 _ _ _ ?_⟩
      clear hK12 K12
      refine WP.cond (by simp only [ev, Env.get_put_some, ↓reduceIte]; rfl) (fun hc2 => ?_) (fun hc2 => ?_)
      · refine WP.seq_k fun K1 hK1 => WP.region hT rfl ?_
        simp only [↓opsA, ↓stepA, ↓callA, ev, ↓e_assign, ofVal, ↓thenA]
        refine hK1 _ _ _ ?_
        clear hK1 K1
        refine WP.ret ?_
        simp only [Env.get_put_some, ↓thenA, ↓blockA, reduceIte, Option.map_some, ↓reduceIte, retA, resA]
        have h3 : (a.all fun a => decide (a.kind ≤ 3)) = false := by
          rw [List.all_eq_false]
          exact ⟨c, List.mem_of_getElem? hc, by simp at hc2 ⊢; omega⟩
        rw [h3] at hk
        exact ⟨_, rfl, ret_p (Left.refl hlt) (.bool _) hk⟩
      refine WP.skip ?_
      simp only [↓thenA, ↓blockA]
      refine hK10 _ _ _ ?_
      clear hK10 K10
      refine WP.region hT rfl ?_
      simp only [↓opsA, ↓stepA, ↓callA, ev, Env.get_put_some, ↓e_move, ↓e_assign, ↓e_binOp, b_add, ofVal, ↓thenA, reduceIte, Nat.reduceEqDiff, true_and, ↓reduceIte, e5]
      refine ⟨a.length - (j + 1), by omega, j + 1, rfl, hjl, ?_, ?_, ?_, ?_⟩
      · intro b hb
        rcases mem_take_succ hc hb with hb | rfl
        · exact hall b hb
        · simp at hc2 ⊢; omega
      · simpa [Env.get, Env.put] using e0
      · simpa [Env.get, Env.put] using e1
      · rw [wrap_in (by omega) (by omega)]
        rfl
    · have hjl : j = a.length := by simp at hc1; omega
      subst hjl
      rw [List.take_of_length_le (Nat.le_refl _)] at hall
      refine WP.exit ?_
      simp only [↓thenA, ↓blockA, reduceIte, ↓reduceIte]
      refine hK4 _ _ _ ?_
      clear hK6 K6 hK4 K4
      refine WP.seq_k fun K1 hK1 => WP.region hT rfl ?_
      simp only [↓opsA, ↓stepA, ↓callA, ev, ↓e_assign, ofVal, ↓thenA]
      refine hK1 _ _ _ ?_
      clear hK1 K1
      refine WP.ret ?_
      simp only [Env.get_put_some, reduceIte, Option.map_some, ↓reduceIte, retA, resA]
      have h3 : (a.all fun a => decide (a.kind ≤ 3)) = true := List.all_eq_true.2 hall
      rw [h3] at hk
      exact ⟨_, rfl, ret_p (Left.refl hlt) (.bool _) hk⟩
  · unfold opsW
    simp only [↓opsA_cons, isCallV, yieldA, List.getElem?_cons_succ, Option.some.injEq, Bool.true_eq_false, reduceCtorEq, ↓stepA, ↓e_len1, ↓callA, List.map_cons, List.map_nil, ev, Env.get_put_some, Env.get_envOf, ↓e_move, ↓e_binOp, b_sub, b_neq, ofVal, reduceIte, Nat.reduceEqDiff, List.getElem?_cons_zero, List.getElem?_cons_succ, Option.getD_some, List.append_nil, decide_true, Option.bind_some, ↓reduceIte, T_31, T_38, hf, ne_eq, not_false_eq_true]
    unfold opsW
    simp only [↓opsA_nil, ↓opsA_cons, isCallV, yieldA, List.getElem?_cons_succ, Option.some.injEq, Bool.true_eq_false, ↓stepA, ↓callA, ev, Env.get_put_some, ↓e_pick, ofVal, reduceIte, Nat.reduceEqDiff, List.getElem?_cons_zero, List.getElem?_cons_succ, Option.bind_some, ↓reduceIte]
    refine hK1 _ _ _ ?_
    clear hK1 K1
    refine WP.cond (by simp only [ev, Env.get_put_some, ↓reduceIte]; rfl) (fun hc => ?_) (fun hc => by cases hc)
    refine WP.seq_k fun K1 hK1 => WP.region hT rfl ?_
    simp only [↓opsA, ↓stepA, ↓callA, ev, ↓e_assign, ofVal, ↓thenA]
    refine hK1 _ _ _ ?_
    clear hK1 K1
    refine WP.ret ?_
    simp only [Env.get_put_some, ↓thenA, reduceIte, Option.map_some, ↓reduceIte, retA, resA]
    refine ⟨_, rfl, ret_p (Left.refl hlt) (.bool _) ?_⟩
    unfold readsOnly at hk
    simpa [resV, hf] using hk

theorem c5 {x : AV} {l : List (List ActD)} {w : Int} (hx : ActSSR x l) (hk : K (.bool true) h n) : CA Try.prog 5 [x, .int .i64 w] h n K := by
  refine CA.conv (CA.enter (N := 31) (rs := [.tmp 4]) hT Try.call5 Try.func5 rfl rfl (by simp) rfl fun hlt => ?_)
  refine WP.seq_k fun K1 hK1 => WP.region hT rfl ?_
  simp only [↓opsA, ↓stepA, ↓callA, ev, ↓e_assign, ofVal, ↓thenA]
  refine hK1 _ _ _ ?_
  clear hK1 K1
  refine WP.seq_k fun K1 hK1 => WP.region hT rfl ?_
  simp only [↓opsA, ↓stepA, ↓callA, ev, ↓e_assign, ofVal, ↓thenA]
  refine hK1 _ _ _ ?_
  clear hK1 K1
  refine WP.seq_k fun K1 hK1 => WP.region hT rfl ?_
  simp only [↓opsA, ↓stepA, ↓callA, List.map_cons, List.map_nil, ev, Env.get_put_some, Env.get_envOf, ↓e_move, ↓e_assign, ↓thenA, reduceIte, Nat.reduceEqDiff, List.getElem?_cons_zero, Option.getD_some, List.append_nil, ↓reduceIte]
  refine c14 hx (by omega) (by omega) (hK1 _ _ _ ?_)
  clear hK1 K1
  refine WP.seq_k fun K2 hK2 => ?_
  refine WP.seq_k fun K1 hK1 => WP.region hT rfl ?_
  simp only [↓opsA, ↓stepA, ↓callA, ev, Env.get_put_some, ↓e_move, ↓e_binOp, b_lss, ofVal, ↓thenA, reduceIte, ↓reduceIte]
  refine hK1 _ _ _ ?_
  clear hK1 K1
  refine WP.cond (by simp only [ev, Env.get_put_some, ↓reduceIte]; rfl) (fun hc => ?_) (fun hc => ?_)
  · refine WP.seq_k fun K1 hK1 => WP.region hT rfl ?_
    simp only [↓opsA, ↓stepA, ↓callA, ev, ↓e_assign, ofVal, ↓thenA]
    refine hK1 _ _ _ ?_
    clear hK1 K1
    refine WP.ret ?_
    simp only [Env.get_put_some, ↓thenA, reduceIte, Option.map_some, ↓reduceIte, retA, resA]
    exact ⟨_, rfl, ret_p (Left.refl hlt) (.bool _) hk⟩
  refine WP.skip (hK2 _ _ _ ?_)
  clear hK2 K2
  obtain ⟨b1, b2⟩ := left_nonneg (by omega) (of_decide_eq_false hc)
  have hl : sizL sizAct l ≤ 1048576 := by omega
  refine WP.seq_k fun K1 hK1 => WP.region hT rfl ?_
  simp only [↓opsA, ↓stepA, ↓callA, List.map_cons, List.map_nil, ev, Env.get_put_some, Env.get_envOf, ↓e_move, ↓e_assign, ↓thenA, reduceIte, Nat.reduceEqDiff, List.getElem?_cons_zero, List.getElem?_cons_succ, Option.getD_some, List.append_nil, ↓reduceIte]
  refine c16 hx hl fun r1 hr1 => c19 hr1 (hK1 _ _ _ ?_)
  clear hK1 K1
  refine WP.seq_k fun K1 hK1 => WP.region hT rfl ?_
  simp only [↓opsA, ↓stepA, ↓callA, List.map_cons, List.map_nil, ev, Env.get_put_some, Env.get_envOf, ↓e_move, ↓e_assign, ↓thenA, reduceIte, Nat.reduceEqDiff, List.getElem?_cons_zero, Option.getD_some, List.append_nil, ↓reduceIte]
  refine c16 hx hl fun r2 hr2 => hK1 _ _ _ ?_
  clear hK1 K1
  refine WP.seq_k fun K1 hK1 => WP.region hT rfl ?_
  simp only [↓opsA, ↓stepA, ↓callA, List.map_cons, List.map_nil, ev, Env.get_put_some, Env.get_envOf, ↓e_move, ↓e_assign, ↓thenA, reduceIte, Nat.reduceEqDiff, List.getElem?_cons_zero, List.getElem?_cons_succ, Option.getD_some, List.append_nil, ↓reduceIte]
  refine c20 hr2 (hK1 _ _ _ ?_)
  clear hK1 K1
  refine WP.seq_k fun K2 hK2 => ?_
  refine WP.seq_k fun K1 hK1 => WP.region hT rfl ?_
  simp only [↓opsA, ↓stepA, ↓callA, ev, Env.get_put_some, ↓e_move, ↓e_binOp, b_bneq, ↓thenA, reduceIte, Nat.reduceEqDiff, true_and, ↓reduceIte, T_4]
  refine hK1 _ _ _ ?_
  clear hK1 K1
  refine WP.cond (by simp only [ev, Env.get_put_some, ↓reduceIte]; rfl) (fun hc => ?_) (fun hc => ?_)
  · exfalso
    simp at hc
  refine WP.skip (hK2 _ _ _ ?_)
  clear hK2 K2
  refine WP.seq_k fun K2 hK2 => ?_
  refine WP.seq_k fun K1 hK1 => WP.region hT rfl ?_
  simp only [↓opsA, ↓stepA, ↓callA, List.map_cons, List.map_nil, ev, Env.get_put_some, Env.get_envOf, ↓e_move, ↓e_unOp, ↓thenA, reduceIte, Nat.reduceEqDiff, List.getElem?_cons_zero, Option.getD_some, List.append_nil, ↓reduceIte]
  refine c16 hx hl fun r3 hr3 => c18 hr2 hr3 (hK1 _ _ _ ?_)
  clear hK1 K1
  refine WP.cond (by simp only [ev, Env.get_put_some, ↓reduceIte]; rfl) (fun hc => ?_) (fun hc => ?_)
  · exfalso
    simp at hc
  refine WP.skip (hK2 _ _ _ ?_)
  clear hK2 K2
  refine WP.seq_k fun K1 hK1 => WP.region hT rfl ?_
  simp only [↓opsA, ↓stepA, ↓callA, ev, ↓e_assign, ofVal, ↓thenA, decide_true]
  refine hK1 _ _ _ ?_
  clear hK1 K1
  refine WP.ret ?_
  simp only [Env.get_put_some, reduceIte, Option.map_some, ↓reduceIte, retA, resA]
  exact ⟨_, rfl, ret_p (Left.refl hlt) (.bool _) hk⟩

end
end Go.Proofs.Ytplkjfnjdekgpaa
