/- Row 6: what is wrong with a disk. Own work. -/
import Derived.Test.YtplkjfnjdekgpaaR15
namespace Go.Proofs.Ytplkjfnjdekgpaa
open Go

def looseFault (np : Nat) (x : LooseD) : Option Int := if within x.page 0 ((np : Int) - 1) = false ∨ within x.part 0 2 = false then some 3 else if x.data.length ≠ 16 then some 1 else none
def diskFault (d : DiskD) : Int :=
  if d.pages.length < 1 ∨ 8 < d.pages.length ∨ d.pages.any (fun p => decide (p.length ≠ 48)) = true then 1
  else if 60 < d.loose.length then 2 else (d.loose.findSome? (looseFault d.pages.length)).getD 0

theorem bytes_len {x : AV} {l : List Int} (hx : ByteSR x l) : ∃ es, rdSl Heap.emp 1 x = some es ∧ es.length = l.length := by
  obtain ⟨es, h1, h2, _⟩ := hx; exact ⟨es, h1, all2_length h2⟩

section
variable {h : Heap} {n : Nat} {K : AV → Heap → Nat → Prop}

theorem c67 {x : AV} {d : DiskD} (hx : DiskR x d) (hk : K (.int .i64 (diskFault d)) h n) : CA Try.prog 67 [x] h n K := by
  obtain ⟨xp, xl, rfl, hp, hl⟩ := hx
  have zp := one_cells hp.isOne
  have zl := one_cells hl.isOne
  obtain ⟨ps, rp, ap, mp, _, _⟩ := hp
  obtain ⟨ls, rl, al, ml, _, _⟩ := hl
  have lp := all2_length ap
  have ll := all2_length al
  unfold maxLen at mp ml
  refine CA.conv (CA.enter (N := 70) (rs := [.tmp 2]) hT Try.call67 Try.func67 rfl rfl (by simp) rfl fun hlt => ?_)
  refine WP.seq_k fun K1 hK1 => WP.region hT rfl ?_
  simp only [↓opsA, ↓stepA, ↓callA, ev, Env.get_envOf, ↓e_assign, ↓e_box, ofVal, ↓thenA, Nat.pos_of_neZero, good_agg, AV.cells_agg, Nat.reduceAdd, true_and, List.getElem?_cons_zero, Option.getD_some, List.length_cons, List.length_nil, Nat.zero_add, T_65]
  refine hK1 _ _ _ ?_
  clear hK1 K1
  refine WP.seq_k fun K2 hK2 => ?_
  -- the pages
  have hbad : ∀ (E : Env), E.get 2 = .int .i64 1 → diskFault d = 1 → retA T [.tmp 2] (fun r h' n' => ∃ r2 h2 n2, Conv n h r h' n' r2 h2 n2 ∧ K r2 h2 n2) .ret E (h.upd n [.agg [xp, xl]]) (n + 1) := fun E hE hf => by
    refine ⟨_, by simp only [resA, hE, Option.map_some]; rfl, ret_p (Left.upd (Nat.le_refl _) (Left.refl hlt)) (.int _ _) ?_⟩
    rw [hf] at hk; exact hk
  by_cases h1 : d.pages.length < 1
  · refine WP.seq_k fun K3 hK3 => WP.region hT rfl ?_
    have hd : decide ((ps.length : Int) < 1) = true := decide_eq_true (by omega)
    simp only [↓opsA, ↓stepA, ↓e_len1, ↓callA, ev, Env.get_put_some, ↓e_move, ↓e_binOp, ↓e_pick, ↓e_load, ↓e_fieldAddr, b_lss, b_gtr, rdSl_sl, ofVal, ↓thenA, Heap.upd_get, AV.cells_agg, reduceIte, Nat.reduceEqDiff, true_and, List.getElem?_cons_zero, List.length_cons, List.length_nil, Nat.zero_add, Nat.add_zero, List.drop_zero, List.take_succ_cons, List.take_zero, Nat.lt_add_one, ↓reduceIte, Nat.le_refl, T_55, T_113, T_65, pt_55, cellOk, rdSl_emp rp, hd]
    refine hK3 _ _ _ ?_
    refine WP.cond (by simp only [ev, Env.get_put_some, ↓reduceIte]; rfl) (fun hc => ?_) (fun hc => ?_)
    · refine WP.seq_k fun K1 hK1 => WP.region hT rfl ?_
      simp only [↓opsA, ↓stepA, ↓callA, ev, ↓e_assign, ofVal, ↓thenA]
      refine hK1 _ _ _ ?_
      clear hK1 K1
      refine WP.ret (hbad _ rfl ?_)
      unfold diskFault; rw [if_pos (.inl h1)]
    · cases hc
  refine WP.seq_k fun K3 hK3 => WP.region hT rfl ?_
  have hd : decide ((ps.length : Int) < 1) = false := decide_eq_false (by omega)
  simp only [↓opsA, ↓stepA, ↓e_len1, ↓callA, ev, Env.get_put_some, ↓e_move, ↓e_binOp, ↓e_pick, ↓e_load, ↓e_fieldAddr, b_lss, b_gtr, rdSl_sl, ofVal, ↓thenA, Heap.upd_get, AV.cells_agg, reduceIte, Nat.reduceEqDiff, true_and, List.getElem?_cons_zero, List.length_cons, List.length_nil, Nat.zero_add, Nat.add_zero, List.drop_zero, List.take_succ_cons, List.take_zero, Nat.lt_add_one, ↓reduceIte, Nat.le_refl, T_55, T_113, T_65, pt_55, cellOk, rdSl_emp rp, hd]
  refine hK3 _ _ _ ?_
  clear hK3 K3
  refine WP.cond (by simp only [ev, Env.get_put_some, ↓reduceIte]; rfl) (fun hc => ?_) (fun hc => ?_)
  · refine WP.seq_k fun K1 hK1 => WP.region hT rfl ?_
    simp only [↓opsA, ↓stepA, ↓callA, ev, ↓e_assign, ofVal, ↓thenA]
    refine hK1 _ _ _ ?_
    clear hK1 K1
    refine WP.ret (hbad _ rfl ?_)
    unfold diskFault; rw [if_pos (.inr (.inl (by have := of_decide_eq_true hc; omega)))]
  have h8 : d.pages.length ≤ 8 := by have := of_decide_eq_false hc; omega
  refine WP.skip (hK2 _ _ _ ?_)
  clear hK2 K2 hc
  refine WP.seq_k fun K1 hK1 => ?_
  refine WP.seq_k fun K1 hK1 => WP.region hT rfl ?_
  simp only [↓opsA, ↓stepA, ↓callA, ev, ↓e_assign, ofVal, ↓thenA]
  refine hK1 _ _ _ ?_
  clear hK1 K1
  refine WP.block (WP.loop (fun mm E h' n' => ∃ i, mm = d.pages.length - i ∧ i ≤ d.pages.length ∧ (∀ p, p ∈ d.pages.take i → p.length = 48) ∧ h.upd n [.agg [xp, xl]] = h' ∧ n + 1 = n' ∧ E.get 1 = .ep 2 (.sl 2 n 0 1 1 true) 0 0 ∧ E.get 3 = .int .i64 i) d.pages.length ?_ ?_)
  · exact ⟨0, by omega, Nat.zero_le _, by simp, rfl, rfl, rfl, rfl⟩
  rintro mm E h' n' ⟨i, rfl, hi, hall, rfl, rfl, e1, e3⟩
  refine WP.seq_k fun K6 hK6 => ?_
  refine WP.seq_k fun K1 hK1 => WP.region hT rfl ?_
  simp only [↓opsA, ↓stepA, ↓e_len1, ↓callA, ev, Env.get_put_some, ↓e_move, ↓e_binOp, ↓e_load, ↓e_fieldAddr, b_lss, rdSl_sl, ↓thenA, Heap.upd_get, AV.cells_agg, reduceIte, Nat.reduceEqDiff, true_and, List.getElem?_cons_zero, List.length_cons, List.length_nil, Nat.zero_add, Nat.add_zero, List.drop_zero, List.take_succ_cons, List.take_zero, Nat.lt_add_one, ↓reduceIte, Nat.le_refl, T_55, T_113, T_65, e1, e3, pt_55, cellOk, rdSl_emp rp]
  refine hK1 _ _ _ ?_
  clear hK1 K1
  refine WP.cond (by simp only [ev, Env.get_put_some, ↓reduceIte]; rfl) (fun hc => ?_) (fun hc => ?_)
  · have hil : i < d.pages.length := by have := of_decide_eq_true hc; omega
    obtain ⟨b, p, hb, hpp, hR⟩ := all2_at ap hil
    have hbp := tyByteS_113.part b p hR
    have zb := one_cells hR.isOne
    obtain ⟨bs, rb, lb⟩ := bytes_len hR
    refine WP.skip (hK6 _ _ _ ?_)
    clear hK6 K6 hc
    refine WP.seq_k fun K6 hK6 => WP.block ?_
    refine WP.seq_k fun K1 hK1 => WP.region hT rfl ?_
    simp only [↓opsA, ↓stepA, ↓e_len1, ↓callA, Int.toNat_natCast, ev, Env.get_put_some, ↓e_move, ↓e_binOp, ↓e_load, ↓e_fieldAddr, ↓e_indexAddr, b_neq, rdSl_sl, ofVal, ↓thenA, Heap.upd_get, AV.cells_agg, reduceIte, Nat.reduceEqDiff, true_and, List.getElem?_cons_zero, List.length_cons, List.length_nil, Nat.zero_add, Nat.add_zero, List.drop_zero, List.take_succ_cons, List.take_zero, Nat.lt_add_one, ↓reduceIte, Nat.le_refl, T_5, T_55, T_113, T_65, e1, e3, pt_55, cellOk, rdSl_emp rp, hb, hbp, rdSl_emp rb]
    refine ⟨by omega, by omega, hK1 _ _ _ ?_⟩
    clear hK1 K1
    refine WP.cond (by simp only [ev, Env.get_put_some, ↓reduceIte]; rfl) (fun hc => ?_) (fun hc => ?_)
    · refine WP.seq_k fun K1 hK1 => WP.region hT rfl ?_
      simp only [↓opsA, ↓stepA, ↓callA, ev, ↓e_assign, ofVal, ↓thenA]
      refine hK1 _ _ _ ?_
      clear hK1 K1
      refine WP.ret (hbad _ rfl ?_)
      have : p.length ≠ 48 := by have := of_decide_eq_true hc; omega
      unfold diskFault; rw [if_pos (.inr (.inr (List.any_eq_true.2 ⟨p, List.mem_of_getElem? hpp, by simpa using this⟩)))]
    have hp48 : p.length = 48 := by have := of_decide_eq_false hc; omega
    refine WP.skip ?_
    simp only [↓thenA, ↓blockA]
    refine hK6 _ _ _ ?_
    clear hK6 K6 hc
    refine WP.region hT rfl ?_
    simp only [↓opsA, ↓stepA, ↓callA, ev, Env.get_put_some, ↓e_move, ↓e_assign, ↓e_binOp, b_add, ofVal, ↓thenA, reduceIte, Nat.reduceEqDiff, true_and, ↓reduceIte, e3]
    refine ⟨d.pages.length - (i + 1), by omega, i + 1, rfl, hil, ?_, ?_, ?_⟩
    · intro q hq
      rcases mem_take_succ hpp hq with hq | rfl
      · exact hall q hq
      · exact hp48
    · simpa [Env.get, Env.put] using e1
    · rw [wrap_in (by omega) (by omega)]; rfl
  have hil : i = d.pages.length := by have := of_decide_eq_false hc; omega
  subst hil
  rw [List.take_of_length_le (Nat.le_refl _)] at hall
  have hany : ¬ d.pages.any (fun p => decide (p.length ≠ 48)) = true := fun hq => by
    obtain ⟨p, hp1, hp2⟩ := List.any_eq_true.1 hq
    have := hall p hp1
    simp [this] at hp2
  have hF : diskFault d = if 60 < d.loose.length then 2 else (d.loose.findSome? (looseFault d.pages.length)).getD 0 := by
    unfold diskFault; rw [if_neg (by rintro (q | q | q) <;> first | exact h1 q | exact hany q | omega)]
  refine WP.exit ?_
  simp only [↓thenA, ↓blockA, reduceIte, ↓reduceIte]
  refine hK1 _ _ _ ?_
  clear hK6 K6 hK1 K1 hc
  refine WP.seq_k fun K2 hK2 => ?_
  refine WP.seq_k fun K1 hK1 => WP.region hT rfl ?_
  simp only [↓opsA, ↓stepA, ↓e_len1, ↓callA, ev, Env.get_put_some, ↓e_binOp, ↓e_load, ↓e_fieldAddr, b_gtr, rdSl_sl, ofVal, ↓thenA, Heap.upd_get, AV.cells_agg, reduceIte, Nat.reduceEqDiff, true_and, List.getElem?_cons_zero, List.getElem?_cons_succ, List.length_cons, List.length_nil, Nat.zero_add, List.drop_zero, List.take_succ_cons, List.take_zero, Nat.lt_add_one, ↓reduceIte, Nat.le_refl, T_117, T_63, T_65, e1, pt_63, cellOk, rdSl_emp rl]
  refine hK1 _ _ _ ?_
  clear hK1 K1
  refine WP.cond (by simp only [ev, Env.get_put_some, ↓reduceIte]; rfl) (fun hc => ?_) (fun hc => ?_)
  · refine WP.seq_k fun K1 hK1 => WP.region hT rfl ?_
    simp only [↓opsA, ↓stepA, ↓callA, ev, ↓e_assign, ofVal, ↓thenA]
    refine hK1 _ _ _ ?_
    clear hK1 K1
    refine WP.ret ?_
    simp only [Env.get_put_some, ↓thenA, reduceIte, Option.map_some, ↓reduceIte, retA, resA]
    refine ⟨_, rfl, ret_p (Left.upd (Nat.le_refl _) (Left.refl hlt)) (.int _ _) ?_⟩
    rw [hF, if_pos (by have := of_decide_eq_true hc; omega)] at hk; exact hk
  have h60 : ¬ 60 < d.loose.length := by have := of_decide_eq_false hc; omega
  rw [if_neg h60] at hF
  rw [hF] at hk
  refine WP.skip (hK2 _ _ _ ?_)
  clear hK2 K2 hc
  refine WP.seq_k fun K1 hK1 => ?_
  refine WP.seq_k fun K1 hK1 => WP.region hT rfl ?_
  simp only [↓opsA, ↓stepA, ↓callA, ev, ↓e_assign, ofVal, ↓thenA]
  refine hK1 _ _ _ ?_
  clear hK1 K1
  have hnp : IntKind.i64.wrap ((ps.length : Int) - 1) = (d.pages.length : Int) - 1 := by rw [wrap_in (by omega) (by omega)]; omega
  refine WP.block (WP.loop (fun mm E h' n' => ∃ i, mm = d.loose.length - i ∧ i ≤ d.loose.length ∧ (d.loose.take i).findSome? (looseFault d.pages.length) = none ∧ h.upd n [.agg [xp, xl]] = h' ∧ n + 1 = n' ∧ E.get 1 = .ep 2 (.sl 2 n 0 1 1 true) 0 0 ∧ E.get 4 = .int .i64 i) d.loose.length ?_ ?_)
  · exact ⟨0, by omega, Nat.zero_le _, by simp, rfl, rfl, by simpa [Env.get, Env.put] using e1, rfl⟩
  clear e1 e3
  rintro mm E h' n' ⟨i, rfl, hi, hnone, rfl, rfl, e1, e4⟩
  refine WP.seq_k fun K6 hK6 => ?_
  refine WP.seq_k fun K1 hK1 => WP.region hT rfl ?_
  simp only [↓opsA, ↓stepA, ↓e_len1, ↓callA, ev, Env.get_put_some, ↓e_move, ↓e_binOp, ↓e_load, ↓e_fieldAddr, b_lss, rdSl_sl, ↓thenA, Heap.upd_get, AV.cells_agg, reduceIte, Nat.reduceEqDiff, true_and, List.getElem?_cons_zero, List.getElem?_cons_succ, List.length_cons, List.length_nil, Nat.zero_add, List.drop_zero, List.take_succ_cons, List.take_zero, Nat.lt_add_one, ↓reduceIte, Nat.le_refl, T_117, T_63, T_65, e1, e4, pt_63, cellOk, rdSl_emp rl]
  refine hK1 _ _ _ ?_
  clear hK1 K1
  refine WP.cond (by simp only [ev, Env.get_put_some, ↓reduceIte]; rfl) (fun hc => ?_) (fun hc => ?_)
  · have hil : i < d.loose.length := by have := of_decide_eq_true hc; omega
    obtain ⟨b, p, hb, hpp, hR⟩ := all2_at al hil
    obtain ⟨xd, rfl, r0, r1, hRd⟩ := hR
    have zd := one_cells hRd.isOne
    obtain ⟨bs, rb, lb⟩ := bytes_len hRd
    refine WP.skip (hK6 _ _ _ ?_)
    clear hK6 K6 hc
    refine WP.seq_k fun K6 hK6 => WP.block ?_
    refine WP.seq_k fun K7 hK7 => ?_
    have hstop : ∀ c, looseFault d.pages.length p = some c → (d.loose.findSome? (looseFault d.pages.length)).getD 0 = c := fun c hq => by
      rw [fs_hit hpp hnone hq]; rfl
    refine WP.seq_k fun K1 hK1 => WP.drawL hT hM [(0, 0), (1, 1), (2, 0), (3, 0), (4, 0), (5, 0), (6, 0), (7, 1), (8, 0), (9, 0), (10, 2), (11, 0), (12, 0), (13, 0), (14, 1), (15, 0), (16, 0), (17, 0), (18, 0), (19, 2), (20, 0), (21, 0)] [] (h.upd n [.agg [xp, xl]]) (by kernel_rfl) rfl (Heap.Sub.refl _) fun _ => ?_
    simp only [↓planL_cons, isCallV, List.getElem?_cons_succ, List.contains_nil, Bool.or_false, ↓stepA, ↓e_len1, ↓callA, Int.toNat_natCast, List.map_cons, List.map_nil, ev, Env.get_put_some, ↓e_move, ↓e_binOp, ↓e_load, ↓e_fieldAddr, ↓e_indexAddr, b_sub, rdSl_sl, ofVal, ↓thenA, Heap.upd_get, Nat.pos_of_neZero, AV.cells_agg, reduceIte, Nat.reduceEqDiff, true_and, List.getElem?_cons_zero, List.getElem?_cons_succ, List.length_cons, List.length_nil, Nat.zero_add, Nat.add_zero, List.drop_zero, List.take_succ_cons, List.take_zero, List.append_nil, Nat.lt_add_one, ↓reduceIte, Nat.le_refl, T_2, T_55, T_113, T_117, T_63, T_65, e1, e4, pt_2, pt_55, pt_63, cellOk, rdSl_emp rp, rdSl_emp rl, hb, hnp]
    refine ⟨by omega, by omega, c49 ⟨Heap.Sub.refl _, ?_⟩⟩
    by_cases hw1 : within p.page 0 ((d.pages.length : Int) - 1) = true
    · unfold planW
      simp only [↓planL_cons, isCallV, yieldA, List.getElem?_cons_succ, Option.some.injEq, List.contains_nil, Bool.or_false, ↓stepA, ↓callA, Int.toNat_natCast, List.map_cons, List.map_nil, ev, Env.get_put_some, ↓e_move, ↓e_unOp, ↓e_load, ↓e_fieldAddr, ↓e_indexAddr, u_not, rdSl_sl, ofVal, Heap.upd_get, Nat.pos_of_neZero, AV.cells_agg, reduceIte, Nat.reduceEqDiff, true_and, List.getElem?_cons_zero, List.getElem?_cons_succ, List.length_cons, List.length_nil, Nat.zero_add, List.drop_zero, List.take_succ_cons, List.take_zero, List.append_nil, Option.bind_some, Nat.lt_add_one, ↓reduceIte, Nat.le_refl, T_2, T_117, T_63, T_65, hw1, e1, e4, pt_2, pt_63, cellOk, rdSl_emp rl, hb]
      refine ⟨by omega, by omega, c49 ⟨Heap.Sub.refl _, ?_⟩⟩
      by_cases hw2 : within p.part 0 2 = true
      · unfold planW
        simp only [↓planL_nil, ↓planL_cons, yieldA, List.getElem?_cons_succ, Option.some.injEq, ↓stepA, ↓callA, ev, Env.get_put_some, ↓e_unOp, ↓e_pick, u_not, ofVal, reduceIte, Nat.reduceEqDiff, List.getElem?_cons_zero, List.getElem?_cons_succ, Option.bind_some, ↓reduceIte, hw2]
        refine hK1 _ _ _ ?_
        clear hK1 K1
        refine WP.cond (by simp only [ev, Env.get_put_some, ↓reduceIte]; rfl) (fun hc => ?_) (fun hc => ?_)
        · cases hc
        refine WP.skip (hK7 _ _ _ ?_)
        clear hK7 K7 hc
        refine WP.seq_k fun K1 hK1 => WP.region hT rfl ?_
        simp only [↓opsA, ↓stepA, ↓e_len1, ↓callA, Int.toNat_natCast, ev, Env.get_put_some, ↓e_move, ↓e_binOp, ↓e_load, ↓e_fieldAddr, ↓e_indexAddr, b_neq, rdSl_sl, ofVal, ↓thenA, Heap.upd_get, Nat.pos_of_neZero, AV.cells_agg, reduceIte, Nat.reduceEqDiff, true_and, List.getElem?_cons_zero, List.getElem?_cons_succ, List.length_cons, List.length_nil, Nat.zero_add, List.drop_zero, List.take_succ_cons, List.take_zero, Nat.lt_add_one, ↓reduceIte, Nat.le_refl, T_5, T_113, T_117, T_63, T_65, e1, e4, pt_113, pt_63, cellOk, rdSl_emp rl, hb, rdSl_emp rb]
        refine ⟨by omega, by omega, hK1 _ _ _ ?_⟩
        clear hK1 K1
        refine WP.cond (by simp only [ev, Env.get_put_some, ↓reduceIte]; rfl) (fun hc => ?_) (fun hc => ?_)
        · refine WP.seq_k fun K1 hK1 => WP.region hT rfl ?_
          simp only [↓opsA, ↓stepA, ↓callA, ev, ↓e_assign, ofVal, ↓thenA]
          refine hK1 _ _ _ ?_
          clear hK1 K1
          refine WP.ret ?_
          simp only [Env.get_put_some, ↓thenA, ↓blockA, reduceIte, Option.map_some, ↓reduceIte, retA, resA]
          refine ⟨_, rfl, ret_p (Left.upd (Nat.le_refl _) (Left.refl hlt)) (.int _ _) ?_⟩
          rw [hstop 1 (by unfold looseFault; rw [if_neg (by simp [hw1, hw2]), if_pos (by have := of_decide_eq_true hc; omega)])] at hk; exact hk
        have h16 : p.data.length = 16 := by have := of_decide_eq_false hc; omega
        refine WP.skip ?_
        simp only [↓thenA, ↓blockA]
        refine hK6 _ _ _ ?_
        clear hK6 K6 hc
        refine WP.region hT rfl ?_
        simp only [↓opsA, ↓stepA, ↓callA, ev, Env.get_put_some, ↓e_move, ↓e_assign, ↓e_binOp, b_add, ofVal, ↓thenA, reduceIte, Nat.reduceEqDiff, true_and, ↓reduceIte, e4]
        refine ⟨d.loose.length - (i + 1), by omega, i + 1, rfl, hil, fs_snoc hpp hnone (by unfold looseFault; rw [if_neg (by simp [hw1, hw2]), if_neg (by simp [h16])]), ?_, ?_⟩
        · simpa [Env.get, Env.put] using e1
        · rw [wrap_in (by omega) (by omega)]; rfl
      · have hw2' : within p.part 0 2 = false := by simpa using hw2
        unfold planW
        simp only [↓planL_nil, ↓planL_cons, yieldA, List.getElem?_cons_succ, Option.some.injEq, ↓stepA, ↓callA, ev, Env.get_put_some, ↓e_unOp, ↓e_pick, u_not, ofVal, reduceIte, Nat.reduceEqDiff, List.getElem?_cons_zero, List.getElem?_cons_succ, Option.bind_some, ↓reduceIte, hw2']
        refine hK1 _ _ _ ?_
        clear hK1 K1
        refine WP.cond (by simp only [ev, Env.get_put_some, ↓reduceIte]; rfl) (fun hc => ?_) (fun hc => ?_)
        · refine WP.seq_k fun K1 hK1 => WP.region hT rfl ?_
          simp only [↓opsA, ↓stepA, ↓callA, ev, ↓e_assign, ofVal, ↓thenA]
          refine hK1 _ _ _ ?_
          clear hK1 K1
          refine WP.ret ?_
          simp only [Env.get_put_some, ↓thenA, ↓blockA, reduceIte, Option.map_some, ↓reduceIte, retA, resA]
          refine ⟨_, rfl, ret_p (Left.upd (Nat.le_refl _) (Left.refl hlt)) (.int _ _) ?_⟩
          rw [hstop 3 (by unfold looseFault; rw [if_pos (.inr hw2')])] at hk; exact hk
        · cases hc
    · have hw1' : within p.page 0 ((d.pages.length : Int) - 1) = false := by simpa using hw1
      unfold planW
      simp only [↓planL_cons, isCallV, yieldA, List.getElem?_cons_succ, Option.some.injEq, Bool.true_eq_false, List.contains_nil, Bool.or_false, ↓stepA, ↓callA, Int.toNat_natCast, List.map_cons, List.map_nil, ev, Env.get_put_some, ↓e_move, ↓e_unOp, ↓e_load, ↓e_fieldAddr, ↓e_indexAddr, u_not, rdSl_sl, ofVal, Heap.upd_get, Nat.pos_of_neZero, AV.cells_agg, reduceIte, Nat.reduceEqDiff, true_and, List.getElem?_cons_zero, List.getElem?_cons_succ, List.length_cons, List.length_nil, Nat.zero_add, List.drop_zero, List.take_succ_cons, List.take_zero, List.append_nil, Option.bind_some, Nat.lt_add_one, ↓reduceIte, Nat.le_refl, T_2, T_117, T_63, T_65, hw1', Bool.not_false, Bool.true_eq_false, e1, e4, pt_2, pt_63, cellOk, rdSl_emp rl, hb]
      refine ⟨Heap.Sub.refl _, ?_⟩
      unfold planW
      simp only [↓planL_nil, ↓planL_cons, yieldA, List.getElem?_cons_succ, Option.some.injEq, Bool.true_eq_false, ↓stepA, ↓callA, ev, Env.get_put_some, ↓e_pick, ofVal, reduceIte, Nat.reduceEqDiff, List.getElem?_cons_zero, List.getElem?_cons_succ, Option.bind_some, ↓reduceIte, Bool.true_eq_false]
      refine hK1 _ _ _ ?_
      clear hK1 K1
      refine WP.cond (by simp only [ev, Env.get_put_some, ↓reduceIte]; rfl) (fun hc => ?_) (fun hc => ?_)
      · refine WP.seq_k fun K1 hK1 => WP.region hT rfl ?_
        simp only [↓opsA, ↓stepA, ↓callA, ev, ↓e_assign, ofVal, ↓thenA]
        refine hK1 _ _ _ ?_
        clear hK1 K1
        refine WP.ret ?_
        simp only [Env.get_put_some, ↓thenA, ↓blockA, reduceIte, Option.map_some, ↓reduceIte, retA, resA]
        refine ⟨_, rfl, ret_p (Left.upd (Nat.le_refl _) (Left.refl hlt)) (.int _ _) ?_⟩
        rw [hstop 3 (by unfold looseFault; rw [if_pos (.inl hw1')])] at hk; exact hk
      · cases hc
  · have hil : i = d.loose.length := by have := of_decide_eq_false hc; omega
    subst hil
    rw [List.take_of_length_le (Nat.le_refl _)] at hnone
    refine WP.exit ?_
    simp only [↓thenA, ↓blockA, reduceIte, ↓reduceIte]
    refine hK1 _ _ _ ?_
    clear hK6 K6 hK1 K1 hc
    refine WP.seq_k fun K1 hK1 => WP.region hT rfl ?_
    simp only [↓opsA, ↓stepA, ↓callA, ev, ↓e_assign, ofVal, ↓thenA]
    refine hK1 _ _ _ ?_
    clear hK1 K1
    refine WP.ret ?_
    simp only [Env.get_put_some, reduceIte, Option.map_some, ↓reduceIte, retA, resA]
    refine ⟨_, rfl, ret_p (Left.upd (Nat.le_refl _) (Left.refl hlt)) (.int _ _) ?_⟩
    rw [hnone] at hk; exact hk
end
end Go.Proofs.Ytplkjfnjdekgpaa
