import Derived.Test.YtcngfjmfgeckmaaZ14j
set_option linter.unusedSimpArgs false
set_option linter.unusedVariables false
set_option linter.unusedSectionVars false
section
namespace Go.Proofs.Ytcngfjmfgeckmaa
open Go
set_option linter.unusedSimpArgs false
set_option linter.unusedVariables false
set_option maxRecDepth 20000
attribute [local irreducible] IntKind.wrap bitA
section
variable {h : Heap} {n : Nat} {K : AV → Heap → Nat → Prop}
set_option maxHeartbeats 2000000 in
theorem w_s_l13Sound {x0 : AV} {v0 : List RecD} (h0 : (SlH h n 8 RecR) x0 v0) {fu : Nat} {r : Int} (hm : m_s_l13Sound fu v0 = some r) (hk : ∀ y, Int64R y r → K y h n) : CA Try.prog 51 [x0] h n K := by
 refine CA.enterQ (N := 60) (rs := [.tmp 2]) hT Try.call51 Try.func51 rfl rfl (of_decide_eq_true rfl) rfl fun hlt => ?_
 unfold m_s_l13Sound at hm
 obtain ⟨es11, q12, a13, l14, b15, c16, g17⟩ := slH_open h0
 refine WQ.sr hT rfl fun K18 hK18 => ?_
 simp only [go_sem, ↓reduceIte, reduceCtorEq, Nat.reduceEqDiff, Nat.reduceLT, Nat.reduceLeDiff, Nat.reduceAdd, Nat.reduceMul, Int.reduceLE]
 refine kn hK18 ?_
 clear hK18 K18
 refine WQ.seq_k fun K19 hK19 => ?_
 refine WQ.sr hT rfl fun K23 hK23 => ?_
 simp only [go_sem, ↓reduceIte, reduceCtorEq, Nat.reduceEqDiff, Nat.reduceLT, Nat.reduceLeDiff, Nat.reduceAdd, Nat.reduceMul, Int.reduceLE, rdSl_hp q12 (slH_lt h0), l14, c16, g17]
 refine kn hK23 ?_
 clear hK23 K23
 refine WQ.cond (t := decide (400 < (v0.length : Int))) ?_ (fun z24 => ?_) (fun z24 => ?_)
 kernel_rfl
 replace hm := ifT z24 hm
 refine WQ.sr hT rfl fun K25 hK25 => ?_
 simp only [go_sem, ↓reduceIte, reduceCtorEq, Nat.reduceEqDiff, Nat.reduceLT, Nat.reduceLeDiff, Nat.reduceAdd, Nat.reduceMul, Int.reduceLE]
 refine kn hK25 ?_
 clear hK25 K25
 refine retN (t := 2) (js := []) (u := (.int .i64 2)) (v := (.int .i64 2)) hlt ?_ (.keep _ (.int _ _)) (.int _ _) rfl ?_
 kernel_rfl
 exact hkr hk (m := 2) hm (int64R (i64c (a := 2) rfl))
 replace hm := ifF z24 hm
 refine WQ.skip ?_
 simp only [go_sem, ↓reduceIte, reduceCtorEq, Nat.reduceEqDiff, Nat.reduceLT, Nat.reduceLeDiff, Nat.reduceAdd, Nat.reduceMul, Int.reduceLE]
 refine kn hK19 ?_
 clear hK19 K19
 refine WQ.sr hT rfl fun K26 hK26 => ?_
 simp only [go_sem, ↓reduceIte, reduceCtorEq, Nat.reduceEqDiff, Nat.reduceLT, Nat.reduceLeDiff, Nat.reduceAdd, Nat.reduceMul, Int.reduceLE]
 refine kn hK26 ?_
 clear hK26 K26
 refine WQ.seq_k fun K27 hK27 => ?_
 have j2563 : ∀ (E' : Env) (h' : Heap) (n' : Nat), Norm n h E' h' n' (envZ [] []) (hp h n []) n → (m_s_l13Sound_a1 fu) = some r → K27 E' h' n' := by
  intro E2565 H2566 n2567 N2564 hm
  refine hK27 _ _ _ _ _ _ N2564 ?_
  clear N2564 hK27 K27
  unfold m_s_l13Sound_a1 at hm
  refine WQ.sr hT rfl fun K2568 hK2568 => ?_
  simp only [go_sem, ↓reduceIte, reduceCtorEq, Nat.reduceEqDiff, Nat.reduceLT, Nat.reduceLeDiff, Nat.reduceAdd, Nat.reduceMul, Int.reduceLE]
  refine kn hK2568 ?_
  clear hK2568 K2568
  refine retN (t := 2) (js := []) (u := (.int .i64 0)) (v := (.int .i64 0)) hlt ?_ (.keep _ (.int _ _)) (.int _ _) rfl ?_
  kernel_rfl
  exact hkr hk (m := 0) hm (int64R (i64c (a := 0) rfl))
 clear hK27
 refine WQ.sr hT rfl fun K2569 hK2569 => ?_
 simp only [go_sem, ↓reduceIte, reduceCtorEq, Nat.reduceEqDiff, Nat.reduceLT, Nat.reduceLeDiff, Nat.reduceAdd, Nat.reduceMul, Int.reduceLE]
 refine kn hK2569 ?_
 clear hK2569 K2569
 refine WQ.block ?_
 obtain ⟨q4221, hq4222, hm⟩ := obs hm
 refine WQ.norm ?_ (WQ.iter (step := (fun (s : (List Int) × (List Int) × (List Int) × (List HeldD) × (List CellD) × Int) => m_s_l13Sound_a6 fu v0 s.1 s.2.1 s.2.2.1 s.2.2.2.1 s.2.2.2.2.1 s.2.2.2.2.2)) (fun (s : (List Int) × (List Int) × (List Int) × (List HeldD) × (List CellD) × Int) E' h' n' => ∃ (x4199 : AV), ∃ (rw4200 : Option (List AV)), ∃ (x4203 : AV), ∃ (rw4204 : Option (List AV)), ∃ (x4207 : AV), ∃ (rw4208 : Option (List AV)), ∃ (x4211 : AV), ∃ (rw4212 : Option (List AV)), ∃ (x4215 : AV), NOwn n 1 1 Int64R x4199 rw4200 s.1 ∧ NOwn n 2 1 Int64R x4203 rw4204 s.2.1 ∧ NOwn n 3 1 Int64R x4207 rw4208 s.2.2.1 ∧ NOwn n 4 2 HeldR x4211 rw4212 s.2.2.2.1 ∧ (SlR 2 CellR) x4215 s.2.2.2.2.1 ∧ I64 s.2.2.2.2.2 ∧ (envZ [0, 3, 4] [x0, (.ep 5 (.sl 5 n 0 1 1 true) 0 0), (.int .i64 s.2.2.2.2.2)]) = E' ∧ (hp h n [some [(.agg [x4215, x4199, x4203, x4207, x4211])], rw4200, rw4204, rw4208, rw4212]) = h' ∧ (n + 5) = n') hq4222 ⟨.nils, none, .nils, none, .nils, none, .nils, none, .nils, (nown_nil rfl), (nown_nil rfl), (nown_nil rfl), (nown_nil rfl), slr_nil, (i64c (a := 0) rfl), rfl, rfl, rfl⟩ ?_)
 refine Norm.mkL (js := [0, 1001, 1002, 1003, 1004]) (m := 5) [0, 3, 4] [x0, (.ep 5 (.sl 5 n 0 1 1 true) 0 0), (.int .i64 0)] (of_decide_eq_true rfl) ?_ (RnL.cons (.keep _ (slH_lt h0)) (RnL.cons (Rn.ptr (js := [0, 1001, 1002, 1003, 1004]) 0 0) (RnL.cons (.keep _ (.int _ _)) RnL.nil))) (RowsR.row 0 _ _ _ _ hp_get0 (RnL.cons (.keep _ (sim_lt _ _ _ (show SimR (.agg [.nils, .nils, .nils, .nils, .nils]) (SimD.mk ([]) ([]) ([]) ([]) ([])) from ⟨.nils, .nils, .nils, .nils, .nils, rfl, slr_nil, slr_nil, slr_nil, slr_nil, slr_nil⟩))) RnL.nil) (RowsR.opt 1001 none _ _ (.inl rfl) (fun _ h => nomatch h) (RowsR.opt 1002 none _ _ (.inl rfl) (fun _ h => nomatch h) (RowsR.opt 1003 none _ _ (.inl rfl) (fun _ h => nomatch h) (RowsR.opt 1004 none _ _ (.inl rfl) (fun _ h => nomatch h) RowsR.nil))))) rfl
 kernel_rfl
 rintro ⟨v4201, v4205, v4209, v4213, v4216, v4218⟩ E' h' n' o4220 ⟨x4199, rw4200, x4203, rw4204, x4207, rw4208, x4211, rw4212, x4215, h4202, h4206, h4210, h4214, h4217, i4219, rfl, rfl, rfl⟩ ho4224 hf4223
 replace h4202 : NOwn n 1 1 Int64R x4199 rw4200 v4201 := h4202
 replace h4206 : NOwn n 2 1 Int64R x4203 rw4204 v4205 := h4206
 replace h4210 : NOwn n 3 1 Int64R x4207 rw4208 v4209 := h4210
 replace h4214 : NOwn n 4 2 HeldR x4211 rw4212 v4213 := h4214
 replace h4217 : (SlR 2 CellR) x4215 v4216 := h4217
 replace i4219 : I64 v4218 := i4219
 replace ho4224 : m_s_l13Sound_a6 fu v0 v4201 v4205 v4209 v4213 v4216 v4218 = some o4220 := ho4224
 unfold m_s_l13Sound_a6 at ho4224
 show WQ Try.prog _ n h _ _ (envZ [0, 3, 4] [x0, (.ep 5 (.sl 5 n 0 1 1 true) 0 0), (.int .i64 v4218)]) (hp h n [some [(.agg [x4215, x4199, x4203, x4207, x4211])], rw4200, rw4204, rw4208, rw4212]) (n + 5)
 refine WQ.seq_k fun K4225 hK4225 => ?_
 refine WQ.sr hT rfl fun K4228 hK4228 => ?_
 simp only [go_sem, ↓reduceIte, reduceCtorEq, Nat.reduceEqDiff, Nat.reduceLT, Nat.reduceLeDiff, Nat.reduceAdd, Nat.reduceMul, Int.reduceLE, rdSl_hp q12 (slH_lt h0), l14, c16, g17]
 refine kn hK4228 ?_
 clear hK4228 K4228
 refine WQ.cond (t := decide (v4218 < (v0.length : Int))) ?_ (fun z4229 => ?_) (fun z4229 => ?_)
 kernel_rfl
 replace ho4224 := ifT z4229 ho4224
 refine WQ.skip ?_
 simp only [go_sem, ↓reduceIte, reduceCtorEq, Nat.reduceEqDiff, Nat.reduceLT, Nat.reduceLeDiff, Nat.reduceAdd, Nat.reduceMul, Int.reduceLE]
 refine kn hK4225 ?_
 clear hK4225 K4225
 refine WQ.seq_k fun K4230 hK4230 => ?_
 have j4677 : ∀ (E' : Env) (h' : Heap) (n' : Nat) (x4658 : AV) (rw4659 : Option (List AV)) (v4660 : List Int) (h4661 : NOwn n 1 1 Int64R x4658 rw4659 v4660) (x4662 : AV) (rw4663 : Option (List AV)) (v4664 : List Int) (h4665 : NOwn n 2 1 Int64R x4662 rw4663 v4664) (x4666 : AV) (rw4667 : Option (List AV)) (v4668 : List Int) (h4669 : NOwn n 3 1 Int64R x4666 rw4667 v4668) (x4670 : AV) (rw4671 : Option (List AV)) (v4672 : List HeldD) (h4673 : NOwn n 4 2 HeldR x4670 rw4671 v4672) (x4674 : AV) (v4675 : List CellD) (h4676 : (SlR 2 CellR) x4674 v4675), Norm n h E' h' n' (envZ [0, 3, 4] [x0, (.ep 5 (.sl 5 n 0 1 1 true) 0 0), (.int .i64 v4218)]) (hp h n [some [(.agg [x4674, x4658, x4662, x4666, x4670])], rw4659, rw4663, rw4667, rw4671]) (n + 5) → (m_s_l13Sound_a2 fu v4218 v4660 v4664 v4668 v4672 v4675) = some o4220 → K4230 E' h' n' := by
  intro E4679 H4680 n4681 x4658 rw4659 v4660 h4661 x4662 rw4663 v4664 h4665 x4666 rw4667 v4668 h4669 x4670 rw4671 v4672 h4673 x4674 v4675 h4676 N4678 ho4224
  refine hK4230 _ _ _ _ _ _ N4678 ?_
  clear N4678 hK4230 K4230
  unfold m_s_l13Sound_a2 at ho4224
  refine WQ.region hT rfl ?_
  simp only [go_sem, ↓reduceIte, reduceCtorEq, Nat.reduceEqDiff, Nat.reduceLT, Nat.reduceLeDiff, Nat.reduceAdd, Nat.reduceMul, Int.reduceLE]
  refine ⟨_, _, _, _, (Option.some.inj ho4224).symm, ?_, x4658, rw4659, x4662, rw4663, x4666, rw4667, x4670, rw4671, x4674, h4661, h4665, h4669, h4673, h4676, (rng_wrap64 _), rfl, rfl, rfl⟩
  refine Norm.mkL (js := [0, 1, 2, 3, 4]) (m := 5) [0, 3, 4] [x0, (.ep 5 (.sl 5 n 0 1 1 true) 0 0), (.int .i64 (IntKind.i64.wrap (v4218 + 1)))] (of_decide_eq_true rfl) ?_ (RnL.cons (.keep _ (slH_lt h0)) (RnL.cons (Rn.ptr (js := [0, 1, 2, 3, 4]) 0 0) (RnL.cons (.keep _ (.int _ _)) RnL.nil))) (RowsR.row 0 _ _ _ _ hp_get0 (RnL.cons (Rn.agg' (RnL.cons (.keep _ (slr_ltA _ _ _ h4676)) (RnL.cons (nown_rn h4661 rfl) (RnL.cons (nown_rn h4665 rfl) (RnL.cons (nown_rn h4669 rfl) (RnL.cons (nown_rn h4673 rfl) RnL.nil)))))) RnL.nil) (RowsR.opt 1 _ _ _ (.inr (hp_get 1)) (nown_rows h4661 int64_lt) (RowsR.opt 2 _ _ _ (.inr (hp_get 2)) (nown_rows h4665 int64_lt) (RowsR.opt 3 _ _ _ (.inr (hp_get 3)) (nown_rows h4669 int64_lt) (RowsR.opt 4 _ _ _ (.inr (hp_get 4)) (nown_rows h4673 tyHeld_140.lt) RowsR.nil))))) rfl
  kernel_rfl
 clear hK4230
 refine WQ.block ?_
 refine WQ.seq_k fun K4682 hK4682 => ?_
 obtain ⟨a4696, q4697, ho4224⟩ := obs ho4224
 obtain ⟨p4698, p4699, e4700, p4701, h4702⟩ := at_ok q4697 a13
 have gh4702 := h4702
 obtain ⟨rfl, i4703, i4704, i4705, i4706, i4707, i4708⟩ := h4702
 refine WQ.region hT rfl ?_
 simp only [go_sem, ↓reduceIte, reduceCtorEq, Nat.reduceEqDiff, Nat.reduceLT, Nat.reduceLeDiff, Nat.reduceAdd, Nat.reduceMul, Int.reduceLE, rdSl_hp q12 (slH_lt h0), l14, c16, g17, p4698, p4699, p4701]
 refine kn hK4682 ?_
 clear hK4682 K4682
 refine WQ.seq_k fun K4709 hK4709 => ?_
 refine WQ.sr hT rfl fun K4714 hK4714 => ?_
 simp only [go_sem, ↓reduceIte, reduceCtorEq, Nat.reduceEqDiff, Nat.reduceLT, Nat.reduceLeDiff, Nat.reduceAdd, Nat.reduceMul, Int.reduceLE]
 refine c92 gh4702 ?_
 unfold sealK; simp only [go_sem, ↓reduceIte, reduceCtorEq, Nat.reduceEqDiff, Nat.reduceLT, Nat.reduceLeDiff, Nat.reduceAdd, Nat.reduceMul, Int.reduceLE]
 refine kn hK4714 ?_
 clear hK4714 K4714
 refine WQ.sr hT rfl fun K4715 hK4715 => ?_
 simp only [go_sem, ↓reduceIte, reduceCtorEq, Nat.reduceEqDiff, Nat.reduceLT, Nat.reduceLeDiff, Nat.reduceAdd, Nat.reduceMul, Int.reduceLE]
 refine kn hK4715 ?_
 clear hK4715 K4715
 refine WQ.cond (t := decide (recFault a4696 ≠ 0)) ?_ (fun z4716 => ?_) (fun z4716 => ?_)
 kernel_rfl
 replace ho4224 := ifT z4716 ho4224
 refine WQ.sr hT rfl fun K4717 hK4717 => ?_
 simp only [go_sem, ↓reduceIte, reduceCtorEq, Nat.reduceEqDiff, Nat.reduceLT, Nat.reduceLeDiff, Nat.reduceAdd, Nat.reduceMul, Int.reduceLE]
 refine kn hK4717 ?_
 clear hK4717 K4717
 have e4718 := hf4223 _ (Option.some.inj ho4224).symm
 rw [← e4718] at hm
 refine retN (t := 2) (js := []) (u := (.int .i64 (recFault a4696))) (v := (.int .i64 (recFault a4696))) hlt ?_ (.keep _ (.int _ _)) (.int _ _) rfl ?_
 kernel_rfl
 exact hkr hk (m := (recFault a4696)) hm (int64R (recFault_rng a4696))
 replace ho4224 := ifF z4716 ho4224
 refine WQ.skip ?_
 simp only [go_sem, ↓reduceIte, reduceCtorEq, Nat.reduceEqDiff, Nat.reduceLT, Nat.reduceLeDiff, Nat.reduceAdd, Nat.reduceMul, Int.reduceLE]
 refine kn hK4709 ?_
 clear hK4709 K4709
 refine WQ.seq_k fun K4719 hK4719 => ?_
 obtain ⟨v4741, q4740, ho4224⟩ := obs ho4224
 refine WQ.sr hT rfl fun K4734 hK4734 => ?_
 simp only [go_sem, ↓reduceIte, reduceCtorEq, Nat.reduceEqDiff, Nat.reduceLT, Nat.reduceLeDiff, Nat.reduceAdd, Nat.reduceMul, Int.reduceLE, nown_rd h4202, nown_len h4202, nown_cells h4202, nown_good h4202, nown_rd h4206, nown_len h4206, nown_cells h4206, nown_good h4206, nown_rd h4210, nown_len h4210, nown_cells h4210, nown_good h4210, nown_rd h4214, nown_len h4214, nown_cells h4214, nown_good h4214]
 refine w_s_l13Known (⟨x4215, x4199, x4203, x4207, x4211, rfl, (SlR.toH h4217), (nown_H (j := 1) (m := 6) h4202 (hp_get 1) rfl), (nown_H (j := 2) (m := 6) h4206 (hp_get 2) rfl), (nown_H (j := 3) (m := 6) h4210 (hp_get 3) rfl), (nown_H (j := 4) (m := 6) h4214 (hp_get 4) rfl)⟩) (lt_row (j := 0) (m := 6) rfl) hp_get0 gh4702 q4740 (fun y4742 h4743 => ?_)
 obtain ⟨rfl, i4744⟩ := h4743
 unfold sealK; simp only [go_sem, ↓reduceIte, reduceCtorEq, Nat.reduceEqDiff, Nat.reduceLT, Nat.reduceLeDiff, Nat.reduceAdd, Nat.reduceMul, Int.reduceLE, nown_rd h4202, nown_len h4202, nown_cells h4202, nown_good h4202, nown_rd h4206, nown_len h4206, nown_cells h4206, nown_good h4206, nown_rd h4210, nown_len h4210, nown_cells h4210, nown_good h4210, nown_rd h4214, nown_len h4214, nown_cells h4214, nown_good h4214]
 refine kn hK4734 ?_
 clear hK4734 K4734
 refine WQ.sr hT rfl fun K4745 hK4745 => ?_
 simp only [go_sem, ↓reduceIte, reduceCtorEq, Nat.reduceEqDiff, Nat.reduceLT, Nat.reduceLeDiff, Nat.reduceAdd, Nat.reduceMul, Int.reduceLE]
 refine kn hK4745 ?_
 clear hK4745 K4745
 refine WQ.cond (t := decide (v4741 ≠ 0)) ?_ (fun z4746 => ?_) (fun z4746 => ?_)
 kernel_rfl
 replace ho4224 := ifT z4746 ho4224
 refine WQ.sr hT rfl fun K4747 hK4747 => ?_
 simp only [go_sem, ↓reduceIte, reduceCtorEq, Nat.reduceEqDiff, Nat.reduceLT, Nat.reduceLeDiff, Nat.reduceAdd, Nat.reduceMul, Int.reduceLE]
 refine kn hK4747 ?_
 clear hK4747 K4747
 have e4748 := hf4223 _ (Option.some.inj ho4224).symm
 rw [← e4748] at hm
 refine retN (t := 2) (js := []) (u := (.int .i64 v4741)) (v := (.int .i64 v4741)) hlt ?_ (.keep _ (.int _ _)) (.int _ _) rfl ?_
 kernel_rfl
 exact hkr hk (m := v4741) hm (int64R i4744)
 replace ho4224 := ifF z4746 ho4224
 refine WQ.skip ?_
 simp only [go_sem, ↓reduceIte, reduceCtorEq, Nat.reduceEqDiff, Nat.reduceLT, Nat.reduceLeDiff, Nat.reduceAdd, Nat.reduceMul, Int.reduceLE]
 refine kn hK4719 ?_
 clear hK4719 K4719
 refine WQ.seq_k fun K4749 hK4749 => ?_
 have j4768 : ∀ (E' : Env) (h' : Heap) (n' : Nat) (x4751 : AV) (rw4752 : Option (List AV)) (v4753 : List Int) (h4754 : NOwn n 1 1 Int64R x4751 rw4752 v4753) (x4755 : AV) (rw4756 : Option (List AV)) (v4757 : List Int) (h4758 : NOwn n 2 1 Int64R x4755 rw4756 v4757) (x4759 : AV) (rw4760 : Option (List AV)) (v4761 : List Int) (h4762 : NOwn n 3 1 Int64R x4759 rw4760 v4761) (x4763 : AV) (rw4764 : Option (List AV)) (v4765 : List HeldD) (h4766 : NOwn n 4 2 HeldR x4763 rw4764 v4765) (v4767 : Bool), Norm n h E' h' n' (envZ [0, 3, 4, 5, 8] [x0, (.ep 5 (.sl 5 n 0 1 1 true) 0 0), (.int .i64 v4218), (.ep 8 (.sl 8 (n + 5) 0 1 1 true) 0 0), (.bool v4767)]) (hp h n [some [(.agg [x4215, x4751, x4755, x4759, x4763])], rw4752, rw4756, rw4760, rw4764, some [(.agg [(.int .i64 a4696.kind), (.int .i64 a4696.txn), (.int .i64 a4696.key), (.bool a4696.had), (.int .i64 a4696.old), (.bool a4696.has), (.int .i64 a4696.new), (.int .i64 a4696.back)])]]) (n + 6) → (m_s_l13Sound_a5 fu v0 v4216 v4218 a4696 v4753 v4757 v4761 v4765 v4767) = some o4220 → K4749 E' h' n' := by
  intro E4770 H4771 n4772 x4751 rw4752 v4753 h4754 x4755 rw4756 v4757 h4758 x4759 rw4760 v4761 h4762 x4763 rw4764 v4765 h4766 v4767 N4769 ho4224
  refine hK4749 _ _ _ _ _ _ N4769 ?_
  clear N4769 hK4749 K4749
  unfold m_s_l13Sound_a5 at ho4224
  refine WQ.seq_k fun K4773 hK4773 => ?_
  refine WQ.seq_k fun K4809 hK4809 => ?_
  have j4832 : ∀ (E' : Env) (h' : Heap) (n' : Nat) (x4815 : AV) (rw4816 : Option (List AV)) (v4817 : List Int) (h4818 : NOwn n 1 1 Int64R x4815 rw4816 v4817) (x4819 : AV) (rw4820 : Option (List AV)) (v4821 : List Int) (h4822 : NOwn n 2 1 Int64R x4819 rw4820 v4821) (x4823 : AV) (rw4824 : Option (List AV)) (v4825 : List Int) (h4826 : NOwn n 3 1 Int64R x4823 rw4824 v4825) (x4827 : AV) (rw4828 : Option (List AV)) (v4829 : List HeldD) (h4830 : NOwn n 4 2 HeldR x4827 rw4828 v4829) (v4831 : Bool), Norm n h E' h' n' (envZ [0, 3, 4, 5, 46] [x0, (.ep 5 (.sl 5 n 0 1 1 true) 0 0), (.int .i64 v4218), (.ep 8 (.sl 8 (n + 5) 0 1 1 true) 0 0), (.bool v4831)]) (hp h n [some [(.agg [x4215, x4815, x4819, x4823, x4827])], rw4816, rw4820, rw4824, rw4828, some [(.agg [(.int .i64 a4696.kind), (.int .i64 a4696.txn), (.int .i64 a4696.key), (.bool a4696.had), (.int .i64 a4696.old), (.bool a4696.has), (.int .i64 a4696.new), (.int .i64 a4696.back)])]]) (n + 6) → (m_s_l13Sound_a4 fu v0 v4216 v4218 a4696 v4817 v4821 v4825 v4829 v4831) = some o4220 → K4809 E' h' n' := by
   intro E4834 H4835 n4836 x4815 rw4816 v4817 h4818 x4819 rw4820 v4821 h4822 x4823 rw4824 v4825 h4826 x4827 rw4828 v4829 h4830 v4831 N4833 ho4224
   refine hK4809 _ _ _ _ _ _ N4833 ?_
   clear N4833 hK4809 K4809
   unfold m_s_l13Sound_a4 at ho4224
   refine WQ.cond (t := v4831) ?_ (fun z4837 => ?_) (fun z4837 => ?_)
   kernel_rfl
   replace ho4224 := ifT z4837 ho4224
   refine WQ.sr hT rfl fun K4838 hK4838 => ?_
   simp only [go_sem, ↓reduceIte, reduceCtorEq, Nat.reduceEqDiff, Nat.reduceLT, Nat.reduceLeDiff, Nat.reduceAdd, Nat.reduceMul, Int.reduceLE]
   refine kn hK4838 ?_
   clear hK4838 K4838
   have e4839 := hf4223 _ (Option.some.inj ho4224).symm
   rw [← e4839] at hm
   refine retN (t := 2) (js := []) (u := (.int .i64 1)) (v := (.int .i64 1)) hlt ?_ (.keep _ (.int _ _)) (.int _ _) rfl ?_
   kernel_rfl
   exact hkr hk (m := 1) hm (int64R (i64c (a := 1) rfl))
   replace ho4224 := ifF z4837 ho4224
   refine WQ.skip ?_
   simp only [go_sem, ↓reduceIte, reduceCtorEq, Nat.reduceEqDiff, Nat.reduceLT, Nat.reduceLeDiff, Nat.reduceAdd, Nat.reduceMul, Int.reduceLE]
   refine kn hK4773 ?_
   clear hK4773 K4773
   refine WQ.seq_k fun K4840 hK4840 => ?_
   refine WQ.seq_k fun K4876 hK4876 => ?_
   have j4899 : ∀ (E' : Env) (h' : Heap) (n' : Nat) (x4882 : AV) (rw4883 : Option (List AV)) (v4884 : List Int) (h4885 : NOwn n 1 1 Int64R x4882 rw4883 v4884) (x4886 : AV) (rw4887 : Option (List AV)) (v4888 : List Int) (h4889 : NOwn n 2 1 Int64R x4886 rw4887 v4888) (x4890 : AV) (rw4891 : Option (List AV)) (v4892 : List Int) (h4893 : NOwn n 3 1 Int64R x4890 rw4891 v4892) (x4894 : AV) (rw4895 : Option (List AV)) (v4896 : List HeldD) (h4897 : NOwn n 4 2 HeldR x4894 rw4895 v4896) (v4898 : Bool), Norm n h E' h' n' (envZ [0, 3, 4, 5, 53] [x0, (.ep 5 (.sl 5 n 0 1 1 true) 0 0), (.int .i64 v4218), (.ep 8 (.sl 8 (n + 5) 0 1 1 true) 0 0), (.bool v4898)]) (hp h n [some [(.agg [x4215, x4882, x4886, x4890, x4894])], rw4883, rw4887, rw4891, rw4895, some [(.agg [(.int .i64 a4696.kind), (.int .i64 a4696.txn), (.int .i64 a4696.key), (.bool a4696.had), (.int .i64 a4696.old), (.bool a4696.has), (.int .i64 a4696.new), (.int .i64 a4696.back)])]]) (n + 6) → (m_s_l13Sound_a3 fu v0 v4216 v4218 a4696 v4884 v4888 v4892 v4896 v4898) = some o4220 → K4876 E' h' n' := by
    intro E4901 H4902 n4903 x4882 rw4883 v4884 h4885 x4886 rw4887 v4888 h4889 x4890 rw4891 v4892 h4893 x4894 rw4895 v4896 h4897 v4898 N4900 ho4224
    refine hK4876 _ _ _ _ _ _ N4900 ?_
    clear N4900 hK4876 K4876
    unfold m_s_l13Sound_a3 at ho4224
    refine WQ.cond (t := v4898) ?_ (fun z4904 => ?_) (fun z4904 => ?_)
    kernel_rfl
    replace ho4224 := ifT z4904 ho4224
    refine WQ.sr hT rfl fun K4905 hK4905 => ?_
    simp only [go_sem, ↓reduceIte, reduceCtorEq, Nat.reduceEqDiff, Nat.reduceLT, Nat.reduceLeDiff, Nat.reduceAdd, Nat.reduceMul, Int.reduceLE]
    refine kn hK4905 ?_
    clear hK4905 K4905
    have e4906 := hf4223 _ (Option.some.inj ho4224).symm
    rw [← e4906] at hm
    refine retN (t := 2) (js := []) (u := (.int .i64 9)) (v := (.int .i64 9)) hlt ?_ (.keep _ (.int _ _)) (.int _ _) rfl ?_
    kernel_rfl
    exact hkr hk (m := 9) hm (int64R (i64c (a := 9) rfl))
    replace ho4224 := ifF z4904 ho4224
    refine WQ.skip ?_
    simp only [go_sem, ↓reduceIte, reduceCtorEq, Nat.reduceEqDiff, Nat.reduceLT, Nat.reduceLeDiff, Nat.reduceAdd, Nat.reduceMul, Int.reduceLE]
    refine kn hK4840 ?_
    clear hK4840 K4840
    refine WQ.seq_k fun K4907 hK4907 => ?_
    obtain ⟨v4925, q4924, ho4224⟩ := obs ho4224
    refine WQ.sr hT rfl fun K4919 hK4919 => ?_
    simp only [go_sem, ↓reduceIte, reduceCtorEq, Nat.reduceEqDiff, Nat.reduceLT, Nat.reduceLeDiff, Nat.reduceAdd, Nat.reduceMul, Int.reduceLE, rdSl_hp q12 (slH_lt h0), l14, c16, g17, nown_rd h4885, nown_len h4885, nown_cells h4885, nown_good h4885, nown_rd h4889, nown_len h4889, nown_cells h4889, nown_good h4889, nown_rd h4893, nown_len h4893, nown_cells h4893, nown_good h4893, nown_rd h4897, nown_len h4897, nown_cells h4897, nown_good h4897]
    refine w_s_l13Fits (⟨x4215, x4882, x4886, x4890, x4894, rfl, (SlR.toH h4217), (nown_H (j := 1) (m := 6) h4885 (hp_get 1) rfl), (nown_H (j := 2) (m := 6) h4889 (hp_get 2) rfl), (nown_H (j := 3) (m := 6) h4893 (hp_get 3) rfl), (nown_H (j := 4) (m := 6) h4897 (hp_get 4) rfl)⟩) (lt_row (j := 0) (m := 6) rfl) hp_get0 (SlH.up h0 6) i4219 q4924 (fun y4926 h4927 => ?_)
    obtain rfl := h4927
    unfold sealK; simp only [go_sem, ↓reduceIte, reduceCtorEq, Nat.reduceEqDiff, Nat.reduceLT, Nat.reduceLeDiff, Nat.reduceAdd, Nat.reduceMul, Int.reduceLE, rdSl_hp q12 (slH_lt h0), l14, c16, g17, nown_rd h4885, nown_len h4885, nown_cells h4885, nown_good h4885, nown_rd h4889, nown_len h4889, nown_cells h4889, nown_good h4889, nown_rd h4893, nown_len h4893, nown_cells h4893, nown_good h4893, nown_rd h4897, nown_len h4897, nown_cells h4897, nown_good h4897]
    refine kn hK4919 ?_
    clear hK4919 K4919
    refine WQ.cond (t := !v4925) ?_ (fun z4928 => ?_) (fun z4928 => ?_)
    kernel_rfl
    replace ho4224 := ifT z4928 ho4224
    refine WQ.sr hT rfl fun K4929 hK4929 => ?_
    simp only [go_sem, ↓reduceIte, reduceCtorEq, Nat.reduceEqDiff, Nat.reduceLT, Nat.reduceLeDiff, Nat.reduceAdd, Nat.reduceMul, Int.reduceLE]
    refine kn hK4929 ?_
    clear hK4929 K4929
    have e4930 := hf4223 _ (Option.some.inj ho4224).symm
    rw [← e4930] at hm
    refine retN (t := 2) (js := []) (u := (.int .i64 4)) (v := (.int .i64 4)) hlt ?_ (.keep _ (.int _ _)) (.int _ _) rfl ?_
    kernel_rfl
    exact hkr hk (m := 4) hm (int64R (i64c (a := 4) rfl))
    replace ho4224 := ifF z4928 ho4224
    refine WQ.skip ?_
    simp only [go_sem, ↓reduceIte, reduceCtorEq, Nat.reduceEqDiff, Nat.reduceLT, Nat.reduceLeDiff, Nat.reduceAdd, Nat.reduceMul, Int.reduceLE]
    refine kn hK4907 ?_
    clear hK4907 K4907
    refine WQ.region hT rfl ?_
    simp only [go_sem, ↓reduceIte, reduceCtorEq, Nat.reduceEqDiff, Nat.reduceLT, Nat.reduceLeDiff, Nat.reduceAdd, Nat.reduceMul, Int.reduceLE, nown_rd h4885, nown_len h4885, nown_cells h4885, nown_good h4885, nown_rd h4889, nown_len h4889, nown_cells h4889, nown_good h4889, nown_rd h4893, nown_len h4893, nown_cells h4893, nown_good h4893, nown_rd h4897, nown_len h4897, nown_cells h4897, nown_good h4897]
    refine CA.enterQ (N := 88) (rs := []) hT Try.call97 Try.func97 rfl rfl (of_decide_eq_true rfl) rfl fun hlt4931 => ?_
    rw [hp_nil hlt4931]
    refine WQ.sr hT rfl fun K4932 hK4932 => ?_
    simp only [go_sem, ↓reduceIte, reduceCtorEq, Nat.reduceEqDiff, Nat.reduceLT, Nat.reduceLeDiff, Nat.reduceAdd, Nat.reduceMul, Int.reduceLE]
    refine kn hK4932 ?_
    clear hK4932 K4932
    refine WQ.sr hT rfl fun K4933 hK4933 => ?_
    simp only [go_sem, ↓reduceIte, reduceCtorEq, Nat.reduceEqDiff, Nat.reduceLT, Nat.reduceLeDiff, Nat.reduceAdd, Nat.reduceMul, Int.reduceLE]
    refine kn hK4933 ?_
    clear hK4933 K4933
    refine WQ.block ?_
    refine WQ.sr hT rfl fun K4934 hK4934 => ?_
    simp only [go_sem, ↓reduceIte, reduceCtorEq, Nat.reduceEqDiff, Nat.reduceLT, Nat.reduceLeDiff, Nat.reduceAdd, Nat.reduceMul, Int.reduceLE]
    refine kn hK4934 ?_
    clear hK4934 K4934
    refine WQ.cond (t := decide (a4696.kind = 1)) ?_ (fun z4935 => ?_) (fun z4935 => ?_)
    kernel_rfl
    replace ho4224 := ifT z4935 ho4224
    obtain ⟨v4936, q4937, ho4224⟩ := obs ho4224
    refine WQ.drawL hT hM [(0, 0), (1, 0), (2, 0), (3, 0), (4, 1), (5, 0), (6, 1), (7, 2), (8, 2), (9, 0), (10, 0), (11, 2)] [11] (hp h n [some [(.agg [x4215, x4882, x4886, x4890, x4894])], none, rw4887, rw4891, rw4895, some [(.agg [(.int .i64 a4696.kind), (.int .i64 a4696.txn), (.int .i64 a4696.key), (.bool a4696.had), (.int .i64 a4696.old), (.bool a4696.has), (.int .i64 a4696.new), (.int .i64 a4696.back)])], some [(.agg [(.int .i64 a4696.kind), (.int .i64 a4696.txn), (.int .i64 a4696.key), (.bool a4696.had), (.int .i64 a4696.old), (.bool a4696.has), (.int .i64 a4696.new), (.int .i64 a4696.back)])]]) ?_ rfl ?_ fun _ => ?_
    kernel_rfl
    simp only [go_sem]
    simp only [go_sem, ↓reduceIte, reduceCtorEq, Nat.reduceEqDiff, Nat.reduceLT, Nat.reduceLeDiff, Nat.reduceAdd, Nat.reduceMul, Int.reduceLE, nown_rd h4885, nown_len h4885, nown_cells h4885, nown_good h4885, nown_rd h4889, nown_len h4889, nown_cells h4889, nown_good h4889, nown_rd h4893, nown_len h4893, nown_cells h4893, nown_good h4893, nown_rd h4897, nown_len h4897, nown_cells h4897, nown_good h4897]
    refine ⟨2, rfl, app_nw1 (j := 1) h4885 (hp_get 1) rfl (of_decide_eq_true rfl) rfl ?_ q4937 (int64R i4704) ?_⟩
    simp only [go_sem, ↓reduceIte, reduceCtorEq, Nat.reduceEqDiff, Nat.reduceLT, Nat.reduceLeDiff, Nat.reduceAdd, Nat.reduceMul, Int.reduceLE, nown_rd h4885, nown_len h4885, nown_cells h4885, nown_good h4885, nown_rd h4889, nown_len h4889, nown_cells h4889, nown_good h4889, nown_rd h4893, nown_len h4893, nown_cells h4893, nown_good h4893, nown_rd h4897, nown_len h4897, nown_cells h4897, nown_good h4897]
    unfold sealK; simp only [go_sem, ↓reduceIte, reduceCtorEq, Nat.reduceEqDiff, Nat.reduceLT, Nat.reduceLeDiff, Nat.reduceAdd, Nat.reduceMul, Int.reduceLE, all2_length (snoc_all2 q4937 (nown_all h4885) (int64R i4704)), own_take (snoc_all2 q4937 (nown_all h4885) (int64R i4704)), nown_rd h4889, nown_len h4889, nown_cells h4889, nown_good h4889, nown_rd h4893, nown_len h4893, nown_cells h4893, nown_good h4893, nown_rd h4897, nown_len h4897, nown_cells h4897, nown_good h4897, nown_rd h4885, nown_len h4885, nown_cells h4885, nown_good h4885]
    refine ⟨[], rfl, _, _, _, .keep _ _ _ _ (fun _ _ h => h), ?_⟩
    try unfold sealK
    try simp only [go_sem, ↓reduceIte, reduceCtorEq, Nat.reduceEqDiff, Nat.reduceLT, Nat.reduceLeDiff, Nat.reduceAdd, Nat.reduceMul, Int.reduceLE, rdSl_hp q12 (slH_lt h0), l14, c16, g17, all2_length (snoc_all2 q4937 (nown_all h4885) (int64R i4704)), own_take (snoc_all2 q4937 (nown_all h4885) (int64R i4704)), nown_rd h4889, nown_len h4889, nown_cells h4889, nown_good h4889, nown_rd h4893, nown_len h4893, nown_cells h4893, nown_good h4893, nown_rd h4897, nown_len h4897, nown_cells h4897, nown_good h4897]
    refine j4677 _ _ _ (.sl 1 (n + 1) 0 v4936.length v4936.length false) (some (Option.getD rw4883 [] ++ [(.int .i64 a4696.txn)])) v4936 (nown_own (snoc_all2 q4937 (nown_all h4885) (int64R i4704)) (snoc_len q4937 (nown_all h4885) (int64R i4704))) x4886 rw4887 v4888 h4889 x4890 rw4891 v4892 h4893 x4894 rw4895 v4896 h4897 x4215 v4216 h4217 ?_ ho4224
    refine Norm.mkL (js := [0, 8, 2, 3, 4]) (m := 5) [0, 3, 4] [x0, (.ep 5 (.sl 5 n 0 1 1 true) 0 0), (.int .i64 v4218)] (of_decide_eq_true rfl) ?_ (RnL.cons (.keep _ (slH_lt h0)) (RnL.cons (Rn.ptr (js := [0, 8, 2, 3, 4]) 0 0) (RnL.cons (.keep _ (.int _ _)) RnL.nil))) (RowsR.row 0 _ _ _ _ hp_get0 (RnL.cons (Rn.agg' (RnL.cons (.keep _ (slr_ltA _ _ _ h4217)) (RnL.cons (Rn.own (js := [0, 8, 2, 3, 4]) 8 1) (RnL.cons (nown_rn h4889 rfl) (RnL.cons (nown_rn h4893 rfl) (RnL.cons (nown_rn h4897 rfl) RnL.nil)))))) RnL.nil) (RowsR.row 8 _ _ _ _ (hp_get 8) (RnL.all2 (snoc_all2 q4937 (nown_all h4885) (int64R i4704)) int64_lt) (RowsR.opt 2 _ _ _ (.inr (hp_get 2)) (nown_rows h4889 int64_lt) (RowsR.opt 3 _ _ _ (.inr (hp_get 3)) (nown_rows h4893 int64_lt) (RowsR.opt 4 _ _ _ (.inr (hp_get 4)) (nown_rows h4897 tyHeld_140.lt) RowsR.nil))))) rfl
    kernel_rfl
    replace ho4224 := ifF z4935 ho4224
    refine WQ.seq_k fun K4938 hK4938 => ?_
    refine WQ.sr hT rfl fun K4941 hK4941 => ?_
    simp only [go_sem, ↓reduceIte, reduceCtorEq, Nat.reduceEqDiff, Nat.reduceLT, Nat.reduceLeDiff, Nat.reduceAdd, Nat.reduceMul, Int.reduceLE]
    refine kn hK4941 ?_
    clear hK4941 K4941
    refine WQ.cond (t := decide (a4696.kind = 2)) ?_ (fun z4942 => ?_) (fun z4942 => ?_)
    kernel_rfl
    replace ho4224 := ifT z4942 ho4224
    refine WQ.skip ?_
    simp only [go_sem, ↓reduceIte, reduceCtorEq, Nat.reduceEqDiff, Nat.reduceLT, Nat.reduceLeDiff, Nat.reduceAdd, Nat.reduceMul, Int.reduceLE]
    refine kn hK4938 ?_
    clear hK4938 K4938
    refine WQ.cond (t := decide (a4696.kind = 2)) ?_ (fun z4943 => ?_) (fun z4943 => ?_)
    kernel_rfl
    replace ho4224 := ifT z4943 ho4224
    refine WQ.seq_k fun K4944 hK4944 => ?_
    obtain ⟨v4957, q4956, ho4224⟩ := obs ho4224
    refine WQ.drawL hT hM [(0, 0), (1, 0), (2, 0), (3, 0), (4, 1), (5, 0), (6, 1), (7, 2), (8, 0), (9, 0), (10, 2)] [10] (hp h n [some [(.agg [x4215, x4882, x4886, x4890, x4894])], rw4883, rw4887, rw4891, rw4895, some [(.agg [(.int .i64 a4696.kind), (.int .i64 a4696.txn), (.int .i64 a4696.key), (.bool a4696.had), (.int .i64 a4696.old), (.bool a4696.has), (.int .i64 a4696.new), (.int .i64 a4696.back)])], some [(.agg [(.int .i64 a4696.kind), (.int .i64 a4696.txn), (.int .i64 a4696.key), (.bool a4696.had), (.int .i64 a4696.old), (.bool a4696.has), (.int .i64 a4696.new), (.int .i64 a4696.back)])]]) ?_ rfl ?_ fun _ => ?_
    kernel_rfl
    simp only [go_sem]
    simp only [go_sem, ↓reduceIte, reduceCtorEq, Nat.reduceEqDiff, Nat.reduceLT, Nat.reduceLeDiff, Nat.reduceAdd, Nat.reduceMul, Int.reduceLE, nown_rd h4885, nown_len h4885, nown_cells h4885, nown_good h4885, nown_rd h4889, nown_len h4889, nown_cells h4889, nown_good h4889, nown_rd h4893, nown_len h4893, nown_cells h4893, nown_good h4893, nown_rd h4897, nown_len h4897, nown_cells h4897, nown_good h4897]
    refine w_s_l1Without (SlR.toH h4217) i4705 q4956 (fun y4958 h4959 => ?_)
    obtain ⟨es4960, q4961, a4962, l4963, b4964, c4965, g4966⟩ := slr_open h4959
    unfold sealK; simp only [go_sem, ↓reduceIte, reduceCtorEq, Nat.reduceEqDiff, Nat.reduceLT, Nat.reduceLeDiff, Nat.reduceAdd, Nat.reduceMul, Int.reduceLE, rdSl_emp q4961, l4963, c4965, g4966, nown_rd h4885, nown_len h4885, nown_cells h4885, nown_good h4885, nown_rd h4889, nown_len h4889, nown_cells h4889, nown_good h4889, nown_rd h4893, nown_len h4893, nown_cells h4893, nown_good h4893, nown_rd h4897, nown_len h4897, nown_cells h4897, nown_good h4897]
    refine kn hK4944 ?_
    clear hK4944 K4944
    refine WQ.seq_k fun K4967 hK4967 => ?_
    refine WQ.sr hT rfl fun K4981 hK4981 => ?_
    simp only [go_sem, ↓reduceIte, reduceCtorEq, Nat.reduceEqDiff, Nat.reduceLT, Nat.reduceLeDiff, Nat.reduceAdd, Nat.reduceMul, Int.reduceLE]
    refine kn hK4981 ?_
    clear hK4981 K4981
    refine WQ.cond (t := a4696.has) ?_ (fun z4982 => ?_) (fun z4982 => ?_)
    kernel_rfl
    replace ho4224 := ifT z4982 ho4224
    obtain ⟨v4984, q4983, ho4224⟩ := obs ho4224
    refine WQ.drawL hT hM [(0, 0), (1, 0), (2, 0), (3, 0), (4, 1), (5, 0), (6, 1), (7, 0), (8, 1), (9, 2), (10, 0), (11, 0), (12, 2)] [12] (hp h n [some [(.agg [y4958, x4882, x4886, x4890, x4894])], rw4883, rw4887, rw4891, rw4895, some [(.agg [(.int .i64 a4696.kind), (.int .i64 a4696.txn), (.int .i64 a4696.key), (.bool a4696.had), (.int .i64 a4696.old), (.bool a4696.has), (.int .i64 a4696.new), (.int .i64 a4696.back)])], some [(.agg [(.int .i64 a4696.kind), (.int .i64 a4696.txn), (.int .i64 a4696.key), (.bool a4696.had), (.int .i64 a4696.old), (.bool a4696.has), (.int .i64 a4696.new), (.int .i64 a4696.back)])]]) ?_ rfl ?_ fun _ => ?_
    kernel_rfl
    simp only [go_sem]
    simp only [go_sem, ↓reduceIte, reduceCtorEq, Nat.reduceEqDiff, Nat.reduceLT, Nat.reduceLeDiff, Nat.reduceAdd, Nat.reduceMul, Int.reduceLE, rdSl_emp q4961, l4963, c4965, g4966, nown_rd h4885, nown_len h4885, nown_cells h4885, nown_good h4885, nown_rd h4889, nown_len h4889, nown_cells h4889, nown_good h4889, nown_rd h4893, nown_len h4893, nown_cells h4893, nown_good h4893, nown_rd h4897, nown_len h4897, nown_cells h4897, nown_good h4897]
    refine w_s_l1With (SlR.toH h4959) i4705 i4707 q4983 (fun y4985 h4986 => ?_)
    obtain ⟨es4987, q4988, a4989, l4990, b4991, c4992, g4993⟩ := slr_open h4986
    unfold sealK; simp only [go_sem, ↓reduceIte, reduceCtorEq, Nat.reduceEqDiff, Nat.reduceLT, Nat.reduceLeDiff, Nat.reduceAdd, Nat.reduceMul, Int.reduceLE, rdSl_emp q4988, l4990, c4992, g4993, nown_rd h4885, nown_len h4885, nown_cells h4885, nown_good h4885, nown_rd h4889, nown_len h4889, nown_cells h4889, nown_good h4889, nown_rd h4893, nown_len h4893, nown_cells h4893, nown_good h4893, nown_rd h4897, nown_len h4897, nown_cells h4897, nown_good h4897, rdSl_emp q4961, l4963, c4965, g4966]
    refine kn hK4967 ?_
    clear hK4967 K4967
    refine WQ.seq_k fun K4994 hK4994 => ?_
    obtain ⟨v4997, q4998, ho4224⟩ := obs ho4224
    refine WQ.drawL hT hM [(0, 0), (1, 0), (2, 0), (3, 0), (4, 1), (5, 0), (6, 1), (7, 0), (8, 1), (9, 0), (10, 2), (11, 2), (12, 0), (13, 0), (14, 2)] [14] (hp h n [some [(.agg [y4985, x4882, x4886, x4890, x4894])], rw4883, rw4887, rw4891, none, some [(.agg [(.int .i64 a4696.kind), (.int .i64 a4696.txn), (.int .i64 a4696.key), (.bool a4696.had), (.int .i64 a4696.old), (.bool a4696.has), (.int .i64 a4696.new), (.int .i64 a4696.back)])], some [(.agg [(.int .i64 a4696.kind), (.int .i64 a4696.txn), (.int .i64 a4696.key), (.bool a4696.had), (.int .i64 a4696.old), (.bool a4696.has), (.int .i64 a4696.new), (.int .i64 a4696.back)])]]) ?_ rfl ?_ fun _ => ?_
    kernel_rfl
    simp only [go_sem]
    simp only [go_sem, ↓reduceIte, reduceCtorEq, Nat.reduceEqDiff, Nat.reduceLT, Nat.reduceLeDiff, Nat.reduceAdd, Nat.reduceMul, Int.reduceLE, rdSl_emp q4988, l4990, c4992, g4993, nown_rd h4885, nown_len h4885, nown_cells h4885, nown_good h4885, nown_rd h4889, nown_len h4889, nown_cells h4889, nown_good h4889, nown_rd h4893, nown_len h4893, nown_cells h4893, nown_good h4893, nown_rd h4897, nown_len h4897, nown_cells h4897, nown_good h4897]
    refine ⟨140, rfl, app_nw1 (j := 4) h4897 (hp_get 4) rfl (of_decide_eq_true rfl) rfl ?_ q4998 (show HeldR (.agg [(.int .i64 a4696.txn), (.int .i64 a4696.key)]) (HeldD.mk a4696.txn a4696.key) from ⟨rfl, i4704, i4705⟩) ?_⟩
    simp only [go_sem, ↓reduceIte, reduceCtorEq, Nat.reduceEqDiff, Nat.reduceLT, Nat.reduceLeDiff, Nat.reduceAdd, Nat.reduceMul, Int.reduceLE, rdSl_emp q4988, l4990, c4992, g4993, nown_rd h4885, nown_len h4885, nown_cells h4885, nown_good h4885, nown_rd h4889, nown_len h4889, nown_cells h4889, nown_good h4889, nown_rd h4893, nown_len h4893, nown_cells h4893, nown_good h4893, nown_rd h4897, nown_len h4897, nown_cells h4897, nown_good h4897]
    unfold sealK; simp only [go_sem, ↓reduceIte, reduceCtorEq, Nat.reduceEqDiff, Nat.reduceLT, Nat.reduceLeDiff, Nat.reduceAdd, Nat.reduceMul, Int.reduceLE, rdSl_emp q4988, l4990, c4992, g4993, nown_rd h4885, nown_len h4885, nown_cells h4885, nown_good h4885, nown_rd h4889, nown_len h4889, nown_cells h4889, nown_good h4889, nown_rd h4893, nown_len h4893, nown_cells h4893, nown_good h4893, all2_length (snoc_all2 q4998 (nown_all h4897) (show HeldR (.agg [(.int .i64 a4696.txn), (.int .i64 a4696.key)]) (HeldD.mk a4696.txn a4696.key) from ⟨rfl, i4704, i4705⟩)), own_take (snoc_all2 q4998 (nown_all h4897) (show HeldR (.agg [(.int .i64 a4696.txn), (.int .i64 a4696.key)]) (HeldD.mk a4696.txn a4696.key) from ⟨rfl, i4704, i4705⟩)), nown_rd h4897, nown_len h4897, nown_cells h4897, nown_good h4897]
    refine kn hK4994 ?_
    clear hK4994 K4994
    refine WQ.sr hT rfl fun K4999 hK4999 => ?_
    simp only [go_sem, ↓reduceIte, reduceCtorEq, Nat.reduceEqDiff, Nat.reduceLT, Nat.reduceLeDiff, Nat.reduceAdd, Nat.reduceMul, Int.reduceLE]
    refine kn hK4999 ?_
    clear hK4999 K4999
    refine WQ.cond (t := decide (a4696.kind = 5)) ?_ (fun z5000 => ?_) (fun z5000 => ?_)
    kernel_rfl
    replace ho4224 := ifT z5000 ho4224
    obtain ⟨v5001, q5002, ho4224⟩ := obs ho4224
    refine WQ.drawL hT hM [(0, 0), (1, 0), (2, 0), (3, 0), (4, 1), (5, 0), (6, 1), (7, 2), (8, 2), (9, 0), (10, 0), (11, 2)] [11] (hp h n [some [(.agg [y4985, x4882, x4886, x4890, (.sl 2 (n + 8) 0 v4997.length v4997.length false)])], rw4883, rw4887, none, none, some [(.agg [(.int .i64 a4696.kind), (.int .i64 a4696.txn), (.int .i64 a4696.key), (.bool a4696.had), (.int .i64 a4696.old), (.bool a4696.has), (.int .i64 a4696.new), (.int .i64 a4696.back)])], some [(.agg [(.int .i64 a4696.kind), (.int .i64 a4696.txn), (.int .i64 a4696.key), (.bool a4696.had), (.int .i64 a4696.old), (.bool a4696.has), (.int .i64 a4696.new), (.int .i64 a4696.back)])], some ([(.agg [(.int .i64 a4696.txn), (.int .i64 a4696.key)])]), some (Option.getD rw4895 [] ++ [(.agg [(.int .i64 a4696.txn), (.int .i64 a4696.key)])])]) ?_ rfl ?_ fun _ => ?_
    kernel_rfl
    simp only [go_sem]
    simp only [go_sem, ↓reduceIte, reduceCtorEq, Nat.reduceEqDiff, Nat.reduceLT, Nat.reduceLeDiff, Nat.reduceAdd, Nat.reduceMul, Int.reduceLE, rdSl_emp q4988, l4990, c4992, g4993, nown_rd h4885, nown_len h4885, nown_cells h4885, nown_good h4885, nown_rd h4889, nown_len h4889, nown_cells h4889, nown_good h4889, nown_rd h4893, nown_len h4893, nown_cells h4893, nown_good h4893, all2_length (snoc_all2 q4998 (nown_all h4897) (show HeldR (.agg [(.int .i64 a4696.txn), (.int .i64 a4696.key)]) (HeldD.mk a4696.txn a4696.key) from ⟨rfl, i4704, i4705⟩)), own_take (snoc_all2 q4998 (nown_all h4897) (show HeldR (.agg [(.int .i64 a4696.txn), (.int .i64 a4696.key)]) (HeldD.mk a4696.txn a4696.key) from ⟨rfl, i4704, i4705⟩))]
    refine ⟨2, rfl, app_nw1 (j := 3) h4893 (hp_get 3) rfl (of_decide_eq_true rfl) rfl ?_ q5002 (int64R i4704) ?_⟩
    simp only [go_sem, ↓reduceIte, reduceCtorEq, Nat.reduceEqDiff, Nat.reduceLT, Nat.reduceLeDiff, Nat.reduceAdd, Nat.reduceMul, Int.reduceLE, rdSl_emp q4988, l4990, c4992, g4993, nown_rd h4885, nown_len h4885, nown_cells h4885, nown_good h4885, nown_rd h4889, nown_len h4889, nown_cells h4889, nown_good h4889, nown_rd h4893, nown_len h4893, nown_cells h4893, nown_good h4893, all2_length (snoc_all2 q4998 (nown_all h4897) (show HeldR (.agg [(.int .i64 a4696.txn), (.int .i64 a4696.key)]) (HeldD.mk a4696.txn a4696.key) from ⟨rfl, i4704, i4705⟩)), own_take (snoc_all2 q4998 (nown_all h4897) (show HeldR (.agg [(.int .i64 a4696.txn), (.int .i64 a4696.key)]) (HeldD.mk a4696.txn a4696.key) from ⟨rfl, i4704, i4705⟩))]
    unfold sealK; simp only [go_sem, ↓reduceIte, reduceCtorEq, Nat.reduceEqDiff, Nat.reduceLT, Nat.reduceLeDiff, Nat.reduceAdd, Nat.reduceMul, Int.reduceLE, rdSl_emp q4988, l4990, c4992, g4993, nown_rd h4885, nown_len h4885, nown_cells h4885, nown_good h4885, nown_rd h4889, nown_len h4889, nown_cells h4889, nown_good h4889, all2_length (snoc_all2 q5002 (nown_all h4893) (int64R i4704)), own_take (snoc_all2 q5002 (nown_all h4893) (int64R i4704)), all2_length (snoc_all2 q4998 (nown_all h4897) (show HeldR (.agg [(.int .i64 a4696.txn), (.int .i64 a4696.key)]) (HeldD.mk a4696.txn a4696.key) from ⟨rfl, i4704, i4705⟩)), own_take (snoc_all2 q4998 (nown_all h4897) (show HeldR (.agg [(.int .i64 a4696.txn), (.int .i64 a4696.key)]) (HeldD.mk a4696.txn a4696.key) from ⟨rfl, i4704, i4705⟩)), nown_rd h4893, nown_len h4893, nown_cells h4893, nown_good h4893]
    refine ⟨[], rfl, _, _, _, .keep _ _ _ _ (fun _ _ h => h), ?_⟩
    try unfold sealK
    try simp only [go_sem, ↓reduceIte, reduceCtorEq, Nat.reduceEqDiff, Nat.reduceLT, Nat.reduceLeDiff, Nat.reduceAdd, Nat.reduceMul, Int.reduceLE, rdSl_hp q12 (slH_lt h0), l14, c16, g17, rdSl_emp q4988, l4990, c4992, g4993, nown_rd h4885, nown_len h4885, nown_cells h4885, nown_good h4885, nown_rd h4889, nown_len h4889, nown_cells h4889, nown_good h4889, all2_length (snoc_all2 q5002 (nown_all h4893) (int64R i4704)), own_take (snoc_all2 q5002 (nown_all h4893) (int64R i4704)), all2_length (snoc_all2 q4998 (nown_all h4897) (show HeldR (.agg [(.int .i64 a4696.txn), (.int .i64 a4696.key)]) (HeldD.mk a4696.txn a4696.key) from ⟨rfl, i4704, i4705⟩)), own_take (snoc_all2 q4998 (nown_all h4897) (show HeldR (.agg [(.int .i64 a4696.txn), (.int .i64 a4696.key)]) (HeldD.mk a4696.txn a4696.key) from ⟨rfl, i4704, i4705⟩))]
    refine j4677 _ _ _ x4882 rw4883 v4884 h4885 x4886 rw4887 v4888 h4889 (.sl 1 (n + 3) 0 v5001.length v5001.length false) (some (Option.getD rw4891 [] ++ [(.int .i64 a4696.txn)])) v5001 (nown_own (snoc_all2 q5002 (nown_all h4893) (int64R i4704)) (snoc_len q5002 (nown_all h4893) (int64R i4704))) (.sl 2 (n + 4) 0 v4997.length v4997.length false) (some (Option.getD rw4895 [] ++ [(.agg [(.int .i64 a4696.txn), (.int .i64 a4696.key)])])) v4997 (nown_own (snoc_all2 q4998 (nown_all h4897) (show HeldR (.agg [(.int .i64 a4696.txn), (.int .i64 a4696.key)]) (HeldD.mk a4696.txn a4696.key) from ⟨rfl, i4704, i4705⟩)) (snoc_len q4998 (nown_all h4897) (show HeldR (.agg [(.int .i64 a4696.txn), (.int .i64 a4696.key)]) (HeldD.mk a4696.txn a4696.key) from ⟨rfl, i4704, i4705⟩))) y4985 v4984 h4986 ?_ ho4224
    refine Norm.mkL (js := [0, 1, 2, 10, 8]) (m := 5) [0, 3, 4] [x0, (.ep 5 (.sl 5 n 0 1 1 true) 0 0), (.int .i64 v4218)] (of_decide_eq_true rfl) ?_ (RnL.cons (.keep _ (slH_lt h0)) (RnL.cons (Rn.ptr (js := [0, 1, 2, 10, 8]) 0 0) (RnL.cons (.keep _ (.int _ _)) RnL.nil))) (RowsR.row 0 _ _ _ _ hp_get0 (RnL.cons (Rn.agg' (RnL.cons (.keep _ (slr_ltA _ _ _ h4986)) (RnL.cons (nown_rn h4885 rfl) (RnL.cons (nown_rn h4889 rfl) (RnL.cons (Rn.own (js := [0, 1, 2, 10, 8]) 10 3) (RnL.cons (Rn.own (js := [0, 1, 2, 10, 8]) 8 4) RnL.nil)))))) RnL.nil) (RowsR.opt 1 _ _ _ (.inr (hp_get 1)) (nown_rows h4885 int64_lt) (RowsR.opt 2 _ _ _ (.inr (hp_get 2)) (nown_rows h4889 int64_lt) (RowsR.row 10 _ _ _ _ (hp_get 10) (RnL.all2 (snoc_all2 q5002 (nown_all h4893) (int64R i4704)) int64_lt) (RowsR.row 8 _ _ _ _ (hp_get 8) (RnL.all2 (snoc_all2 q4998 (nown_all h4897) (show HeldR (.agg [(.int .i64 a4696.txn), (.int .i64 a4696.key)]) (HeldD.mk a4696.txn a4696.key) from ⟨rfl, i4704, i4705⟩)) tyHeld_140.lt) RowsR.nil))))) rfl
    kernel_rfl
    replace ho4224 := ifF z5000 ho4224
    refine WQ.skip ?_
    simp only [go_sem, ↓reduceIte, reduceCtorEq, Nat.reduceEqDiff, Nat.reduceLT, Nat.reduceLeDiff, Nat.reduceAdd, Nat.reduceMul, Int.reduceLE]
    refine ⟨[], rfl, _, _, _, .keep _ _ _ _ (fun _ _ h => h), ?_⟩
    try unfold sealK
    try simp only [go_sem, ↓reduceIte, reduceCtorEq, Nat.reduceEqDiff, Nat.reduceLT, Nat.reduceLeDiff, Nat.reduceAdd, Nat.reduceMul, Int.reduceLE, rdSl_hp q12 (slH_lt h0), l14, c16, g17, rdSl_emp q4988, l4990, c4992, g4993, nown_rd h4885, nown_len h4885, nown_cells h4885, nown_good h4885, nown_rd h4889, nown_len h4889, nown_cells h4889, nown_good h4889, nown_rd h4893, nown_len h4893, nown_cells h4893, nown_good h4893, all2_length (snoc_all2 q4998 (nown_all h4897) (show HeldR (.agg [(.int .i64 a4696.txn), (.int .i64 a4696.key)]) (HeldD.mk a4696.txn a4696.key) from ⟨rfl, i4704, i4705⟩)), own_take (snoc_all2 q4998 (nown_all h4897) (show HeldR (.agg [(.int .i64 a4696.txn), (.int .i64 a4696.key)]) (HeldD.mk a4696.txn a4696.key) from ⟨rfl, i4704, i4705⟩))]
    refine j4677 _ _ _ x4882 rw4883 v4884 h4885 x4886 rw4887 v4888 h4889 x4890 rw4891 v4892 h4893 (.sl 2 (n + 4) 0 v4997.length v4997.length false) (some (Option.getD rw4895 [] ++ [(.agg [(.int .i64 a4696.txn), (.int .i64 a4696.key)])])) v4997 (nown_own (snoc_all2 q4998 (nown_all h4897) (show HeldR (.agg [(.int .i64 a4696.txn), (.int .i64 a4696.key)]) (HeldD.mk a4696.txn a4696.key) from ⟨rfl, i4704, i4705⟩)) (snoc_len q4998 (nown_all h4897) (show HeldR (.agg [(.int .i64 a4696.txn), (.int .i64 a4696.key)]) (HeldD.mk a4696.txn a4696.key) from ⟨rfl, i4704, i4705⟩))) y4985 v4984 h4986 ?_ ho4224
    refine Norm.mkL (js := [0, 1, 2, 3, 8]) (m := 5) [0, 3, 4] [x0, (.ep 5 (.sl 5 n 0 1 1 true) 0 0), (.int .i64 v4218)] (of_decide_eq_true rfl) ?_ (RnL.cons (.keep _ (slH_lt h0)) (RnL.cons (Rn.ptr (js := [0, 1, 2, 3, 8]) 0 0) (RnL.cons (.keep _ (.int _ _)) RnL.nil))) (RowsR.row 0 _ _ _ _ hp_get0 (RnL.cons (Rn.agg' (RnL.cons (.keep _ (slr_ltA _ _ _ h4986)) (RnL.cons (nown_rn h4885 rfl) (RnL.cons (nown_rn h4889 rfl) (RnL.cons (nown_rn h4893 rfl) (RnL.cons (Rn.own (js := [0, 1, 2, 3, 8]) 8 4) RnL.nil)))))) RnL.nil) (RowsR.opt 1 _ _ _ (.inr (hp_get 1)) (nown_rows h4885 int64_lt) (RowsR.opt 2 _ _ _ (.inr (hp_get 2)) (nown_rows h4889 int64_lt) (RowsR.opt 3 _ _ _ (.inr (hp_get 3)) (nown_rows h4893 int64_lt) (RowsR.row 8 _ _ _ _ (hp_get 8) (RnL.all2 (snoc_all2 q4998 (nown_all h4897) (show HeldR (.agg [(.int .i64 a4696.txn), (.int .i64 a4696.key)]) (HeldD.mk a4696.txn a4696.key) from ⟨rfl, i4704, i4705⟩)) tyHeld_140.lt) RowsR.nil))))) rfl
    kernel_rfl
    replace ho4224 := ifF z4982 ho4224
    refine WQ.skip ?_
    simp only [go_sem, ↓reduceIte, reduceCtorEq, Nat.reduceEqDiff, Nat.reduceLT, Nat.reduceLeDiff, Nat.reduceAdd, Nat.reduceMul, Int.reduceLE]
    refine kn hK4967 ?_
    clear hK4967 K4967
    refine WQ.seq_k fun K5003 hK5003 => ?_
    obtain ⟨v5006, q5007, ho4224⟩ := obs ho4224
    refine WQ.drawL hT hM [(0, 0), (1, 0), (2, 0), (3, 0), (4, 1), (5, 0), (6, 1), (7, 0), (8, 1), (9, 0), (10, 2), (11, 2), (12, 0), (13, 0), (14, 2)] [14] (hp h n [some [(.agg [y4958, x4882, x4886, x4890, x4894])], rw4883, rw4887, rw4891, none, some [(.agg [(.int .i64 a4696.kind), (.int .i64 a4696.txn), (.int .i64 a4696.key), (.bool a4696.had), (.int .i64 a4696.old), (.bool a4696.has), (.int .i64 a4696.new), (.int .i64 a4696.back)])], some [(.agg [(.int .i64 a4696.kind), (.int .i64 a4696.txn), (.int .i64 a4696.key), (.bool a4696.had), (.int .i64 a4696.old), (.bool a4696.has), (.int .i64 a4696.new), (.int .i64 a4696.back)])]]) ?_ rfl ?_ fun _ => ?_
    kernel_rfl
    simp only [go_sem]
    simp only [go_sem, ↓reduceIte, reduceCtorEq, Nat.reduceEqDiff, Nat.reduceLT, Nat.reduceLeDiff, Nat.reduceAdd, Nat.reduceMul, Int.reduceLE, rdSl_emp q4961, l4963, c4965, g4966, nown_rd h4885, nown_len h4885, nown_cells h4885, nown_good h4885, nown_rd h4889, nown_len h4889, nown_cells h4889, nown_good h4889, nown_rd h4893, nown_len h4893, nown_cells h4893, nown_good h4893, nown_rd h4897, nown_len h4897, nown_cells h4897, nown_good h4897]
    refine ⟨140, rfl, app_nw1 (j := 4) h4897 (hp_get 4) rfl (of_decide_eq_true rfl) rfl ?_ q5007 (show HeldR (.agg [(.int .i64 a4696.txn), (.int .i64 a4696.key)]) (HeldD.mk a4696.txn a4696.key) from ⟨rfl, i4704, i4705⟩) ?_⟩
    simp only [go_sem, ↓reduceIte, reduceCtorEq, Nat.reduceEqDiff, Nat.reduceLT, Nat.reduceLeDiff, Nat.reduceAdd, Nat.reduceMul, Int.reduceLE, rdSl_emp q4961, l4963, c4965, g4966, nown_rd h4885, nown_len h4885, nown_cells h4885, nown_good h4885, nown_rd h4889, nown_len h4889, nown_cells h4889, nown_good h4889, nown_rd h4893, nown_len h4893, nown_cells h4893, nown_good h4893, nown_rd h4897, nown_len h4897, nown_cells h4897, nown_good h4897]
    unfold sealK; simp only [go_sem, ↓reduceIte, reduceCtorEq, Nat.reduceEqDiff, Nat.reduceLT, Nat.reduceLeDiff, Nat.reduceAdd, Nat.reduceMul, Int.reduceLE, rdSl_emp q4961, l4963, c4965, g4966, nown_rd h4885, nown_len h4885, nown_cells h4885, nown_good h4885, nown_rd h4889, nown_len h4889, nown_cells h4889, nown_good h4889, nown_rd h4893, nown_len h4893, nown_cells h4893, nown_good h4893, all2_length (snoc_all2 q5007 (nown_all h4897) (show HeldR (.agg [(.int .i64 a4696.txn), (.int .i64 a4696.key)]) (HeldD.mk a4696.txn a4696.key) from ⟨rfl, i4704, i4705⟩)), own_take (snoc_all2 q5007 (nown_all h4897) (show HeldR (.agg [(.int .i64 a4696.txn), (.int .i64 a4696.key)]) (HeldD.mk a4696.txn a4696.key) from ⟨rfl, i4704, i4705⟩)), nown_rd h4897, nown_len h4897, nown_cells h4897, nown_good h4897]
    refine kn hK5003 ?_
    clear hK5003 K5003
    refine WQ.sr hT rfl fun K5008 hK5008 => ?_
    simp only [go_sem, ↓reduceIte, reduceCtorEq, Nat.reduceEqDiff, Nat.reduceLT, Nat.reduceLeDiff, Nat.reduceAdd, Nat.reduceMul, Int.reduceLE]
    refine kn hK5008 ?_
    clear hK5008 K5008
    refine WQ.cond (t := decide (a4696.kind = 5)) ?_ (fun z5009 => ?_) (fun z5009 => ?_)
    kernel_rfl
    replace ho4224 := ifT z5009 ho4224
    obtain ⟨v5010, q5011, ho4224⟩ := obs ho4224
    refine WQ.drawL hT hM [(0, 0), (1, 0), (2, 0), (3, 0), (4, 1), (5, 0), (6, 1), (7, 2), (8, 2), (9, 0), (10, 0), (11, 2)] [11] (hp h n [some [(.agg [y4958, x4882, x4886, x4890, (.sl 2 (n + 8) 0 v5006.length v5006.length false)])], rw4883, rw4887, none, none, some [(.agg [(.int .i64 a4696.kind), (.int .i64 a4696.txn), (.int .i64 a4696.key), (.bool a4696.had), (.int .i64 a4696.old), (.bool a4696.has), (.int .i64 a4696.new), (.int .i64 a4696.back)])], some [(.agg [(.int .i64 a4696.kind), (.int .i64 a4696.txn), (.int .i64 a4696.key), (.bool a4696.had), (.int .i64 a4696.old), (.bool a4696.has), (.int .i64 a4696.new), (.int .i64 a4696.back)])], some ([(.agg [(.int .i64 a4696.txn), (.int .i64 a4696.key)])]), some (Option.getD rw4895 [] ++ [(.agg [(.int .i64 a4696.txn), (.int .i64 a4696.key)])])]) ?_ rfl ?_ fun _ => ?_
    kernel_rfl
    simp only [go_sem]
    simp only [go_sem, ↓reduceIte, reduceCtorEq, Nat.reduceEqDiff, Nat.reduceLT, Nat.reduceLeDiff, Nat.reduceAdd, Nat.reduceMul, Int.reduceLE, rdSl_emp q4961, l4963, c4965, g4966, nown_rd h4885, nown_len h4885, nown_cells h4885, nown_good h4885, nown_rd h4889, nown_len h4889, nown_cells h4889, nown_good h4889, nown_rd h4893, nown_len h4893, nown_cells h4893, nown_good h4893, all2_length (snoc_all2 q5007 (nown_all h4897) (show HeldR (.agg [(.int .i64 a4696.txn), (.int .i64 a4696.key)]) (HeldD.mk a4696.txn a4696.key) from ⟨rfl, i4704, i4705⟩)), own_take (snoc_all2 q5007 (nown_all h4897) (show HeldR (.agg [(.int .i64 a4696.txn), (.int .i64 a4696.key)]) (HeldD.mk a4696.txn a4696.key) from ⟨rfl, i4704, i4705⟩))]
    refine ⟨2, rfl, app_nw1 (j := 3) h4893 (hp_get 3) rfl (of_decide_eq_true rfl) rfl ?_ q5011 (int64R i4704) ?_⟩
    simp only [go_sem, ↓reduceIte, reduceCtorEq, Nat.reduceEqDiff, Nat.reduceLT, Nat.reduceLeDiff, Nat.reduceAdd, Nat.reduceMul, Int.reduceLE, rdSl_emp q4961, l4963, c4965, g4966, nown_rd h4885, nown_len h4885, nown_cells h4885, nown_good h4885, nown_rd h4889, nown_len h4889, nown_cells h4889, nown_good h4889, nown_rd h4893, nown_len h4893, nown_cells h4893, nown_good h4893, all2_length (snoc_all2 q5007 (nown_all h4897) (show HeldR (.agg [(.int .i64 a4696.txn), (.int .i64 a4696.key)]) (HeldD.mk a4696.txn a4696.key) from ⟨rfl, i4704, i4705⟩)), own_take (snoc_all2 q5007 (nown_all h4897) (show HeldR (.agg [(.int .i64 a4696.txn), (.int .i64 a4696.key)]) (HeldD.mk a4696.txn a4696.key) from ⟨rfl, i4704, i4705⟩))]
    unfold sealK; simp only [go_sem, ↓reduceIte, reduceCtorEq, Nat.reduceEqDiff, Nat.reduceLT, Nat.reduceLeDiff, Nat.reduceAdd, Nat.reduceMul, Int.reduceLE, rdSl_emp q4961, l4963, c4965, g4966, nown_rd h4885, nown_len h4885, nown_cells h4885, nown_good h4885, nown_rd h4889, nown_len h4889, nown_cells h4889, nown_good h4889, all2_length (snoc_all2 q5011 (nown_all h4893) (int64R i4704)), own_take (snoc_all2 q5011 (nown_all h4893) (int64R i4704)), all2_length (snoc_all2 q5007 (nown_all h4897) (show HeldR (.agg [(.int .i64 a4696.txn), (.int .i64 a4696.key)]) (HeldD.mk a4696.txn a4696.key) from ⟨rfl, i4704, i4705⟩)), own_take (snoc_all2 q5007 (nown_all h4897) (show HeldR (.agg [(.int .i64 a4696.txn), (.int .i64 a4696.key)]) (HeldD.mk a4696.txn a4696.key) from ⟨rfl, i4704, i4705⟩)), nown_rd h4893, nown_len h4893, nown_cells h4893, nown_good h4893]
    refine ⟨[], rfl, _, _, _, .keep _ _ _ _ (fun _ _ h => h), ?_⟩
    try unfold sealK
    try simp only [go_sem, ↓reduceIte, reduceCtorEq, Nat.reduceEqDiff, Nat.reduceLT, Nat.reduceLeDiff, Nat.reduceAdd, Nat.reduceMul, Int.reduceLE, rdSl_hp q12 (slH_lt h0), l14, c16, g17, rdSl_emp q4961, l4963, c4965, g4966, nown_rd h4885, nown_len h4885, nown_cells h4885, nown_good h4885, nown_rd h4889, nown_len h4889, nown_cells h4889, nown_good h4889, all2_length (snoc_all2 q5011 (nown_all h4893) (int64R i4704)), own_take (snoc_all2 q5011 (nown_all h4893) (int64R i4704)), all2_length (snoc_all2 q5007 (nown_all h4897) (show HeldR (.agg [(.int .i64 a4696.txn), (.int .i64 a4696.key)]) (HeldD.mk a4696.txn a4696.key) from ⟨rfl, i4704, i4705⟩)), own_take (snoc_all2 q5007 (nown_all h4897) (show HeldR (.agg [(.int .i64 a4696.txn), (.int .i64 a4696.key)]) (HeldD.mk a4696.txn a4696.key) from ⟨rfl, i4704, i4705⟩))]
    refine j4677 _ _ _ x4882 rw4883 v4884 h4885 x4886 rw4887 v4888 h4889 (.sl 1 (n + 3) 0 v5010.length v5010.length false) (some (Option.getD rw4891 [] ++ [(.int .i64 a4696.txn)])) v5010 (nown_own (snoc_all2 q5011 (nown_all h4893) (int64R i4704)) (snoc_len q5011 (nown_all h4893) (int64R i4704))) (.sl 2 (n + 4) 0 v5006.length v5006.length false) (some (Option.getD rw4895 [] ++ [(.agg [(.int .i64 a4696.txn), (.int .i64 a4696.key)])])) v5006 (nown_own (snoc_all2 q5007 (nown_all h4897) (show HeldR (.agg [(.int .i64 a4696.txn), (.int .i64 a4696.key)]) (HeldD.mk a4696.txn a4696.key) from ⟨rfl, i4704, i4705⟩)) (snoc_len q5007 (nown_all h4897) (show HeldR (.agg [(.int .i64 a4696.txn), (.int .i64 a4696.key)]) (HeldD.mk a4696.txn a4696.key) from ⟨rfl, i4704, i4705⟩))) y4958 v4957 h4959 ?_ ho4224
    refine Norm.mkL (js := [0, 1, 2, 10, 8]) (m := 5) [0, 3, 4] [x0, (.ep 5 (.sl 5 n 0 1 1 true) 0 0), (.int .i64 v4218)] (of_decide_eq_true rfl) ?_ (RnL.cons (.keep _ (slH_lt h0)) (RnL.cons (Rn.ptr (js := [0, 1, 2, 10, 8]) 0 0) (RnL.cons (.keep _ (.int _ _)) RnL.nil))) (RowsR.row 0 _ _ _ _ hp_get0 (RnL.cons (Rn.agg' (RnL.cons (.keep _ (slr_ltA _ _ _ h4959)) (RnL.cons (nown_rn h4885 rfl) (RnL.cons (nown_rn h4889 rfl) (RnL.cons (Rn.own (js := [0, 1, 2, 10, 8]) 10 3) (RnL.cons (Rn.own (js := [0, 1, 2, 10, 8]) 8 4) RnL.nil)))))) RnL.nil) (RowsR.opt 1 _ _ _ (.inr (hp_get 1)) (nown_rows h4885 int64_lt) (RowsR.opt 2 _ _ _ (.inr (hp_get 2)) (nown_rows h4889 int64_lt) (RowsR.row 10 _ _ _ _ (hp_get 10) (RnL.all2 (snoc_all2 q5011 (nown_all h4893) (int64R i4704)) int64_lt) (RowsR.row 8 _ _ _ _ (hp_get 8) (RnL.all2 (snoc_all2 q5007 (nown_all h4897) (show HeldR (.agg [(.int .i64 a4696.txn), (.int .i64 a4696.key)]) (HeldD.mk a4696.txn a4696.key) from ⟨rfl, i4704, i4705⟩)) tyHeld_140.lt) RowsR.nil))))) rfl
    kernel_rfl
    replace ho4224 := ifF z5009 ho4224
    refine WQ.skip ?_
    simp only [go_sem, ↓reduceIte, reduceCtorEq, Nat.reduceEqDiff, Nat.reduceLT, Nat.reduceLeDiff, Nat.reduceAdd, Nat.reduceMul, Int.reduceLE]
    refine ⟨[], rfl, _, _, _, .keep _ _ _ _ (fun _ _ h => h), ?_⟩
    try unfold sealK
    try simp only [go_sem, ↓reduceIte, reduceCtorEq, Nat.reduceEqDiff, Nat.reduceLT, Nat.reduceLeDiff, Nat.reduceAdd, Nat.reduceMul, Int.reduceLE, rdSl_hp q12 (slH_lt h0), l14, c16, g17, rdSl_emp q4961, l4963, c4965, g4966, nown_rd h4885, nown_len h4885, nown_cells h4885, nown_good h4885, nown_rd h4889, nown_len h4889, nown_cells h4889, nown_good h4889, nown_rd h4893, nown_len h4893, nown_cells h4893, nown_good h4893, all2_length (snoc_all2 q5007 (nown_all h4897) (show HeldR (.agg [(.int .i64 a4696.txn), (.int .i64 a4696.key)]) (HeldD.mk a4696.txn a4696.key) from ⟨rfl, i4704, i4705⟩)), own_take (snoc_all2 q5007 (nown_all h4897) (show HeldR (.agg [(.int .i64 a4696.txn), (.int .i64 a4696.key)]) (HeldD.mk a4696.txn a4696.key) from ⟨rfl, i4704, i4705⟩))]
    refine j4677 _ _ _ x4882 rw4883 v4884 h4885 x4886 rw4887 v4888 h4889 x4890 rw4891 v4892 h4893 (.sl 2 (n + 4) 0 v5006.length v5006.length false) (some (Option.getD rw4895 [] ++ [(.agg [(.int .i64 a4696.txn), (.int .i64 a4696.key)])])) v5006 (nown_own (snoc_all2 q5007 (nown_all h4897) (show HeldR (.agg [(.int .i64 a4696.txn), (.int .i64 a4696.key)]) (HeldD.mk a4696.txn a4696.key) from ⟨rfl, i4704, i4705⟩)) (snoc_len q5007 (nown_all h4897) (show HeldR (.agg [(.int .i64 a4696.txn), (.int .i64 a4696.key)]) (HeldD.mk a4696.txn a4696.key) from ⟨rfl, i4704, i4705⟩))) y4958 v4957 h4959 ?_ ho4224
    refine Norm.mkL (js := [0, 1, 2, 3, 8]) (m := 5) [0, 3, 4] [x0, (.ep 5 (.sl 5 n 0 1 1 true) 0 0), (.int .i64 v4218)] (of_decide_eq_true rfl) ?_ (RnL.cons (.keep _ (slH_lt h0)) (RnL.cons (Rn.ptr (js := [0, 1, 2, 3, 8]) 0 0) (RnL.cons (.keep _ (.int _ _)) RnL.nil))) (RowsR.row 0 _ _ _ _ hp_get0 (RnL.cons (Rn.agg' (RnL.cons (.keep _ (slr_ltA _ _ _ h4959)) (RnL.cons (nown_rn h4885 rfl) (RnL.cons (nown_rn h4889 rfl) (RnL.cons (nown_rn h4893 rfl) (RnL.cons (Rn.own (js := [0, 1, 2, 3, 8]) 8 4) RnL.nil)))))) RnL.nil) (RowsR.opt 1 _ _ _ (.inr (hp_get 1)) (nown_rows h4885 int64_lt) (RowsR.opt 2 _ _ _ (.inr (hp_get 2)) (nown_rows h4889 int64_lt) (RowsR.opt 3 _ _ _ (.inr (hp_get 3)) (nown_rows h4893 int64_lt) (RowsR.row 8 _ _ _ _ (hp_get 8) (RnL.all2 (snoc_all2 q5007 (nown_all h4897) (show HeldR (.agg [(.int .i64 a4696.txn), (.int .i64 a4696.key)]) (HeldD.mk a4696.txn a4696.key) from ⟨rfl, i4704, i4705⟩)) tyHeld_140.lt) RowsR.nil))))) rfl
    kernel_rfl
    replace ho4224 := ifF z4943 ho4224
    refine WQ.seq_k fun K5012 hK5012 => ?_
    refine WQ.sr hT rfl fun K5015 hK5015 => ?_
    simp only [go_sem, ↓reduceIte, reduceCtorEq, Nat.reduceEqDiff, Nat.reduceLT, Nat.reduceLeDiff, Nat.reduceAdd, Nat.reduceMul, Int.reduceLE]
    refine kn hK5015 ?_
    clear hK5015 K5015
    refine WQ.cond (t := decide (a4696.kind = 3)) ?_ (fun z5016 => ?_) (fun z5016 => ?_)
    kernel_rfl
    replace ho4224 := ifT z5016 ho4224
    refine WQ.skip ?_
    simp only [go_sem, ↓reduceIte, reduceCtorEq, Nat.reduceEqDiff, Nat.reduceLT, Nat.reduceLeDiff, Nat.reduceAdd, Nat.reduceMul, Int.reduceLE]
    refine kn hK5012 ?_
    clear hK5012 K5012
    refine WQ.cond (t := decide (a4696.kind = 3)) ?_ (fun z5017 => ?_) (fun z5017 => ?_)
    kernel_rfl
    replace ho4224 := ifT z5017 ho4224
    obtain ⟨v5018, q5019, ho4224⟩ := obs ho4224
    refine WQ.drawL hT hM [(0, 0), (1, 0), (2, 0), (3, 0), (4, 1), (5, 0), (6, 1), (7, 2), (8, 2), (9, 0), (10, 0), (11, 2)] [11] (hp h n [some [(.agg [x4215, x4882, x4886, x4890, x4894])], rw4883, none, rw4891, rw4895, some [(.agg [(.int .i64 a4696.kind), (.int .i64 a4696.txn), (.int .i64 a4696.key), (.bool a4696.had), (.int .i64 a4696.old), (.bool a4696.has), (.int .i64 a4696.new), (.int .i64 a4696.back)])], some [(.agg [(.int .i64 a4696.kind), (.int .i64 a4696.txn), (.int .i64 a4696.key), (.bool a4696.had), (.int .i64 a4696.old), (.bool a4696.has), (.int .i64 a4696.new), (.int .i64 a4696.back)])]]) ?_ rfl ?_ fun _ => ?_
    kernel_rfl
    simp only [go_sem]
    simp only [go_sem, ↓reduceIte, reduceCtorEq, Nat.reduceEqDiff, Nat.reduceLT, Nat.reduceLeDiff, Nat.reduceAdd, Nat.reduceMul, Int.reduceLE, nown_rd h4885, nown_len h4885, nown_cells h4885, nown_good h4885, nown_rd h4889, nown_len h4889, nown_cells h4889, nown_good h4889, nown_rd h4893, nown_len h4893, nown_cells h4893, nown_good h4893, nown_rd h4897, nown_len h4897, nown_cells h4897, nown_good h4897]
    refine ⟨2, rfl, app_nw1 (j := 2) h4889 (hp_get 2) rfl (of_decide_eq_true rfl) rfl ?_ q5019 (int64R i4704) ?_⟩
    simp only [go_sem, ↓reduceIte, reduceCtorEq, Nat.reduceEqDiff, Nat.reduceLT, Nat.reduceLeDiff, Nat.reduceAdd, Nat.reduceMul, Int.reduceLE, nown_rd h4885, nown_len h4885, nown_cells h4885, nown_good h4885, nown_rd h4889, nown_len h4889, nown_cells h4889, nown_good h4889, nown_rd h4893, nown_len h4893, nown_cells h4893, nown_good h4893, nown_rd h4897, nown_len h4897, nown_cells h4897, nown_good h4897]
    unfold sealK; simp only [go_sem, ↓reduceIte, reduceCtorEq, Nat.reduceEqDiff, Nat.reduceLT, Nat.reduceLeDiff, Nat.reduceAdd, Nat.reduceMul, Int.reduceLE, nown_rd h4885, nown_len h4885, nown_cells h4885, nown_good h4885, all2_length (snoc_all2 q5019 (nown_all h4889) (int64R i4704)), own_take (snoc_all2 q5019 (nown_all h4889) (int64R i4704)), nown_rd h4893, nown_len h4893, nown_cells h4893, nown_good h4893, nown_rd h4897, nown_len h4897, nown_cells h4897, nown_good h4897, nown_rd h4889, nown_len h4889, nown_cells h4889, nown_good h4889]
    refine ⟨[], rfl, _, _, _, .keep _ _ _ _ (fun _ _ h => h), ?_⟩
    try unfold sealK
    try simp only [go_sem, ↓reduceIte, reduceCtorEq, Nat.reduceEqDiff, Nat.reduceLT, Nat.reduceLeDiff, Nat.reduceAdd, Nat.reduceMul, Int.reduceLE, rdSl_hp q12 (slH_lt h0), l14, c16, g17, nown_rd h4885, nown_len h4885, nown_cells h4885, nown_good h4885, all2_length (snoc_all2 q5019 (nown_all h4889) (int64R i4704)), own_take (snoc_all2 q5019 (nown_all h4889) (int64R i4704)), nown_rd h4893, nown_len h4893, nown_cells h4893, nown_good h4893, nown_rd h4897, nown_len h4897, nown_cells h4897, nown_good h4897]
    refine j4677 _ _ _ x4882 rw4883 v4884 h4885 (.sl 1 (n + 2) 0 v5018.length v5018.length false) (some (Option.getD rw4887 [] ++ [(.int .i64 a4696.txn)])) v5018 (nown_own (snoc_all2 q5019 (nown_all h4889) (int64R i4704)) (snoc_len q5019 (nown_all h4889) (int64R i4704))) x4890 rw4891 v4892 h4893 x4894 rw4895 v4896 h4897 x4215 v4216 h4217 ?_ ho4224
    refine Norm.mkL (js := [0, 1, 8, 3, 4]) (m := 5) [0, 3, 4] [x0, (.ep 5 (.sl 5 n 0 1 1 true) 0 0), (.int .i64 v4218)] (of_decide_eq_true rfl) ?_ (RnL.cons (.keep _ (slH_lt h0)) (RnL.cons (Rn.ptr (js := [0, 1, 8, 3, 4]) 0 0) (RnL.cons (.keep _ (.int _ _)) RnL.nil))) (RowsR.row 0 _ _ _ _ hp_get0 (RnL.cons (Rn.agg' (RnL.cons (.keep _ (slr_ltA _ _ _ h4217)) (RnL.cons (nown_rn h4885 rfl) (RnL.cons (Rn.own (js := [0, 1, 8, 3, 4]) 8 2) (RnL.cons (nown_rn h4893 rfl) (RnL.cons (nown_rn h4897 rfl) RnL.nil)))))) RnL.nil) (RowsR.opt 1 _ _ _ (.inr (hp_get 1)) (nown_rows h4885 int64_lt) (RowsR.row 8 _ _ _ _ (hp_get 8) (RnL.all2 (snoc_all2 q5019 (nown_all h4889) (int64R i4704)) int64_lt) (RowsR.opt 3 _ _ _ (.inr (hp_get 3)) (nown_rows h4893 int64_lt) (RowsR.opt 4 _ _ _ (.inr (hp_get 4)) (nown_rows h4897 tyHeld_140.lt) RowsR.nil))))) rfl
    kernel_rfl
    replace ho4224 := ifF z5017 ho4224
    refine WQ.skip ?_
    simp only [go_sem, ↓reduceIte, reduceCtorEq, Nat.reduceEqDiff, Nat.reduceLT, Nat.reduceLeDiff, Nat.reduceAdd, Nat.reduceMul, Int.reduceLE]
    refine ⟨[], rfl, _, _, _, .keep _ _ _ _ (fun _ _ h => h), ?_⟩
    try unfold sealK
    try simp only [go_sem, ↓reduceIte, reduceCtorEq, Nat.reduceEqDiff, Nat.reduceLT, Nat.reduceLeDiff, Nat.reduceAdd, Nat.reduceMul, Int.reduceLE, rdSl_hp q12 (slH_lt h0), l14, c16, g17, nown_rd h4885, nown_len h4885, nown_cells h4885, nown_good h4885, nown_rd h4889, nown_len h4889, nown_cells h4889, nown_good h4889, nown_rd h4893, nown_len h4893, nown_cells h4893, nown_good h4893, nown_rd h4897, nown_len h4897, nown_cells h4897, nown_good h4897]
    refine j4677 _ _ _ x4882 rw4883 v4884 h4885 x4886 rw4887 v4888 h4889 x4890 rw4891 v4892 h4893 x4894 rw4895 v4896 h4897 x4215 v4216 h4217 ?_ ho4224
    refine Norm.mkL (js := [0, 1, 2, 3, 4]) (m := 5) [0, 3, 4] [x0, (.ep 5 (.sl 5 n 0 1 1 true) 0 0), (.int .i64 v4218)] (of_decide_eq_true rfl) ?_ (RnL.cons (.keep _ (slH_lt h0)) (RnL.cons (Rn.ptr (js := [0, 1, 2, 3, 4]) 0 0) (RnL.cons (.keep _ (.int _ _)) RnL.nil))) (RowsR.row 0 _ _ _ _ hp_get0 (RnL.cons (Rn.agg' (RnL.cons (.keep _ (slr_ltA _ _ _ h4217)) (RnL.cons (nown_rn h4885 rfl) (RnL.cons (nown_rn h4889 rfl) (RnL.cons (nown_rn h4893 rfl) (RnL.cons (nown_rn h4897 rfl) RnL.nil)))))) RnL.nil) (RowsR.opt 1 _ _ _ (.inr (hp_get 1)) (nown_rows h4885 int64_lt) (RowsR.opt 2 _ _ _ (.inr (hp_get 2)) (nown_rows h4889 int64_lt) (RowsR.opt 3 _ _ _ (.inr (hp_get 3)) (nown_rows h4893 int64_lt) (RowsR.opt 4 _ _ _ (.inr (hp_get 4)) (nown_rows h4897 tyHeld_140.lt) RowsR.nil))))) rfl
    kernel_rfl
    replace ho4224 := ifF z5016 ho4224
    refine WQ.region hT rfl ?_
    simp only [go_sem, ↓reduceIte, reduceCtorEq, Nat.reduceEqDiff, Nat.reduceLT, Nat.reduceLeDiff, Nat.reduceAdd, Nat.reduceMul, Int.reduceLE]
    refine kn hK5012 ?_
    clear hK5012 K5012
    refine WQ.cond (t := decide (a4696.kind = 4)) ?_ (fun z5020 => ?_) (fun z5020 => ?_)
    kernel_rfl
    replace ho4224 := ifT z5020 ho4224
    obtain ⟨v5021, q5022, ho4224⟩ := obs ho4224
    refine WQ.drawL hT hM [(0, 0), (1, 0), (2, 0), (3, 0), (4, 1), (5, 0), (6, 1), (7, 2), (8, 2), (9, 0), (10, 0), (11, 2)] [11] (hp h n [some [(.agg [x4215, x4882, x4886, x4890, x4894])], rw4883, none, rw4891, rw4895, some [(.agg [(.int .i64 a4696.kind), (.int .i64 a4696.txn), (.int .i64 a4696.key), (.bool a4696.had), (.int .i64 a4696.old), (.bool a4696.has), (.int .i64 a4696.new), (.int .i64 a4696.back)])], some [(.agg [(.int .i64 a4696.kind), (.int .i64 a4696.txn), (.int .i64 a4696.key), (.bool a4696.had), (.int .i64 a4696.old), (.bool a4696.has), (.int .i64 a4696.new), (.int .i64 a4696.back)])]]) ?_ rfl ?_ fun _ => ?_
    kernel_rfl
    simp only [go_sem]
    simp only [go_sem, ↓reduceIte, reduceCtorEq, Nat.reduceEqDiff, Nat.reduceLT, Nat.reduceLeDiff, Nat.reduceAdd, Nat.reduceMul, Int.reduceLE, nown_rd h4885, nown_len h4885, nown_cells h4885, nown_good h4885, nown_rd h4889, nown_len h4889, nown_cells h4889, nown_good h4889, nown_rd h4893, nown_len h4893, nown_cells h4893, nown_good h4893, nown_rd h4897, nown_len h4897, nown_cells h4897, nown_good h4897]
    refine ⟨2, rfl, app_nw1 (j := 2) h4889 (hp_get 2) rfl (of_decide_eq_true rfl) rfl ?_ q5022 (int64R i4704) ?_⟩
    simp only [go_sem, ↓reduceIte, reduceCtorEq, Nat.reduceEqDiff, Nat.reduceLT, Nat.reduceLeDiff, Nat.reduceAdd, Nat.reduceMul, Int.reduceLE, nown_rd h4885, nown_len h4885, nown_cells h4885, nown_good h4885, nown_rd h4889, nown_len h4889, nown_cells h4889, nown_good h4889, nown_rd h4893, nown_len h4893, nown_cells h4893, nown_good h4893, nown_rd h4897, nown_len h4897, nown_cells h4897, nown_good h4897]
    unfold sealK; simp only [go_sem, ↓reduceIte, reduceCtorEq, Nat.reduceEqDiff, Nat.reduceLT, Nat.reduceLeDiff, Nat.reduceAdd, Nat.reduceMul, Int.reduceLE, nown_rd h4885, nown_len h4885, nown_cells h4885, nown_good h4885, all2_length (snoc_all2 q5022 (nown_all h4889) (int64R i4704)), own_take (snoc_all2 q5022 (nown_all h4889) (int64R i4704)), nown_rd h4893, nown_len h4893, nown_cells h4893, nown_good h4893, nown_rd h4897, nown_len h4897, nown_cells h4897, nown_good h4897, nown_rd h4889, nown_len h4889, nown_cells h4889, nown_good h4889]
    refine ⟨[], rfl, _, _, _, .keep _ _ _ _ (fun _ _ h => h), ?_⟩
    try unfold sealK
    try simp only [go_sem, ↓reduceIte, reduceCtorEq, Nat.reduceEqDiff, Nat.reduceLT, Nat.reduceLeDiff, Nat.reduceAdd, Nat.reduceMul, Int.reduceLE, rdSl_hp q12 (slH_lt h0), l14, c16, g17, nown_rd h4885, nown_len h4885, nown_cells h4885, nown_good h4885, all2_length (snoc_all2 q5022 (nown_all h4889) (int64R i4704)), own_take (snoc_all2 q5022 (nown_all h4889) (int64R i4704)), nown_rd h4893, nown_len h4893, nown_cells h4893, nown_good h4893, nown_rd h4897, nown_len h4897, nown_cells h4897, nown_good h4897]
    refine j4677 _ _ _ x4882 rw4883 v4884 h4885 (.sl 1 (n + 2) 0 v5021.length v5021.length false) (some (Option.getD rw4887 [] ++ [(.int .i64 a4696.txn)])) v5021 (nown_own (snoc_all2 q5022 (nown_all h4889) (int64R i4704)) (snoc_len q5022 (nown_all h4889) (int64R i4704))) x4890 rw4891 v4892 h4893 x4894 rw4895 v4896 h4897 x4215 v4216 h4217 ?_ ho4224
    refine Norm.mkL (js := [0, 1, 8, 3, 4]) (m := 5) [0, 3, 4] [x0, (.ep 5 (.sl 5 n 0 1 1 true) 0 0), (.int .i64 v4218)] (of_decide_eq_true rfl) ?_ (RnL.cons (.keep _ (slH_lt h0)) (RnL.cons (Rn.ptr (js := [0, 1, 8, 3, 4]) 0 0) (RnL.cons (.keep _ (.int _ _)) RnL.nil))) (RowsR.row 0 _ _ _ _ hp_get0 (RnL.cons (Rn.agg' (RnL.cons (.keep _ (slr_ltA _ _ _ h4217)) (RnL.cons (nown_rn h4885 rfl) (RnL.cons (Rn.own (js := [0, 1, 8, 3, 4]) 8 2) (RnL.cons (nown_rn h4893 rfl) (RnL.cons (nown_rn h4897 rfl) RnL.nil)))))) RnL.nil) (RowsR.opt 1 _ _ _ (.inr (hp_get 1)) (nown_rows h4885 int64_lt) (RowsR.row 8 _ _ _ _ (hp_get 8) (RnL.all2 (snoc_all2 q5022 (nown_all h4889) (int64R i4704)) int64_lt) (RowsR.opt 3 _ _ _ (.inr (hp_get 3)) (nown_rows h4893 int64_lt) (RowsR.opt 4 _ _ _ (.inr (hp_get 4)) (nown_rows h4897 tyHeld_140.lt) RowsR.nil))))) rfl
    kernel_rfl
    replace ho4224 := ifF z5020 ho4224
    refine WQ.skip ?_
    simp only [go_sem, ↓reduceIte, reduceCtorEq, Nat.reduceEqDiff, Nat.reduceLT, Nat.reduceLeDiff, Nat.reduceAdd, Nat.reduceMul, Int.reduceLE]
    refine ⟨[], rfl, _, _, _, .keep _ _ _ _ (fun _ _ h => h), ?_⟩
    try unfold sealK
    try simp only [go_sem, ↓reduceIte, reduceCtorEq, Nat.reduceEqDiff, Nat.reduceLT, Nat.reduceLeDiff, Nat.reduceAdd, Nat.reduceMul, Int.reduceLE, rdSl_hp q12 (slH_lt h0), l14, c16, g17, nown_rd h4885, nown_len h4885, nown_cells h4885, nown_good h4885, nown_rd h4889, nown_len h4889, nown_cells h4889, nown_good h4889, nown_rd h4893, nown_len h4893, nown_cells h4893, nown_good h4893, nown_rd h4897, nown_len h4897, nown_cells h4897, nown_good h4897]
    refine j4677 _ _ _ x4882 rw4883 v4884 h4885 x4886 rw4887 v4888 h4889 x4890 rw4891 v4892 h4893 x4894 rw4895 v4896 h4897 x4215 v4216 h4217 ?_ ho4224
    refine Norm.mkL (js := [0, 1, 2, 3, 4]) (m := 5) [0, 3, 4] [x0, (.ep 5 (.sl 5 n 0 1 1 true) 0 0), (.int .i64 v4218)] (of_decide_eq_true rfl) ?_ (RnL.cons (.keep _ (slH_lt h0)) (RnL.cons (Rn.ptr (js := [0, 1, 2, 3, 4]) 0 0) (RnL.cons (.keep _ (.int _ _)) RnL.nil))) (RowsR.row 0 _ _ _ _ hp_get0 (RnL.cons (Rn.agg' (RnL.cons (.keep _ (slr_ltA _ _ _ h4217)) (RnL.cons (nown_rn h4885 rfl) (RnL.cons (nown_rn h4889 rfl) (RnL.cons (nown_rn h4893 rfl) (RnL.cons (nown_rn h4897 rfl) RnL.nil)))))) RnL.nil) (RowsR.opt 1 _ _ _ (.inr (hp_get 1)) (nown_rows h4885 int64_lt) (RowsR.opt 2 _ _ _ (.inr (hp_get 2)) (nown_rows h4889 int64_lt) (RowsR.opt 3 _ _ _ (.inr (hp_get 3)) (nown_rows h4893 int64_lt) (RowsR.opt 4 _ _ _ (.inr (hp_get 4)) (nown_rows h4897 tyHeld_140.lt) RowsR.nil))))) rfl
    kernel_rfl
    replace ho4224 := ifF z4942 ho4224
    refine WQ.region hT rfl ?_
    simp only [go_sem, ↓reduceIte, reduceCtorEq, Nat.reduceEqDiff, Nat.reduceLT, Nat.reduceLeDiff, Nat.reduceAdd, Nat.reduceMul, Int.reduceLE]
    refine kn hK4938 ?_
    clear hK4938 K4938
    refine WQ.cond (t := decide (a4696.kind = 5)) ?_ (fun z5023 => ?_) (fun z5023 => ?_)
    kernel_rfl
    replace ho4224 := ifT z5023 ho4224
    refine WQ.seq_k fun K5024 hK5024 => ?_
    obtain ⟨v5037, q5036, ho4224⟩ := obs ho4224
    refine WQ.drawL hT hM [(0, 0), (1, 0), (2, 0), (3, 0), (4, 1), (5, 0), (6, 1), (7, 2), (8, 0), (9, 0), (10, 2)] [10] (hp h n [some [(.agg [x4215, x4882, x4886, x4890, x4894])], rw4883, rw4887, rw4891, rw4895, some [(.agg [(.int .i64 a4696.kind), (.int .i64 a4696.txn), (.int .i64 a4696.key), (.bool a4696.had), (.int .i64 a4696.old), (.bool a4696.has), (.int .i64 a4696.new), (.int .i64 a4696.back)])], some [(.agg [(.int .i64 a4696.kind), (.int .i64 a4696.txn), (.int .i64 a4696.key), (.bool a4696.had), (.int .i64 a4696.old), (.bool a4696.has), (.int .i64 a4696.new), (.int .i64 a4696.back)])]]) ?_ rfl ?_ fun _ => ?_
    kernel_rfl
    simp only [go_sem]
    simp only [go_sem, ↓reduceIte, reduceCtorEq, Nat.reduceEqDiff, Nat.reduceLT, Nat.reduceLeDiff, Nat.reduceAdd, Nat.reduceMul, Int.reduceLE, nown_rd h4885, nown_len h4885, nown_cells h4885, nown_good h4885, nown_rd h4889, nown_len h4889, nown_cells h4889, nown_good h4889, nown_rd h4893, nown_len h4893, nown_cells h4893, nown_good h4893, nown_rd h4897, nown_len h4897, nown_cells h4897, nown_good h4897]
    refine w_s_l1Without (SlR.toH h4217) i4705 q5036 (fun y5038 h5039 => ?_)
    obtain ⟨es5040, q5041, a5042, l5043, b5044, c5045, g5046⟩ := slr_open h5039
    unfold sealK; simp only [go_sem, ↓reduceIte, reduceCtorEq, Nat.reduceEqDiff, Nat.reduceLT, Nat.reduceLeDiff, Nat.reduceAdd, Nat.reduceMul, Int.reduceLE, rdSl_emp q5041, l5043, c5045, g5046, nown_rd h4885, nown_len h4885, nown_cells h4885, nown_good h4885, nown_rd h4889, nown_len h4889, nown_cells h4889, nown_good h4889, nown_rd h4893, nown_len h4893, nown_cells h4893, nown_good h4893, nown_rd h4897, nown_len h4897, nown_cells h4897, nown_good h4897]
    refine kn hK5024 ?_
    clear hK5024 K5024
    refine WQ.seq_k fun K5047 hK5047 => ?_
    refine WQ.sr hT rfl fun K5061 hK5061 => ?_
    simp only [go_sem, ↓reduceIte, reduceCtorEq, Nat.reduceEqDiff, Nat.reduceLT, Nat.reduceLeDiff, Nat.reduceAdd, Nat.reduceMul, Int.reduceLE]
    refine kn hK5061 ?_
    clear hK5061 K5061
    refine WQ.cond (t := a4696.has) ?_ (fun z5062 => ?_) (fun z5062 => ?_)
    kernel_rfl
    replace ho4224 := ifT z5062 ho4224
    obtain ⟨v5064, q5063, ho4224⟩ := obs ho4224
    refine WQ.drawL hT hM [(0, 0), (1, 0), (2, 0), (3, 0), (4, 1), (5, 0), (6, 1), (7, 0), (8, 1), (9, 2), (10, 0), (11, 0), (12, 2)] [12] (hp h n [some [(.agg [y5038, x4882, x4886, x4890, x4894])], rw4883, rw4887, rw4891, rw4895, some [(.agg [(.int .i64 a4696.kind), (.int .i64 a4696.txn), (.int .i64 a4696.key), (.bool a4696.had), (.int .i64 a4696.old), (.bool a4696.has), (.int .i64 a4696.new), (.int .i64 a4696.back)])], some [(.agg [(.int .i64 a4696.kind), (.int .i64 a4696.txn), (.int .i64 a4696.key), (.bool a4696.had), (.int .i64 a4696.old), (.bool a4696.has), (.int .i64 a4696.new), (.int .i64 a4696.back)])]]) ?_ rfl ?_ fun _ => ?_
    kernel_rfl
    simp only [go_sem]
    simp only [go_sem, ↓reduceIte, reduceCtorEq, Nat.reduceEqDiff, Nat.reduceLT, Nat.reduceLeDiff, Nat.reduceAdd, Nat.reduceMul, Int.reduceLE, rdSl_emp q5041, l5043, c5045, g5046, nown_rd h4885, nown_len h4885, nown_cells h4885, nown_good h4885, nown_rd h4889, nown_len h4889, nown_cells h4889, nown_good h4889, nown_rd h4893, nown_len h4893, nown_cells h4893, nown_good h4893, nown_rd h4897, nown_len h4897, nown_cells h4897, nown_good h4897]
    refine w_s_l1With (SlR.toH h5039) i4705 i4707 q5063 (fun y5065 h5066 => ?_)
    obtain ⟨es5067, q5068, a5069, l5070, b5071, c5072, g5073⟩ := slr_open h5066
    unfold sealK; simp only [go_sem, ↓reduceIte, reduceCtorEq, Nat.reduceEqDiff, Nat.reduceLT, Nat.reduceLeDiff, Nat.reduceAdd, Nat.reduceMul, Int.reduceLE, rdSl_emp q5068, l5070, c5072, g5073, nown_rd h4885, nown_len h4885, nown_cells h4885, nown_good h4885, nown_rd h4889, nown_len h4889, nown_cells h4889, nown_good h4889, nown_rd h4893, nown_len h4893, nown_cells h4893, nown_good h4893, nown_rd h4897, nown_len h4897, nown_cells h4897, nown_good h4897, rdSl_emp q5041, l5043, c5045, g5046]
    refine kn hK5047 ?_
    clear hK5047 K5047
    refine WQ.seq_k fun K5074 hK5074 => ?_
    obtain ⟨v5077, q5078, ho4224⟩ := obs ho4224
    refine WQ.drawL hT hM [(0, 0), (1, 0), (2, 0), (3, 0), (4, 1), (5, 0), (6, 1), (7, 0), (8, 1), (9, 0), (10, 2), (11, 2), (12, 0), (13, 0), (14, 2)] [14] (hp h n [some [(.agg [y5065, x4882, x4886, x4890, x4894])], rw4883, rw4887, rw4891, none, some [(.agg [(.int .i64 a4696.kind), (.int .i64 a4696.txn), (.int .i64 a4696.key), (.bool a4696.had), (.int .i64 a4696.old), (.bool a4696.has), (.int .i64 a4696.new), (.int .i64 a4696.back)])], some [(.agg [(.int .i64 a4696.kind), (.int .i64 a4696.txn), (.int .i64 a4696.key), (.bool a4696.had), (.int .i64 a4696.old), (.bool a4696.has), (.int .i64 a4696.new), (.int .i64 a4696.back)])]]) ?_ rfl ?_ fun _ => ?_
    kernel_rfl
    simp only [go_sem]
    simp only [go_sem, ↓reduceIte, reduceCtorEq, Nat.reduceEqDiff, Nat.reduceLT, Nat.reduceLeDiff, Nat.reduceAdd, Nat.reduceMul, Int.reduceLE, rdSl_emp q5068, l5070, c5072, g5073, nown_rd h4885, nown_len h4885, nown_cells h4885, nown_good h4885, nown_rd h4889, nown_len h4889, nown_cells h4889, nown_good h4889, nown_rd h4893, nown_len h4893, nown_cells h4893, nown_good h4893, nown_rd h4897, nown_len h4897, nown_cells h4897, nown_good h4897]
    refine ⟨140, rfl, app_nw1 (j := 4) h4897 (hp_get 4) rfl (of_decide_eq_true rfl) rfl ?_ q5078 (show HeldR (.agg [(.int .i64 a4696.txn), (.int .i64 a4696.key)]) (HeldD.mk a4696.txn a4696.key) from ⟨rfl, i4704, i4705⟩) ?_⟩
    simp only [go_sem, ↓reduceIte, reduceCtorEq, Nat.reduceEqDiff, Nat.reduceLT, Nat.reduceLeDiff, Nat.reduceAdd, Nat.reduceMul, Int.reduceLE, rdSl_emp q5068, l5070, c5072, g5073, nown_rd h4885, nown_len h4885, nown_cells h4885, nown_good h4885, nown_rd h4889, nown_len h4889, nown_cells h4889, nown_good h4889, nown_rd h4893, nown_len h4893, nown_cells h4893, nown_good h4893, nown_rd h4897, nown_len h4897, nown_cells h4897, nown_good h4897]
    unfold sealK; simp only [go_sem, ↓reduceIte, reduceCtorEq, Nat.reduceEqDiff, Nat.reduceLT, Nat.reduceLeDiff, Nat.reduceAdd, Nat.reduceMul, Int.reduceLE, rdSl_emp q5068, l5070, c5072, g5073, nown_rd h4885, nown_len h4885, nown_cells h4885, nown_good h4885, nown_rd h4889, nown_len h4889, nown_cells h4889, nown_good h4889, nown_rd h4893, nown_len h4893, nown_cells h4893, nown_good h4893, all2_length (snoc_all2 q5078 (nown_all h4897) (show HeldR (.agg [(.int .i64 a4696.txn), (.int .i64 a4696.key)]) (HeldD.mk a4696.txn a4696.key) from ⟨rfl, i4704, i4705⟩)), own_take (snoc_all2 q5078 (nown_all h4897) (show HeldR (.agg [(.int .i64 a4696.txn), (.int .i64 a4696.key)]) (HeldD.mk a4696.txn a4696.key) from ⟨rfl, i4704, i4705⟩)), nown_rd h4897, nown_len h4897, nown_cells h4897, nown_good h4897]
    refine kn hK5074 ?_
    clear hK5074 K5074
    refine WQ.sr hT rfl fun K5079 hK5079 => ?_
    simp only [go_sem, ↓reduceIte, reduceCtorEq, Nat.reduceEqDiff, Nat.reduceLT, Nat.reduceLeDiff, Nat.reduceAdd, Nat.reduceMul, Int.reduceLE]
    refine kn hK5079 ?_
    clear hK5079 K5079
    refine WQ.cond (t := decide (a4696.kind = 5)) ?_ (fun z5080 => ?_) (fun z5080 => ?_)
    kernel_rfl
    replace ho4224 := ifT z5080 ho4224
    obtain ⟨v5081, q5082, ho4224⟩ := obs ho4224
    refine WQ.drawL hT hM [(0, 0), (1, 0), (2, 0), (3, 0), (4, 1), (5, 0), (6, 1), (7, 2), (8, 2), (9, 0), (10, 0), (11, 2)] [11] (hp h n [some [(.agg [y5065, x4882, x4886, x4890, (.sl 2 (n + 8) 0 v5077.length v5077.length false)])], rw4883, rw4887, none, none, some [(.agg [(.int .i64 a4696.kind), (.int .i64 a4696.txn), (.int .i64 a4696.key), (.bool a4696.had), (.int .i64 a4696.old), (.bool a4696.has), (.int .i64 a4696.new), (.int .i64 a4696.back)])], some [(.agg [(.int .i64 a4696.kind), (.int .i64 a4696.txn), (.int .i64 a4696.key), (.bool a4696.had), (.int .i64 a4696.old), (.bool a4696.has), (.int .i64 a4696.new), (.int .i64 a4696.back)])], some ([(.agg [(.int .i64 a4696.txn), (.int .i64 a4696.key)])]), some (Option.getD rw4895 [] ++ [(.agg [(.int .i64 a4696.txn), (.int .i64 a4696.key)])])]) ?_ rfl ?_ fun _ => ?_
    kernel_rfl
    simp only [go_sem]
    simp only [go_sem, ↓reduceIte, reduceCtorEq, Nat.reduceEqDiff, Nat.reduceLT, Nat.reduceLeDiff, Nat.reduceAdd, Nat.reduceMul, Int.reduceLE, rdSl_emp q5068, l5070, c5072, g5073, nown_rd h4885, nown_len h4885, nown_cells h4885, nown_good h4885, nown_rd h4889, nown_len h4889, nown_cells h4889, nown_good h4889, nown_rd h4893, nown_len h4893, nown_cells h4893, nown_good h4893, all2_length (snoc_all2 q5078 (nown_all h4897) (show HeldR (.agg [(.int .i64 a4696.txn), (.int .i64 a4696.key)]) (HeldD.mk a4696.txn a4696.key) from ⟨rfl, i4704, i4705⟩)), own_take (snoc_all2 q5078 (nown_all h4897) (show HeldR (.agg [(.int .i64 a4696.txn), (.int .i64 a4696.key)]) (HeldD.mk a4696.txn a4696.key) from ⟨rfl, i4704, i4705⟩))]
    refine ⟨2, rfl, app_nw1 (j := 3) h4893 (hp_get 3) rfl (of_decide_eq_true rfl) rfl ?_ q5082 (int64R i4704) ?_⟩
    simp only [go_sem, ↓reduceIte, reduceCtorEq, Nat.reduceEqDiff, Nat.reduceLT, Nat.reduceLeDiff, Nat.reduceAdd, Nat.reduceMul, Int.reduceLE, rdSl_emp q5068, l5070, c5072, g5073, nown_rd h4885, nown_len h4885, nown_cells h4885, nown_good h4885, nown_rd h4889, nown_len h4889, nown_cells h4889, nown_good h4889, nown_rd h4893, nown_len h4893, nown_cells h4893, nown_good h4893, all2_length (snoc_all2 q5078 (nown_all h4897) (show HeldR (.agg [(.int .i64 a4696.txn), (.int .i64 a4696.key)]) (HeldD.mk a4696.txn a4696.key) from ⟨rfl, i4704, i4705⟩)), own_take (snoc_all2 q5078 (nown_all h4897) (show HeldR (.agg [(.int .i64 a4696.txn), (.int .i64 a4696.key)]) (HeldD.mk a4696.txn a4696.key) from ⟨rfl, i4704, i4705⟩))]
    unfold sealK; simp only [go_sem, ↓reduceIte, reduceCtorEq, Nat.reduceEqDiff, Nat.reduceLT, Nat.reduceLeDiff, Nat.reduceAdd, Nat.reduceMul, Int.reduceLE, rdSl_emp q5068, l5070, c5072, g5073, nown_rd h4885, nown_len h4885, nown_cells h4885, nown_good h4885, nown_rd h4889, nown_len h4889, nown_cells h4889, nown_good h4889, all2_length (snoc_all2 q5082 (nown_all h4893) (int64R i4704)), own_take (snoc_all2 q5082 (nown_all h4893) (int64R i4704)), all2_length (snoc_all2 q5078 (nown_all h4897) (show HeldR (.agg [(.int .i64 a4696.txn), (.int .i64 a4696.key)]) (HeldD.mk a4696.txn a4696.key) from ⟨rfl, i4704, i4705⟩)), own_take (snoc_all2 q5078 (nown_all h4897) (show HeldR (.agg [(.int .i64 a4696.txn), (.int .i64 a4696.key)]) (HeldD.mk a4696.txn a4696.key) from ⟨rfl, i4704, i4705⟩)), nown_rd h4893, nown_len h4893, nown_cells h4893, nown_good h4893]
    refine ⟨[], rfl, _, _, _, .keep _ _ _ _ (fun _ _ h => h), ?_⟩
    try unfold sealK
    try simp only [go_sem, ↓reduceIte, reduceCtorEq, Nat.reduceEqDiff, Nat.reduceLT, Nat.reduceLeDiff, Nat.reduceAdd, Nat.reduceMul, Int.reduceLE, rdSl_hp q12 (slH_lt h0), l14, c16, g17, rdSl_emp q5068, l5070, c5072, g5073, nown_rd h4885, nown_len h4885, nown_cells h4885, nown_good h4885, nown_rd h4889, nown_len h4889, nown_cells h4889, nown_good h4889, all2_length (snoc_all2 q5082 (nown_all h4893) (int64R i4704)), own_take (snoc_all2 q5082 (nown_all h4893) (int64R i4704)), all2_length (snoc_all2 q5078 (nown_all h4897) (show HeldR (.agg [(.int .i64 a4696.txn), (.int .i64 a4696.key)]) (HeldD.mk a4696.txn a4696.key) from ⟨rfl, i4704, i4705⟩)), own_take (snoc_all2 q5078 (nown_all h4897) (show HeldR (.agg [(.int .i64 a4696.txn), (.int .i64 a4696.key)]) (HeldD.mk a4696.txn a4696.key) from ⟨rfl, i4704, i4705⟩))]
    refine j4677 _ _ _ x4882 rw4883 v4884 h4885 x4886 rw4887 v4888 h4889 (.sl 1 (n + 3) 0 v5081.length v5081.length false) (some (Option.getD rw4891 [] ++ [(.int .i64 a4696.txn)])) v5081 (nown_own (snoc_all2 q5082 (nown_all h4893) (int64R i4704)) (snoc_len q5082 (nown_all h4893) (int64R i4704))) (.sl 2 (n + 4) 0 v5077.length v5077.length false) (some (Option.getD rw4895 [] ++ [(.agg [(.int .i64 a4696.txn), (.int .i64 a4696.key)])])) v5077 (nown_own (snoc_all2 q5078 (nown_all h4897) (show HeldR (.agg [(.int .i64 a4696.txn), (.int .i64 a4696.key)]) (HeldD.mk a4696.txn a4696.key) from ⟨rfl, i4704, i4705⟩)) (snoc_len q5078 (nown_all h4897) (show HeldR (.agg [(.int .i64 a4696.txn), (.int .i64 a4696.key)]) (HeldD.mk a4696.txn a4696.key) from ⟨rfl, i4704, i4705⟩))) y5065 v5064 h5066 ?_ ho4224
    refine Norm.mkL (js := [0, 1, 2, 10, 8]) (m := 5) [0, 3, 4] [x0, (.ep 5 (.sl 5 n 0 1 1 true) 0 0), (.int .i64 v4218)] (of_decide_eq_true rfl) ?_ (RnL.cons (.keep _ (slH_lt h0)) (RnL.cons (Rn.ptr (js := [0, 1, 2, 10, 8]) 0 0) (RnL.cons (.keep _ (.int _ _)) RnL.nil))) (RowsR.row 0 _ _ _ _ hp_get0 (RnL.cons (Rn.agg' (RnL.cons (.keep _ (slr_ltA _ _ _ h5066)) (RnL.cons (nown_rn h4885 rfl) (RnL.cons (nown_rn h4889 rfl) (RnL.cons (Rn.own (js := [0, 1, 2, 10, 8]) 10 3) (RnL.cons (Rn.own (js := [0, 1, 2, 10, 8]) 8 4) RnL.nil)))))) RnL.nil) (RowsR.opt 1 _ _ _ (.inr (hp_get 1)) (nown_rows h4885 int64_lt) (RowsR.opt 2 _ _ _ (.inr (hp_get 2)) (nown_rows h4889 int64_lt) (RowsR.row 10 _ _ _ _ (hp_get 10) (RnL.all2 (snoc_all2 q5082 (nown_all h4893) (int64R i4704)) int64_lt) (RowsR.row 8 _ _ _ _ (hp_get 8) (RnL.all2 (snoc_all2 q5078 (nown_all h4897) (show HeldR (.agg [(.int .i64 a4696.txn), (.int .i64 a4696.key)]) (HeldD.mk a4696.txn a4696.key) from ⟨rfl, i4704, i4705⟩)) tyHeld_140.lt) RowsR.nil))))) rfl
    kernel_rfl
    replace ho4224 := ifF z5080 ho4224
    refine WQ.skip ?_
    simp only [go_sem, ↓reduceIte, reduceCtorEq, Nat.reduceEqDiff, Nat.reduceLT, Nat.reduceLeDiff, Nat.reduceAdd, Nat.reduceMul, Int.reduceLE]
    refine ⟨[], rfl, _, _, _, .keep _ _ _ _ (fun _ _ h => h), ?_⟩
    try unfold sealK
    try simp only [go_sem, ↓reduceIte, reduceCtorEq, Nat.reduceEqDiff, Nat.reduceLT, Nat.reduceLeDiff, Nat.reduceAdd, Nat.reduceMul, Int.reduceLE, rdSl_hp q12 (slH_lt h0), l14, c16, g17, rdSl_emp q5068, l5070, c5072, g5073, nown_rd h4885, nown_len h4885, nown_cells h4885, nown_good h4885, nown_rd h4889, nown_len h4889, nown_cells h4889, nown_good h4889, nown_rd h4893, nown_len h4893, nown_cells h4893, nown_good h4893, all2_length (snoc_all2 q5078 (nown_all h4897) (show HeldR (.agg [(.int .i64 a4696.txn), (.int .i64 a4696.key)]) (HeldD.mk a4696.txn a4696.key) from ⟨rfl, i4704, i4705⟩)), own_take (snoc_all2 q5078 (nown_all h4897) (show HeldR (.agg [(.int .i64 a4696.txn), (.int .i64 a4696.key)]) (HeldD.mk a4696.txn a4696.key) from ⟨rfl, i4704, i4705⟩))]
    refine j4677 _ _ _ x4882 rw4883 v4884 h4885 x4886 rw4887 v4888 h4889 x4890 rw4891 v4892 h4893 (.sl 2 (n + 4) 0 v5077.length v5077.length false) (some (Option.getD rw4895 [] ++ [(.agg [(.int .i64 a4696.txn), (.int .i64 a4696.key)])])) v5077 (nown_own (snoc_all2 q5078 (nown_all h4897) (show HeldR (.agg [(.int .i64 a4696.txn), (.int .i64 a4696.key)]) (HeldD.mk a4696.txn a4696.key) from ⟨rfl, i4704, i4705⟩)) (snoc_len q5078 (nown_all h4897) (show HeldR (.agg [(.int .i64 a4696.txn), (.int .i64 a4696.key)]) (HeldD.mk a4696.txn a4696.key) from ⟨rfl, i4704, i4705⟩))) y5065 v5064 h5066 ?_ ho4224
    refine Norm.mkL (js := [0, 1, 2, 3, 8]) (m := 5) [0, 3, 4] [x0, (.ep 5 (.sl 5 n 0 1 1 true) 0 0), (.int .i64 v4218)] (of_decide_eq_true rfl) ?_ (RnL.cons (.keep _ (slH_lt h0)) (RnL.cons (Rn.ptr (js := [0, 1, 2, 3, 8]) 0 0) (RnL.cons (.keep _ (.int _ _)) RnL.nil))) (RowsR.row 0 _ _ _ _ hp_get0 (RnL.cons (Rn.agg' (RnL.cons (.keep _ (slr_ltA _ _ _ h5066)) (RnL.cons (nown_rn h4885 rfl) (RnL.cons (nown_rn h4889 rfl) (RnL.cons (nown_rn h4893 rfl) (RnL.cons (Rn.own (js := [0, 1, 2, 3, 8]) 8 4) RnL.nil)))))) RnL.nil) (RowsR.opt 1 _ _ _ (.inr (hp_get 1)) (nown_rows h4885 int64_lt) (RowsR.opt 2 _ _ _ (.inr (hp_get 2)) (nown_rows h4889 int64_lt) (RowsR.opt 3 _ _ _ (.inr (hp_get 3)) (nown_rows h4893 int64_lt) (RowsR.row 8 _ _ _ _ (hp_get 8) (RnL.all2 (snoc_all2 q5078 (nown_all h4897) (show HeldR (.agg [(.int .i64 a4696.txn), (.int .i64 a4696.key)]) (HeldD.mk a4696.txn a4696.key) from ⟨rfl, i4704, i4705⟩)) tyHeld_140.lt) RowsR.nil))))) rfl
    kernel_rfl
    replace ho4224 := ifF z5062 ho4224
    refine WQ.skip ?_
    simp only [go_sem, ↓reduceIte, reduceCtorEq, Nat.reduceEqDiff, Nat.reduceLT, Nat.reduceLeDiff, Nat.reduceAdd, Nat.reduceMul, Int.reduceLE]
    refine kn hK5047 ?_
    clear hK5047 K5047
    refine WQ.seq_k fun K5083 hK5083 => ?_
    obtain ⟨v5086, q5087, ho4224⟩ := obs ho4224
    refine WQ.drawL hT hM [(0, 0), (1, 0), (2, 0), (3, 0), (4, 1), (5, 0), (6, 1), (7, 0), (8, 1), (9, 0), (10, 2), (11, 2), (12, 0), (13, 0), (14, 2)] [14] (hp h n [some [(.agg [y5038, x4882, x4886, x4890, x4894])], rw4883, rw4887, rw4891, none, some [(.agg [(.int .i64 a4696.kind), (.int .i64 a4696.txn), (.int .i64 a4696.key), (.bool a4696.had), (.int .i64 a4696.old), (.bool a4696.has), (.int .i64 a4696.new), (.int .i64 a4696.back)])], some [(.agg [(.int .i64 a4696.kind), (.int .i64 a4696.txn), (.int .i64 a4696.key), (.bool a4696.had), (.int .i64 a4696.old), (.bool a4696.has), (.int .i64 a4696.new), (.int .i64 a4696.back)])]]) ?_ rfl ?_ fun _ => ?_
    kernel_rfl
    simp only [go_sem]
    simp only [go_sem, ↓reduceIte, reduceCtorEq, Nat.reduceEqDiff, Nat.reduceLT, Nat.reduceLeDiff, Nat.reduceAdd, Nat.reduceMul, Int.reduceLE, rdSl_emp q5041, l5043, c5045, g5046, nown_rd h4885, nown_len h4885, nown_cells h4885, nown_good h4885, nown_rd h4889, nown_len h4889, nown_cells h4889, nown_good h4889, nown_rd h4893, nown_len h4893, nown_cells h4893, nown_good h4893, nown_rd h4897, nown_len h4897, nown_cells h4897, nown_good h4897]
    refine ⟨140, rfl, app_nw1 (j := 4) h4897 (hp_get 4) rfl (of_decide_eq_true rfl) rfl ?_ q5087 (show HeldR (.agg [(.int .i64 a4696.txn), (.int .i64 a4696.key)]) (HeldD.mk a4696.txn a4696.key) from ⟨rfl, i4704, i4705⟩) ?_⟩
    simp only [go_sem, ↓reduceIte, reduceCtorEq, Nat.reduceEqDiff, Nat.reduceLT, Nat.reduceLeDiff, Nat.reduceAdd, Nat.reduceMul, Int.reduceLE, rdSl_emp q5041, l5043, c5045, g5046, nown_rd h4885, nown_len h4885, nown_cells h4885, nown_good h4885, nown_rd h4889, nown_len h4889, nown_cells h4889, nown_good h4889, nown_rd h4893, nown_len h4893, nown_cells h4893, nown_good h4893, nown_rd h4897, nown_len h4897, nown_cells h4897, nown_good h4897]
    unfold sealK; simp only [go_sem, ↓reduceIte, reduceCtorEq, Nat.reduceEqDiff, Nat.reduceLT, Nat.reduceLeDiff, Nat.reduceAdd, Nat.reduceMul, Int.reduceLE, rdSl_emp q5041, l5043, c5045, g5046, nown_rd h4885, nown_len h4885, nown_cells h4885, nown_good h4885, nown_rd h4889, nown_len h4889, nown_cells h4889, nown_good h4889, nown_rd h4893, nown_len h4893, nown_cells h4893, nown_good h4893, all2_length (snoc_all2 q5087 (nown_all h4897) (show HeldR (.agg [(.int .i64 a4696.txn), (.int .i64 a4696.key)]) (HeldD.mk a4696.txn a4696.key) from ⟨rfl, i4704, i4705⟩)), own_take (snoc_all2 q5087 (nown_all h4897) (show HeldR (.agg [(.int .i64 a4696.txn), (.int .i64 a4696.key)]) (HeldD.mk a4696.txn a4696.key) from ⟨rfl, i4704, i4705⟩)), nown_rd h4897, nown_len h4897, nown_cells h4897, nown_good h4897]
    refine kn hK5083 ?_
    clear hK5083 K5083
    refine WQ.sr hT rfl fun K5088 hK5088 => ?_
    simp only [go_sem, ↓reduceIte, reduceCtorEq, Nat.reduceEqDiff, Nat.reduceLT, Nat.reduceLeDiff, Nat.reduceAdd, Nat.reduceMul, Int.reduceLE]
    refine kn hK5088 ?_
    clear hK5088 K5088
    refine WQ.cond (t := decide (a4696.kind = 5)) ?_ (fun z5089 => ?_) (fun z5089 => ?_)
    kernel_rfl
    replace ho4224 := ifT z5089 ho4224
    obtain ⟨v5090, q5091, ho4224⟩ := obs ho4224
    refine WQ.drawL hT hM [(0, 0), (1, 0), (2, 0), (3, 0), (4, 1), (5, 0), (6, 1), (7, 2), (8, 2), (9, 0), (10, 0), (11, 2)] [11] (hp h n [some [(.agg [y5038, x4882, x4886, x4890, (.sl 2 (n + 8) 0 v5086.length v5086.length false)])], rw4883, rw4887, none, none, some [(.agg [(.int .i64 a4696.kind), (.int .i64 a4696.txn), (.int .i64 a4696.key), (.bool a4696.had), (.int .i64 a4696.old), (.bool a4696.has), (.int .i64 a4696.new), (.int .i64 a4696.back)])], some [(.agg [(.int .i64 a4696.kind), (.int .i64 a4696.txn), (.int .i64 a4696.key), (.bool a4696.had), (.int .i64 a4696.old), (.bool a4696.has), (.int .i64 a4696.new), (.int .i64 a4696.back)])], some ([(.agg [(.int .i64 a4696.txn), (.int .i64 a4696.key)])]), some (Option.getD rw4895 [] ++ [(.agg [(.int .i64 a4696.txn), (.int .i64 a4696.key)])])]) ?_ rfl ?_ fun _ => ?_
    kernel_rfl
    simp only [go_sem]
    simp only [go_sem, ↓reduceIte, reduceCtorEq, Nat.reduceEqDiff, Nat.reduceLT, Nat.reduceLeDiff, Nat.reduceAdd, Nat.reduceMul, Int.reduceLE, rdSl_emp q5041, l5043, c5045, g5046, nown_rd h4885, nown_len h4885, nown_cells h4885, nown_good h4885, nown_rd h4889, nown_len h4889, nown_cells h4889, nown_good h4889, nown_rd h4893, nown_len h4893, nown_cells h4893, nown_good h4893, all2_length (snoc_all2 q5087 (nown_all h4897) (show HeldR (.agg [(.int .i64 a4696.txn), (.int .i64 a4696.key)]) (HeldD.mk a4696.txn a4696.key) from ⟨rfl, i4704, i4705⟩)), own_take (snoc_all2 q5087 (nown_all h4897) (show HeldR (.agg [(.int .i64 a4696.txn), (.int .i64 a4696.key)]) (HeldD.mk a4696.txn a4696.key) from ⟨rfl, i4704, i4705⟩))]
    refine ⟨2, rfl, app_nw1 (j := 3) h4893 (hp_get 3) rfl (of_decide_eq_true rfl) rfl ?_ q5091 (int64R i4704) ?_⟩
    simp only [go_sem, ↓reduceIte, reduceCtorEq, Nat.reduceEqDiff, Nat.reduceLT, Nat.reduceLeDiff, Nat.reduceAdd, Nat.reduceMul, Int.reduceLE, rdSl_emp q5041, l5043, c5045, g5046, nown_rd h4885, nown_len h4885, nown_cells h4885, nown_good h4885, nown_rd h4889, nown_len h4889, nown_cells h4889, nown_good h4889, nown_rd h4893, nown_len h4893, nown_cells h4893, nown_good h4893, all2_length (snoc_all2 q5087 (nown_all h4897) (show HeldR (.agg [(.int .i64 a4696.txn), (.int .i64 a4696.key)]) (HeldD.mk a4696.txn a4696.key) from ⟨rfl, i4704, i4705⟩)), own_take (snoc_all2 q5087 (nown_all h4897) (show HeldR (.agg [(.int .i64 a4696.txn), (.int .i64 a4696.key)]) (HeldD.mk a4696.txn a4696.key) from ⟨rfl, i4704, i4705⟩))]
    unfold sealK; simp only [go_sem, ↓reduceIte, reduceCtorEq, Nat.reduceEqDiff, Nat.reduceLT, Nat.reduceLeDiff, Nat.reduceAdd, Nat.reduceMul, Int.reduceLE, rdSl_emp q5041, l5043, c5045, g5046, nown_rd h4885, nown_len h4885, nown_cells h4885, nown_good h4885, nown_rd h4889, nown_len h4889, nown_cells h4889, nown_good h4889, all2_length (snoc_all2 q5091 (nown_all h4893) (int64R i4704)), own_take (snoc_all2 q5091 (nown_all h4893) (int64R i4704)), all2_length (snoc_all2 q5087 (nown_all h4897) (show HeldR (.agg [(.int .i64 a4696.txn), (.int .i64 a4696.key)]) (HeldD.mk a4696.txn a4696.key) from ⟨rfl, i4704, i4705⟩)), own_take (snoc_all2 q5087 (nown_all h4897) (show HeldR (.agg [(.int .i64 a4696.txn), (.int .i64 a4696.key)]) (HeldD.mk a4696.txn a4696.key) from ⟨rfl, i4704, i4705⟩)), nown_rd h4893, nown_len h4893, nown_cells h4893, nown_good h4893]
    refine ⟨[], rfl, _, _, _, .keep _ _ _ _ (fun _ _ h => h), ?_⟩
    try unfold sealK
    try simp only [go_sem, ↓reduceIte, reduceCtorEq, Nat.reduceEqDiff, Nat.reduceLT, Nat.reduceLeDiff, Nat.reduceAdd, Nat.reduceMul, Int.reduceLE, rdSl_hp q12 (slH_lt h0), l14, c16, g17, rdSl_emp q5041, l5043, c5045, g5046, nown_rd h4885, nown_len h4885, nown_cells h4885, nown_good h4885, nown_rd h4889, nown_len h4889, nown_cells h4889, nown_good h4889, all2_length (snoc_all2 q5091 (nown_all h4893) (int64R i4704)), own_take (snoc_all2 q5091 (nown_all h4893) (int64R i4704)), all2_length (snoc_all2 q5087 (nown_all h4897) (show HeldR (.agg [(.int .i64 a4696.txn), (.int .i64 a4696.key)]) (HeldD.mk a4696.txn a4696.key) from ⟨rfl, i4704, i4705⟩)), own_take (snoc_all2 q5087 (nown_all h4897) (show HeldR (.agg [(.int .i64 a4696.txn), (.int .i64 a4696.key)]) (HeldD.mk a4696.txn a4696.key) from ⟨rfl, i4704, i4705⟩))]
    refine j4677 _ _ _ x4882 rw4883 v4884 h4885 x4886 rw4887 v4888 h4889 (.sl 1 (n + 3) 0 v5090.length v5090.length false) (some (Option.getD rw4891 [] ++ [(.int .i64 a4696.txn)])) v5090 (nown_own (snoc_all2 q5091 (nown_all h4893) (int64R i4704)) (snoc_len q5091 (nown_all h4893) (int64R i4704))) (.sl 2 (n + 4) 0 v5086.length v5086.length false) (some (Option.getD rw4895 [] ++ [(.agg [(.int .i64 a4696.txn), (.int .i64 a4696.key)])])) v5086 (nown_own (snoc_all2 q5087 (nown_all h4897) (show HeldR (.agg [(.int .i64 a4696.txn), (.int .i64 a4696.key)]) (HeldD.mk a4696.txn a4696.key) from ⟨rfl, i4704, i4705⟩)) (snoc_len q5087 (nown_all h4897) (show HeldR (.agg [(.int .i64 a4696.txn), (.int .i64 a4696.key)]) (HeldD.mk a4696.txn a4696.key) from ⟨rfl, i4704, i4705⟩))) y5038 v5037 h5039 ?_ ho4224
    refine Norm.mkL (js := [0, 1, 2, 10, 8]) (m := 5) [0, 3, 4] [x0, (.ep 5 (.sl 5 n 0 1 1 true) 0 0), (.int .i64 v4218)] (of_decide_eq_true rfl) ?_ (RnL.cons (.keep _ (slH_lt h0)) (RnL.cons (Rn.ptr (js := [0, 1, 2, 10, 8]) 0 0) (RnL.cons (.keep _ (.int _ _)) RnL.nil))) (RowsR.row 0 _ _ _ _ hp_get0 (RnL.cons (Rn.agg' (RnL.cons (.keep _ (slr_ltA _ _ _ h5039)) (RnL.cons (nown_rn h4885 rfl) (RnL.cons (nown_rn h4889 rfl) (RnL.cons (Rn.own (js := [0, 1, 2, 10, 8]) 10 3) (RnL.cons (Rn.own (js := [0, 1, 2, 10, 8]) 8 4) RnL.nil)))))) RnL.nil) (RowsR.opt 1 _ _ _ (.inr (hp_get 1)) (nown_rows h4885 int64_lt) (RowsR.opt 2 _ _ _ (.inr (hp_get 2)) (nown_rows h4889 int64_lt) (RowsR.row 10 _ _ _ _ (hp_get 10) (RnL.all2 (snoc_all2 q5091 (nown_all h4893) (int64R i4704)) int64_lt) (RowsR.row 8 _ _ _ _ (hp_get 8) (RnL.all2 (snoc_all2 q5087 (nown_all h4897) (show HeldR (.agg [(.int .i64 a4696.txn), (.int .i64 a4696.key)]) (HeldD.mk a4696.txn a4696.key) from ⟨rfl, i4704, i4705⟩)) tyHeld_140.lt) RowsR.nil))))) rfl
    kernel_rfl
    replace ho4224 := ifF z5089 ho4224
    refine WQ.skip ?_
    simp only [go_sem, ↓reduceIte, reduceCtorEq, Nat.reduceEqDiff, Nat.reduceLT, Nat.reduceLeDiff, Nat.reduceAdd, Nat.reduceMul, Int.reduceLE]
    refine ⟨[], rfl, _, _, _, .keep _ _ _ _ (fun _ _ h => h), ?_⟩
    try unfold sealK
    try simp only [go_sem, ↓reduceIte, reduceCtorEq, Nat.reduceEqDiff, Nat.reduceLT, Nat.reduceLeDiff, Nat.reduceAdd, Nat.reduceMul, Int.reduceLE, rdSl_hp q12 (slH_lt h0), l14, c16, g17, rdSl_emp q5041, l5043, c5045, g5046, nown_rd h4885, nown_len h4885, nown_cells h4885, nown_good h4885, nown_rd h4889, nown_len h4889, nown_cells h4889, nown_good h4889, nown_rd h4893, nown_len h4893, nown_cells h4893, nown_good h4893, all2_length (snoc_all2 q5087 (nown_all h4897) (show HeldR (.agg [(.int .i64 a4696.txn), (.int .i64 a4696.key)]) (HeldD.mk a4696.txn a4696.key) from ⟨rfl, i4704, i4705⟩)), own_take (snoc_all2 q5087 (nown_all h4897) (show HeldR (.agg [(.int .i64 a4696.txn), (.int .i64 a4696.key)]) (HeldD.mk a4696.txn a4696.key) from ⟨rfl, i4704, i4705⟩))]
    refine j4677 _ _ _ x4882 rw4883 v4884 h4885 x4886 rw4887 v4888 h4889 x4890 rw4891 v4892 h4893 (.sl 2 (n + 4) 0 v5086.length v5086.length false) (some (Option.getD rw4895 [] ++ [(.agg [(.int .i64 a4696.txn), (.int .i64 a4696.key)])])) v5086 (nown_own (snoc_all2 q5087 (nown_all h4897) (show HeldR (.agg [(.int .i64 a4696.txn), (.int .i64 a4696.key)]) (HeldD.mk a4696.txn a4696.key) from ⟨rfl, i4704, i4705⟩)) (snoc_len q5087 (nown_all h4897) (show HeldR (.agg [(.int .i64 a4696.txn), (.int .i64 a4696.key)]) (HeldD.mk a4696.txn a4696.key) from ⟨rfl, i4704, i4705⟩))) y5038 v5037 h5039 ?_ ho4224
    refine Norm.mkL (js := [0, 1, 2, 3, 8]) (m := 5) [0, 3, 4] [x0, (.ep 5 (.sl 5 n 0 1 1 true) 0 0), (.int .i64 v4218)] (of_decide_eq_true rfl) ?_ (RnL.cons (.keep _ (slH_lt h0)) (RnL.cons (Rn.ptr (js := [0, 1, 2, 3, 8]) 0 0) (RnL.cons (.keep _ (.int _ _)) RnL.nil))) (RowsR.row 0 _ _ _ _ hp_get0 (RnL.cons (Rn.agg' (RnL.cons (.keep _ (slr_ltA _ _ _ h5039)) (RnL.cons (nown_rn h4885 rfl) (RnL.cons (nown_rn h4889 rfl) (RnL.cons (nown_rn h4893 rfl) (RnL.cons (Rn.own (js := [0, 1, 2, 3, 8]) 8 4) RnL.nil)))))) RnL.nil) (RowsR.opt 1 _ _ _ (.inr (hp_get 1)) (nown_rows h4885 int64_lt) (RowsR.opt 2 _ _ _ (.inr (hp_get 2)) (nown_rows h4889 int64_lt) (RowsR.opt 3 _ _ _ (.inr (hp_get 3)) (nown_rows h4893 int64_lt) (RowsR.row 8 _ _ _ _ (hp_get 8) (RnL.all2 (snoc_all2 q5087 (nown_all h4897) (show HeldR (.agg [(.int .i64 a4696.txn), (.int .i64 a4696.key)]) (HeldD.mk a4696.txn a4696.key) from ⟨rfl, i4704, i4705⟩)) tyHeld_140.lt) RowsR.nil))))) rfl
    kernel_rfl
    replace ho4224 := ifF z5023 ho4224
    refine WQ.seq_k fun K5092 hK5092 => ?_
    refine WQ.sr hT rfl fun K5095 hK5095 => ?_
    simp only [go_sem, ↓reduceIte, reduceCtorEq, Nat.reduceEqDiff, Nat.reduceLT, Nat.reduceLeDiff, Nat.reduceAdd, Nat.reduceMul, Int.reduceLE]
    refine kn hK5095 ?_
    clear hK5095 K5095
    refine WQ.cond (t := decide (a4696.kind = 3)) ?_ (fun z5096 => ?_) (fun z5096 => ?_)
    kernel_rfl
    replace ho4224 := ifT z5096 ho4224
    refine WQ.skip ?_
    simp only [go_sem, ↓reduceIte, reduceCtorEq, Nat.reduceEqDiff, Nat.reduceLT, Nat.reduceLeDiff, Nat.reduceAdd, Nat.reduceMul, Int.reduceLE]
    refine kn hK5092 ?_
    clear hK5092 K5092
    refine WQ.cond (t := decide (a4696.kind = 3)) ?_ (fun z5097 => ?_) (fun z5097 => ?_)
    kernel_rfl
    replace ho4224 := ifT z5097 ho4224
    obtain ⟨v5098, q5099, ho4224⟩ := obs ho4224
    refine WQ.drawL hT hM [(0, 0), (1, 0), (2, 0), (3, 0), (4, 1), (5, 0), (6, 1), (7, 2), (8, 2), (9, 0), (10, 0), (11, 2)] [11] (hp h n [some [(.agg [x4215, x4882, x4886, x4890, x4894])], rw4883, none, rw4891, rw4895, some [(.agg [(.int .i64 a4696.kind), (.int .i64 a4696.txn), (.int .i64 a4696.key), (.bool a4696.had), (.int .i64 a4696.old), (.bool a4696.has), (.int .i64 a4696.new), (.int .i64 a4696.back)])], some [(.agg [(.int .i64 a4696.kind), (.int .i64 a4696.txn), (.int .i64 a4696.key), (.bool a4696.had), (.int .i64 a4696.old), (.bool a4696.has), (.int .i64 a4696.new), (.int .i64 a4696.back)])]]) ?_ rfl ?_ fun _ => ?_
    kernel_rfl
    simp only [go_sem]
    simp only [go_sem, ↓reduceIte, reduceCtorEq, Nat.reduceEqDiff, Nat.reduceLT, Nat.reduceLeDiff, Nat.reduceAdd, Nat.reduceMul, Int.reduceLE, nown_rd h4885, nown_len h4885, nown_cells h4885, nown_good h4885, nown_rd h4889, nown_len h4889, nown_cells h4889, nown_good h4889, nown_rd h4893, nown_len h4893, nown_cells h4893, nown_good h4893, nown_rd h4897, nown_len h4897, nown_cells h4897, nown_good h4897]
    refine ⟨2, rfl, app_nw1 (j := 2) h4889 (hp_get 2) rfl (of_decide_eq_true rfl) rfl ?_ q5099 (int64R i4704) ?_⟩
    simp only [go_sem, ↓reduceIte, reduceCtorEq, Nat.reduceEqDiff, Nat.reduceLT, Nat.reduceLeDiff, Nat.reduceAdd, Nat.reduceMul, Int.reduceLE, nown_rd h4885, nown_len h4885, nown_cells h4885, nown_good h4885, nown_rd h4889, nown_len h4889, nown_cells h4889, nown_good h4889, nown_rd h4893, nown_len h4893, nown_cells h4893, nown_good h4893, nown_rd h4897, nown_len h4897, nown_cells h4897, nown_good h4897]
    unfold sealK; simp only [go_sem, ↓reduceIte, reduceCtorEq, Nat.reduceEqDiff, Nat.reduceLT, Nat.reduceLeDiff, Nat.reduceAdd, Nat.reduceMul, Int.reduceLE, nown_rd h4885, nown_len h4885, nown_cells h4885, nown_good h4885, all2_length (snoc_all2 q5099 (nown_all h4889) (int64R i4704)), own_take (snoc_all2 q5099 (nown_all h4889) (int64R i4704)), nown_rd h4893, nown_len h4893, nown_cells h4893, nown_good h4893, nown_rd h4897, nown_len h4897, nown_cells h4897, nown_good h4897, nown_rd h4889, nown_len h4889, nown_cells h4889, nown_good h4889]
    refine ⟨[], rfl, _, _, _, .keep _ _ _ _ (fun _ _ h => h), ?_⟩
    try unfold sealK
    try simp only [go_sem, ↓reduceIte, reduceCtorEq, Nat.reduceEqDiff, Nat.reduceLT, Nat.reduceLeDiff, Nat.reduceAdd, Nat.reduceMul, Int.reduceLE, rdSl_hp q12 (slH_lt h0), l14, c16, g17, nown_rd h4885, nown_len h4885, nown_cells h4885, nown_good h4885, all2_length (snoc_all2 q5099 (nown_all h4889) (int64R i4704)), own_take (snoc_all2 q5099 (nown_all h4889) (int64R i4704)), nown_rd h4893, nown_len h4893, nown_cells h4893, nown_good h4893, nown_rd h4897, nown_len h4897, nown_cells h4897, nown_good h4897]
    refine j4677 _ _ _ x4882 rw4883 v4884 h4885 (.sl 1 (n + 2) 0 v5098.length v5098.length false) (some (Option.getD rw4887 [] ++ [(.int .i64 a4696.txn)])) v5098 (nown_own (snoc_all2 q5099 (nown_all h4889) (int64R i4704)) (snoc_len q5099 (nown_all h4889) (int64R i4704))) x4890 rw4891 v4892 h4893 x4894 rw4895 v4896 h4897 x4215 v4216 h4217 ?_ ho4224
    refine Norm.mkL (js := [0, 1, 8, 3, 4]) (m := 5) [0, 3, 4] [x0, (.ep 5 (.sl 5 n 0 1 1 true) 0 0), (.int .i64 v4218)] (of_decide_eq_true rfl) ?_ (RnL.cons (.keep _ (slH_lt h0)) (RnL.cons (Rn.ptr (js := [0, 1, 8, 3, 4]) 0 0) (RnL.cons (.keep _ (.int _ _)) RnL.nil))) (RowsR.row 0 _ _ _ _ hp_get0 (RnL.cons (Rn.agg' (RnL.cons (.keep _ (slr_ltA _ _ _ h4217)) (RnL.cons (nown_rn h4885 rfl) (RnL.cons (Rn.own (js := [0, 1, 8, 3, 4]) 8 2) (RnL.cons (nown_rn h4893 rfl) (RnL.cons (nown_rn h4897 rfl) RnL.nil)))))) RnL.nil) (RowsR.opt 1 _ _ _ (.inr (hp_get 1)) (nown_rows h4885 int64_lt) (RowsR.row 8 _ _ _ _ (hp_get 8) (RnL.all2 (snoc_all2 q5099 (nown_all h4889) (int64R i4704)) int64_lt) (RowsR.opt 3 _ _ _ (.inr (hp_get 3)) (nown_rows h4893 int64_lt) (RowsR.opt 4 _ _ _ (.inr (hp_get 4)) (nown_rows h4897 tyHeld_140.lt) RowsR.nil))))) rfl
    kernel_rfl
    replace ho4224 := ifF z5097 ho4224
    refine WQ.skip ?_
    simp only [go_sem, ↓reduceIte, reduceCtorEq, Nat.reduceEqDiff, Nat.reduceLT, Nat.reduceLeDiff, Nat.reduceAdd, Nat.reduceMul, Int.reduceLE]
    refine ⟨[], rfl, _, _, _, .keep _ _ _ _ (fun _ _ h => h), ?_⟩
    try unfold sealK
    try simp only [go_sem, ↓reduceIte, reduceCtorEq, Nat.reduceEqDiff, Nat.reduceLT, Nat.reduceLeDiff, Nat.reduceAdd, Nat.reduceMul, Int.reduceLE, rdSl_hp q12 (slH_lt h0), l14, c16, g17, nown_rd h4885, nown_len h4885, nown_cells h4885, nown_good h4885, nown_rd h4889, nown_len h4889, nown_cells h4889, nown_good h4889, nown_rd h4893, nown_len h4893, nown_cells h4893, nown_good h4893, nown_rd h4897, nown_len h4897, nown_cells h4897, nown_good h4897]
    refine j4677 _ _ _ x4882 rw4883 v4884 h4885 x4886 rw4887 v4888 h4889 x4890 rw4891 v4892 h4893 x4894 rw4895 v4896 h4897 x4215 v4216 h4217 ?_ ho4224
    refine Norm.mkL (js := [0, 1, 2, 3, 4]) (m := 5) [0, 3, 4] [x0, (.ep 5 (.sl 5 n 0 1 1 true) 0 0), (.int .i64 v4218)] (of_decide_eq_true rfl) ?_ (RnL.cons (.keep _ (slH_lt h0)) (RnL.cons (Rn.ptr (js := [0, 1, 2, 3, 4]) 0 0) (RnL.cons (.keep _ (.int _ _)) RnL.nil))) (RowsR.row 0 _ _ _ _ hp_get0 (RnL.cons (Rn.agg' (RnL.cons (.keep _ (slr_ltA _ _ _ h4217)) (RnL.cons (nown_rn h4885 rfl) (RnL.cons (nown_rn h4889 rfl) (RnL.cons (nown_rn h4893 rfl) (RnL.cons (nown_rn h4897 rfl) RnL.nil)))))) RnL.nil) (RowsR.opt 1 _ _ _ (.inr (hp_get 1)) (nown_rows h4885 int64_lt) (RowsR.opt 2 _ _ _ (.inr (hp_get 2)) (nown_rows h4889 int64_lt) (RowsR.opt 3 _ _ _ (.inr (hp_get 3)) (nown_rows h4893 int64_lt) (RowsR.opt 4 _ _ _ (.inr (hp_get 4)) (nown_rows h4897 tyHeld_140.lt) RowsR.nil))))) rfl
    kernel_rfl
    replace ho4224 := ifF z5096 ho4224
    refine WQ.region hT rfl ?_
    simp only [go_sem, ↓reduceIte, reduceCtorEq, Nat.reduceEqDiff, Nat.reduceLT, Nat.reduceLeDiff, Nat.reduceAdd, Nat.reduceMul, Int.reduceLE]
    refine kn hK5092 ?_
    clear hK5092 K5092
    refine WQ.cond (t := decide (a4696.kind = 4)) ?_ (fun z5100 => ?_) (fun z5100 => ?_)
    kernel_rfl
    replace ho4224 := ifT z5100 ho4224
    obtain ⟨v5101, q5102, ho4224⟩ := obs ho4224
    refine WQ.drawL hT hM [(0, 0), (1, 0), (2, 0), (3, 0), (4, 1), (5, 0), (6, 1), (7, 2), (8, 2), (9, 0), (10, 0), (11, 2)] [11] (hp h n [some [(.agg [x4215, x4882, x4886, x4890, x4894])], rw4883, none, rw4891, rw4895, some [(.agg [(.int .i64 a4696.kind), (.int .i64 a4696.txn), (.int .i64 a4696.key), (.bool a4696.had), (.int .i64 a4696.old), (.bool a4696.has), (.int .i64 a4696.new), (.int .i64 a4696.back)])], some [(.agg [(.int .i64 a4696.kind), (.int .i64 a4696.txn), (.int .i64 a4696.key), (.bool a4696.had), (.int .i64 a4696.old), (.bool a4696.has), (.int .i64 a4696.new), (.int .i64 a4696.back)])]]) ?_ rfl ?_ fun _ => ?_
    kernel_rfl
    simp only [go_sem]
    simp only [go_sem, ↓reduceIte, reduceCtorEq, Nat.reduceEqDiff, Nat.reduceLT, Nat.reduceLeDiff, Nat.reduceAdd, Nat.reduceMul, Int.reduceLE, nown_rd h4885, nown_len h4885, nown_cells h4885, nown_good h4885, nown_rd h4889, nown_len h4889, nown_cells h4889, nown_good h4889, nown_rd h4893, nown_len h4893, nown_cells h4893, nown_good h4893, nown_rd h4897, nown_len h4897, nown_cells h4897, nown_good h4897]
    refine ⟨2, rfl, app_nw1 (j := 2) h4889 (hp_get 2) rfl (of_decide_eq_true rfl) rfl ?_ q5102 (int64R i4704) ?_⟩
    simp only [go_sem, ↓reduceIte, reduceCtorEq, Nat.reduceEqDiff, Nat.reduceLT, Nat.reduceLeDiff, Nat.reduceAdd, Nat.reduceMul, Int.reduceLE, nown_rd h4885, nown_len h4885, nown_cells h4885, nown_good h4885, nown_rd h4889, nown_len h4889, nown_cells h4889, nown_good h4889, nown_rd h4893, nown_len h4893, nown_cells h4893, nown_good h4893, nown_rd h4897, nown_len h4897, nown_cells h4897, nown_good h4897]
    unfold sealK; simp only [go_sem, ↓reduceIte, reduceCtorEq, Nat.reduceEqDiff, Nat.reduceLT, Nat.reduceLeDiff, Nat.reduceAdd, Nat.reduceMul, Int.reduceLE, nown_rd h4885, nown_len h4885, nown_cells h4885, nown_good h4885, all2_length (snoc_all2 q5102 (nown_all h4889) (int64R i4704)), own_take (snoc_all2 q5102 (nown_all h4889) (int64R i4704)), nown_rd h4893, nown_len h4893, nown_cells h4893, nown_good h4893, nown_rd h4897, nown_len h4897, nown_cells h4897, nown_good h4897, nown_rd h4889, nown_len h4889, nown_cells h4889, nown_good h4889]
    refine ⟨[], rfl, _, _, _, .keep _ _ _ _ (fun _ _ h => h), ?_⟩
    try unfold sealK
    try simp only [go_sem, ↓reduceIte, reduceCtorEq, Nat.reduceEqDiff, Nat.reduceLT, Nat.reduceLeDiff, Nat.reduceAdd, Nat.reduceMul, Int.reduceLE, rdSl_hp q12 (slH_lt h0), l14, c16, g17, nown_rd h4885, nown_len h4885, nown_cells h4885, nown_good h4885, all2_length (snoc_all2 q5102 (nown_all h4889) (int64R i4704)), own_take (snoc_all2 q5102 (nown_all h4889) (int64R i4704)), nown_rd h4893, nown_len h4893, nown_cells h4893, nown_good h4893, nown_rd h4897, nown_len h4897, nown_cells h4897, nown_good h4897]
    refine j4677 _ _ _ x4882 rw4883 v4884 h4885 (.sl 1 (n + 2) 0 v5101.length v5101.length false) (some (Option.getD rw4887 [] ++ [(.int .i64 a4696.txn)])) v5101 (nown_own (snoc_all2 q5102 (nown_all h4889) (int64R i4704)) (snoc_len q5102 (nown_all h4889) (int64R i4704))) x4890 rw4891 v4892 h4893 x4894 rw4895 v4896 h4897 x4215 v4216 h4217 ?_ ho4224
    refine Norm.mkL (js := [0, 1, 8, 3, 4]) (m := 5) [0, 3, 4] [x0, (.ep 5 (.sl 5 n 0 1 1 true) 0 0), (.int .i64 v4218)] (of_decide_eq_true rfl) ?_ (RnL.cons (.keep _ (slH_lt h0)) (RnL.cons (Rn.ptr (js := [0, 1, 8, 3, 4]) 0 0) (RnL.cons (.keep _ (.int _ _)) RnL.nil))) (RowsR.row 0 _ _ _ _ hp_get0 (RnL.cons (Rn.agg' (RnL.cons (.keep _ (slr_ltA _ _ _ h4217)) (RnL.cons (nown_rn h4885 rfl) (RnL.cons (Rn.own (js := [0, 1, 8, 3, 4]) 8 2) (RnL.cons (nown_rn h4893 rfl) (RnL.cons (nown_rn h4897 rfl) RnL.nil)))))) RnL.nil) (RowsR.opt 1 _ _ _ (.inr (hp_get 1)) (nown_rows h4885 int64_lt) (RowsR.row 8 _ _ _ _ (hp_get 8) (RnL.all2 (snoc_all2 q5102 (nown_all h4889) (int64R i4704)) int64_lt) (RowsR.opt 3 _ _ _ (.inr (hp_get 3)) (nown_rows h4893 int64_lt) (RowsR.opt 4 _ _ _ (.inr (hp_get 4)) (nown_rows h4897 tyHeld_140.lt) RowsR.nil))))) rfl
    kernel_rfl
    replace ho4224 := ifF z5100 ho4224
    refine WQ.skip ?_
    simp only [go_sem, ↓reduceIte, reduceCtorEq, Nat.reduceEqDiff, Nat.reduceLT, Nat.reduceLeDiff, Nat.reduceAdd, Nat.reduceMul, Int.reduceLE]
    refine ⟨[], rfl, _, _, _, .keep _ _ _ _ (fun _ _ h => h), ?_⟩
    try unfold sealK
    try simp only [go_sem, ↓reduceIte, reduceCtorEq, Nat.reduceEqDiff, Nat.reduceLT, Nat.reduceLeDiff, Nat.reduceAdd, Nat.reduceMul, Int.reduceLE, rdSl_hp q12 (slH_lt h0), l14, c16, g17, nown_rd h4885, nown_len h4885, nown_cells h4885, nown_good h4885, nown_rd h4889, nown_len h4889, nown_cells h4889, nown_good h4889, nown_rd h4893, nown_len h4893, nown_cells h4893, nown_good h4893, nown_rd h4897, nown_len h4897, nown_cells h4897, nown_good h4897]
    refine j4677 _ _ _ x4882 rw4883 v4884 h4885 x4886 rw4887 v4888 h4889 x4890 rw4891 v4892 h4893 x4894 rw4895 v4896 h4897 x4215 v4216 h4217 ?_ ho4224
    refine Norm.mkL (js := [0, 1, 2, 3, 4]) (m := 5) [0, 3, 4] [x0, (.ep 5 (.sl 5 n 0 1 1 true) 0 0), (.int .i64 v4218)] (of_decide_eq_true rfl) ?_ (RnL.cons (.keep _ (slH_lt h0)) (RnL.cons (Rn.ptr (js := [0, 1, 2, 3, 4]) 0 0) (RnL.cons (.keep _ (.int _ _)) RnL.nil))) (RowsR.row 0 _ _ _ _ hp_get0 (RnL.cons (Rn.agg' (RnL.cons (.keep _ (slr_ltA _ _ _ h4217)) (RnL.cons (nown_rn h4885 rfl) (RnL.cons (nown_rn h4889 rfl) (RnL.cons (nown_rn h4893 rfl) (RnL.cons (nown_rn h4897 rfl) RnL.nil)))))) RnL.nil) (RowsR.opt 1 _ _ _ (.inr (hp_get 1)) (nown_rows h4885 int64_lt) (RowsR.opt 2 _ _ _ (.inr (hp_get 2)) (nown_rows h4889 int64_lt) (RowsR.opt 3 _ _ _ (.inr (hp_get 3)) (nown_rows h4893 int64_lt) (RowsR.opt 4 _ _ _ (.inr (hp_get 4)) (nown_rows h4897 tyHeld_140.lt) RowsR.nil))))) rfl
    kernel_rfl
   clear hK4876
   rcases Bool.eq_false_or_eq_true (decide (a4696.kind = 2)) with z5103 | z5103
   replace ho4224 := ifT z5103 ho4224
   obtain ⟨v5105, q5104, ho4224⟩ := obs ho4224
   refine WQ.region hT rfl ?_
   simp only [go_sem, ↓reduceIte, reduceCtorEq, Nat.reduceEqDiff, Nat.reduceLT, Nat.reduceLeDiff, Nat.reduceAdd, Nat.reduceMul, Int.reduceLE, nown_rd h4818, nown_len h4818, nown_cells h4818, nown_good h4818, nown_rd h4822, nown_len h4822, nown_cells h4822, nown_good h4822, nown_rd h4826, nown_len h4826, nown_cells h4826, nown_good h4826, nown_rd h4830, nown_len h4830, nown_cells h4830, nown_good h4830, eqT z5103]
   refine w_s_l13Held (⟨x4215, x4815, x4819, x4823, x4827, rfl, (SlR.toH h4217), (nown_H (j := 1) (m := 6) h4818 (hp_get 1) rfl), (nown_H (j := 2) (m := 6) h4822 (hp_get 2) rfl), (nown_H (j := 3) (m := 6) h4826 (hp_get 3) rfl), (nown_H (j := 4) (m := 6) h4830 (hp_get 4) rfl)⟩) (lt_row (j := 0) (m := 6) rfl) hp_get0 gh4702 q5104 (fun y5106 h5107 => ?_)
   obtain rfl := h5107
   unfold sealK; simp only [go_sem, ↓reduceIte, reduceCtorEq, Nat.reduceEqDiff, Nat.reduceLT, Nat.reduceLeDiff, Nat.reduceAdd, Nat.reduceMul, Int.reduceLE, nown_rd h4818, nown_len h4818, nown_cells h4818, nown_good h4818, nown_rd h4822, nown_len h4822, nown_cells h4822, nown_good h4822, nown_rd h4826, nown_len h4826, nown_cells h4826, nown_good h4826, nown_rd h4830, nown_len h4830, nown_cells h4830, nown_good h4830, eqT z5103]
   refine j4899 _ _ _ x4815 rw4816 v4817 h4818 x4819 rw4820 v4821 h4822 x4823 rw4824 v4825 h4826 x4827 rw4828 v4829 h4830 v5105 ?_ ho4224
   refine Norm.mkL (js := [0, 1, 2, 3, 4, 5]) (m := 6) [0, 3, 4, 5, 53] [x0, (.ep 5 (.sl 5 n 0 1 1 true) 0 0), (.int .i64 v4218), (.ep 8 (.sl 8 (n + 5) 0 1 1 true) 0 0), (.bool v5105)] (of_decide_eq_true rfl) ?_ (RnL.cons (.keep _ (slH_lt h0)) (RnL.cons (Rn.ptr (js := [0, 1, 2, 3, 4, 5]) 0 0) (RnL.cons (.keep _ (.int _ _)) (RnL.cons (Rn.ptr (js := [0, 1, 2, 3, 4, 5]) 5 5) (RnL.cons (.keep _ (.bool _)) RnL.nil))))) (RowsR.row 0 _ _ _ _ hp_get0 (RnL.cons (Rn.agg' (RnL.cons (.keep _ (slr_ltA _ _ _ h4217)) (RnL.cons (nown_rn h4818 rfl) (RnL.cons (nown_rn h4822 rfl) (RnL.cons (nown_rn h4826 rfl) (RnL.cons (nown_rn h4830 rfl) RnL.nil)))))) RnL.nil) (RowsR.opt 1 _ _ _ (.inr (hp_get 1)) (nown_rows h4818 int64_lt) (RowsR.opt 2 _ _ _ (.inr (hp_get 2)) (nown_rows h4822 int64_lt) (RowsR.opt 3 _ _ _ (.inr (hp_get 3)) (nown_rows h4826 int64_lt) (RowsR.opt 4 _ _ _ (.inr (hp_get 4)) (nown_rows h4830 tyHeld_140.lt) (RowsR.row 5 _ _ _ _ (hp_get 5) (RnL.cons (.keep _ (tyRec_76.lt _ _ _ gh4702)) RnL.nil) RowsR.nil)))))) rfl
   kernel_rfl
   replace ho4224 := ifF z5103 ho4224
   refine WQ.region hT rfl ?_
   simp only [go_sem, ↓reduceIte, reduceCtorEq, Nat.reduceEqDiff, Nat.reduceLT, Nat.reduceLeDiff, Nat.reduceAdd, Nat.reduceMul, Int.reduceLE, nown_rd h4818, nown_len h4818, nown_cells h4818, nown_good h4818, nown_rd h4822, nown_len h4822, nown_cells h4822, nown_good h4822, nown_rd h4826, nown_len h4826, nown_cells h4826, nown_good h4826, nown_rd h4830, nown_len h4830, nown_cells h4830, nown_good h4830, eqF z5103]
   refine j4899 _ _ _ x4815 rw4816 v4817 h4818 x4819 rw4820 v4821 h4822 x4823 rw4824 v4825 h4826 x4827 rw4828 v4829 h4830 false ?_ ho4224
   refine Norm.mkL (js := [0, 1, 2, 3, 4, 5]) (m := 6) [0, 3, 4, 5, 53] [x0, (.ep 5 (.sl 5 n 0 1 1 true) 0 0), (.int .i64 v4218), (.ep 8 (.sl 8 (n + 5) 0 1 1 true) 0 0), (.bool false)] (of_decide_eq_true rfl) ?_ (RnL.cons (.keep _ (slH_lt h0)) (RnL.cons (Rn.ptr (js := [0, 1, 2, 3, 4, 5]) 0 0) (RnL.cons (.keep _ (.int _ _)) (RnL.cons (Rn.ptr (js := [0, 1, 2, 3, 4, 5]) 5 5) (RnL.cons (.keep _ (.bool _)) RnL.nil))))) (RowsR.row 0 _ _ _ _ hp_get0 (RnL.cons (Rn.agg' (RnL.cons (.keep _ (slr_ltA _ _ _ h4217)) (RnL.cons (nown_rn h4818 rfl) (RnL.cons (nown_rn h4822 rfl) (RnL.cons (nown_rn h4826 rfl) (RnL.cons (nown_rn h4830 rfl) RnL.nil)))))) RnL.nil) (RowsR.opt 1 _ _ _ (.inr (hp_get 1)) (nown_rows h4818 int64_lt) (RowsR.opt 2 _ _ _ (.inr (hp_get 2)) (nown_rows h4822 int64_lt) (RowsR.opt 3 _ _ _ (.inr (hp_get 3)) (nown_rows h4826 int64_lt) (RowsR.opt 4 _ _ _ (.inr (hp_get 4)) (nown_rows h4830 tyHeld_140.lt) (RowsR.row 5 _ _ _ _ (hp_get 5) (RnL.cons (.keep _ (tyRec_76.lt _ _ _ gh4702)) RnL.nil) RowsR.nil)))))) rfl
   kernel_rfl
  clear hK4809
  rcases Bool.eq_false_or_eq_true (v4767) with z5108 | z5108
  replace ho4224 := ifT z5108 ho4224
  obtain ⟨v5110, q5109, ho4224⟩ := obs ho4224
  refine WQ.region hT rfl ?_
  simp only [go_sem, ↓reduceIte, reduceCtorEq, Nat.reduceEqDiff, Nat.reduceLT, Nat.reduceLeDiff, Nat.reduceAdd, Nat.reduceMul, Int.reduceLE, nown_rd h4754, nown_len h4754, nown_cells h4754, nown_good h4754, nown_rd h4758, nown_len h4758, nown_cells h4758, nown_good h4758, nown_rd h4762, nown_len h4762, nown_cells h4762, nown_good h4762, nown_rd h4766, nown_len h4766, nown_cells h4766, nown_good h4766, eqT z5108]
  refine w_s_l13Was (⟨x4215, x4751, x4755, x4759, x4763, rfl, (SlR.toH h4217), (nown_H (j := 1) (m := 6) h4754 (hp_get 1) rfl), (nown_H (j := 2) (m := 6) h4758 (hp_get 2) rfl), (nown_H (j := 3) (m := 6) h4762 (hp_get 3) rfl), (nown_H (j := 4) (m := 6) h4766 (hp_get 4) rfl)⟩) (lt_row (j := 0) (m := 6) rfl) hp_get0 gh4702 q5109 (fun y5111 h5112 => ?_)
  obtain rfl := h5112
  unfold sealK; simp only [go_sem, ↓reduceIte, reduceCtorEq, Nat.reduceEqDiff, Nat.reduceLT, Nat.reduceLeDiff, Nat.reduceAdd, Nat.reduceMul, Int.reduceLE, nown_rd h4754, nown_len h4754, nown_cells h4754, nown_good h4754, nown_rd h4758, nown_len h4758, nown_cells h4758, nown_good h4758, nown_rd h4762, nown_len h4762, nown_cells h4762, nown_good h4762, nown_rd h4766, nown_len h4766, nown_cells h4766, nown_good h4766, eqT z5108]
  refine j4832 _ _ _ x4751 rw4752 v4753 h4754 x4755 rw4756 v4757 h4758 x4759 rw4760 v4761 h4762 x4763 rw4764 v4765 h4766 (!v5110) ?_ ho4224
  refine Norm.mkL (js := [0, 1, 2, 3, 4, 5]) (m := 6) [0, 3, 4, 5, 46] [x0, (.ep 5 (.sl 5 n 0 1 1 true) 0 0), (.int .i64 v4218), (.ep 8 (.sl 8 (n + 5) 0 1 1 true) 0 0), (.bool (!v5110))] (of_decide_eq_true rfl) ?_ (RnL.cons (.keep _ (slH_lt h0)) (RnL.cons (Rn.ptr (js := [0, 1, 2, 3, 4, 5]) 0 0) (RnL.cons (.keep _ (.int _ _)) (RnL.cons (Rn.ptr (js := [0, 1, 2, 3, 4, 5]) 5 5) (RnL.cons (.keep _ (.bool _)) RnL.nil))))) (RowsR.row 0 _ _ _ _ hp_get0 (RnL.cons (Rn.agg' (RnL.cons (.keep _ (slr_ltA _ _ _ h4217)) (RnL.cons (nown_rn h4754 rfl) (RnL.cons (nown_rn h4758 rfl) (RnL.cons (nown_rn h4762 rfl) (RnL.cons (nown_rn h4766 rfl) RnL.nil)))))) RnL.nil) (RowsR.opt 1 _ _ _ (.inr (hp_get 1)) (nown_rows h4754 int64_lt) (RowsR.opt 2 _ _ _ (.inr (hp_get 2)) (nown_rows h4758 int64_lt) (RowsR.opt 3 _ _ _ (.inr (hp_get 3)) (nown_rows h4762 int64_lt) (RowsR.opt 4 _ _ _ (.inr (hp_get 4)) (nown_rows h4766 tyHeld_140.lt) (RowsR.row 5 _ _ _ _ (hp_get 5) (RnL.cons (.keep _ (tyRec_76.lt _ _ _ gh4702)) RnL.nil) RowsR.nil)))))) rfl
  kernel_rfl
  replace ho4224 := ifF z5108 ho4224
  refine WQ.region hT rfl ?_
  simp only [go_sem, ↓reduceIte, reduceCtorEq, Nat.reduceEqDiff, Nat.reduceLT, Nat.reduceLeDiff, Nat.reduceAdd, Nat.reduceMul, Int.reduceLE, nown_rd h4754, nown_len h4754, nown_cells h4754, nown_good h4754, nown_rd h4758, nown_len h4758, nown_cells h4758, nown_good h4758, nown_rd h4762, nown_len h4762, nown_cells h4762, nown_good h4762, nown_rd h4766, nown_len h4766, nown_cells h4766, nown_good h4766, eqF z5108]
  refine j4832 _ _ _ x4751 rw4752 v4753 h4754 x4755 rw4756 v4757 h4758 x4759 rw4760 v4761 h4762 x4763 rw4764 v4765 h4766 false ?_ ho4224
  refine Norm.mkL (js := [0, 1, 2, 3, 4, 5]) (m := 6) [0, 3, 4, 5, 46] [x0, (.ep 5 (.sl 5 n 0 1 1 true) 0 0), (.int .i64 v4218), (.ep 8 (.sl 8 (n + 5) 0 1 1 true) 0 0), (.bool false)] (of_decide_eq_true rfl) ?_ (RnL.cons (.keep _ (slH_lt h0)) (RnL.cons (Rn.ptr (js := [0, 1, 2, 3, 4, 5]) 0 0) (RnL.cons (.keep _ (.int _ _)) (RnL.cons (Rn.ptr (js := [0, 1, 2, 3, 4, 5]) 5 5) (RnL.cons (.keep _ (.bool _)) RnL.nil))))) (RowsR.row 0 _ _ _ _ hp_get0 (RnL.cons (Rn.agg' (RnL.cons (.keep _ (slr_ltA _ _ _ h4217)) (RnL.cons (nown_rn h4754 rfl) (RnL.cons (nown_rn h4758 rfl) (RnL.cons (nown_rn h4762 rfl) (RnL.cons (nown_rn h4766 rfl) RnL.nil)))))) RnL.nil) (RowsR.opt 1 _ _ _ (.inr (hp_get 1)) (nown_rows h4754 int64_lt) (RowsR.opt 2 _ _ _ (.inr (hp_get 2)) (nown_rows h4758 int64_lt) (RowsR.opt 3 _ _ _ (.inr (hp_get 3)) (nown_rows h4762 int64_lt) (RowsR.opt 4 _ _ _ (.inr (hp_get 4)) (nown_rows h4766 tyHeld_140.lt) (RowsR.row 5 _ _ _ _ (hp_get 5) (RnL.cons (.keep _ (tyRec_76.lt _ _ _ gh4702)) RnL.nil) RowsR.nil)))))) rfl
  kernel_rfl
 clear hK4749
 rcases Bool.eq_false_or_eq_true (decide (a4696.kind = 2)) with z5113 | z5113
 replace ho4224 := ifT z5113 ho4224
 refine WQ.region hT rfl ?_
 simp only [go_sem, ↓reduceIte, reduceCtorEq, Nat.reduceEqDiff, Nat.reduceLT, Nat.reduceLeDiff, Nat.reduceAdd, Nat.reduceMul, Int.reduceLE, eqT z5113]
 refine j4768 _ _ _ x4199 rw4200 v4201 h4202 x4203 rw4204 v4205 h4206 x4207 rw4208 v4209 h4210 x4211 rw4212 v4213 h4214 true ?_ ho4224
 refine Norm.mkL (js := [0, 1, 2, 3, 4, 5]) (m := 6) [0, 3, 4, 5, 8] [x0, (.ep 5 (.sl 5 n 0 1 1 true) 0 0), (.int .i64 v4218), (.ep 8 (.sl 8 (n + 5) 0 1 1 true) 0 0), (.bool true)] (of_decide_eq_true rfl) ?_ (RnL.cons (.keep _ (slH_lt h0)) (RnL.cons (Rn.ptr (js := [0, 1, 2, 3, 4, 5]) 0 0) (RnL.cons (.keep _ (.int _ _)) (RnL.cons (Rn.ptr (js := [0, 1, 2, 3, 4, 5]) 5 5) (RnL.cons (.keep _ (.bool _)) RnL.nil))))) (RowsR.row 0 _ _ _ _ hp_get0 (RnL.cons (Rn.agg' (RnL.cons (.keep _ (slr_ltA _ _ _ h4217)) (RnL.cons (nown_rn h4202 rfl) (RnL.cons (nown_rn h4206 rfl) (RnL.cons (nown_rn h4210 rfl) (RnL.cons (nown_rn h4214 rfl) RnL.nil)))))) RnL.nil) (RowsR.opt 1 _ _ _ (.inr (hp_get 1)) (nown_rows h4202 int64_lt) (RowsR.opt 2 _ _ _ (.inr (hp_get 2)) (nown_rows h4206 int64_lt) (RowsR.opt 3 _ _ _ (.inr (hp_get 3)) (nown_rows h4210 int64_lt) (RowsR.opt 4 _ _ _ (.inr (hp_get 4)) (nown_rows h4214 tyHeld_140.lt) (RowsR.row 5 _ _ _ _ (hp_get 5) (RnL.cons (.keep _ (tyRec_76.lt _ _ _ gh4702)) RnL.nil) RowsR.nil)))))) rfl
 kernel_rfl
 replace ho4224 := ifF z5113 ho4224
 refine WQ.region hT rfl ?_
 simp only [go_sem, ↓reduceIte, reduceCtorEq, Nat.reduceEqDiff, Nat.reduceLT, Nat.reduceLeDiff, Nat.reduceAdd, Nat.reduceMul, Int.reduceLE, eqF z5113]
 refine j4768 _ _ _ x4199 rw4200 v4201 h4202 x4203 rw4204 v4205 h4206 x4207 rw4208 v4209 h4210 x4211 rw4212 v4213 h4214 (decide (a4696.kind = 5)) ?_ ho4224
 refine Norm.mkL (js := [0, 1, 2, 3, 4, 5]) (m := 6) [0, 3, 4, 5, 8] [x0, (.ep 5 (.sl 5 n 0 1 1 true) 0 0), (.int .i64 v4218), (.ep 8 (.sl 8 (n + 5) 0 1 1 true) 0 0), (.bool (decide (a4696.kind = 5)))] (of_decide_eq_true rfl) ?_ (RnL.cons (.keep _ (slH_lt h0)) (RnL.cons (Rn.ptr (js := [0, 1, 2, 3, 4, 5]) 0 0) (RnL.cons (.keep _ (.int _ _)) (RnL.cons (Rn.ptr (js := [0, 1, 2, 3, 4, 5]) 5 5) (RnL.cons (.keep _ (.bool _)) RnL.nil))))) (RowsR.row 0 _ _ _ _ hp_get0 (RnL.cons (Rn.agg' (RnL.cons (.keep _ (slr_ltA _ _ _ h4217)) (RnL.cons (nown_rn h4202 rfl) (RnL.cons (nown_rn h4206 rfl) (RnL.cons (nown_rn h4210 rfl) (RnL.cons (nown_rn h4214 rfl) RnL.nil)))))) RnL.nil) (RowsR.opt 1 _ _ _ (.inr (hp_get 1)) (nown_rows h4202 int64_lt) (RowsR.opt 2 _ _ _ (.inr (hp_get 2)) (nown_rows h4206 int64_lt) (RowsR.opt 3 _ _ _ (.inr (hp_get 3)) (nown_rows h4210 int64_lt) (RowsR.opt 4 _ _ _ (.inr (hp_get 4)) (nown_rows h4214 tyHeld_140.lt) (RowsR.row 5 _ _ _ _ (hp_get 5) (RnL.cons (.keep _ (tyRec_76.lt _ _ _ gh4702)) RnL.nil) RowsR.nil)))))) rfl
 kernel_rfl
 replace ho4224 := ifF z4229 ho4224
 refine WQ.exit ?_
 simp only [go_sem, ↓reduceIte, reduceCtorEq, Nat.reduceEqDiff, Nat.reduceLT, Nat.reduceLeDiff, Nat.reduceAdd, Nat.reduceMul, Int.reduceLE]
 have e5114 := hf4223 _ (Option.some.inj ho4224).symm
 rw [← e5114] at hm
 refine j2563 _ _ _  ?_ hm
 refine Norm.mkL (js := []) (m := 0) [] [] (of_decide_eq_true rfl) ?_ RnL.nil RowsR.nil rfl
 kernel_rfl
end
end Go.Proofs.Ytcngfjmfgeckmaa
end
namespace Go.Proofs.Ytcngfjmfgeckmaa
open Go
section
variable {fu : Nat}
theorem search_bool {α : Type} {l : List α} {f : α → Option Bool} {g : α → Bool} {fu : Nat} (hf : ∀ a, a ∈ l → f a = some (g a)) (hl : l.length < 9223372036854775807) (hfu : l.length < fu) (step : Int → Option (Int ⊕ (Unit ⊕ Option Bool)))
    (hs : ∀ v, step v = (if (decide (v < (l.length : Int))) = true then (Option.bind (atL l v) fun a => (Option.bind (f a) fun b => (if b = true then some (Sum.inr (Sum.inr (some true))) else some (Sum.inl (IntKind.i64.wrap (v + 1)))))) else some (Sum.inr (Sum.inl ())))) :
    (Option.bind (iterN step fu 0) fun q => Sum.elim (fun (_ : Unit) => some false) (fun x => x) q) = some (l.any g) := by
  have key : ∀ (k i : Nat), i ≤ l.length → l.length - i < k → iterN step k (i : Int) = some (if (l.drop i).any g = true then Sum.inr (some true) else Sum.inl ()) := by
    intro k
    induction k with
    | zero => intro i _ h; omega
    | succ k ih =>
      intro i hi hk
      unfold iterN
      rw [hs]
      by_cases hlt : i < l.length
      · rw [if_pos (decide_eq_true (Int.ofNat_lt.2 hlt)), atL_nat, List.getElem?_eq_getElem hlt]
        simp only [Option.bind_some]
        rw [hf _ (List.getElem_mem hlt), List.drop_eq_getElem_cons hlt, List.any_cons]
        simp only [Option.bind_some]
        cases hg : g l[i] with
        | true => simp
        | false =>
          simp only [Bool.false_eq_true, if_false, Bool.false_or]
          rw [wrap_succ (by omega)]
          exact ih (i + 1) hlt (by omega)
      · rw [if_neg (by simp; omega), List.drop_of_length_le (by omega)]
        rfl
  have h := key fu 0 (Nat.zero_le _) (by omega)
  rw [show ((0 : Nat) : Int) = 0 from rfl, List.drop_zero] at h
  rw [h]
  cases l.any g <;> rfl
theorem m_s_l1Has_eq {l : List Int} {v : Int} (hl : l.length < 9223372036854775807) (hfu : l.length < fu) : m_s_l1Has fu l v = some (l.any fun a => decide (a = v)) :=
  search_bool (f := fun a => some (decide (a = v))) (fun a _ => rfl) hl hfu _ (fun _ => rfl)
def heldS (s : SimD) (r : RecD) : Bool := s.held.any fun a => (decide (a.key = r.key) && decide (a.txn ≠ r.txn)) && !(s.ended.any fun t => decide (t = a.txn))
theorem m_s_l13Held_eq {s : SimD} {r : RecD} (hl : s.held.length < 9223372036854775807) (hfu : s.held.length < fu) (hl2 : s.ended.length < 9223372036854775807) (hfu2 : s.ended.length < fu) : m_s_l13Held fu s r = some (heldS s r) := by
  refine search_bool (f := fun a => some ((decide (a.key = r.key) && decide (a.txn ≠ r.txn)) && !(s.ended.any fun t => decide (t = a.txn)))) (fun a _ => rfl) hl hfu _ (fun v => ?_)
  unfold m_s_l13Held_a3 m_s_l13Held_a2
  cases decide (v < (s.held.length : Int)) with
  | false => rfl
  | true =>
    simp only [if_true]
    cases atL s.held v with
    | none => rfl
    | some a =>
      simp only [Option.bind_some]
      rw [m_s_l1Has_eq hl2 hfu2]
      cases decide (a.key = r.key) <;> cases decide (a.txn ≠ r.txn) <;> rfl
theorem snocC_eq {l : List CellD} {a : CellD} (h : l.length ≤ 1000000) : snocL 16 l a = some (l ++ [a]) := by
  unfold snocL roomL
  rw [if_pos (by simp; omega)]
theorem m_s_l1Without_eq {l : List CellD} {k : Int} (hl : l.length ≤ 1000000) (hfu : l.length < fu) : m_s_l1Without fu l k = some (l.filter fun c => decide (c.key ≠ k)) := by
  have key : ∀ (m i : Nat), i ≤ l.length → l.length - i < m → iterN (fun (s : (List CellD) × Int) => m_s_l1Without_a3 fu l k s.1 s.2) m ((l.take i).filter (fun c => decide (c.key ≠ k)), (i : Int)) = some (Sum.inl (l.filter fun c => decide (c.key ≠ k))) := by
    intro m
    induction m with
    | zero => intro i _ h; omega
    | succ m ih =>
      intro i hi hm
      unfold iterN
      by_cases hlt : i < l.length
      · have hge := List.getElem?_eq_getElem hlt
        have hle : ((l.take i).filter (fun c => decide (c.key ≠ k))).length ≤ 1000000 := Nat.le_trans (List.length_filter_le _ _) (by rw [List.length_take]; omega)
        have ht : (l.take (i + 1)).filter (fun c => decide (c.key ≠ k)) = (l.take i).filter (fun c => decide (c.key ≠ k)) ++ (if decide (l[i].key ≠ k) = true then [l[i]] else []) := by
          rw [List.take_add_one, hge, List.filter_append]
          simp [List.filter_cons]
        have step : m_s_l1Without_a3 fu l k ((l.take i).filter (fun c => decide (c.key ≠ k))) (i : Int) = some (Sum.inl ((l.take (i + 1)).filter (fun c => decide (c.key ≠ k)), ((i + 1 : Nat) : Int))) := by
          unfold m_s_l1Without_a3 m_s_l1Without_a2
          rw [if_pos (decide_eq_true (Int.ofNat_lt.2 hlt)), atL_nat, hge, Option.bind_some, snocC_eq hle, wrap_succ (by omega), ht]
          cases decide (l[i].key ≠ k) <;> simp
        simp only [step]
        exact ih (i + 1) hlt (by omega)
      · have step : m_s_l1Without_a3 fu l k ((l.take i).filter (fun c => decide (c.key ≠ k))) (i : Int) = some (Sum.inr (Sum.inl (l.filter fun c => decide (c.key ≠ k)))) := by
          unfold m_s_l1Without_a3
          rw [if_neg (by simp; omega), List.take_of_length_le (by omega)]
        simp only [step]
  have h := key fu 0 (Nat.zero_le _) (by omega)
  unfold m_s_l1Without m_s_l1Without_a1
  rw [show (([] : List CellD), (0 : Int)) = ((l.take 0).filter (fun c => decide (c.key ≠ k)), ((0 : Nat) : Int)) from rfl, h]
  rfl
theorem rank_iter {l : List CellD} {k : Int} (hl : l.length ≤ 1000000) : ∀ (m i : Nat), i ≤ l.length → l.length - i < m → iterN (fun (s : Int) => m_s_l1With_a4 fu k l s) m (i : Int) = some (Sum.inl ((i + rank (l.drop i) k : Nat) : Int)) := by
  intro m
  induction m with
  | zero => intro i _ h; omega
  | succ m ih =>
    intro i hi hm
    unfold iterN
    by_cases hlt : i < l.length
    · have hge := List.getElem?_eq_getElem hlt
      rw [List.drop_eq_getElem_cons hlt]
      by_cases hk : l[i].key < k
      · have step : m_s_l1With_a4 fu k l (i : Int) = some (Sum.inl ((i + 1 : Nat) : Int)) := by
          unfold m_s_l1With_a4 m_s_l1With_a3
          rw [if_pos (decide_eq_true (Int.ofNat_lt.2 hlt)), atL_nat, hge, Option.bind_some, if_pos (decide_eq_true hk), wrap_succ (by omega)]
        simp only [step]
        rw [ih (i + 1) hlt (by omega), rank, if_pos hk]
        congr 3; omega
      · have step : m_s_l1With_a4 fu k l (i : Int) = some (Sum.inr (Sum.inl (i : Int))) := by
          unfold m_s_l1With_a4 m_s_l1With_a3
          rw [if_pos (decide_eq_true (Int.ofNat_lt.2 hlt)), atL_nat, hge, Option.bind_some, if_neg (by simp; omega)]
        simp only [step]
        rw [rank, if_neg hk]
        rfl
    · have step : m_s_l1With_a4 fu k l (i : Int) = some (Sum.inr (Sum.inl (i : Int))) := by
        unfold m_s_l1With_a4 m_s_l1With_a3
        rw [if_neg (by simp; omega)]
        rfl
      simp only [step]
      rw [List.drop_of_length_le (by omega)]
      rfl
theorem appC_eq {l l2 : List CellD} (h : l.length + l2.length ≤ 2000000) : appL 16 l l2 = some (l ++ l2) := by
  unfold appL roomL
  rw [if_pos (by simp; omega)]
theorem m_s_l1With_eq {l : List CellD} {k w : Int} (hl : l.length ≤ 1000000) (hfu : l.length < fu) :
    m_s_l1With fu l k w = some ((l.filter fun c => decide (c.key ≠ k)).take (rank (l.filter fun c => decide (c.key ≠ k)) k) ++ [⟨k, w⟩] ++ (l.filter fun c => decide (c.key ≠ k)).drop (rank (l.filter fun c => decide (c.key ≠ k)) k)) := by
  unfold m_s_l1With
  rw [m_s_l1Without_eq hl hfu, Option.bind_some]
  have hf : (l.filter fun c => decide (c.key ≠ k)).length ≤ l.length := List.length_filter_le _ _
  generalize (l.filter fun c => decide (c.key ≠ k)) = v at hf ⊢
  have h := rank_iter (fu := fu) (l := v) (k := k) (by omega) fu 0 (Nat.zero_le _) (by omega)
  rw [show ((0 : Nat) : Int) = 0 from rfl, List.drop_zero, Nat.zero_add] at h
  have hr := rank_le k v
  rw [h, Option.bind_some, Sum.elim_inl]
  unfold m_s_l1With_a2 m_s_l1With_a1
  have e1 : sliceL v 0 ((rank v k : Nat) : Int) = some (v.take (rank v k)) := by
    unfold sliceL
    rw [if_pos (by simp; omega)]
    simp
  have e2 : sliceL v ((rank v k : Nat) : Int) (v.length : Int) = some (v.drop (rank v k)) := by
    unfold sliceL
    rw [if_pos (by simp; omega)]
    simp only [Int.toNat_natCast]
    rw [List.take_of_length_le (by rw [List.length_drop]; exact Nat.le_refl _)]
  have l1 : (v.take (rank v k)).length = rank v k := by rw [List.length_take]; omega
  rw [e1, Option.bind_some, e2, Option.bind_some, appC_eq (by simp; omega), Option.bind_some, List.nil_append, snocC_eq (by omega), Option.bind_some, appC_eq (by simp; omega), Option.bind_some]
end
end Go.Proofs.Ytcngfjmfgeckmaa
namespace Go.Proofs.Ytcngfjmfgeckmaa
open Go
section
variable {fu : Nat}
theorem idx_search {α : Type} {l : List α} {f : α → Option Bool} {g : α → Bool} {fu : Nat} (hf : ∀ a, a ∈ l → f a = some (g a)) (hl : l.length < 9223372036854775807) (hfu : l.length < fu) :
    (Option.bind (iterN (searchStep l f) fu 0) fun q => Sum.elim (fun (_ : Unit) => some (-1)) (fun x => x) q) = some (match l.findIdx? g with | some j => ((j : Nat) : Int) | none => -1) := by
  have h := iter_search hf hl fu 0 (Nat.zero_le _) (by omega)
  rw [show ((0 : Nat) : Int) = 0 from rfl] at h
  rw [h, List.drop_zero]
  cases hx : l.findIdx? g with
  | none => rfl
  | some j => simp
theorem m_s_l1Find_eq {l : List CellD} {k : Int} (hl : l.length ≤ 1000000) (hfu : l.length < fu) : m_s_l1Find fu l k = some (match l.findIdx? (fun c => decide (c.key = k)) with | some j => ((j : Nat) : Int) | none => -1) :=
  idx_search (f := fun a : CellD => some (decide (a.key = k))) (g := fun a : CellD => decide (a.key = k)) (fun a _ => rfl) (by omega) hfu
theorem hasKey_cons (c : CellD) (l : List CellD) (k : Int) : hasKey (c :: l) k = if c.key < k then hasKey l k else decide (c.key = k) := by
  unfold hasKey
  rw [rank]
  by_cases h : c.key < k
  · rw [if_pos h, if_pos h]; rfl
  · rw [if_neg h, if_neg h]; rfl
theorem hasKey_none {l : List CellD} {k : Int} (h : ∀ c, c ∈ l → k < c.key) : rank l k = 0 ∧ hasKey l k = false := by
  cases l with
  | nil => exact ⟨rfl, rfl⟩
  | cons c l =>
    have := h c (by simp)
    rw [hasKey_cons, rank, if_neg (by omega), if_neg (by omega)]
    exact ⟨rfl, decide_eq_false (by omega)⟩
theorem find_rank {k : Int} : ∀ {l : List CellD}, rise l → l.findIdx? (fun c => decide (c.key = k)) = if hasKey l k = true then some (rank l k) else none
  | [], _ => rfl
  | c :: l, hr => by
    have hr' := List.pairwise_cons.1 hr
    rw [List.findIdx?_cons, hasKey_cons, rank]
    by_cases h1 : c.key < k
    · rw [if_pos h1, if_pos h1, if_neg (by simp; omega), find_rank hr'.2]
      split <;> rfl
    · rw [if_neg h1, if_neg h1]
      by_cases h2 : c.key = k
      · simp [h2]
      · simp only [h2, decide_false, Bool.false_eq_true, if_false]
        rw [find_rank hr'.2, (hasKey_none (fun x hx => by have := hr'.1 x hx; omega)).2]
        rfl
theorem valC_has {l : List CellD} {k : Int} {c : CellD} (h1 : l[rank l k]? = some c) (h2 : c.key = k) : valC l k = ⟨0, c.value⟩ := by
  unfold valC; rw [h1]; simp [h2]
theorem valC_none {l : List CellD} {k : Int} (h : hasKey l k = false) : valC l k = ⟨4, 0⟩ := by
  unfold valC
  unfold hasKey at h
  split at h
  · rename_i c hc; simp [of_decide_eq_false h]
  · rfl
def wasP (c : List CellD) (r : RecD) : Bool := if (valC c r.key).code = 0 then r.had && decide (r.old = (valC c r.key).value) else !r.had
theorem m_s_l13Was_eq {s : SimD} {r : RecD} (hr : rise s.cells) (hl : s.cells.length ≤ 1000000) (hfu : s.cells.length < fu) : m_s_l13Was fu s r = some (wasP s.cells r) := by
  unfold m_s_l13Was m_s_l13Was_a1 wasP
  rw [m_s_l1Find_eq hl hfu, find_rank hr, Option.bind_some]
  cases hh : hasKey s.cells r.key with
  | false => rw [valC_none hh]; rfl
  | true =>
    obtain ⟨c, h1, h2⟩ := hasKey_get hh
    rw [valC_has h1 h2]
    show (if decide (((rank s.cells r.key : Nat) : Int) < 0) = true then _ else _) = _
    rw [if_neg (by simp), if_pos rfl]
    cases hd : r.had with
    | false => rfl
    | true =>
      rw [if_pos rfl]
      show Option.bind (atL s.cells ((rank s.cells r.key : Nat) : Int)) _ = _
      rw [atL_nat, h1, Option.bind_some]
      rfl
def insC : List CellD → Int → Int → List CellD
  | [], k, w => [⟨k, w⟩]
  | c :: l, k, w => if c.key < k then c :: insC l k w else if c.key = k then ⟨k, w⟩ :: l else ⟨k, w⟩ :: c :: l
def delC : List CellD → Int → List CellD
  | [], _ => []
  | c :: l, k => if c.key < k then c :: delC l k else if c.key = k then l else c :: l
theorem withC_ins (k w : Int) : ∀ l : List CellD, withC l k w = insC l k w
  | [] => rfl
  | c :: l => by
    have ih := withC_ins k w l
    unfold withC at ih ⊢
    rw [hasKey_cons, rank, insC]
    by_cases h1 : c.key < k
    · rw [if_pos h1, if_pos h1, if_pos h1, ← ih]
      split <;> simp
    · rw [if_neg h1, if_neg h1, if_neg h1]
      by_cases h2 : c.key = k <;> simp [h2]
theorem withoutC_del (k : Int) : ∀ l : List CellD, withoutC l k = delC l k
  | [] => rfl
  | c :: l => by
    have ih := withoutC_del k l
    unfold withoutC at ih ⊢
    rw [hasKey_cons, rank, delC]
    by_cases h1 : c.key < k
    · rw [if_pos h1, if_pos h1, if_pos h1, ← ih]
      split <;> simp
    · rw [if_neg h1, if_neg h1, if_neg h1]
      by_cases h2 : c.key = k <;> simp [h2]
theorem filter_gt {k : Int} {l : List CellD} (h : ∀ c, c ∈ l → k < c.key) : l.filter (fun c => decide (c.key ≠ k)) = l :=
  List.filter_eq_self.2 fun c hc => decide_eq_true (by have := h c hc; omega)
theorem filter_del {k : Int} : ∀ {l : List CellD}, rise l → l.filter (fun c => decide (c.key ≠ k)) = delC l k
  | [], _ => rfl
  | c :: l, hr => by
    have hr' := List.pairwise_cons.1 hr
    rw [List.filter_cons, delC]
    by_cases h1 : c.key < k
    · rw [if_pos h1, if_pos (decide_eq_true (by omega)), filter_del hr'.2]
    · rw [if_neg h1]
      by_cases h2 : c.key = k
      · rw [if_pos h2, if_neg (by simp [h2]), filter_gt (fun x hx => by have := hr'.1 x hx; omega)]
      · rw [if_neg h2, if_pos (decide_eq_true h2), filter_gt (fun x hx => by have := hr'.1 x hx; omega)]
def insR (v : List CellD) (k w : Int) : List CellD := v.take (rank v k) ++ [⟨k, w⟩] ++ v.drop (rank v k)
theorem insR_cons (c : CellD) (v : List CellD) (k w : Int) : insR (c :: v) k w = if c.key < k then c :: insR v k w else ⟨k, w⟩ :: c :: v := by
  unfold insR
  rw [rank]
  split <;> simp
theorem insR_gt {v : List CellD} {k w : Int} (h : ∀ c, c ∈ v → k < c.key) : insR v k w = ⟨k, w⟩ :: v := by
  unfold insR
  rw [(hasKey_none h).1]; simp
theorem insR_del (k w : Int) : ∀ {l : List CellD}, rise l → insR (delC l k) k w = insC l k w
  | [], _ => rfl
  | c :: l, hr => by
    have hr' := List.pairwise_cons.1 hr
    rw [delC, insC]
    by_cases h1 : c.key < k
    · rw [if_pos h1, if_pos h1, insR_cons, if_pos h1, insR_del k w hr'.2]
    · rw [if_neg h1, if_neg h1]
      by_cases h2 : c.key = k
      · rw [if_pos h2, if_pos h2, insR_gt (fun x hx => by have := hr'.1 x hx; omega)]
      · rw [if_neg h2, if_neg h2, insR_cons, if_neg h1]
theorem insC_mem {k w : Int} : ∀ {l : List CellD} {c : CellD}, c ∈ insC l k w → c = ⟨k, w⟩ ∨ c ∈ l
  | [], c, h => .inl (List.mem_singleton.1 h)
  | d :: l, c, h => by
    unfold insC at h
    split at h
    · rcases List.mem_cons.1 h with h | h
      · exact .inr (by simp [h])
      · rcases insC_mem h with h | h
        · exact .inl h
        · exact .inr (by simp [h])
    · split at h <;> simp at h ⊢ <;> rcases h with h | h <;> simp [h]
theorem delC_mem {k : Int} : ∀ {l : List CellD} {c : CellD}, c ∈ delC l k → c ∈ l
  | [], c, h => h
  | d :: l, c, h => by
    unfold delC at h
    split at h
    · rcases List.mem_cons.1 h with h | h
      · simp [h]
      · simp [delC_mem h]
    · split at h
      · simp [h]
      · exact h
theorem insC_rise {k w : Int} : ∀ {l : List CellD}, rise l → rise (insC l k w)
  | [], _ => List.pairwise_singleton _ _
  | c :: l, hr => by
    have hr' := List.pairwise_cons.1 hr
    unfold insC
    split
    · rename_i h1
      refine List.pairwise_cons.2 ⟨fun x hx => ?_, insC_rise hr'.2⟩
      rcases insC_mem hx with rfl | hx
      · exact h1
      · exact hr'.1 x hx
    · split
      · rename_i h2
        exact List.pairwise_cons.2 ⟨fun x hx => by have := hr'.1 x hx; show k < x.key; omega, hr'.2⟩
      · refine List.pairwise_cons.2 ⟨fun x hx => ?_, hr⟩
        show k < x.key
        rcases List.mem_cons.1 hx with rfl | hx
        · omega
        · have := hr'.1 x hx; omega
theorem delC_rise {k : Int} : ∀ {l : List CellD}, rise l → rise (delC l k)
  | [], h => h
  | c :: l, hr => by
    have hr' := List.pairwise_cons.1 hr
    unfold delC
    split
    · exact List.pairwise_cons.2 ⟨fun x hx => hr'.1 x (delC_mem hx), delC_rise hr'.2⟩
    · split
      · exact hr'.2
      · exact hr
theorem insC_len {k w : Int} : ∀ {l : List CellD}, (insC l k w).length ≤ l.length + 1
  | [] => Nat.le_refl _
  | c :: l => by
    have := insC_len (k := k) (w := w) (l := l)
    unfold insC
    split <;> (try split) <;> simp <;> omega
theorem delC_len {k : Int} : ∀ {l : List CellD}, (delC l k).length ≤ l.length
  | [] => Nat.le_refl _
  | c :: l => by
    have := delC_len (k := k) (l := l)
    unfold delC
    split <;> (try split) <;> simp <;> omega
theorem insC_keys {k w : Int} {l : List CellD} (h : keysOk l) (hk : 0 ≤ k ∧ k ≤ 1000000) : keysOk (insC l k w) := fun c hc => by
  rcases insC_mem hc with rfl | hc
  · exact hk
  · exact h c hc
theorem delC_keys {k : Int} {l : List CellD} (h : keysOk l) : keysOk (delC l k) := fun c hc => h c (delC_mem hc)
theorem back_iter {l : List RecD} {t : Int} (hl : l.length ≤ 1000000) (hfu : l.length < fu) :
    ∀ (j k : Nat), j ≤ l.length → j < k → iterN (fun (s : (List Int) × (List Int) × Int) => m_s_l3Back_a5 fu l t s.1 s.2.1 s.2.2) k (goneG t (l.drop j), chainG t j (l.drop j), (j : Int) - 1) = some (Sum.inl (chainG t 0 l)) := by
  intro j
  induction j with
  | zero =>
    intro k _ hk
    obtain ⟨k, rfl⟩ : ∃ k', k = k' + 1 := ⟨k - 1, by omega⟩
    rfl
  | succ j ih =>
    intro k hj hk
    obtain ⟨k, rfl⟩ : ∃ k', k = k' + 1 := ⟨k - 1, by omega⟩
    have hjl : j < l.length := hj
    have hr := List.getElem?_eq_getElem hjl
    have hcs := chainG_step (txn := t) hr
    have hgs := goneG_step (txn := t) hr
    have hlen := chainG_len t (l.drop (j + 1)) (j + 1)
    have hlen2 := goneG_len t (l.drop (j + 1))
    have hlen3 := goneG_len t (l.drop j)
    rw [List.length_drop] at hlen hlen2 hlen3
    have hun : l[j].kind = 2 → (l.drop j).any (undoes t ((j : Int) + 1)) = (l.drop (j + 1)).any (undoes t ((j : Int) + 1)) := fun hk2 => by
      rw [List.drop_eq_getElem_cons hjl, List.any_cons]
      unfold undoes
      simp [hk2]
    have e0 : ((j + 1 : Nat) : Int) - 1 = (j : Int) := by omega
    have e1 : IntKind.i64.wrap ((j : Int) + 1) = (j : Int) + 1 := wrap_in (by omega) (by omega)
    have e2 : IntKind.i64.wrap ((j : Int) - 1) = (j : Int) - 1 := wrap_in (by omega) (by omega)
    have ehas : m_s_l1Has fu (goneG t (l.drop j)) ((j : Int) + 1) = some ((l.drop j).any (undoes t ((j : Int) + 1))) := by
      rw [m_s_l1Has_eq (by omega) (by omega)]
      exact congrArg some (goneG_has t _ _)
    have goal : m_s_l3Back_a5 fu l t (goneG t (l.drop (j + 1))) (chainG t (j + 1) (l.drop (j + 1))) (j : Int) = some (Sum.inl (goneG t (l.drop j), chainG t j (l.drop j), (j : Int) - 1)) := by
      unfold m_s_l3Back_a5 m_s_l3Back_a4 m_s_l3Back_a3 m_s_l3Back_a2
      rw [if_pos (decide_eq_true (Int.natCast_nonneg _)), e1, e2, atL_nat, hr, Option.bind_some]
      rw [snocL_eq (by omega), snocL_eq (by omega)]
      by_cases h1 : l[j].txn = t
      · by_cases h2 : l[j].kind = 5
        · have hg : goneG t (l.drop (j + 1)) ++ [l[j].back] = goneG t (l.drop j) := by rw [hgs]; simp [h1, h2]
          have hc : chainG t j (l.drop j) = chainG t (j + 1) (l.drop (j + 1)) := by rw [hcs]; simp [h2]
          rw [Option.bind_some, hg, hc]
          simp [h1, h2]
        · have hg : goneG t (l.drop (j + 1)) = goneG t (l.drop j) := by rw [hgs]; simp [h2]
          rw [hg, ehas, Option.bind_some]
          by_cases h3 : l[j].kind = 2
          · rw [hun h3, hcs]
            cases hb : (l.drop (j + 1)).any (undoes t ((j : Int) + 1)) <;> simp [h1, h3]
          · have hc : chainG t j (l.drop j) = chainG t (j + 1) (l.drop (j + 1)) := by rw [hcs]; simp [h3]
            rw [hc]
            simp [h1, h2, h3]
      · have hg : goneG t (l.drop (j + 1)) = goneG t (l.drop j) := by rw [hgs]; simp [h1]
        have hc : chainG t j (l.drop j) = chainG t (j + 1) (l.drop (j + 1)) := by rw [hcs]; simp [h1]
        rw [hg, hc]
        simp [h1]
    unfold iterN
    rw [e0]
    simp only [goal]
    exact ih k (by omega) (by omega)
theorem m_s_l3Back_eq {l : List RecD} {t : Int} (hl : l.length ≤ 1000000) (hfu : l.length < fu) : m_s_l3Back fu l t = some (chainG t 0 l) := by
  unfold m_s_l3Back m_s_l3Back_a1
  have h := back_iter (t := t) hl hfu l.length fu (Nat.le_refl _) hfu
  rw [List.drop_length] at h
  have e : IntKind.i64.wrap ((l.length : Int) - 1) = (l.length : Int) - 1 := wrap_in (by omega) (by omega)
  rw [e]
  rw [show (([] : List Int), ([] : List Int), (l.length : Int) - 1) = (goneG t ([] : List RecD), chainG t l.length ([] : List RecD), (l.length : Int) - 1) from rfl, h]
  rfl
end
end Go.Proofs.Ytcngfjmfgeckmaa
