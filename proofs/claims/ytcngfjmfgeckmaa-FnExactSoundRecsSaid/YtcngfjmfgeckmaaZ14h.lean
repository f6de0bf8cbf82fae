import Derived.Test.YtcngfjmfgeckmaaZ14g
set_option linter.unusedSimpArgs false
set_option linter.unusedVariables false
set_option linter.unusedSectionVars false
section
namespace Go.Proofs.Ytcngfjmfgeckmaa
open Go
set_option linter.unusedSimpArgs false
set_option linter.unusedVariables false
set_option maxRecDepth 20000
attribute [local irreducible] IntKind.wrap bitA
section
variable {h : Heap} {n : Nat} {K : AV → Heap → Nat → Prop}
def m_i_soundNext_1 (fu : Nat) (v0 : RecD) (vc0 : RecD) : Option Bool :=
  some (decide (v0.txn = vc0.txn))
set_option maxHeartbeats 2000000 in
theorem w_i_soundNext_1 {x0 : AV} {v0 : RecD} (h0 : RecR x0 v0) {xc0 : AV} {vc0 : RecD} (hc0 : RecR xc0 vc0) {idc0 : Nat} (hidc0 : idc0 < n) (hbc0 : h idc0 = some [xc0]) {fu : Nat} {r : Bool} (hm : m_i_soundNext_1 fu v0 vc0 = some r) (hk : ∀ y, BoolR y r → K y h n) : CA Try.prog 102 [x0, (.ep 8 (.sl 8 idc0 0 1 1 true) 0 0)] h n K := by
 refine CA.enterQ (N := 9) (rs := [.tmp 3]) hT Try.call102 Try.func102 rfl rfl (of_decide_eq_true rfl) rfl fun hlt => ?_
 unfold m_i_soundNext_1 at hm
 have gh0 := h0
 obtain ⟨rfl, i11, i12, i13, i14, i15, i16⟩ := h0
 have ghc0 := hc0
 obtain ⟨rfl, i17, i18, i19, i20, i21, i22⟩ := hc0
 refine WQ.sr hT rfl fun K23 hK23 => ?_
 simp only [go_sem, ↓reduceIte, reduceCtorEq, Nat.reduceEqDiff, Nat.reduceLT, Nat.reduceLeDiff, Nat.reduceAdd, Nat.reduceMul, Int.reduceLE]
 refine kn hK23 ?_
 clear hK23 K23
 refine WQ.sr hT rfl fun K24 hK24 => ?_
 simp only [go_sem, ↓reduceIte, reduceCtorEq, Nat.reduceEqDiff, Nat.reduceLT, Nat.reduceLeDiff, Nat.reduceAdd, Nat.reduceMul, Int.reduceLE, hp_low hidc0, hbc0]
 refine kn hK24 ?_
 clear hK24 K24
 refine retN (t := 3) (js := []) (u := (.bool (decide (v0.txn = vc0.txn)))) (v := (.bool (decide (v0.txn = vc0.txn)))) hlt ?_ (.keep _ (.bool _)) (.bool _) rfl ?_
 kernel_rfl
 exact hkr hk (m := (decide (v0.txn = vc0.txn))) hm rfl
def m_g_IndexFunc_Rec__i_soundNext_1_a1 (fu : Nat) : Option Int :=
  some (-1)
def m_g_IndexFunc_Rec__i_soundNext_1_a2 (fu : Nat) (v0 : List RecD) (vk10 : RecD) (v445 : Int) : Option (Int ⊕ (Unit ⊕ Option Int)) :=
  (if (decide (v445 < (v0.length : Int))) = true then (Option.bind (atL v0 v445) fun a514 => (Option.bind (m_i_soundNext_1 fu a514 vk10) fun v528 => (if v528 = true then some (Sum.inr (Sum.inr (some v445))) else some (Sum.inl (IntKind.i64.wrap (v445 + 1)))))) else some (Sum.inr (Sum.inl ())))
def m_g_IndexFunc_Rec__i_soundNext_1 (fu : Nat) (v0 : List RecD) (vk10 : RecD) : Option Int :=
  (Option.bind (iterN (fun (s : Int) => m_g_IndexFunc_Rec__i_soundNext_1_a2 fu v0 vk10 s) fu 0) fun q448 => Sum.elim (fun (b : Unit) => (m_g_IndexFunc_Rec__i_soundNext_1_a1 fu)) (fun x => x) q448)
set_option maxHeartbeats 2000000 in
theorem w_g_IndexFunc_Rec__i_soundNext_1 {x0 : AV} {v0 : List RecD} (h0 : (SlH h n 8 RecR) x0 v0) {xk10 : AV} {vk10 : RecD} (hk10 : RecR xk10 vk10) {idk10 : Nat} (hidk10 : idk10 < n) (hbk10 : h idk10 = some [xk10]) {fu : Nat} {r : Int} (hm : m_g_IndexFunc_Rec__i_soundNext_1 fu v0 vk10 = some r) (hk : ∀ y, Int64R y r → K y h n) : CA Try.prog 131 [x0, (.fn 102 [(.ep 8 (.sl 8 idk10 0 1 1 true) 0 0)])] h n K := by
 refine CA.enterQ (N := 19) (rs := [.tmp 4]) hT Try.call131 Try.func131 rfl rfl (of_decide_eq_true rfl) rfl fun hlt => ?_
 unfold m_g_IndexFunc_Rec__i_soundNext_1 at hm
 obtain ⟨es11, q12, a13, l14, b15, c16, g17⟩ := slH_open h0
 have ghk10 := hk10
 obtain ⟨rfl, i18, i19, i20, i21, i22, i23⟩ := hk10
 refine WQ.sr hT rfl fun K24 hK24 => ?_
 simp only [go_sem, ↓reduceIte, reduceCtorEq, Nat.reduceEqDiff, Nat.reduceLT, Nat.reduceLeDiff, Nat.reduceAdd, Nat.reduceMul, Int.reduceLE]
 refine kn hK24 ?_
 clear hK24 K24
 refine WQ.seq_k fun K25 hK25 => ?_
 have j274 : ∀ (E' : Env) (h' : Heap) (n' : Nat), Norm n h E' h' n' (envZ [] []) (hp h n []) n → (m_g_IndexFunc_Rec__i_soundNext_1_a1 fu) = some r → K25 E' h' n' := by
  intro E276 H277 n278 N275 hm
  refine hK25 _ _ _ _ _ _ N275 ?_
  clear N275 hK25 K25
  unfold m_g_IndexFunc_Rec__i_soundNext_1_a1 at hm
  refine WQ.sr hT rfl fun K279 hK279 => ?_
  simp only [go_sem, ↓reduceIte, reduceCtorEq, Nat.reduceEqDiff, Nat.reduceLT, Nat.reduceLeDiff, Nat.reduceAdd, Nat.reduceMul, Int.reduceLE]
  refine kn hK279 ?_
  clear hK279 K279
  refine retN (t := 4) (js := []) (u := (.int .i64 (-1))) (v := (.int .i64 (-1))) hlt ?_ (.keep _ (.int _ _)) (.int _ _) rfl ?_
  kernel_rfl
  exact hkr hk (m := (-1)) hm (int64R (i64c (a := (-1)) rfl))
 clear hK25
 refine WQ.sr hT rfl fun K280 hK280 => ?_
 simp only [go_sem, ↓reduceIte, reduceCtorEq, Nat.reduceEqDiff, Nat.reduceLT, Nat.reduceLeDiff, Nat.reduceAdd, Nat.reduceMul, Int.reduceLE, rdSl_hp q12 (slH_lt h0), l14, c16, g17]
 refine kn hK280 ?_
 clear hK280 K280
 refine WQ.block ?_
 obtain ⟨q448, hq449, hm⟩ := obs hm
 refine WQ.norm ?_ (WQ.iter (step := (fun (s : Int) => m_g_IndexFunc_Rec__i_soundNext_1_a2 fu v0 vk10 s)) (fun (s : Int) E' h' n' => I64 s ∧ (envZ [0, 1, 7, 8] [x0, (.fn 102 [(.ep 8 (.sl 8 idk10 0 1 1 true) 0 0)]), (.int .i64 (v0.length : Int)), (.int .i64 s)]) = E' ∧ (hp h n []) = h' ∧ n = n') hq449 ⟨(i64c (a := 0) rfl), rfl, rfl, rfl⟩ ?_)
 refine Norm.mkL (js := []) (m := 0) [0, 1, 7, 8] [x0, (.fn 102 [(.ep 8 (.sl 8 idk10 0 1 1 true) 0 0)]), (.int .i64 (v0.length : Int)), (.int .i64 0)] (of_decide_eq_true rfl) ?_ (RnL.cons (.keep _ (slH_lt h0)) (RnL.cons (.keep _ (lt_fn (ltL_cons (.ep _ _ _ _ (.sl _ _ _ _ _ _ hidk10)) ltL_nil))) (RnL.cons (.keep _ (.int _ _)) (RnL.cons (.keep _ (.int _ _)) RnL.nil)))) RowsR.nil rfl
 kernel_rfl
 rintro v445 E' h' n' o447 ⟨i446, rfl, rfl, rfl⟩ ho451 hf450
 replace i446 : I64 v445 := i446
 replace ho451 : m_g_IndexFunc_Rec__i_soundNext_1_a2 fu v0 vk10 v445 = some o447 := ho451
 unfold m_g_IndexFunc_Rec__i_soundNext_1_a2 at ho451
 show WQ Try.prog _ n h _ _ (envZ [0, 1, 7, 8] [x0, (.fn 102 [(.ep 8 (.sl 8 idk10 0 1 1 true) 0 0)]), (.int .i64 (v0.length : Int)), (.int .i64 v445)]) (hp h n []) n
 refine WQ.sr hT rfl fun K452 hK452 => ?_
 simp only [go_sem, ↓reduceIte, reduceCtorEq, Nat.reduceEqDiff, Nat.reduceLT, Nat.reduceLeDiff, Nat.reduceAdd, Nat.reduceMul, Int.reduceLE]
 refine kn hK452 ?_
 clear hK452 K452
 refine WQ.seq_k fun K453 hK453 => ?_
 refine WQ.cond (t := decide (v445 < (v0.length : Int))) ?_ (fun z455 => ?_) (fun z455 => ?_)
 kernel_rfl
 replace ho451 := ifT z455 ho451
 refine WQ.skip ?_
 simp only [go_sem, ↓reduceIte, reduceCtorEq, Nat.reduceEqDiff, Nat.reduceLT, Nat.reduceLeDiff, Nat.reduceAdd, Nat.reduceMul, Int.reduceLE]
 refine kn hK453 ?_
 clear hK453 K453
 refine WQ.seq_k fun K456 hK456 => ?_
 refine WQ.block ?_
 refine WQ.sr hT rfl fun K495 hK495 => ?_
 simp only [go_sem, ↓reduceIte, reduceCtorEq, Nat.reduceEqDiff, Nat.reduceLT, Nat.reduceLeDiff, Nat.reduceAdd, Nat.reduceMul, Int.reduceLE]
 refine kn hK495 ?_
 clear hK495 K495
 refine WQ.seq_k fun K496 hK496 => ?_
 obtain ⟨a514, q515, ho451⟩ := obs ho451
 obtain ⟨p516, p517, e518, p519, h520⟩ := at_ok q515 a13
 have gh520 := h520
 obtain ⟨rfl, i521, i522, i523, i524, i525, i526⟩ := h520
 obtain ⟨v528, q527, ho451⟩ := obs ho451
 refine WQ.region hT rfl ?_
 simp only [go_sem, ↓reduceIte, reduceCtorEq, Nat.reduceEqDiff, Nat.reduceLT, Nat.reduceLeDiff, Nat.reduceAdd, Nat.reduceMul, Int.reduceLE, rdSl_hp q12 (slH_lt h0), l14, c16, g17, hp_low hidk10, hbk10, p516, p517, p519]
 refine w_i_soundNext_1 gh520 ghk10 hidk10 ((hp_low hidk10).trans hbk10) q527 (fun y529 h530 => ?_)
 obtain rfl := h530
 unfold sealK; simp only [go_sem, ↓reduceIte, reduceCtorEq, Nat.reduceEqDiff, Nat.reduceLT, Nat.reduceLeDiff, Nat.reduceAdd, Nat.reduceMul, Int.reduceLE, rdSl_hp q12 (slH_lt h0), l14, c16, g17, hp_low hidk10, hbk10, p516, p517, p519]
 refine kn hK496 ?_
 clear hK496 K496
 refine WQ.cond (t := v528) ?_ (fun z531 => ?_) (fun z531 => ?_)
 kernel_rfl
 replace ho451 := ifT z531 ho451
 refine WQ.sr hT rfl fun K532 hK532 => ?_
 simp only [go_sem, ↓reduceIte, reduceCtorEq, Nat.reduceEqDiff, Nat.reduceLT, Nat.reduceLeDiff, Nat.reduceAdd, Nat.reduceMul, Int.reduceLE]
 refine kn hK532 ?_
 clear hK532 K532
 have e533 := hf450 _ (Option.some.inj ho451).symm
 rw [← e533] at hm
 refine retN (t := 4) (js := []) (u := (.int .i64 v445)) (v := (.int .i64 v445)) hlt ?_ (.keep _ (.int _ _)) (.int _ _) rfl ?_
 kernel_rfl
 exact hkr hk (m := v445) hm (int64R i446)
 replace ho451 := ifF z531 ho451
 refine WQ.skip ?_
 simp only [go_sem, ↓reduceIte, reduceCtorEq, Nat.reduceEqDiff, Nat.reduceLT, Nat.reduceLeDiff, Nat.reduceAdd, Nat.reduceMul, Int.reduceLE]
 refine kn hK456 ?_
 clear hK456 K456
 refine WQ.region hT rfl ?_
 simp only [go_sem, ↓reduceIte, reduceCtorEq, Nat.reduceEqDiff, Nat.reduceLT, Nat.reduceLeDiff, Nat.reduceAdd, Nat.reduceMul, Int.reduceLE]
 refine ⟨_, _, _, _, (Option.some.inj ho451).symm, ?_, (rng_wrap64 _), rfl, rfl, rfl⟩
 refine Norm.mkL (js := []) (m := 0) [0, 1, 7, 8] [x0, (.fn 102 [(.ep 8 (.sl 8 idk10 0 1 1 true) 0 0)]), (.int .i64 (v0.length : Int)), (.int .i64 (IntKind.i64.wrap (v445 + 1)))] (of_decide_eq_true rfl) ?_ (RnL.cons (.keep _ (slH_lt h0)) (RnL.cons (.keep _ (lt_fn (ltL_cons (.ep _ _ _ _ (.sl _ _ _ _ _ _ hidk10)) ltL_nil))) (RnL.cons (.keep _ (.int _ _)) (RnL.cons (.keep _ (.int _ _)) RnL.nil)))) RowsR.nil rfl
 kernel_rfl
 replace ho451 := ifF z455 ho451
 refine WQ.exit ?_
 simp only [go_sem, ↓reduceIte, reduceCtorEq, Nat.reduceEqDiff, Nat.reduceLT, Nat.reduceLeDiff, Nat.reduceAdd, Nat.reduceMul, Int.reduceLE]
 have e534 := hf450 _ (Option.some.inj ho451).symm
 rw [← e534] at hm
 refine j274 _ _ _  ?_ hm
 refine Norm.mkL (js := []) (m := 0) [] [] (of_decide_eq_true rfl) ?_ RnL.nil RowsR.nil rfl
 kernel_rfl
def m_g_ContainsFunc_Rec__i_soundNext_1 (fu : Nat) (v0 : List RecD) (vk10 : RecD) : Option Bool :=
  (Option.bind (m_g_IndexFunc_Rec__i_soundNext_1 fu v0 vk10) fun v32 => some (decide (0 ≤ v32)))
set_option maxHeartbeats 2000000 in
theorem w_g_ContainsFunc_Rec__i_soundNext_1 {x0 : AV} {v0 : List RecD} (h0 : (SlH h n 8 RecR) x0 v0) {xk10 : AV} {vk10 : RecD} (hk10 : RecR xk10 vk10) {idk10 : Nat} (hidk10 : idk10 < n) (hbk10 : h idk10 = some [xk10]) {fu : Nat} {r : Bool} (hm : m_g_ContainsFunc_Rec__i_soundNext_1 fu v0 vk10 = some r) (hk : ∀ y, BoolR y r → K y h n) : CA Try.prog 101 [x0, (.fn 102 [(.ep 8 (.sl 8 idk10 0 1 1 true) 0 0)])] h n K := by
 refine CA.enterQ (N := 9) (rs := [.tmp 4]) hT Try.call101 Try.func101 rfl rfl (of_decide_eq_true rfl) rfl fun hlt => ?_
 unfold m_g_ContainsFunc_Rec__i_soundNext_1 at hm
 obtain ⟨es11, q12, a13, l14, b15, c16, g17⟩ := slH_open h0
 have ghk10 := hk10
 obtain ⟨rfl, i18, i19, i20, i21, i22, i23⟩ := hk10
 refine WQ.sr hT rfl fun K24 hK24 => ?_
 simp only [go_sem, ↓reduceIte, reduceCtorEq, Nat.reduceEqDiff, Nat.reduceLT, Nat.reduceLeDiff, Nat.reduceAdd, Nat.reduceMul, Int.reduceLE]
 refine kn hK24 ?_
 clear hK24 K24
 obtain ⟨v32, q31, hm⟩ := obs hm
 refine WQ.sr hT rfl fun K25 hK25 => ?_
 simp only [go_sem, ↓reduceIte, reduceCtorEq, Nat.reduceEqDiff, Nat.reduceLT, Nat.reduceLeDiff, Nat.reduceAdd, Nat.reduceMul, Int.reduceLE, rdSl_hp q12 (slH_lt h0), l14, c16, g17, hp_low hidk10, hbk10]
 refine w_g_IndexFunc_Rec__i_soundNext_1 (SlH.up h0 0) ghk10 hidk10 ((hp_low hidk10).trans hbk10) q31 (fun y33 h34 => ?_)
 obtain ⟨rfl, i35⟩ := h34
 unfold sealK; simp only [go_sem, ↓reduceIte, reduceCtorEq, Nat.reduceEqDiff, Nat.reduceLT, Nat.reduceLeDiff, Nat.reduceAdd, Nat.reduceMul, Int.reduceLE, rdSl_hp q12 (slH_lt h0), l14, c16, g17, hp_low hidk10, hbk10]
 refine kn hK25 ?_
 clear hK25 K25
 refine retN (t := 4) (js := []) (u := (.bool (decide (0 ≤ v32)))) (v := (.bool (decide (0 ≤ v32)))) hlt ?_ (.keep _ (.bool _)) (.bool _) rfl ?_
 kernel_rfl
 exact hkr hk (m := (decide (0 ≤ v32))) hm rfl
def m_g_Index_int64_a1 (fu : Nat) : Option Int :=
  some (-1)
def m_g_Index_int64_a2 (fu : Nat) (v0 : List Int) (v1 : Int) (v239 : Int) : Option (Int ⊕ (Unit ⊕ Option Int)) :=
  (if (decide (v239 < (v0.length : Int))) = true then (Option.bind (atL v0 v239) fun a278 => (if (decide (v1 = a278)) = true then some (Sum.inr (Sum.inr (some v239))) else some (Sum.inl (IntKind.i64.wrap (v239 + 1))))) else some (Sum.inr (Sum.inl ())))
def m_g_Index_int64 (fu : Nat) (v0 : List Int) (v1 : Int) : Option Int :=
  (Option.bind (iterN (fun (s : Int) => m_g_Index_int64_a2 fu v0 v1 s) fu 0) fun q242 => Sum.elim (fun (b : Unit) => (m_g_Index_int64_a1 fu)) (fun x => x) q242)
set_option maxHeartbeats 2000000 in
theorem w_g_Index_int64 {x0 : AV} {v0 : List Int} (h0 : (SlH h n 1 Int64R) x0 v0) {v1 : Int} (i1 : I64 v1) {fu : Nat} {r : Int} (hm : m_g_Index_int64 fu v0 v1 = some r) (hk : ∀ y, Int64R y r → K y h n) : CA Try.prog 115 [x0, (.int .i64 v1)] h n K := by
 refine CA.enterQ (N := 19) (rs := [.tmp 4]) hT Try.call115 Try.func115 rfl rfl (of_decide_eq_true rfl) rfl fun hlt => ?_
 unfold m_g_Index_int64 at hm
 obtain ⟨es11, q12, a13, l14, b15, c16, g17⟩ := slH_open h0
 refine WQ.sr hT rfl fun K18 hK18 => ?_
 simp only [go_sem, ↓reduceIte, reduceCtorEq, Nat.reduceEqDiff, Nat.reduceLT, Nat.reduceLeDiff, Nat.reduceAdd, Nat.reduceMul, Int.reduceLE]
 refine kn hK18 ?_
 clear hK18 K18
 refine WQ.seq_k fun K19 hK19 => ?_
 have j148 : ∀ (E' : Env) (h' : Heap) (n' : Nat), Norm n h E' h' n' (envZ [] []) (hp h n []) n → (m_g_Index_int64_a1 fu) = some r → K19 E' h' n' := by
  intro E150 H151 n152 N149 hm
  refine hK19 _ _ _ _ _ _ N149 ?_
  clear N149 hK19 K19
  unfold m_g_Index_int64_a1 at hm
  refine WQ.sr hT rfl fun K153 hK153 => ?_
  simp only [go_sem, ↓reduceIte, reduceCtorEq, Nat.reduceEqDiff, Nat.reduceLT, Nat.reduceLeDiff, Nat.reduceAdd, Nat.reduceMul, Int.reduceLE]
  refine kn hK153 ?_
  clear hK153 K153
  refine retN (t := 4) (js := []) (u := (.int .i64 (-1))) (v := (.int .i64 (-1))) hlt ?_ (.keep _ (.int _ _)) (.int _ _) rfl ?_
  kernel_rfl
  exact hkr hk (m := (-1)) hm (int64R (i64c (a := (-1)) rfl))
 clear hK19
 refine WQ.sr hT rfl fun K154 hK154 => ?_
 simp only [go_sem, ↓reduceIte, reduceCtorEq, Nat.reduceEqDiff, Nat.reduceLT, Nat.reduceLeDiff, Nat.reduceAdd, Nat.reduceMul, Int.reduceLE, rdSl_hp q12 (slH_lt h0), l14, c16, g17]
 refine kn hK154 ?_
 clear hK154 K154
 refine WQ.block ?_
 obtain ⟨q242, hq243, hm⟩ := obs hm
 refine WQ.norm ?_ (WQ.iter (step := (fun (s : Int) => m_g_Index_int64_a2 fu v0 v1 s)) (fun (s : Int) E' h' n' => I64 s ∧ (envZ [0, 1, 7, 8] [x0, (.int .i64 v1), (.int .i64 (v0.length : Int)), (.int .i64 s)]) = E' ∧ (hp h n []) = h' ∧ n = n') hq243 ⟨(i64c (a := 0) rfl), rfl, rfl, rfl⟩ ?_)
 refine Norm.mkL (js := []) (m := 0) [0, 1, 7, 8] [x0, (.int .i64 v1), (.int .i64 (v0.length : Int)), (.int .i64 0)] (of_decide_eq_true rfl) ?_ (RnL.cons (.keep _ (slH_lt h0)) (RnL.cons (.keep _ (.int _ _)) (RnL.cons (.keep _ (.int _ _)) (RnL.cons (.keep _ (.int _ _)) RnL.nil)))) RowsR.nil rfl
 kernel_rfl
 rintro v239 E' h' n' o241 ⟨i240, rfl, rfl, rfl⟩ ho245 hf244
 replace i240 : I64 v239 := i240
 replace ho245 : m_g_Index_int64_a2 fu v0 v1 v239 = some o241 := ho245
 unfold m_g_Index_int64_a2 at ho245
 show WQ Try.prog _ n h _ _ (envZ [0, 1, 7, 8] [x0, (.int .i64 v1), (.int .i64 (v0.length : Int)), (.int .i64 v239)]) (hp h n []) n
 refine WQ.sr hT rfl fun K246 hK246 => ?_
 simp only [go_sem, ↓reduceIte, reduceCtorEq, Nat.reduceEqDiff, Nat.reduceLT, Nat.reduceLeDiff, Nat.reduceAdd, Nat.reduceMul, Int.reduceLE]
 refine kn hK246 ?_
 clear hK246 K246
 refine WQ.seq_k fun K247 hK247 => ?_
 refine WQ.cond (t := decide (v239 < (v0.length : Int))) ?_ (fun z249 => ?_) (fun z249 => ?_)
 kernel_rfl
 replace ho245 := ifT z249 ho245
 refine WQ.skip ?_
 simp only [go_sem, ↓reduceIte, reduceCtorEq, Nat.reduceEqDiff, Nat.reduceLT, Nat.reduceLeDiff, Nat.reduceAdd, Nat.reduceMul, Int.reduceLE]
 refine kn hK247 ?_
 clear hK247 K247
 refine WQ.seq_k fun K250 hK250 => ?_
 refine WQ.block ?_
 refine WQ.sr hT rfl fun K269 hK269 => ?_
 simp only [go_sem, ↓reduceIte, reduceCtorEq, Nat.reduceEqDiff, Nat.reduceLT, Nat.reduceLeDiff, Nat.reduceAdd, Nat.reduceMul, Int.reduceLE]
 refine kn hK269 ?_
 clear hK269 K269
 refine WQ.seq_k fun K270 hK270 => ?_
 obtain ⟨a278, q279, ho245⟩ := obs ho245
 obtain ⟨p280, p281, e282, p283, h284⟩ := at_ok q279 a13
 obtain ⟨rfl, ia278⟩ := h284
 refine WQ.region hT rfl ?_
 simp only [go_sem, ↓reduceIte, reduceCtorEq, Nat.reduceEqDiff, Nat.reduceLT, Nat.reduceLeDiff, Nat.reduceAdd, Nat.reduceMul, Int.reduceLE, rdSl_hp q12 (slH_lt h0), l14, c16, g17, p280, p281, p283]
 refine kn hK270 ?_
 clear hK270 K270
 refine WQ.cond (t := decide (v1 = a278)) ?_ (fun z285 => ?_) (fun z285 => ?_)
 kernel_rfl
 replace ho245 := ifT z285 ho245
 refine WQ.sr hT rfl fun K286 hK286 => ?_
 simp only [go_sem, ↓reduceIte, reduceCtorEq, Nat.reduceEqDiff, Nat.reduceLT, Nat.reduceLeDiff, Nat.reduceAdd, Nat.reduceMul, Int.reduceLE]
 refine kn hK286 ?_
 clear hK286 K286
 have e287 := hf244 _ (Option.some.inj ho245).symm
 rw [← e287] at hm
 refine retN (t := 4) (js := []) (u := (.int .i64 v239)) (v := (.int .i64 v239)) hlt ?_ (.keep _ (.int _ _)) (.int _ _) rfl ?_
 kernel_rfl
 exact hkr hk (m := v239) hm (int64R i240)
 replace ho245 := ifF z285 ho245
 refine WQ.skip ?_
 simp only [go_sem, ↓reduceIte, reduceCtorEq, Nat.reduceEqDiff, Nat.reduceLT, Nat.reduceLeDiff, Nat.reduceAdd, Nat.reduceMul, Int.reduceLE]
 refine kn hK250 ?_
 clear hK250 K250
 refine WQ.region hT rfl ?_
 simp only [go_sem, ↓reduceIte, reduceCtorEq, Nat.reduceEqDiff, Nat.reduceLT, Nat.reduceLeDiff, Nat.reduceAdd, Nat.reduceMul, Int.reduceLE]
 refine ⟨_, _, _, _, (Option.some.inj ho245).symm, ?_, (rng_wrap64 _), rfl, rfl, rfl⟩
 refine Norm.mkL (js := []) (m := 0) [0, 1, 7, 8] [x0, (.int .i64 v1), (.int .i64 (v0.length : Int)), (.int .i64 (IntKind.i64.wrap (v239 + 1)))] (of_decide_eq_true rfl) ?_ (RnL.cons (.keep _ (slH_lt h0)) (RnL.cons (.keep _ (.int _ _)) (RnL.cons (.keep _ (.int _ _)) (RnL.cons (.keep _ (.int _ _)) RnL.nil)))) RowsR.nil rfl
 kernel_rfl
 replace ho245 := ifF z249 ho245
 refine WQ.exit ?_
 simp only [go_sem, ↓reduceIte, reduceCtorEq, Nat.reduceEqDiff, Nat.reduceLT, Nat.reduceLeDiff, Nat.reduceAdd, Nat.reduceMul, Int.reduceLE]
 have e288 := hf244 _ (Option.some.inj ho245).symm
 rw [← e288] at hm
 refine j148 _ _ _  ?_ hm
 refine Norm.mkL (js := []) (m := 0) [] [] (of_decide_eq_true rfl) ?_ RnL.nil RowsR.nil rfl
 kernel_rfl
def m_g_Contains_int64 (fu : Nat) (v0 : List Int) (v1 : Int) : Option Bool :=
  (Option.bind (m_g_Index_int64 fu v0 v1) fun v26 => some (decide (0 ≤ v26)))
set_option maxHeartbeats 2000000 in
theorem w_g_Contains_int64 {x0 : AV} {v0 : List Int} (h0 : (SlH h n 1 Int64R) x0 v0) {v1 : Int} (i1 : I64 v1) {fu : Nat} {r : Bool} (hm : m_g_Contains_int64 fu v0 v1 = some r) (hk : ∀ y, BoolR y r → K y h n) : CA Try.prog 69 [x0, (.int .i64 v1)] h n K := by
 refine CA.enterQ (N := 9) (rs := [.tmp 4]) hT Try.call69 Try.func69 rfl rfl (of_decide_eq_true rfl) rfl fun hlt => ?_
 unfold m_g_Contains_int64 at hm
 obtain ⟨es11, q12, a13, l14, b15, c16, g17⟩ := slH_open h0
 refine WQ.sr hT rfl fun K18 hK18 => ?_
 simp only [go_sem, ↓reduceIte, reduceCtorEq, Nat.reduceEqDiff, Nat.reduceLT, Nat.reduceLeDiff, Nat.reduceAdd, Nat.reduceMul, Int.reduceLE]
 refine kn hK18 ?_
 clear hK18 K18
 obtain ⟨v26, q25, hm⟩ := obs hm
 refine WQ.sr hT rfl fun K19 hK19 => ?_
 simp only [go_sem, ↓reduceIte, reduceCtorEq, Nat.reduceEqDiff, Nat.reduceLT, Nat.reduceLeDiff, Nat.reduceAdd, Nat.reduceMul, Int.reduceLE, rdSl_hp q12 (slH_lt h0), l14, c16, g17]
 refine w_g_Index_int64 (SlH.up h0 0) i1 q25 (fun y27 h28 => ?_)
 obtain ⟨rfl, i29⟩ := h28
 unfold sealK; simp only [go_sem, ↓reduceIte, reduceCtorEq, Nat.reduceEqDiff, Nat.reduceLT, Nat.reduceLeDiff, Nat.reduceAdd, Nat.reduceMul, Int.reduceLE, rdSl_hp q12 (slH_lt h0), l14, c16, g17]
 refine kn hK19 ?_
 clear hK19 K19
 refine retN (t := 4) (js := []) (u := (.bool (decide (0 ≤ v26)))) (v := (.bool (decide (0 ≤ v26)))) hlt ?_ (.keep _ (.bool _)) (.bool _) rfl ?_
 kernel_rfl
 exact hkr hk (m := (decide (0 ≤ v26))) hm rfl
def m_i_kindsOf_1_a1 (fu : Nat) (v31 : Bool) : Option Bool :=
  some v31
def m_i_kindsOf_1 (fu : Nat) (v0 : RecD) (vc0 : Int) (vc1 : List Int) : Option Bool :=
  (if (decide (v0.txn = vc0)) = true then (Option.bind (m_g_Contains_int64 fu vc1 v0.kind) fun v39 => (m_i_kindsOf_1_a1 fu v39)) else (m_i_kindsOf_1_a1 fu false))
set_option maxHeartbeats 2000000 in
theorem w_i_kindsOf_1 {x0 : AV} {v0 : RecD} (h0 : RecR x0 v0) {vc0 : Int} (ic0 : I64 vc0) {idc0 : Nat} (hidc0 : idc0 < n) (hbc0 : h idc0 = some [(.int .i64 vc0)]) {xc1 : AV} {vc1 : List Int} (hc1 : (SlH h n 1 Int64R) xc1 vc1) {idc1 : Nat} (hidc1 : idc1 < n) (hbc1 : h idc1 = some [xc1]) {fu : Nat} {r : Bool} (hm : m_i_kindsOf_1 fu v0 vc0 vc1 = some r) (hk : ∀ y, BoolR y r → K y h n) : CA Try.prog 132 [x0, (.ep 1 (.sl 1 idc0 0 1 1 true) 0 0), (.ep 1 (.sl 1 idc1 0 1 1 true) 0 0)] h n K := by
 refine CA.enterQ (N := 15) (rs := [.tmp 4]) hT Try.call132 Try.func132 rfl rfl (of_decide_eq_true rfl) rfl fun hlt => ?_
 unfold m_i_kindsOf_1 at hm
 have gh0 := h0
 obtain ⟨rfl, i11, i12, i13, i14, i15, i16⟩ := h0
 obtain ⟨es17, q18, a19, l20, b21, c22, g23⟩ := slH_open hc1
 refine WQ.sr hT rfl fun K24 hK24 => ?_
 simp only [go_sem, ↓reduceIte, reduceCtorEq, Nat.reduceEqDiff, Nat.reduceLT, Nat.reduceLeDiff, Nat.reduceAdd, Nat.reduceMul, Int.reduceLE]
 refine kn hK24 ?_
 clear hK24 K24
 refine WQ.seq_k fun K25 hK25 => ?_
 have j32 : ∀ (E' : Env) (h' : Heap) (n' : Nat) (v31 : Bool), Norm n h E' h' n' (envZ [4] [(.bool v31)]) (hp h n []) n → (m_i_kindsOf_1_a1 fu v31) = some r → K25 E' h' n' := by
  intro E34 H35 n36 v31 N33 hm
  refine hK25 _ _ _ _ _ _ N33 ?_
  clear N33 hK25 K25
  unfold m_i_kindsOf_1_a1 at hm
  refine retN (t := 4) (js := []) (u := (.bool v31)) (v := (.bool v31)) hlt ?_ (.keep _ (.bool _)) (.bool _) rfl ?_
  kernel_rfl
  exact hkr hk (m := v31) hm rfl
 clear hK25
 rcases Bool.eq_false_or_eq_true (decide (v0.txn = vc0)) with z37 | z37
 replace hm := ifT z37 hm
 obtain ⟨v39, q38, hm⟩ := obs hm
 refine WQ.region hT rfl ?_
 simp only [go_sem, ↓reduceIte, reduceCtorEq, Nat.reduceEqDiff, Nat.reduceLT, Nat.reduceLeDiff, Nat.reduceAdd, Nat.reduceMul, Int.reduceLE, hp_low hidc0, hbc0, hp_low hidc1, hbc1, rdSl_hp q18 (slH_lt hc1), l20, c22, g23, eqT z37]
 refine w_g_Contains_int64 (SlH.up hc1 1) i11 q38 (fun y40 h41 => ?_)
 obtain rfl := h41
 unfold sealK; simp only [go_sem, ↓reduceIte, reduceCtorEq, Nat.reduceEqDiff, Nat.reduceLT, Nat.reduceLeDiff, Nat.reduceAdd, Nat.reduceMul, Int.reduceLE, hp_low hidc0, hbc0, hp_low hidc1, hbc1, rdSl_hp q18 (slH_lt hc1), l20, c22, g23, eqT z37]
 refine j32 _ _ _ v39 ?_ hm
 refine Norm.mkL (js := []) (m := 0) [4] [(.bool v39)] (of_decide_eq_true rfl) ?_ (RnL.cons (.keep _ (.bool _)) RnL.nil) RowsR.nil rfl
 kernel_rfl
 replace hm := ifF z37 hm
 refine WQ.region hT rfl ?_
 simp only [go_sem, ↓reduceIte, reduceCtorEq, Nat.reduceEqDiff, Nat.reduceLT, Nat.reduceLeDiff, Nat.reduceAdd, Nat.reduceMul, Int.reduceLE, hp_low hidc0, hbc0, hp_low hidc1, hbc1, rdSl_hp q18 (slH_lt hc1), l20, c22, g23, eqF z37]
 refine j32 _ _ _ false ?_ hm
 refine Norm.mkL (js := []) (m := 0) [4] [(.bool false)] (of_decide_eq_true rfl) ?_ (RnL.cons (.keep _ (.bool _)) RnL.nil) RowsR.nil rfl
 kernel_rfl
def m_g_IndexFunc_Rec__i_kindsOf_1_a1 (fu : Nat) : Option Int :=
  some (-1)
def m_g_IndexFunc_Rec__i_kindsOf_1_a2 (fu : Nat) (v0 : List RecD) (vk10 : Int) (vk11 : List Int) (v446 : Int) : Option (Int ⊕ (Unit ⊕ Option Int)) :=
  (if (decide (v446 < (v0.length : Int))) = true then (Option.bind (atL v0 v446) fun a515 => (Option.bind (m_i_kindsOf_1 fu a515 vk10 vk11) fun v529 => (if v529 = true then some (Sum.inr (Sum.inr (some v446))) else some (Sum.inl (IntKind.i64.wrap (v446 + 1)))))) else some (Sum.inr (Sum.inl ())))
def m_g_IndexFunc_Rec__i_kindsOf_1 (fu : Nat) (v0 : List RecD) (vk10 : Int) (vk11 : List Int) : Option Int :=
  (Option.bind (iterN (fun (s : Int) => m_g_IndexFunc_Rec__i_kindsOf_1_a2 fu v0 vk10 vk11 s) fu 0) fun q449 => Sum.elim (fun (b : Unit) => (m_g_IndexFunc_Rec__i_kindsOf_1_a1 fu)) (fun x => x) q449)
set_option maxHeartbeats 2000000 in
theorem w_g_IndexFunc_Rec__i_kindsOf_1 {x0 : AV} {v0 : List RecD} (h0 : (SlH h n 8 RecR) x0 v0) {vk10 : Int} (ik10 : I64 vk10) {idk10 : Nat} (hidk10 : idk10 < n) (hbk10 : h idk10 = some [(.int .i64 vk10)]) {xk11 : AV} {vk11 : List Int} (hk11 : (SlH h n 1 Int64R) xk11 vk11) {idk11 : Nat} (hidk11 : idk11 < n) (hbk11 : h idk11 = some [xk11]) {fu : Nat} {r : Int} (hm : m_g_IndexFunc_Rec__i_kindsOf_1 fu v0 vk10 vk11 = some r) (hk : ∀ y, Int64R y r → K y h n) : CA Try.prog 131 [x0, (.fn 132 [(.ep 1 (.sl 1 idk10 0 1 1 true) 0 0), (.ep 1 (.sl 1 idk11 0 1 1 true) 0 0)])] h n K := by
 refine CA.enterQ (N := 19) (rs := [.tmp 4]) hT Try.call131 Try.func131 rfl rfl (of_decide_eq_true rfl) rfl fun hlt => ?_
 unfold m_g_IndexFunc_Rec__i_kindsOf_1 at hm
 obtain ⟨es11, q12, a13, l14, b15, c16, g17⟩ := slH_open h0
 obtain ⟨es18, q19, a20, l21, b22, c23, g24⟩ := slH_open hk11
 refine WQ.sr hT rfl fun K25 hK25 => ?_
 simp only [go_sem, ↓reduceIte, reduceCtorEq, Nat.reduceEqDiff, Nat.reduceLT, Nat.reduceLeDiff, Nat.reduceAdd, Nat.reduceMul, Int.reduceLE]
 refine kn hK25 ?_
 clear hK25 K25
 refine WQ.seq_k fun K26 hK26 => ?_
 have j275 : ∀ (E' : Env) (h' : Heap) (n' : Nat), Norm n h E' h' n' (envZ [] []) (hp h n []) n → (m_g_IndexFunc_Rec__i_kindsOf_1_a1 fu) = some r → K26 E' h' n' := by
  intro E277 H278 n279 N276 hm
  refine hK26 _ _ _ _ _ _ N276 ?_
  clear N276 hK26 K26
  unfold m_g_IndexFunc_Rec__i_kindsOf_1_a1 at hm
  refine WQ.sr hT rfl fun K280 hK280 => ?_
  simp only [go_sem, ↓reduceIte, reduceCtorEq, Nat.reduceEqDiff, Nat.reduceLT, Nat.reduceLeDiff, Nat.reduceAdd, Nat.reduceMul, Int.reduceLE]
  refine kn hK280 ?_
  clear hK280 K280
  refine retN (t := 4) (js := []) (u := (.int .i64 (-1))) (v := (.int .i64 (-1))) hlt ?_ (.keep _ (.int _ _)) (.int _ _) rfl ?_
  kernel_rfl
  exact hkr hk (m := (-1)) hm (int64R (i64c (a := (-1)) rfl))
 clear hK26
 refine WQ.sr hT rfl fun K281 hK281 => ?_
 simp only [go_sem, ↓reduceIte, reduceCtorEq, Nat.reduceEqDiff, Nat.reduceLT, Nat.reduceLeDiff, Nat.reduceAdd, Nat.reduceMul, Int.reduceLE, rdSl_hp q12 (slH_lt h0), l14, c16, g17]
 refine kn hK281 ?_
 clear hK281 K281
 refine WQ.block ?_
 obtain ⟨q449, hq450, hm⟩ := obs hm
 refine WQ.norm ?_ (WQ.iter (step := (fun (s : Int) => m_g_IndexFunc_Rec__i_kindsOf_1_a2 fu v0 vk10 vk11 s)) (fun (s : Int) E' h' n' => I64 s ∧ (envZ [0, 1, 7, 8] [x0, (.fn 132 [(.ep 1 (.sl 1 idk10 0 1 1 true) 0 0), (.ep 1 (.sl 1 idk11 0 1 1 true) 0 0)]), (.int .i64 (v0.length : Int)), (.int .i64 s)]) = E' ∧ (hp h n []) = h' ∧ n = n') hq450 ⟨(i64c (a := 0) rfl), rfl, rfl, rfl⟩ ?_)
 refine Norm.mkL (js := []) (m := 0) [0, 1, 7, 8] [x0, (.fn 132 [(.ep 1 (.sl 1 idk10 0 1 1 true) 0 0), (.ep 1 (.sl 1 idk11 0 1 1 true) 0 0)]), (.int .i64 (v0.length : Int)), (.int .i64 0)] (of_decide_eq_true rfl) ?_ (RnL.cons (.keep _ (slH_lt h0)) (RnL.cons (.keep _ (lt_fn (ltL_cons (.ep _ _ _ _ (.sl _ _ _ _ _ _ hidk10)) (ltL_cons (.ep _ _ _ _ (.sl _ _ _ _ _ _ hidk11)) ltL_nil)))) (RnL.cons (.keep _ (.int _ _)) (RnL.cons (.keep _ (.int _ _)) RnL.nil)))) RowsR.nil rfl
 kernel_rfl
 rintro v446 E' h' n' o448 ⟨i447, rfl, rfl, rfl⟩ ho452 hf451
 replace i447 : I64 v446 := i447
 replace ho452 : m_g_IndexFunc_Rec__i_kindsOf_1_a2 fu v0 vk10 vk11 v446 = some o448 := ho452
 unfold m_g_IndexFunc_Rec__i_kindsOf_1_a2 at ho452
 show WQ Try.prog _ n h _ _ (envZ [0, 1, 7, 8] [x0, (.fn 132 [(.ep 1 (.sl 1 idk10 0 1 1 true) 0 0), (.ep 1 (.sl 1 idk11 0 1 1 true) 0 0)]), (.int .i64 (v0.length : Int)), (.int .i64 v446)]) (hp h n []) n
 refine WQ.sr hT rfl fun K453 hK453 => ?_
 simp only [go_sem, ↓reduceIte, reduceCtorEq, Nat.reduceEqDiff, Nat.reduceLT, Nat.reduceLeDiff, Nat.reduceAdd, Nat.reduceMul, Int.reduceLE]
 refine kn hK453 ?_
 clear hK453 K453
 refine WQ.seq_k fun K454 hK454 => ?_
 refine WQ.cond (t := decide (v446 < (v0.length : Int))) ?_ (fun z456 => ?_) (fun z456 => ?_)
 kernel_rfl
 replace ho452 := ifT z456 ho452
 refine WQ.skip ?_
 simp only [go_sem, ↓reduceIte, reduceCtorEq, Nat.reduceEqDiff, Nat.reduceLT, Nat.reduceLeDiff, Nat.reduceAdd, Nat.reduceMul, Int.reduceLE]
 refine kn hK454 ?_
 clear hK454 K454
 refine WQ.seq_k fun K457 hK457 => ?_
 refine WQ.block ?_
 refine WQ.sr hT rfl fun K496 hK496 => ?_
 simp only [go_sem, ↓reduceIte, reduceCtorEq, Nat.reduceEqDiff, Nat.reduceLT, Nat.reduceLeDiff, Nat.reduceAdd, Nat.reduceMul, Int.reduceLE]
 refine kn hK496 ?_
 clear hK496 K496
 refine WQ.seq_k fun K497 hK497 => ?_
 obtain ⟨a515, q516, ho452⟩ := obs ho452
 obtain ⟨p517, p518, e519, p520, h521⟩ := at_ok q516 a13
 have gh521 := h521
 obtain ⟨rfl, i522, i523, i524, i525, i526, i527⟩ := h521
 obtain ⟨v529, q528, ho452⟩ := obs ho452
 refine WQ.region hT rfl ?_
 simp only [go_sem, ↓reduceIte, reduceCtorEq, Nat.reduceEqDiff, Nat.reduceLT, Nat.reduceLeDiff, Nat.reduceAdd, Nat.reduceMul, Int.reduceLE, rdSl_hp q12 (slH_lt h0), l14, c16, g17, hp_low hidk10, hbk10, hp_low hidk11, hbk11, rdSl_hp q19 (slH_lt hk11), l21, c23, g24, p517, p518, p520]
 refine w_i_kindsOf_1 gh521 ik10 hidk10 ((hp_low hidk10).trans hbk10) (SlH.up hk11 0) hidk11 ((hp_low hidk11).trans hbk11) q528 (fun y530 h531 => ?_)
 obtain rfl := h531
 unfold sealK; simp only [go_sem, ↓reduceIte, reduceCtorEq, Nat.reduceEqDiff, Nat.reduceLT, Nat.reduceLeDiff, Nat.reduceAdd, Nat.reduceMul, Int.reduceLE, rdSl_hp q12 (slH_lt h0), l14, c16, g17, hp_low hidk10, hbk10, hp_low hidk11, hbk11, rdSl_hp q19 (slH_lt hk11), l21, c23, g24, p517, p518, p520]
 refine kn hK497 ?_
 clear hK497 K497
 refine WQ.cond (t := v529) ?_ (fun z532 => ?_) (fun z532 => ?_)
 kernel_rfl
 replace ho452 := ifT z532 ho452
 refine WQ.sr hT rfl fun K533 hK533 => ?_
 simp only [go_sem, ↓reduceIte, reduceCtorEq, Nat.reduceEqDiff, Nat.reduceLT, Nat.reduceLeDiff, Nat.reduceAdd, Nat.reduceMul, Int.reduceLE]
 refine kn hK533 ?_
 clear hK533 K533
 have e534 := hf451 _ (Option.some.inj ho452).symm
 rw [← e534] at hm
 refine retN (t := 4) (js := []) (u := (.int .i64 v446)) (v := (.int .i64 v446)) hlt ?_ (.keep _ (.int _ _)) (.int _ _) rfl ?_
 kernel_rfl
 exact hkr hk (m := v446) hm (int64R i447)
 replace ho452 := ifF z532 ho452
 refine WQ.skip ?_
 simp only [go_sem, ↓reduceIte, reduceCtorEq, Nat.reduceEqDiff, Nat.reduceLT, Nat.reduceLeDiff, Nat.reduceAdd, Nat.reduceMul, Int.reduceLE]
 refine kn hK457 ?_
 clear hK457 K457
 refine WQ.region hT rfl ?_
 simp only [go_sem, ↓reduceIte, reduceCtorEq, Nat.reduceEqDiff, Nat.reduceLT, Nat.reduceLeDiff, Nat.reduceAdd, Nat.reduceMul, Int.reduceLE]
 refine ⟨_, _, _, _, (Option.some.inj ho452).symm, ?_, (rng_wrap64 _), rfl, rfl, rfl⟩
 refine Norm.mkL (js := []) (m := 0) [0, 1, 7, 8] [x0, (.fn 132 [(.ep 1 (.sl 1 idk10 0 1 1 true) 0 0), (.ep 1 (.sl 1 idk11 0 1 1 true) 0 0)]), (.int .i64 (v0.length : Int)), (.int .i64 (IntKind.i64.wrap (v446 + 1)))] (of_decide_eq_true rfl) ?_ (RnL.cons (.keep _ (slH_lt h0)) (RnL.cons (.keep _ (lt_fn (ltL_cons (.ep _ _ _ _ (.sl _ _ _ _ _ _ hidk10)) (ltL_cons (.ep _ _ _ _ (.sl _ _ _ _ _ _ hidk11)) ltL_nil)))) (RnL.cons (.keep _ (.int _ _)) (RnL.cons (.keep _ (.int _ _)) RnL.nil)))) RowsR.nil rfl
 kernel_rfl
 replace ho452 := ifF z456 ho452
 refine WQ.exit ?_
 simp only [go_sem, ↓reduceIte, reduceCtorEq, Nat.reduceEqDiff, Nat.reduceLT, Nat.reduceLeDiff, Nat.reduceAdd, Nat.reduceMul, Int.reduceLE]
 have e535 := hf451 _ (Option.some.inj ho452).symm
 rw [← e535] at hm
 refine j275 _ _ _  ?_ hm
 refine Norm.mkL (js := []) (m := 0) [] [] (of_decide_eq_true rfl) ?_ RnL.nil RowsR.nil rfl
 kernel_rfl
def m_g_ContainsFunc_Rec__i_kindsOf_1 (fu : Nat) (v0 : List RecD) (vk10 : Int) (vk11 : List Int) : Option Bool :=
  (Option.bind (m_g_IndexFunc_Rec__i_kindsOf_1 fu v0 vk10 vk11) fun v33 => some (decide (0 ≤ v33)))
set_option maxHeartbeats 2000000 in
theorem w_g_ContainsFunc_Rec__i_kindsOf_1 {x0 : AV} {v0 : List RecD} (h0 : (SlH h n 8 RecR) x0 v0) {vk10 : Int} (ik10 : I64 vk10) {idk10 : Nat} (hidk10 : idk10 < n) (hbk10 : h idk10 = some [(.int .i64 vk10)]) {xk11 : AV} {vk11 : List Int} (hk11 : (SlH h n 1 Int64R) xk11 vk11) {idk11 : Nat} (hidk11 : idk11 < n) (hbk11 : h idk11 = some [xk11]) {fu : Nat} {r : Bool} (hm : m_g_ContainsFunc_Rec__i_kindsOf_1 fu v0 vk10 vk11 = some r) (hk : ∀ y, BoolR y r → K y h n) : CA Try.prog 101 [x0, (.fn 132 [(.ep 1 (.sl 1 idk10 0 1 1 true) 0 0), (.ep 1 (.sl 1 idk11 0 1 1 true) 0 0)])] h n K := by
 refine CA.enterQ (N := 9) (rs := [.tmp 4]) hT Try.call101 Try.func101 rfl rfl (of_decide_eq_true rfl) rfl fun hlt => ?_
 unfold m_g_ContainsFunc_Rec__i_kindsOf_1 at hm
 obtain ⟨es11, q12, a13, l14, b15, c16, g17⟩ := slH_open h0
 obtain ⟨es18, q19, a20, l21, b22, c23, g24⟩ := slH_open hk11
 refine WQ.sr hT rfl fun K25 hK25 => ?_
 simp only [go_sem, ↓reduceIte, reduceCtorEq, Nat.reduceEqDiff, Nat.reduceLT, Nat.reduceLeDiff, Nat.reduceAdd, Nat.reduceMul, Int.reduceLE]
 refine kn hK25 ?_
 clear hK25 K25
 obtain ⟨v33, q32, hm⟩ := obs hm
 refine WQ.sr hT rfl fun K26 hK26 => ?_
 simp only [go_sem, ↓reduceIte, reduceCtorEq, Nat.reduceEqDiff, Nat.reduceLT, Nat.reduceLeDiff, Nat.reduceAdd, Nat.reduceMul, Int.reduceLE, rdSl_hp q12 (slH_lt h0), l14, c16, g17, hp_low hidk10, hbk10, hp_low hidk11, hbk11, rdSl_hp q19 (slH_lt hk11), l21, c23, g24]
 refine w_g_IndexFunc_Rec__i_kindsOf_1 (SlH.up h0 0) ik10 hidk10 ((hp_low hidk10).trans hbk10) (SlH.up hk11 0) hidk11 ((hp_low hidk11).trans hbk11) q32 (fun y34 h35 => ?_)
 obtain ⟨rfl, i36⟩ := h35
 unfold sealK; simp only [go_sem, ↓reduceIte, reduceCtorEq, Nat.reduceEqDiff, Nat.reduceLT, Nat.reduceLeDiff, Nat.reduceAdd, Nat.reduceMul, Int.reduceLE, rdSl_hp q12 (slH_lt h0), l14, c16, g17, hp_low hidk10, hbk10, hp_low hidk11, hbk11, rdSl_hp q19 (slH_lt hk11), l21, c23, g24]
 refine kn hK26 ?_
 clear hK26 K26
 refine retN (t := 4) (js := []) (u := (.bool (decide (0 ≤ v33)))) (v := (.bool (decide (0 ≤ v33)))) hlt ?_ (.keep _ (.bool _)) (.bool _) rfl ?_
 kernel_rfl
 exact hkr hk (m := (decide (0 ≤ v33))) hm rfl
def m_i_kindsOf (fu : Nat) (v0 : List RecD) (v1 : Int) (v2 : List Int) : Option Bool :=
  (Option.bind (m_g_ContainsFunc_Rec__i_kindsOf_1 fu v0 v1 v2) fun v32 => some v32)
set_option maxHeartbeats 2000000 in
theorem w_i_kindsOf {x0 : AV} {v0 : List RecD} (h0 : (SlH h n 8 RecR) x0 v0) {v1 : Int} (i1 : I64 v1) {x2 : AV} {v2 : List Int} (h2 : (SlH h n 1 Int64R) x2 v2) {fu : Nat} {r : Bool} (hm : m_i_kindsOf fu v0 v1 v2 = some r) (hk : ∀ y, BoolR y r → K y h n) : CA Try.prog 103 [x0, (.int .i64 v1), x2] h n K := by
 refine CA.enterQ (N := 10) (rs := [.tmp 6]) hT Try.call103 Try.func103 rfl rfl (of_decide_eq_true rfl) rfl fun hlt => ?_
 unfold m_i_kindsOf at hm
 obtain ⟨es11, q12, a13, l14, b15, c16, g17⟩ := slH_open h0
 obtain ⟨es18, q19, a20, l21, b22, c23, g24⟩ := slH_open h2
 refine WQ.sr hT rfl fun K25 hK25 => ?_
 simp only [go_sem, ↓reduceIte, reduceCtorEq, Nat.reduceEqDiff, Nat.reduceLT, Nat.reduceLeDiff, Nat.reduceAdd, Nat.reduceMul, Int.reduceLE, rdSl_hp q19 (slH_lt h2), l21, c23, g24]
 refine kn hK25 ?_
 clear hK25 K25
 obtain ⟨v32, q31, hm⟩ := obs hm
 refine WQ.sr hT rfl fun K26 hK26 => ?_
 simp only [go_sem, ↓reduceIte, reduceCtorEq, Nat.reduceEqDiff, Nat.reduceLT, Nat.reduceLeDiff, Nat.reduceAdd, Nat.reduceMul, Int.reduceLE, rdSl_hp q12 (slH_lt h0), l14, c16, g17, rdSl_hp q19 (slH_lt h2), l21, c23, g24]
 refine w_g_ContainsFunc_Rec__i_kindsOf_1 (SlH.up h0 2) i1 (lt_row (j := 0) (m := 2) rfl) hp_get0 (SlH.up h2 2) (lt_row (j := 1) (m := 2) rfl) (hp_get 1) q31 (fun y33 h34 => ?_)
 obtain rfl := h34
 unfold sealK; simp only [go_sem, ↓reduceIte, reduceCtorEq, Nat.reduceEqDiff, Nat.reduceLT, Nat.reduceLeDiff, Nat.reduceAdd, Nat.reduceMul, Int.reduceLE, rdSl_hp q12 (slH_lt h0), l14, c16, g17, rdSl_hp q19 (slH_lt h2), l21, c23, g24]
 refine kn hK26 ?_
 clear hK26 K26
 refine retN (t := 6) (js := []) (u := (.bool v32)) (v := (.bool v32)) hlt ?_ (.keep _ (.bool _)) (.bool _) rfl ?_
 kernel_rfl
 exact hkr hk (m := v32) hm rfl
def m_i_place_1 (fu : Nat) (v0 : CellD) (v1 : Int) : Option Int :=
  some (IntKind.i64.wrap (v0.key - v1))
set_option maxHeartbeats 2000000 in
theorem w_i_place_1 {x0 : AV} {v0 : CellD} (h0 : CellR x0 v0) {v1 : Int} (i1 : I64 v1) {fu : Nat} {r : Int} (hm : m_i_place_1 fu v0 v1 = some r) (hk : ∀ y, Int64R y r → K y h n) : CA Try.prog 136 [x0, (.int .i64 v1)] h n K := by
 refine CA.enterQ (N := 9) (rs := [.tmp 4]) hT Try.call136 Try.func136 rfl rfl (of_decide_eq_true rfl) rfl fun hlt => ?_
 unfold m_i_place_1 at hm
 have gh0 := h0
 obtain ⟨rfl, i11, i12⟩ := h0
 refine WQ.sr hT rfl fun K13 hK13 => ?_
 simp only [go_sem, ↓reduceIte, reduceCtorEq, Nat.reduceEqDiff, Nat.reduceLT, Nat.reduceLeDiff, Nat.reduceAdd, Nat.reduceMul, Int.reduceLE]
 refine kn hK13 ?_
 clear hK13 K13
 refine WQ.sr hT rfl fun K14 hK14 => ?_
 simp only [go_sem, ↓reduceIte, reduceCtorEq, Nat.reduceEqDiff, Nat.reduceLT, Nat.reduceLeDiff, Nat.reduceAdd, Nat.reduceMul, Int.reduceLE]
 refine kn hK14 ?_
 clear hK14 K14
 refine retN (t := 4) (js := []) (u := (.int .i64 (IntKind.i64.wrap (v0.key - v1)))) (v := (.int .i64 (IntKind.i64.wrap (v0.key - v1)))) hlt ?_ (.keep _ (.int _ _)) (.int _ _) rfl ?_
 kernel_rfl
 exact hkr hk (m := (IntKind.i64.wrap (v0.key - v1))) hm (int64R (rng_wrap64 _))
def m_g_BinarySearchFunc_Cell_int64__i_place_1_a1 (fu : Nat) (v138 : Int) (v161 : Bool) : Option (Int × Bool) :=
  some (v138, v161)
def m_g_BinarySearchFunc_Cell_int64__i_place_1_a2 (fu : Nat) (v0 : List CellD) (v1 : Int) (v138 : Int) : Option (Int × Bool) :=
  (if (decide (v138 < (v0.length : Int))) = true then (Option.bind (atL v0 v138) fun a168 => (Option.bind (m_i_place_1 fu a168 v1) fun v178 => (m_g_BinarySearchFunc_Cell_int64__i_place_1_a1 fu v138 (decide (v178 = 0))))) else (m_g_BinarySearchFunc_Cell_int64__i_place_1_a1 fu v138 false))
def m_g_BinarySearchFunc_Cell_int64__i_place_1_a3 (fu : Nat) (v0 : List CellD) (v1 : Int) (v258 : Int) (v260 : Int) : Option ((Int × Int) ⊕ (Int ⊕ Option (Int × Bool))) :=
  (if (decide (v258 < v260)) = true then (Option.bind (atL v0 (IntKind.i64.wrap (Int.fdiv (IntKind.u64.wrap (IntKind.i64.wrap (v258 + v260))) 2))) fun a288 => (Option.bind (m_i_place_1 fu a288 v1) fun v298 => (if (decide (v298 < 0)) = true then some (Sum.inl (IntKind.i64.wrap ((IntKind.i64.wrap (Int.fdiv (IntKind.u64.wrap (IntKind.i64.wrap (v258 + v260))) 2)) + 1), v260)) else some (Sum.inl (v258, IntKind.i64.wrap (Int.fdiv (IntKind.u64.wrap (IntKind.i64.wrap (v258 + v260))) 2)))))) else some (Sum.inr (Sum.inl v258)))
def m_g_BinarySearchFunc_Cell_int64__i_place_1 (fu : Nat) (v0 : List CellD) (v1 : Int) : Option (Int × Bool) :=
  (Option.bind (iterN (fun (s : Int × Int) => m_g_BinarySearchFunc_Cell_int64__i_place_1_a3 fu v0 v1 s.1 s.2) fu (0, (v0.length : Int))) fun q263 => Sum.elim (fun (b : Int) => (m_g_BinarySearchFunc_Cell_int64__i_place_1_a2 fu v0 v1 b)) (fun x => x) q263)
set_option maxHeartbeats 2000000 in
theorem w_g_BinarySearchFunc_Cell_int64__i_place_1 {x0 : AV} {v0 : List CellD} (h0 : (SlH h n 2 CellR) x0 v0) {v1 : Int} (i1 : I64 v1) {fu : Nat} {r : Int × Bool} (hm : m_g_BinarySearchFunc_Cell_int64__i_place_1 fu v0 v1 = some r) (hk : ∀ y0, Int64R y0 r.1 → ∀ y1, BoolR y1 r.2 → K (.tup [y0, y1]) h n) : CA Try.prog 135 [x0, (.int .i64 v1), (.fn 136 [])] h n K := by
 refine CA.enterQ (N := 49) (rs := [.tmp 6, .tmp 7]) hT Try.call135 Try.func135 rfl rfl (of_decide_eq_true rfl) rfl fun hlt => ?_
 unfold m_g_BinarySearchFunc_Cell_int64__i_place_1 at hm
 obtain ⟨es11, q12, a13, l14, b15, c16, g17⟩ := slH_open h0
 refine WQ.sr hT rfl fun K18 hK18 => ?_
 simp only [go_sem, ↓reduceIte, reduceCtorEq, Nat.reduceEqDiff, Nat.reduceLT, Nat.reduceLeDiff, Nat.reduceAdd, Nat.reduceMul, Int.reduceLE]
 refine kn hK18 ?_
 clear hK18 K18
 refine WQ.sr hT rfl fun K19 hK19 => ?_
 simp only [go_sem, ↓reduceIte, reduceCtorEq, Nat.reduceEqDiff, Nat.reduceLT, Nat.reduceLeDiff, Nat.reduceAdd, Nat.reduceMul, Int.reduceLE, rdSl_hp q12 (slH_lt h0), l14, c16, g17]
 refine kn hK19 ?_
 clear hK19 K19
 refine WQ.sr hT rfl fun K20 hK20 => ?_
 simp only [go_sem, ↓reduceIte, reduceCtorEq, Nat.reduceEqDiff, Nat.reduceLT, Nat.reduceLeDiff, Nat.reduceAdd, Nat.reduceMul, Int.reduceLE]
 refine kn hK20 ?_
 clear hK20 K20
 refine WQ.seq_k fun K21 hK21 => ?_
 have j140 : ∀ (E' : Env) (h' : Heap) (n' : Nat) (v138 : Int) (i139 : I64 v138), Norm n h E' h' n' (envZ [0, 1, 2, 8, 9] [x0, (.int .i64 v1), (.fn 136 []), (.int .i64 (v0.length : Int)), (.int .i64 v138)]) (hp h n []) n → (m_g_BinarySearchFunc_Cell_int64__i_place_1_a2 fu v0 v1 v138) = some r → K21 E' h' n' := by
  intro E142 H143 n144 v138 i139 N141 hm
  refine hK21 _ _ _ _ _ _ N141 ?_
  clear N141 hK21 K21
  unfold m_g_BinarySearchFunc_Cell_int64__i_place_1_a2 at hm
  refine WQ.seq_k fun K145 hK145 => ?_
  have j162 : ∀ (E' : Env) (h' : Heap) (n' : Nat) (v161 : Bool), Norm n h E' h' n' (envZ [6, 7] [(.int .i64 v138), (.bool v161)]) (hp h n []) n → (m_g_BinarySearchFunc_Cell_int64__i_place_1_a1 fu v138 v161) = some r → K145 E' h' n' := by
   intro E164 H165 n166 v161 N163 hm
   refine hK145 _ _ _ _ _ _ N163 ?_
   clear N163 hK145 K145
   unfold m_g_BinarySearchFunc_Cell_int64__i_place_1_a1 at hm
   refine WQ.norm (E2 := envZ [6, 7] [(.int .i64 v138), (.bool v161)]) (h2 := hp h n []) (n2 := n) ?_ (WQ.ret ?_)
   refine Norm.mkL (js := []) (m := 0) [6, 7] [(.int .i64 v138), (.bool v161)] (of_decide_eq_true rfl) ?_ (RnL.cons (.keep _ (.int _ _)) (RnL.cons (.keep _ (.bool _)) RnL.nil)) RowsR.nil rfl
   kernel_rfl
   refine ⟨[(.int .i64 v138), (.bool v161)], rfl, ret_hp hlt (lt_tupL (ltL_cons (.int _ _) (ltL_cons (.bool _) ltL_nil))) ?_⟩
   exact hkr2 hk (m := (v138, v161)) hm (int64R i139) rfl
  clear hK145
  rcases Bool.eq_false_or_eq_true (decide (v138 < (v0.length : Int))) with z167 | z167
  replace hm := ifT z167 hm
  obtain ⟨a168, q169, hm⟩ := obs hm
  obtain ⟨p170, p171, e172, p173, h174⟩ := at_ok q169 a13
  have gh174 := h174
  obtain ⟨rfl, i175, i176⟩ := h174
  obtain ⟨v178, q177, hm⟩ := obs hm
  refine WQ.region hT rfl ?_
  simp only [go_sem, ↓reduceIte, reduceCtorEq, Nat.reduceEqDiff, Nat.reduceLT, Nat.reduceLeDiff, Nat.reduceAdd, Nat.reduceMul, Int.reduceLE, rdSl_hp q12 (slH_lt h0), l14, c16, g17, p170, p171, p173, eqT z167]
  refine w_i_place_1 gh174 i1 q177 (fun y179 h180 => ?_)
  obtain ⟨rfl, i181⟩ := h180
  unfold sealK; simp only [go_sem, ↓reduceIte, reduceCtorEq, Nat.reduceEqDiff, Nat.reduceLT, Nat.reduceLeDiff, Nat.reduceAdd, Nat.reduceMul, Int.reduceLE, rdSl_hp q12 (slH_lt h0), l14, c16, g17, p170, p171, p173, eqT z167]
  refine j162 _ _ _ (decide (v178 = 0)) ?_ hm
  refine Norm.mkL (js := []) (m := 0) [6, 7] [(.int .i64 v138), (.bool (decide (v178 = 0)))] (of_decide_eq_true rfl) ?_ (RnL.cons (.keep _ (.int _ _)) (RnL.cons (.keep _ (.bool _)) RnL.nil)) RowsR.nil rfl
  kernel_rfl
  replace hm := ifF z167 hm
  refine WQ.region hT rfl ?_
  simp only [go_sem, ↓reduceIte, reduceCtorEq, Nat.reduceEqDiff, Nat.reduceLT, Nat.reduceLeDiff, Nat.reduceAdd, Nat.reduceMul, Int.reduceLE, rdSl_hp q12 (slH_lt h0), l14, c16, g17, eqF z167]
  refine j162 _ _ _ false ?_ hm
  refine Norm.mkL (js := []) (m := 0) [6, 7] [(.int .i64 v138), (.bool false)] (of_decide_eq_true rfl) ?_ (RnL.cons (.keep _ (.int _ _)) (RnL.cons (.keep _ (.bool _)) RnL.nil)) RowsR.nil rfl
  kernel_rfl
 clear hK21
 refine WQ.block ?_
 obtain ⟨q263, hq264, hm⟩ := obs hm
 refine WQ.norm ?_ (WQ.iter (step := (fun (s : Int × Int) => m_g_BinarySearchFunc_Cell_int64__i_place_1_a3 fu v0 v1 s.1 s.2)) (fun (s : Int × Int) E' h' n' => I64 s.1 ∧ I64 s.2 ∧ (envZ [0, 1, 2, 8, 9, 10] [x0, (.int .i64 v1), (.fn 136 []), (.int .i64 (v0.length : Int)), (.int .i64 s.1), (.int .i64 s.2)]) = E' ∧ (hp h n []) = h' ∧ n = n') hq264 ⟨(i64c (a := 0) rfl), (i64_len l14 b15), rfl, rfl, rfl⟩ ?_)
 refine Norm.mkL (js := []) (m := 0) [0, 1, 2, 8, 9, 10] [x0, (.int .i64 v1), (.fn 136 []), (.int .i64 (v0.length : Int)), (.int .i64 0), (.int .i64 (v0.length : Int))] (of_decide_eq_true rfl) ?_ (RnL.cons (.keep _ (slH_lt h0)) (RnL.cons (.keep _ (.int _ _)) (RnL.cons (.keep _ (lt_fn ltL_nil)) (RnL.cons (.keep _ (.int _ _)) (RnL.cons (.keep _ (.int _ _)) (RnL.cons (.keep _ (.int _ _)) RnL.nil)))))) RowsR.nil rfl
 kernel_rfl
 rintro ⟨v258, v260⟩ E' h' n' o262 ⟨i259, i261, rfl, rfl, rfl⟩ ho266 hf265
 replace i259 : I64 v258 := i259
 replace i261 : I64 v260 := i261
 replace ho266 : m_g_BinarySearchFunc_Cell_int64__i_place_1_a3 fu v0 v1 v258 v260 = some o262 := ho266
 unfold m_g_BinarySearchFunc_Cell_int64__i_place_1_a3 at ho266
 show WQ Try.prog _ n h _ _ (envZ [0, 1, 2, 8, 9, 10] [x0, (.int .i64 v1), (.fn 136 []), (.int .i64 (v0.length : Int)), (.int .i64 v258), (.int .i64 v260)]) (hp h n []) n
 refine WQ.seq_k fun K267 hK267 => ?_
 refine WQ.sr hT rfl fun K270 hK270 => ?_
 simp only [go_sem, ↓reduceIte, reduceCtorEq, Nat.reduceEqDiff, Nat.reduceLT, Nat.reduceLeDiff, Nat.reduceAdd, Nat.reduceMul, Int.reduceLE]
 refine kn hK270 ?_
 clear hK270 K270
 refine WQ.cond (t := decide (v258 < v260)) ?_ (fun z271 => ?_) (fun z271 => ?_)
 kernel_rfl
 replace ho266 := ifT z271 ho266
 refine WQ.skip ?_
 simp only [go_sem, ↓reduceIte, reduceCtorEq, Nat.reduceEqDiff, Nat.reduceLT, Nat.reduceLeDiff, Nat.reduceAdd, Nat.reduceMul, Int.reduceLE]
 refine kn hK267 ?_
 clear hK267 K267
 refine WQ.block ?_
 refine WQ.sr hT rfl fun K272 hK272 => ?_
 simp only [go_sem, ↓reduceIte, reduceCtorEq, Nat.reduceEqDiff, Nat.reduceLT, Nat.reduceLeDiff, Nat.reduceAdd, Nat.reduceMul, Int.reduceLE]
 refine kn hK272 ?_
 clear hK272 K272
 refine WQ.seq_k fun K273 hK273 => ?_
 obtain ⟨a288, q289, ho266⟩ := obs ho266
 obtain ⟨p290, p291, e292, p293, h294⟩ := at_ok q289 a13
 have gh294 := h294
 obtain ⟨rfl, i295, i296⟩ := h294
 obtain ⟨v298, q297, ho266⟩ := obs ho266
 refine WQ.region hT rfl ?_
 simp only [go_sem, ↓reduceIte, reduceCtorEq, Nat.reduceEqDiff, Nat.reduceLT, Nat.reduceLeDiff, Nat.reduceAdd, Nat.reduceMul, Int.reduceLE, rdSl_hp q12 (slH_lt h0), l14, c16, g17, p290, p291, p293]
 refine w_i_place_1 gh294 i1 q297 (fun y299 h300 => ?_)
 obtain ⟨rfl, i301⟩ := h300
 unfold sealK; simp only [go_sem, ↓reduceIte, reduceCtorEq, Nat.reduceEqDiff, Nat.reduceLT, Nat.reduceLeDiff, Nat.reduceAdd, Nat.reduceMul, Int.reduceLE, rdSl_hp q12 (slH_lt h0), l14, c16, g17, p290, p291, p293]
 refine kn hK273 ?_
 clear hK273 K273
 refine WQ.cond (t := decide (v298 < 0)) ?_ (fun z302 => ?_) (fun z302 => ?_)
 kernel_rfl
 replace ho266 := ifT z302 ho266
 refine WQ.region hT rfl ?_
 simp only [go_sem, ↓reduceIte, reduceCtorEq, Nat.reduceEqDiff, Nat.reduceLT, Nat.reduceLeDiff, Nat.reduceAdd, Nat.reduceMul, Int.reduceLE]
 refine ⟨_, _, _, _, (Option.some.inj ho266).symm, ?_, (rng_wrap64 _), i261, rfl, rfl, rfl⟩
 refine Norm.mkL (js := []) (m := 0) [0, 1, 2, 8, 9, 10] [x0, (.int .i64 v1), (.fn 136 []), (.int .i64 (v0.length : Int)), (.int .i64 (IntKind.i64.wrap ((IntKind.i64.wrap (Int.fdiv (IntKind.u64.wrap (IntKind.i64.wrap (v258 + v260))) 2)) + 1))), (.int .i64 v260)] (of_decide_eq_true rfl) ?_ (RnL.cons (.keep _ (slH_lt h0)) (RnL.cons (.keep _ (.int _ _)) (RnL.cons (.keep _ (lt_fn ltL_nil)) (RnL.cons (.keep _ (.int _ _)) (RnL.cons (.keep _ (.int _ _)) (RnL.cons (.keep _ (.int _ _)) RnL.nil)))))) RowsR.nil rfl
 kernel_rfl
 replace ho266 := ifF z302 ho266
 refine WQ.region hT rfl ?_
 simp only [go_sem, ↓reduceIte, reduceCtorEq, Nat.reduceEqDiff, Nat.reduceLT, Nat.reduceLeDiff, Nat.reduceAdd, Nat.reduceMul, Int.reduceLE]
 refine ⟨_, _, _, _, (Option.some.inj ho266).symm, ?_, i259, (rng_wrap64 _), rfl, rfl, rfl⟩
 refine Norm.mkL (js := []) (m := 0) [0, 1, 2, 8, 9, 10] [x0, (.int .i64 v1), (.fn 136 []), (.int .i64 (v0.length : Int)), (.int .i64 v258), (.int .i64 (IntKind.i64.wrap (Int.fdiv (IntKind.u64.wrap (IntKind.i64.wrap (v258 + v260))) 2)))] (of_decide_eq_true rfl) ?_ (RnL.cons (.keep _ (slH_lt h0)) (RnL.cons (.keep _ (.int _ _)) (RnL.cons (.keep _ (lt_fn ltL_nil)) (RnL.cons (.keep _ (.int _ _)) (RnL.cons (.keep _ (.int _ _)) (RnL.cons (.keep _ (.int _ _)) RnL.nil)))))) RowsR.nil rfl
 kernel_rfl
 replace ho266 := ifF z271 ho266
 refine WQ.exit ?_
 simp only [go_sem, ↓reduceIte, reduceCtorEq, Nat.reduceEqDiff, Nat.reduceLT, Nat.reduceLeDiff, Nat.reduceAdd, Nat.reduceMul, Int.reduceLE]
 have e303 := hf265 _ (Option.some.inj ho266).symm
 rw [← e303] at hm
 refine j140 _ _ _ v258 i259 ?_ hm
 refine Norm.mkL (js := []) (m := 0) [0, 1, 2, 8, 9] [x0, (.int .i64 v1), (.fn 136 []), (.int .i64 (v0.length : Int)), (.int .i64 v258)] (of_decide_eq_true rfl) ?_ (RnL.cons (.keep _ (slH_lt h0)) (RnL.cons (.keep _ (.int _ _)) (RnL.cons (.keep _ (lt_fn ltL_nil)) (RnL.cons (.keep _ (.int _ _)) (RnL.cons (.keep _ (.int _ _)) RnL.nil))))) RowsR.nil rfl
 kernel_rfl
def m_i_place (fu : Nat) (v0 : List CellD) (v1 : Int) : Option (Int × Bool) :=
  (Option.bind (m_g_BinarySearchFunc_Cell_int64__i_place_1 fu v0 v1) fun v28 => some (v28.1, v28.2))
set_option maxHeartbeats 2000000 in
theorem w_i_place {x0 : AV} {v0 : List CellD} (h0 : (SlH h n 2 CellR) x0 v0) {v1 : Int} (i1 : I64 v1) {fu : Nat} {r : Int × Bool} (hm : m_i_place fu v0 v1 = some r) (hk : ∀ y0, Int64R y0 r.1 → ∀ y1, BoolR y1 r.2 → K (.tup [y0, y1]) h n) : CA Try.prog 108 [x0, (.int .i64 v1)] h n K := by
 refine CA.enterQ (N := 11) (rs := [.tmp 4, .tmp 5]) hT Try.call108 Try.func108 rfl rfl (of_decide_eq_true rfl) rfl fun hlt => ?_
 unfold m_i_place at hm
 obtain ⟨es11, q12, a13, l14, b15, c16, g17⟩ := slH_open h0
 refine WQ.sr hT rfl fun K18 hK18 => ?_
 simp only [go_sem, ↓reduceIte, reduceCtorEq, Nat.reduceEqDiff, Nat.reduceLT, Nat.reduceLeDiff, Nat.reduceAdd, Nat.reduceMul, Int.reduceLE]
 refine kn hK18 ?_
 clear hK18 K18
 obtain ⟨v28, q27, hm⟩ := obs hm
 refine WQ.sr hT rfl fun K19 hK19 => ?_
 simp only [go_sem, ↓reduceIte, reduceCtorEq, Nat.reduceEqDiff, Nat.reduceLT, Nat.reduceLeDiff, Nat.reduceAdd, Nat.reduceMul, Int.reduceLE, rdSl_hp q12 (slH_lt h0), l14, c16, g17]
 refine w_g_BinarySearchFunc_Cell_int64__i_place_1 (SlH.up h0 0) i1 q27 (fun y29 h30 y32 h33 => ?_)
 obtain ⟨rfl, i31⟩ := h30
 obtain rfl := h33
 unfold sealK; simp only [go_sem, ↓reduceIte, reduceCtorEq, Nat.reduceEqDiff, Nat.reduceLT, Nat.reduceLeDiff, Nat.reduceAdd, Nat.reduceMul, Int.reduceLE, rdSl_hp q12 (slH_lt h0), l14, c16, g17]
 refine kn hK19 ?_
 clear hK19 K19
 refine WQ.norm (E2 := envZ [4, 5] [(.int .i64 v28.1), (.bool v28.2)]) (h2 := hp h n []) (n2 := n) ?_ (WQ.ret ?_)
 refine Norm.mkL (js := []) (m := 0) [4, 5] [(.int .i64 v28.1), (.bool v28.2)] (of_decide_eq_true rfl) ?_ (RnL.cons (.keep _ (.int _ _)) (RnL.cons (.keep _ (.bool _)) RnL.nil)) RowsR.nil rfl
 kernel_rfl
 refine ⟨[(.int .i64 v28.1), (.bool v28.2)], rfl, ret_hp hlt (lt_tupL (ltL_cons (.int _ _) (ltL_cons (.bool _) ltL_nil))) ?_⟩
 exact hkr2 hk (m := (v28.1, v28.2)) hm (int64R i31) rfl
def m_i_valueIn (fu : Nat) (v0 : List CellD) (v1 : Int) : Option IntResultD :=
  (Option.bind (m_i_place fu v0 v1) fun v28 => (if (!v28.2) = true then some (IntResultD.mk 4 0) else (Option.bind (atL v0 v28.1) fun a51 => some (IntResultD.mk 0 a51.value))))
set_option maxHeartbeats 2000000 in
theorem w_i_valueIn {x0 : AV} {v0 : List CellD} (h0 : (SlH h n 2 CellR) x0 v0) {v1 : Int} (i1 : I64 v1) {fu : Nat} {r : IntResultD} (hm : m_i_valueIn fu v0 v1 = some r) (hk : ∀ y, IntResultR y r → K y h n) : CA Try.prog 104 [x0, (.int .i64 v1)] h n K := by
 refine CA.enterQ (N := 22) (rs := [.cell 4 118]) hT Try.call104 Try.func104 rfl rfl (of_decide_eq_true rfl) rfl fun hlt => ?_
 unfold m_i_valueIn at hm
 obtain ⟨es11, q12, a13, l14, b15, c16, g17⟩ := slH_open h0
 refine WQ.sr hT rfl fun K18 hK18 => ?_
 simp only [go_sem, ↓reduceIte, reduceCtorEq, Nat.reduceEqDiff, Nat.reduceLT, Nat.reduceLeDiff, Nat.reduceAdd, Nat.reduceMul, Int.reduceLE]
 refine kn hK18 ?_
 clear hK18 K18
 obtain ⟨v28, q27, hm⟩ := obs hm
 refine WQ.sr hT rfl fun K19 hK19 => ?_
 simp only [go_sem, ↓reduceIte, reduceCtorEq, Nat.reduceEqDiff, Nat.reduceLT, Nat.reduceLeDiff, Nat.reduceAdd, Nat.reduceMul, Int.reduceLE, rdSl_hp q12 (slH_lt h0), l14, c16, g17]
 refine w_i_place (SlH.up h0 1) i1 q27 (fun y29 h30 y32 h33 => ?_)
 obtain ⟨rfl, i31⟩ := h30
 obtain rfl := h33
 unfold sealK; simp only [go_sem, ↓reduceIte, reduceCtorEq, Nat.reduceEqDiff, Nat.reduceLT, Nat.reduceLeDiff, Nat.reduceAdd, Nat.reduceMul, Int.reduceLE, rdSl_hp q12 (slH_lt h0), l14, c16, g17]
 refine kn hK19 ?_
 clear hK19 K19
 refine WQ.seq_k fun K34 hK34 => ?_
 refine WQ.sr hT rfl fun K38 hK38 => ?_
 simp only [go_sem, ↓reduceIte, reduceCtorEq, Nat.reduceEqDiff, Nat.reduceLT, Nat.reduceLeDiff, Nat.reduceAdd, Nat.reduceMul, Int.reduceLE]
 refine kn hK38 ?_
 clear hK38 K38
 refine WQ.cond (t := !v28.2) ?_ (fun z39 => ?_) (fun z39 => ?_)
 kernel_rfl
 replace hm := ifT z39 hm
 refine WQ.sr hT rfl fun K40 hK40 => ?_
 simp only [go_sem, ↓reduceIte, reduceCtorEq, Nat.reduceEqDiff, Nat.reduceLT, Nat.reduceLeDiff, Nat.reduceAdd, Nat.reduceMul, Int.reduceLE]
 refine kn hK40 ?_
 clear hK40 K40
 refine WQ.norm (E2 := envZ [4] [(.ep 2 (.sl 2 n 0 1 1 true) 0 0)]) (h2 := hp h n [some [(.agg [(.int .i64 4), (.int .i64 0)])]]) (n2 := n + 1) ?_ (WQ.ret ?_)
 refine Norm.mkL (js := [0]) (m := 1) [4] [(.ep 2 (.sl 2 n 0 1 1 true) 0 0)] (of_decide_eq_true rfl) ?_ (RnL.cons (Rn.ptr (js := [0]) 0 0) RnL.nil) (RowsR.row 0 _ _ _ _ hp_get0 (RnL.cons (.keep _ (intResult_lt _ _ _ (show IntResultR (.agg [(.int .i64 4), (.int .i64 0)]) (IntResultD.mk 4 0) from ⟨rfl, (i64c (a := 4) rfl), (i64c (a := 0) rfl)⟩))) RnL.nil) RowsR.nil) rfl
 kernel_rfl
 refine ⟨_, resA_cell rfl hp_get0 rfl rfl, ret_hp hlt (intResult_lt _ _ _ (show IntResultR (.agg [(.int .i64 4), (.int .i64 0)]) (IntResultD.mk 4 0) from ⟨rfl, (i64c (a := 4) rfl), (i64c (a := 0) rfl)⟩)) ?_⟩
 exact hkr hk (m := (IntResultD.mk 4 0)) hm (show IntResultR (.agg [(.int .i64 4), (.int .i64 0)]) (IntResultD.mk 4 0) from ⟨rfl, (i64c (a := 4) rfl), (i64c (a := 0) rfl)⟩)
 replace hm := ifF z39 hm
 refine WQ.skip ?_
 simp only [go_sem, ↓reduceIte, reduceCtorEq, Nat.reduceEqDiff, Nat.reduceLT, Nat.reduceLeDiff, Nat.reduceAdd, Nat.reduceMul, Int.reduceLE]
 refine kn hK34 ?_
 clear hK34 K34
 refine WQ.seq_k fun K41 hK41 => ?_
 obtain ⟨a51, q52, hm⟩ := obs hm
 obtain ⟨p53, p54, e55, p56, h57⟩ := at_ok q52 a13
 have gh57 := h57
 obtain ⟨rfl, i58, i59⟩ := h57
 refine WQ.region hT rfl ?_
 simp only [go_sem, ↓reduceIte, reduceCtorEq, Nat.reduceEqDiff, Nat.reduceLT, Nat.reduceLeDiff, Nat.reduceAdd, Nat.reduceMul, Int.reduceLE, rdSl_hp q12 (slH_lt h0), l14, c16, g17, p53, p54, p56]
 refine kn hK41 ?_
 clear hK41 K41
 refine WQ.norm (E2 := envZ [4] [(.ep 2 (.sl 2 n 0 1 1 true) 0 0)]) (h2 := hp h n [some [(.agg [(.int .i64 0), (.int .i64 a51.value)])]]) (n2 := n + 1) ?_ (WQ.ret ?_)
 refine Norm.mkL (js := [0]) (m := 1) [4] [(.ep 2 (.sl 2 n 0 1 1 true) 0 0)] (of_decide_eq_true rfl) ?_ (RnL.cons (Rn.ptr (js := [0]) 0 0) RnL.nil) (RowsR.row 0 _ _ _ _ hp_get0 (RnL.cons (.keep _ (intResult_lt _ _ _ (show IntResultR (.agg [(.int .i64 0), (.int .i64 a51.value)]) (IntResultD.mk 0 a51.value) from ⟨rfl, (i64c (a := 0) rfl), i59⟩))) RnL.nil) RowsR.nil) rfl
 kernel_rfl
 refine ⟨_, resA_cell rfl hp_get0 rfl rfl, ret_hp hlt (intResult_lt _ _ _ (show IntResultR (.agg [(.int .i64 0), (.int .i64 a51.value)]) (IntResultD.mk 0 a51.value) from ⟨rfl, (i64c (a := 0) rfl), i59⟩)) ?_⟩
 exact hkr hk (m := (IntResultD.mk 0 a51.value)) hm (show IntResultR (.agg [(.int .i64 0), (.int .i64 a51.value)]) (IntResultD.mk 0 a51.value) from ⟨rfl, (i64c (a := 0) rfl), i59⟩)
def m_i_heldBy_1_a1 (fu : Nat) (v39 : Bool) : Option Bool :=
  some v39
def m_i_heldBy_1 (fu : Nat) (v0 : RecD) (vc0 : RecD) (vc1 : List RecD) : Option Bool :=
  (if (decide (v0.kind = 2)) = true then (if (decide (v0.key = vc0.key)) = true then (if (decide (v0.txn ≠ vc0.txn)) = true then (Option.bind (m_i_kindsOf fu vc1 v0.txn ([3, 4])) fun v49 => (m_i_heldBy_1_a1 fu (!v49))) else (m_i_heldBy_1_a1 fu false)) else (m_i_heldBy_1_a1 fu false)) else (m_i_heldBy_1_a1 fu false))
set_option maxHeartbeats 2000000 in
theorem w_i_heldBy_1 {x0 : AV} {v0 : RecD} (h0 : RecR x0 v0) {xc0 : AV} {vc0 : RecD} (hc0 : RecR xc0 vc0) {idc0 : Nat} (hidc0 : idc0 < n) (hbc0 : h idc0 = some [xc0]) {xc1 : AV} {vc1 : List RecD} (hc1 : (SlH h n 8 RecR) xc1 vc1) {idc1 : Nat} (hidc1 : idc1 < n) (hbc1 : h idc1 = some [xc1]) {fu : Nat} {r : Bool} (hm : m_i_heldBy_1 fu v0 vc0 vc1 = some r) (hk : ∀ y, BoolR y r → K y h n) : CA Try.prog 133 [x0, (.ep 8 (.sl 8 idc0 0 1 1 true) 0 0), (.ep 1 (.sl 1 idc1 0 1 1 true) 0 0)] h n K := by
 refine CA.enterQ (N := 30) (rs := [.tmp 4]) hT Try.call133 Try.func133 rfl rfl (of_decide_eq_true rfl) rfl fun hlt => ?_
 unfold m_i_heldBy_1 at hm
 have gh0 := h0
 obtain ⟨rfl, i11, i12, i13, i14, i15, i16⟩ := h0
 have ghc0 := hc0
 obtain ⟨rfl, i17, i18, i19, i20, i21, i22⟩ := hc0
 obtain ⟨es23, q24, a25, l26, b27, c28, g29⟩ := slH_open hc1
 refine WQ.sr hT rfl fun K30 hK30 => ?_
 simp only [go_sem, ↓reduceIte, reduceCtorEq, Nat.reduceEqDiff, Nat.reduceLT, Nat.reduceLeDiff, Nat.reduceAdd, Nat.reduceMul, Int.reduceLE]
 refine kn hK30 ?_
 clear hK30 K30
 refine WQ.seq_k fun K31 hK31 => ?_
 have j40 : ∀ (E' : Env) (h' : Heap) (n' : Nat) (v39 : Bool), Norm n h E' h' n' (envZ [4] [(.bool v39)]) (hp h n []) n → (m_i_heldBy_1_a1 fu v39) = some r → K31 E' h' n' := by
  intro E42 H43 n44 v39 N41 hm
  refine hK31 _ _ _ _ _ _ N41 ?_
  clear N41 hK31 K31
  unfold m_i_heldBy_1_a1 at hm
  refine retN (t := 4) (js := []) (u := (.bool v39)) (v := (.bool v39)) hlt ?_ (.keep _ (.bool _)) (.bool _) rfl ?_
  kernel_rfl
  exact hkr hk (m := v39) hm rfl
 clear hK31
 rcases Bool.eq_false_or_eq_true (decide (v0.kind = 2)) with z45 | z45
 replace hm := ifT z45 hm
 rcases Bool.eq_false_or_eq_true (decide (v0.key = vc0.key)) with z46 | z46
 replace hm := ifT z46 hm
 rcases Bool.eq_false_or_eq_true (decide (v0.txn ≠ vc0.txn)) with z47 | z47
 replace hm := ifT z47 hm
 obtain ⟨v49, q48, hm⟩ := obs hm
 refine WQ.region hT rfl ?_
 simp only [go_sem, ↓reduceIte, reduceCtorEq, Nat.reduceEqDiff, Nat.reduceLT, Nat.reduceLeDiff, Nat.reduceAdd, Nat.reduceMul, Int.reduceLE, hp_low hidc0, hbc0, hp_low hidc1, hbc1, rdSl_hp q24 (slH_lt hc1), l26, c28, g29, eqT z45, eqT z46, eqT z47]
 refine w_i_kindsOf (SlH.up hc1 2) i12 (slH_own (j := 1) (m := 2) (hp_get 1) (show All2 Int64R [(.int .i64 3), (.int .i64 4)] [3, 4] from (.cons (int64R (i64c (a := 3) rfl)) (.cons (int64R (i64c (a := 4) rfl)) .nil))) (of_decide_eq_true rfl) rfl rfl) q48 (fun y50 h51 => ?_)
 obtain rfl := h51
 unfold sealK; simp only [go_sem, ↓reduceIte, reduceCtorEq, Nat.reduceEqDiff, Nat.reduceLT, Nat.reduceLeDiff, Nat.reduceAdd, Nat.reduceMul, Int.reduceLE, hp_low hidc0, hbc0, hp_low hidc1, hbc1, rdSl_hp q24 (slH_lt hc1), l26, c28, g29, eqT z45, eqT z46, eqT z47]
 refine j40 _ _ _ (!v49) ?_ hm
 refine Norm.mkL (js := []) (m := 0) [4] [(.bool (!v49))] (of_decide_eq_true rfl) ?_ (RnL.cons (.keep _ (.bool _)) RnL.nil) RowsR.nil rfl
 kernel_rfl
 replace hm := ifF z47 hm
 refine WQ.region hT rfl ?_
 simp only [go_sem, ↓reduceIte, reduceCtorEq, Nat.reduceEqDiff, Nat.reduceLT, Nat.reduceLeDiff, Nat.reduceAdd, Nat.reduceMul, Int.reduceLE, hp_low hidc0, hbc0, hp_low hidc1, hbc1, rdSl_hp q24 (slH_lt hc1), l26, c28, g29, eqT z45, eqT z46, eqF z47]
 refine j40 _ _ _ false ?_ hm
 refine Norm.mkL (js := []) (m := 0) [4] [(.bool false)] (of_decide_eq_true rfl) ?_ (RnL.cons (.keep _ (.bool _)) RnL.nil) RowsR.nil rfl
 kernel_rfl
 replace hm := ifF z46 hm
 refine WQ.region hT rfl ?_
 simp only [go_sem, ↓reduceIte, reduceCtorEq, Nat.reduceEqDiff, Nat.reduceLT, Nat.reduceLeDiff, Nat.reduceAdd, Nat.reduceMul, Int.reduceLE, hp_low hidc0, hbc0, hp_low hidc1, hbc1, rdSl_hp q24 (slH_lt hc1), l26, c28, g29, eqT z45, eqF z46]
 refine j40 _ _ _ false ?_ hm
 refine Norm.mkL (js := []) (m := 0) [4] [(.bool false)] (of_decide_eq_true rfl) ?_ (RnL.cons (.keep _ (.bool _)) RnL.nil) RowsR.nil rfl
 kernel_rfl
 replace hm := ifF z45 hm
 refine WQ.region hT rfl ?_
 simp only [go_sem, ↓reduceIte, reduceCtorEq, Nat.reduceEqDiff, Nat.reduceLT, Nat.reduceLeDiff, Nat.reduceAdd, Nat.reduceMul, Int.reduceLE, hp_low hidc0, hbc0, hp_low hidc1, hbc1, rdSl_hp q24 (slH_lt hc1), l26, c28, g29, eqF z45]
 refine j40 _ _ _ false ?_ hm
 refine Norm.mkL (js := []) (m := 0) [4] [(.bool false)] (of_decide_eq_true rfl) ?_ (RnL.cons (.keep _ (.bool _)) RnL.nil) RowsR.nil rfl
 kernel_rfl
def m_g_IndexFunc_Rec__i_heldBy_1_a1 (fu : Nat) : Option Int :=
  some (-1)
def m_g_IndexFunc_Rec__i_heldBy_1_a2 (fu : Nat) (v0 : List RecD) (vk10 : RecD) (vk11 : List RecD) (v452 : Int) : Option (Int ⊕ (Unit ⊕ Option Int)) :=
  (if (decide (v452 < (v0.length : Int))) = true then (Option.bind (atL v0 v452) fun a521 => (Option.bind (m_i_heldBy_1 fu a521 vk10 vk11) fun v535 => (if v535 = true then some (Sum.inr (Sum.inr (some v452))) else some (Sum.inl (IntKind.i64.wrap (v452 + 1)))))) else some (Sum.inr (Sum.inl ())))
def m_g_IndexFunc_Rec__i_heldBy_1 (fu : Nat) (v0 : List RecD) (vk10 : RecD) (vk11 : List RecD) : Option Int :=
  (Option.bind (iterN (fun (s : Int) => m_g_IndexFunc_Rec__i_heldBy_1_a2 fu v0 vk10 vk11 s) fu 0) fun q455 => Sum.elim (fun (b : Unit) => (m_g_IndexFunc_Rec__i_heldBy_1_a1 fu)) (fun x => x) q455)
set_option maxHeartbeats 2000000 in
theorem w_g_IndexFunc_Rec__i_heldBy_1 {x0 : AV} {v0 : List RecD} (h0 : (SlH h n 8 RecR) x0 v0) {xk10 : AV} {vk10 : RecD} (hk10 : RecR xk10 vk10) {idk10 : Nat} (hidk10 : idk10 < n) (hbk10 : h idk10 = some [xk10]) {xk11 : AV} {vk11 : List RecD} (hk11 : (SlH h n 8 RecR) xk11 vk11) {idk11 : Nat} (hidk11 : idk11 < n) (hbk11 : h idk11 = some [xk11]) {fu : Nat} {r : Int} (hm : m_g_IndexFunc_Rec__i_heldBy_1 fu v0 vk10 vk11 = some r) (hk : ∀ y, Int64R y r → K y h n) : CA Try.prog 131 [x0, (.fn 133 [(.ep 8 (.sl 8 idk10 0 1 1 true) 0 0), (.ep 1 (.sl 1 idk11 0 1 1 true) 0 0)])] h n K := by
 refine CA.enterQ (N := 19) (rs := [.tmp 4]) hT Try.call131 Try.func131 rfl rfl (of_decide_eq_true rfl) rfl fun hlt => ?_
 unfold m_g_IndexFunc_Rec__i_heldBy_1 at hm
 obtain ⟨es11, q12, a13, l14, b15, c16, g17⟩ := slH_open h0
 have ghk10 := hk10
 obtain ⟨rfl, i18, i19, i20, i21, i22, i23⟩ := hk10
 obtain ⟨es24, q25, a26, l27, b28, c29, g30⟩ := slH_open hk11
 refine WQ.sr hT rfl fun K31 hK31 => ?_
 simp only [go_sem, ↓reduceIte, reduceCtorEq, Nat.reduceEqDiff, Nat.reduceLT, Nat.reduceLeDiff, Nat.reduceAdd, Nat.reduceMul, Int.reduceLE]
 refine kn hK31 ?_
 clear hK31 K31
 refine WQ.seq_k fun K32 hK32 => ?_
 have j281 : ∀ (E' : Env) (h' : Heap) (n' : Nat), Norm n h E' h' n' (envZ [] []) (hp h n []) n → (m_g_IndexFunc_Rec__i_heldBy_1_a1 fu) = some r → K32 E' h' n' := by
  intro E283 H284 n285 N282 hm
  refine hK32 _ _ _ _ _ _ N282 ?_
  clear N282 hK32 K32
  unfold m_g_IndexFunc_Rec__i_heldBy_1_a1 at hm
  refine WQ.sr hT rfl fun K286 hK286 => ?_
  simp only [go_sem, ↓reduceIte, reduceCtorEq, Nat.reduceEqDiff, Nat.reduceLT, Nat.reduceLeDiff, Nat.reduceAdd, Nat.reduceMul, Int.reduceLE]
  refine kn hK286 ?_
  clear hK286 K286
  refine retN (t := 4) (js := []) (u := (.int .i64 (-1))) (v := (.int .i64 (-1))) hlt ?_ (.keep _ (.int _ _)) (.int _ _) rfl ?_
  kernel_rfl
  exact hkr hk (m := (-1)) hm (int64R (i64c (a := (-1)) rfl))
 clear hK32
 refine WQ.sr hT rfl fun K287 hK287 => ?_
 simp only [go_sem, ↓reduceIte, reduceCtorEq, Nat.reduceEqDiff, Nat.reduceLT, Nat.reduceLeDiff, Nat.reduceAdd, Nat.reduceMul, Int.reduceLE, rdSl_hp q12 (slH_lt h0), l14, c16, g17]
 refine kn hK287 ?_
 clear hK287 K287
 refine WQ.block ?_
 obtain ⟨q455, hq456, hm⟩ := obs hm
 refine WQ.norm ?_ (WQ.iter (step := (fun (s : Int) => m_g_IndexFunc_Rec__i_heldBy_1_a2 fu v0 vk10 vk11 s)) (fun (s : Int) E' h' n' => I64 s ∧ (envZ [0, 1, 7, 8] [x0, (.fn 133 [(.ep 8 (.sl 8 idk10 0 1 1 true) 0 0), (.ep 1 (.sl 1 idk11 0 1 1 true) 0 0)]), (.int .i64 (v0.length : Int)), (.int .i64 s)]) = E' ∧ (hp h n []) = h' ∧ n = n') hq456 ⟨(i64c (a := 0) rfl), rfl, rfl, rfl⟩ ?_)
 refine Norm.mkL (js := []) (m := 0) [0, 1, 7, 8] [x0, (.fn 133 [(.ep 8 (.sl 8 idk10 0 1 1 true) 0 0), (.ep 1 (.sl 1 idk11 0 1 1 true) 0 0)]), (.int .i64 (v0.length : Int)), (.int .i64 0)] (of_decide_eq_true rfl) ?_ (RnL.cons (.keep _ (slH_lt h0)) (RnL.cons (.keep _ (lt_fn (ltL_cons (.ep _ _ _ _ (.sl _ _ _ _ _ _ hidk10)) (ltL_cons (.ep _ _ _ _ (.sl _ _ _ _ _ _ hidk11)) ltL_nil)))) (RnL.cons (.keep _ (.int _ _)) (RnL.cons (.keep _ (.int _ _)) RnL.nil)))) RowsR.nil rfl
 kernel_rfl
 rintro v452 E' h' n' o454 ⟨i453, rfl, rfl, rfl⟩ ho458 hf457
 replace i453 : I64 v452 := i453
 replace ho458 : m_g_IndexFunc_Rec__i_heldBy_1_a2 fu v0 vk10 vk11 v452 = some o454 := ho458
 unfold m_g_IndexFunc_Rec__i_heldBy_1_a2 at ho458
 show WQ Try.prog _ n h _ _ (envZ [0, 1, 7, 8] [x0, (.fn 133 [(.ep 8 (.sl 8 idk10 0 1 1 true) 0 0), (.ep 1 (.sl 1 idk11 0 1 1 true) 0 0)]), (.int .i64 (v0.length : Int)), (.int .i64 v452)]) (hp h n []) n
 refine WQ.sr hT rfl fun K459 hK459 => ?_
 simp only [go_sem, ↓reduceIte, reduceCtorEq, Nat.reduceEqDiff, Nat.reduceLT, Nat.reduceLeDiff, Nat.reduceAdd, Nat.reduceMul, Int.reduceLE]
 refine kn hK459 ?_
 clear hK459 K459
 refine WQ.seq_k fun K460 hK460 => ?_
 refine WQ.cond (t := decide (v452 < (v0.length : Int))) ?_ (fun z462 => ?_) (fun z462 => ?_)
 kernel_rfl
 replace ho458 := ifT z462 ho458
 refine WQ.skip ?_
 simp only [go_sem, ↓reduceIte, reduceCtorEq, Nat.reduceEqDiff, Nat.reduceLT, Nat.reduceLeDiff, Nat.reduceAdd, Nat.reduceMul, Int.reduceLE]
 refine kn hK460 ?_
 clear hK460 K460
 refine WQ.seq_k fun K463 hK463 => ?_
 refine WQ.block ?_
 refine WQ.sr hT rfl fun K502 hK502 => ?_
 simp only [go_sem, ↓reduceIte, reduceCtorEq, Nat.reduceEqDiff, Nat.reduceLT, Nat.reduceLeDiff, Nat.reduceAdd, Nat.reduceMul, Int.reduceLE]
 refine kn hK502 ?_
 clear hK502 K502
 refine WQ.seq_k fun K503 hK503 => ?_
 obtain ⟨a521, q522, ho458⟩ := obs ho458
 obtain ⟨p523, p524, e525, p526, h527⟩ := at_ok q522 a13
 have gh527 := h527
 obtain ⟨rfl, i528, i529, i530, i531, i532, i533⟩ := h527
 obtain ⟨v535, q534, ho458⟩ := obs ho458
 refine WQ.region hT rfl ?_
 simp only [go_sem, ↓reduceIte, reduceCtorEq, Nat.reduceEqDiff, Nat.reduceLT, Nat.reduceLeDiff, Nat.reduceAdd, Nat.reduceMul, Int.reduceLE, rdSl_hp q12 (slH_lt h0), l14, c16, g17, hp_low hidk10, hbk10, hp_low hidk11, hbk11, rdSl_hp q25 (slH_lt hk11), l27, c29, g30, p523, p524, p526]
 refine w_i_heldBy_1 gh527 ghk10 hidk10 ((hp_low hidk10).trans hbk10) (SlH.up hk11 0) hidk11 ((hp_low hidk11).trans hbk11) q534 (fun y536 h537 => ?_)
 obtain rfl := h537
 unfold sealK; simp only [go_sem, ↓reduceIte, reduceCtorEq, Nat.reduceEqDiff, Nat.reduceLT, Nat.reduceLeDiff, Nat.reduceAdd, Nat.reduceMul, Int.reduceLE, rdSl_hp q12 (slH_lt h0), l14, c16, g17, hp_low hidk10, hbk10, hp_low hidk11, hbk11, rdSl_hp q25 (slH_lt hk11), l27, c29, g30, p523, p524, p526]
 refine kn hK503 ?_
 clear hK503 K503
 refine WQ.cond (t := v535) ?_ (fun z538 => ?_) (fun z538 => ?_)
 kernel_rfl
 replace ho458 := ifT z538 ho458
 refine WQ.sr hT rfl fun K539 hK539 => ?_
 simp only [go_sem, ↓reduceIte, reduceCtorEq, Nat.reduceEqDiff, Nat.reduceLT, Nat.reduceLeDiff, Nat.reduceAdd, Nat.reduceMul, Int.reduceLE]
 refine kn hK539 ?_
 clear hK539 K539
 have e540 := hf457 _ (Option.some.inj ho458).symm
 rw [← e540] at hm
 refine retN (t := 4) (js := []) (u := (.int .i64 v452)) (v := (.int .i64 v452)) hlt ?_ (.keep _ (.int _ _)) (.int _ _) rfl ?_
 kernel_rfl
 exact hkr hk (m := v452) hm (int64R i453)
 replace ho458 := ifF z538 ho458
 refine WQ.skip ?_
 simp only [go_sem, ↓reduceIte, reduceCtorEq, Nat.reduceEqDiff, Nat.reduceLT, Nat.reduceLeDiff, Nat.reduceAdd, Nat.reduceMul, Int.reduceLE]
 refine kn hK463 ?_
 clear hK463 K463
 refine WQ.region hT rfl ?_
 simp only [go_sem, ↓reduceIte, reduceCtorEq, Nat.reduceEqDiff, Nat.reduceLT, Nat.reduceLeDiff, Nat.reduceAdd, Nat.reduceMul, Int.reduceLE]
 refine ⟨_, _, _, _, (Option.some.inj ho458).symm, ?_, (rng_wrap64 _), rfl, rfl, rfl⟩
 refine Norm.mkL (js := []) (m := 0) [0, 1, 7, 8] [x0, (.fn 133 [(.ep 8 (.sl 8 idk10 0 1 1 true) 0 0), (.ep 1 (.sl 1 idk11 0 1 1 true) 0 0)]), (.int .i64 (v0.length : Int)), (.int .i64 (IntKind.i64.wrap (v452 + 1)))] (of_decide_eq_true rfl) ?_ (RnL.cons (.keep _ (slH_lt h0)) (RnL.cons (.keep _ (lt_fn (ltL_cons (.ep _ _ _ _ (.sl _ _ _ _ _ _ hidk10)) (ltL_cons (.ep _ _ _ _ (.sl _ _ _ _ _ _ hidk11)) ltL_nil)))) (RnL.cons (.keep _ (.int _ _)) (RnL.cons (.keep _ (.int _ _)) RnL.nil)))) RowsR.nil rfl
 kernel_rfl
 replace ho458 := ifF z462 ho458
 refine WQ.exit ?_
 simp only [go_sem, ↓reduceIte, reduceCtorEq, Nat.reduceEqDiff, Nat.reduceLT, Nat.reduceLeDiff, Nat.reduceAdd, Nat.reduceMul, Int.reduceLE]
 have e541 := hf457 _ (Option.some.inj ho458).symm
 rw [← e541] at hm
 refine j281 _ _ _  ?_ hm
 refine Norm.mkL (js := []) (m := 0) [] [] (of_decide_eq_true rfl) ?_ RnL.nil RowsR.nil rfl
 kernel_rfl
def m_g_ContainsFunc_Rec__i_heldBy_1 (fu : Nat) (v0 : List RecD) (vk10 : RecD) (vk11 : List RecD) : Option Bool :=
  (Option.bind (m_g_IndexFunc_Rec__i_heldBy_1 fu v0 vk10 vk11) fun v39 => some (decide (0 ≤ v39)))
set_option maxHeartbeats 2000000 in
theorem w_g_ContainsFunc_Rec__i_heldBy_1 {x0 : AV} {v0 : List RecD} (h0 : (SlH h n 8 RecR) x0 v0) {xk10 : AV} {vk10 : RecD} (hk10 : RecR xk10 vk10) {idk10 : Nat} (hidk10 : idk10 < n) (hbk10 : h idk10 = some [xk10]) {xk11 : AV} {vk11 : List RecD} (hk11 : (SlH h n 8 RecR) xk11 vk11) {idk11 : Nat} (hidk11 : idk11 < n) (hbk11 : h idk11 = some [xk11]) {fu : Nat} {r : Bool} (hm : m_g_ContainsFunc_Rec__i_heldBy_1 fu v0 vk10 vk11 = some r) (hk : ∀ y, BoolR y r → K y h n) : CA Try.prog 101 [x0, (.fn 133 [(.ep 8 (.sl 8 idk10 0 1 1 true) 0 0), (.ep 1 (.sl 1 idk11 0 1 1 true) 0 0)])] h n K := by
 refine CA.enterQ (N := 9) (rs := [.tmp 4]) hT Try.call101 Try.func101 rfl rfl (of_decide_eq_true rfl) rfl fun hlt => ?_
 unfold m_g_ContainsFunc_Rec__i_heldBy_1 at hm
 obtain ⟨es11, q12, a13, l14, b15, c16, g17⟩ := slH_open h0
 have ghk10 := hk10
 obtain ⟨rfl, i18, i19, i20, i21, i22, i23⟩ := hk10
 obtain ⟨es24, q25, a26, l27, b28, c29, g30⟩ := slH_open hk11
 refine WQ.sr hT rfl fun K31 hK31 => ?_
 simp only [go_sem, ↓reduceIte, reduceCtorEq, Nat.reduceEqDiff, Nat.reduceLT, Nat.reduceLeDiff, Nat.reduceAdd, Nat.reduceMul, Int.reduceLE]
 refine kn hK31 ?_
 clear hK31 K31
 obtain ⟨v39, q38, hm⟩ := obs hm
 refine WQ.sr hT rfl fun K32 hK32 => ?_
 simp only [go_sem, ↓reduceIte, reduceCtorEq, Nat.reduceEqDiff, Nat.reduceLT, Nat.reduceLeDiff, Nat.reduceAdd, Nat.reduceMul, Int.reduceLE, rdSl_hp q12 (slH_lt h0), l14, c16, g17, hp_low hidk10, hbk10, hp_low hidk11, hbk11, rdSl_hp q25 (slH_lt hk11), l27, c29, g30]
 refine w_g_IndexFunc_Rec__i_heldBy_1 (SlH.up h0 0) ghk10 hidk10 ((hp_low hidk10).trans hbk10) (SlH.up hk11 0) hidk11 ((hp_low hidk11).trans hbk11) q38 (fun y40 h41 => ?_)
 obtain ⟨rfl, i42⟩ := h41
 unfold sealK; simp only [go_sem, ↓reduceIte, reduceCtorEq, Nat.reduceEqDiff, Nat.reduceLT, Nat.reduceLeDiff, Nat.reduceAdd, Nat.reduceMul, Int.reduceLE, rdSl_hp q12 (slH_lt h0), l14, c16, g17, hp_low hidk10, hbk10, hp_low hidk11, hbk11, rdSl_hp q25 (slH_lt hk11), l27, c29, g30]
 refine kn hK32 ?_
 clear hK32 K32
 refine retN (t := 4) (js := []) (u := (.bool (decide (0 ≤ v39)))) (v := (.bool (decide (0 ≤ v39)))) hlt ?_ (.keep _ (.bool _)) (.bool _) rfl ?_
 kernel_rfl
 exact hkr hk (m := (decide (0 ≤ v39))) hm rfl
def m_i_heldBy (fu : Nat) (v0 : List RecD) (v1 : RecD) : Option Bool :=
  (Option.bind (m_g_ContainsFunc_Rec__i_heldBy_1 fu v0 v1 v0) fun v31 => some v31)
set_option maxHeartbeats 2000000 in
theorem w_i_heldBy {x0 : AV} {v0 : List RecD} (h0 : (SlH h n 8 RecR) x0 v0) {x1 : AV} {v1 : RecD} (h1 : RecR x1 v1) {fu : Nat} {r : Bool} (hm : m_i_heldBy fu v0 v1 = some r) (hk : ∀ y, BoolR y r → K y h n) : CA Try.prog 105 [x0, x1] h n K := by
 refine CA.enterQ (N := 8) (rs := [.tmp 4]) hT Try.call105 Try.func105 rfl rfl (of_decide_eq_true rfl) rfl fun hlt => ?_
 unfold m_i_heldBy at hm
 obtain ⟨es11, q12, a13, l14, b15, c16, g17⟩ := slH_open h0
 have gh1 := h1
 obtain ⟨rfl, i18, i19, i20, i21, i22, i23⟩ := h1
 refine WQ.sr hT rfl fun K24 hK24 => ?_
 simp only [go_sem, ↓reduceIte, reduceCtorEq, Nat.reduceEqDiff, Nat.reduceLT, Nat.reduceLeDiff, Nat.reduceAdd, Nat.reduceMul, Int.reduceLE, rdSl_hp q12 (slH_lt h0), l14, c16, g17]
 refine kn hK24 ?_
 clear hK24 K24
 obtain ⟨v31, q30, hm⟩ := obs hm
 refine WQ.sr hT rfl fun K25 hK25 => ?_
 simp only [go_sem, ↓reduceIte, reduceCtorEq, Nat.reduceEqDiff, Nat.reduceLT, Nat.reduceLeDiff, Nat.reduceAdd, Nat.reduceMul, Int.reduceLE, rdSl_hp q12 (slH_lt h0), l14, c16, g17]
 refine w_g_ContainsFunc_Rec__i_heldBy_1 (SlH.up h0 2) gh1 (lt_row (j := 1) (m := 2) rfl) (hp_get 1) (SlH.up h0 2) (lt_row (j := 0) (m := 2) rfl) hp_get0 q30 (fun y32 h33 => ?_)
 obtain rfl := h33
 unfold sealK; simp only [go_sem, ↓reduceIte, reduceCtorEq, Nat.reduceEqDiff, Nat.reduceLT, Nat.reduceLeDiff, Nat.reduceAdd, Nat.reduceMul, Int.reduceLE, rdSl_hp q12 (slH_lt h0), l14, c16, g17]
 refine kn hK25 ?_
 clear hK25 K25
 refine retN (t := 4) (js := []) (u := (.bool v31)) (v := (.bool v31)) hlt ?_ (.keep _ (.bool _)) (.bool _) rfl ?_
 kernel_rfl
 exact hkr hk (m := v31) hm rfl
def m_i_chain_1_a1 (fu : Nat) (v21 : Bool) : Option Bool :=
  some v21
def m_i_chain_1 (fu : Nat) (v0 : RecD) (vc0 : Int) (vc1 : Int) : Option Bool :=
  (if (decide (v0.kind = 5)) = true then (if (decide (v0.txn = vc0)) = true then (m_i_chain_1_a1 fu (decide (v0.back = vc1))) else (m_i_chain_1_a1 fu false)) else (m_i_chain_1_a1 fu false))
set_option maxHeartbeats 2000000 in
theorem w_i_chain_1 {x0 : AV} {v0 : RecD} (h0 : RecR x0 v0) {vc0 : Int} (ic0 : I64 vc0) {idc0 : Nat} (hidc0 : idc0 < n) (hbc0 : h idc0 = some [(.int .i64 vc0)]) {vc1 : Int} (ic1 : I64 vc1) {idc1 : Nat} (hidc1 : idc1 < n) (hbc1 : h idc1 = some [(.int .i64 vc1)]) {fu : Nat} {r : Bool} (hm : m_i_chain_1 fu v0 vc0 vc1 = some r) (hk : ∀ y, BoolR y r → K y h n) : CA Try.prog 134 [x0, (.ep 1 (.sl 1 idc0 0 1 1 true) 0 0), (.ep 1 (.sl 1 idc1 0 1 1 true) 0 0)] h n K := by
 refine CA.enterQ (N := 20) (rs := [.tmp 4]) hT Try.call134 Try.func134 rfl rfl (of_decide_eq_true rfl) rfl fun hlt => ?_
 unfold m_i_chain_1 at hm
 have gh0 := h0
 obtain ⟨rfl, i11, i12, i13, i14, i15, i16⟩ := h0
 refine WQ.sr hT rfl fun K17 hK17 => ?_
 simp only [go_sem, ↓reduceIte, reduceCtorEq, Nat.reduceEqDiff, Nat.reduceLT, Nat.reduceLeDiff, Nat.reduceAdd, Nat.reduceMul, Int.reduceLE]
 refine kn hK17 ?_
 clear hK17 K17
 refine WQ.seq_k fun K18 hK18 => ?_
 have j22 : ∀ (E' : Env) (h' : Heap) (n' : Nat) (v21 : Bool), Norm n h E' h' n' (envZ [4] [(.bool v21)]) (hp h n []) n → (m_i_chain_1_a1 fu v21) = some r → K18 E' h' n' := by
  intro E24 H25 n26 v21 N23 hm
  refine hK18 _ _ _ _ _ _ N23 ?_
  clear N23 hK18 K18
  unfold m_i_chain_1_a1 at hm
  refine retN (t := 4) (js := []) (u := (.bool v21)) (v := (.bool v21)) hlt ?_ (.keep _ (.bool _)) (.bool _) rfl ?_
  kernel_rfl
  exact hkr hk (m := v21) hm rfl
 clear hK18
 rcases Bool.eq_false_or_eq_true (decide (v0.kind = 5)) with z27 | z27
 replace hm := ifT z27 hm
 rcases Bool.eq_false_or_eq_true (decide (v0.txn = vc0)) with z28 | z28
 replace hm := ifT z28 hm
 refine WQ.region hT rfl ?_
 simp only [go_sem, ↓reduceIte, reduceCtorEq, Nat.reduceEqDiff, Nat.reduceLT, Nat.reduceLeDiff, Nat.reduceAdd, Nat.reduceMul, Int.reduceLE, hp_low hidc0, hbc0, hp_low hidc1, hbc1, eqT z27, eqT z28]
 refine j22 _ _ _ (decide (v0.back = vc1)) ?_ hm
 refine Norm.mkL (js := []) (m := 0) [4] [(.bool (decide (v0.back = vc1)))] (of_decide_eq_true rfl) ?_ (RnL.cons (.keep _ (.bool _)) RnL.nil) RowsR.nil rfl
 kernel_rfl
 replace hm := ifF z28 hm
 refine WQ.region hT rfl ?_
 simp only [go_sem, ↓reduceIte, reduceCtorEq, Nat.reduceEqDiff, Nat.reduceLT, Nat.reduceLeDiff, Nat.reduceAdd, Nat.reduceMul, Int.reduceLE, hp_low hidc0, hbc0, hp_low hidc1, hbc1, eqT z27, eqF z28]
 refine j22 _ _ _ false ?_ hm
 refine Norm.mkL (js := []) (m := 0) [4] [(.bool false)] (of_decide_eq_true rfl) ?_ (RnL.cons (.keep _ (.bool _)) RnL.nil) RowsR.nil rfl
 kernel_rfl
 replace hm := ifF z27 hm
 refine WQ.region hT rfl ?_
 simp only [go_sem, ↓reduceIte, reduceCtorEq, Nat.reduceEqDiff, Nat.reduceLT, Nat.reduceLeDiff, Nat.reduceAdd, Nat.reduceMul, Int.reduceLE, hp_low hidc0, hbc0, hp_low hidc1, hbc1, eqF z27]
 refine j22 _ _ _ false ?_ hm
 refine Norm.mkL (js := []) (m := 0) [4] [(.bool false)] (of_decide_eq_true rfl) ?_ (RnL.cons (.keep _ (.bool _)) RnL.nil) RowsR.nil rfl
 kernel_rfl
def m_g_IndexFunc_Rec__i_chain_1_a1 (fu : Nat) : Option Int :=
  some (-1)
def m_g_IndexFunc_Rec__i_chain_1_a2 (fu : Nat) (v0 : List RecD) (vk10 : Int) (vk11 : Int) (v439 : Int) : Option (Int ⊕ (Unit ⊕ Option Int)) :=
  (if (decide (v439 < (v0.length : Int))) = true then (Option.bind (atL v0 v439) fun a508 => (Option.bind (m_i_chain_1 fu a508 vk10 vk11) fun v522 => (if v522 = true then some (Sum.inr (Sum.inr (some v439))) else some (Sum.inl (IntKind.i64.wrap (v439 + 1)))))) else some (Sum.inr (Sum.inl ())))
def m_g_IndexFunc_Rec__i_chain_1 (fu : Nat) (v0 : List RecD) (vk10 : Int) (vk11 : Int) : Option Int :=
  (Option.bind (iterN (fun (s : Int) => m_g_IndexFunc_Rec__i_chain_1_a2 fu v0 vk10 vk11 s) fu 0) fun q442 => Sum.elim (fun (b : Unit) => (m_g_IndexFunc_Rec__i_chain_1_a1 fu)) (fun x => x) q442)
set_option maxHeartbeats 2000000 in
theorem w_g_IndexFunc_Rec__i_chain_1 {x0 : AV} {v0 : List RecD} (h0 : (SlH h n 8 RecR) x0 v0) {vk10 : Int} (ik10 : I64 vk10) {idk10 : Nat} (hidk10 : idk10 < n) (hbk10 : h idk10 = some [(.int .i64 vk10)]) {vk11 : Int} (ik11 : I64 vk11) {idk11 : Nat} (hidk11 : idk11 < n) (hbk11 : h idk11 = some [(.int .i64 vk11)]) {fu : Nat} {r : Int} (hm : m_g_IndexFunc_Rec__i_chain_1 fu v0 vk10 vk11 = some r) (hk : ∀ y, Int64R y r → K y h n) : CA Try.prog 131 [x0, (.fn 134 [(.ep 1 (.sl 1 idk10 0 1 1 true) 0 0), (.ep 1 (.sl 1 idk11 0 1 1 true) 0 0)])] h n K := by
 refine CA.enterQ (N := 19) (rs := [.tmp 4]) hT Try.call131 Try.func131 rfl rfl (of_decide_eq_true rfl) rfl fun hlt => ?_
 unfold m_g_IndexFunc_Rec__i_chain_1 at hm
 obtain ⟨es11, q12, a13, l14, b15, c16, g17⟩ := slH_open h0
 refine WQ.sr hT rfl fun K18 hK18 => ?_
 simp only [go_sem, ↓reduceIte, reduceCtorEq, Nat.reduceEqDiff, Nat.reduceLT, Nat.reduceLeDiff, Nat.reduceAdd, Nat.reduceMul, Int.reduceLE]
 refine kn hK18 ?_
 clear hK18 K18
 refine WQ.seq_k fun K19 hK19 => ?_
 have j268 : ∀ (E' : Env) (h' : Heap) (n' : Nat), Norm n h E' h' n' (envZ [] []) (hp h n []) n → (m_g_IndexFunc_Rec__i_chain_1_a1 fu) = some r → K19 E' h' n' := by
  intro E270 H271 n272 N269 hm
  refine hK19 _ _ _ _ _ _ N269 ?_
  clear N269 hK19 K19
  unfold m_g_IndexFunc_Rec__i_chain_1_a1 at hm
  refine WQ.sr hT rfl fun K273 hK273 => ?_
  simp only [go_sem, ↓reduceIte, reduceCtorEq, Nat.reduceEqDiff, Nat.reduceLT, Nat.reduceLeDiff, Nat.reduceAdd, Nat.reduceMul, Int.reduceLE]
  refine kn hK273 ?_
  clear hK273 K273
  refine retN (t := 4) (js := []) (u := (.int .i64 (-1))) (v := (.int .i64 (-1))) hlt ?_ (.keep _ (.int _ _)) (.int _ _) rfl ?_
  kernel_rfl
  exact hkr hk (m := (-1)) hm (int64R (i64c (a := (-1)) rfl))
 clear hK19
 refine WQ.sr hT rfl fun K274 hK274 => ?_
 simp only [go_sem, ↓reduceIte, reduceCtorEq, Nat.reduceEqDiff, Nat.reduceLT, Nat.reduceLeDiff, Nat.reduceAdd, Nat.reduceMul, Int.reduceLE, rdSl_hp q12 (slH_lt h0), l14, c16, g17]
 refine kn hK274 ?_
 clear hK274 K274
 refine WQ.block ?_
 obtain ⟨q442, hq443, hm⟩ := obs hm
 refine WQ.norm ?_ (WQ.iter (step := (fun (s : Int) => m_g_IndexFunc_Rec__i_chain_1_a2 fu v0 vk10 vk11 s)) (fun (s : Int) E' h' n' => I64 s ∧ (envZ [0, 1, 7, 8] [x0, (.fn 134 [(.ep 1 (.sl 1 idk10 0 1 1 true) 0 0), (.ep 1 (.sl 1 idk11 0 1 1 true) 0 0)]), (.int .i64 (v0.length : Int)), (.int .i64 s)]) = E' ∧ (hp h n []) = h' ∧ n = n') hq443 ⟨(i64c (a := 0) rfl), rfl, rfl, rfl⟩ ?_)
 refine Norm.mkL (js := []) (m := 0) [0, 1, 7, 8] [x0, (.fn 134 [(.ep 1 (.sl 1 idk10 0 1 1 true) 0 0), (.ep 1 (.sl 1 idk11 0 1 1 true) 0 0)]), (.int .i64 (v0.length : Int)), (.int .i64 0)] (of_decide_eq_true rfl) ?_ (RnL.cons (.keep _ (slH_lt h0)) (RnL.cons (.keep _ (lt_fn (ltL_cons (.ep _ _ _ _ (.sl _ _ _ _ _ _ hidk10)) (ltL_cons (.ep _ _ _ _ (.sl _ _ _ _ _ _ hidk11)) ltL_nil)))) (RnL.cons (.keep _ (.int _ _)) (RnL.cons (.keep _ (.int _ _)) RnL.nil)))) RowsR.nil rfl
 kernel_rfl
 rintro v439 E' h' n' o441 ⟨i440, rfl, rfl, rfl⟩ ho445 hf444
 replace i440 : I64 v439 := i440
 replace ho445 : m_g_IndexFunc_Rec__i_chain_1_a2 fu v0 vk10 vk11 v439 = some o441 := ho445
 unfold m_g_IndexFunc_Rec__i_chain_1_a2 at ho445
 show WQ Try.prog _ n h _ _ (envZ [0, 1, 7, 8] [x0, (.fn 134 [(.ep 1 (.sl 1 idk10 0 1 1 true) 0 0), (.ep 1 (.sl 1 idk11 0 1 1 true) 0 0)]), (.int .i64 (v0.length : Int)), (.int .i64 v439)]) (hp h n []) n
 refine WQ.sr hT rfl fun K446 hK446 => ?_
 simp only [go_sem, ↓reduceIte, reduceCtorEq, Nat.reduceEqDiff, Nat.reduceLT, Nat.reduceLeDiff, Nat.reduceAdd, Nat.reduceMul, Int.reduceLE]
 refine kn hK446 ?_
 clear hK446 K446
 refine WQ.seq_k fun K447 hK447 => ?_
 refine WQ.cond (t := decide (v439 < (v0.length : Int))) ?_ (fun z449 => ?_) (fun z449 => ?_)
 kernel_rfl
 replace ho445 := ifT z449 ho445
 refine WQ.skip ?_
 simp only [go_sem, ↓reduceIte, reduceCtorEq, Nat.reduceEqDiff, Nat.reduceLT, Nat.reduceLeDiff, Nat.reduceAdd, Nat.reduceMul, Int.reduceLE]
 refine kn hK447 ?_
 clear hK447 K447
 refine WQ.seq_k fun K450 hK450 => ?_
 refine WQ.block ?_
 refine WQ.sr hT rfl fun K489 hK489 => ?_
 simp only [go_sem, ↓reduceIte, reduceCtorEq, Nat.reduceEqDiff, Nat.reduceLT, Nat.reduceLeDiff, Nat.reduceAdd, Nat.reduceMul, Int.reduceLE]
 refine kn hK489 ?_
 clear hK489 K489
 refine WQ.seq_k fun K490 hK490 => ?_
 obtain ⟨a508, q509, ho445⟩ := obs ho445
 obtain ⟨p510, p511, e512, p513, h514⟩ := at_ok q509 a13
 have gh514 := h514
 obtain ⟨rfl, i515, i516, i517, i518, i519, i520⟩ := h514
 obtain ⟨v522, q521, ho445⟩ := obs ho445
 refine WQ.region hT rfl ?_
 simp only [go_sem, ↓reduceIte, reduceCtorEq, Nat.reduceEqDiff, Nat.reduceLT, Nat.reduceLeDiff, Nat.reduceAdd, Nat.reduceMul, Int.reduceLE, rdSl_hp q12 (slH_lt h0), l14, c16, g17, hp_low hidk10, hbk10, hp_low hidk11, hbk11, p510, p511, p513]
 refine w_i_chain_1 gh514 ik10 hidk10 ((hp_low hidk10).trans hbk10) ik11 hidk11 ((hp_low hidk11).trans hbk11) q521 (fun y523 h524 => ?_)
 obtain rfl := h524
 unfold sealK; simp only [go_sem, ↓reduceIte, reduceCtorEq, Nat.reduceEqDiff, Nat.reduceLT, Nat.reduceLeDiff, Nat.reduceAdd, Nat.reduceMul, Int.reduceLE, rdSl_hp q12 (slH_lt h0), l14, c16, g17, hp_low hidk10, hbk10, hp_low hidk11, hbk11, p510, p511, p513]
 refine kn hK490 ?_
 clear hK490 K490
 refine WQ.cond (t := v522) ?_ (fun z525 => ?_) (fun z525 => ?_)
 kernel_rfl
 replace ho445 := ifT z525 ho445
 refine WQ.sr hT rfl fun K526 hK526 => ?_
 simp only [go_sem, ↓reduceIte, reduceCtorEq, Nat.reduceEqDiff, Nat.reduceLT, Nat.reduceLeDiff, Nat.reduceAdd, Nat.reduceMul, Int.reduceLE]
 refine kn hK526 ?_
 clear hK526 K526
 have e527 := hf444 _ (Option.some.inj ho445).symm
 rw [← e527] at hm
 refine retN (t := 4) (js := []) (u := (.int .i64 v439)) (v := (.int .i64 v439)) hlt ?_ (.keep _ (.int _ _)) (.int _ _) rfl ?_
 kernel_rfl
 exact hkr hk (m := v439) hm (int64R i440)
 replace ho445 := ifF z525 ho445
 refine WQ.skip ?_
 simp only [go_sem, ↓reduceIte, reduceCtorEq, Nat.reduceEqDiff, Nat.reduceLT, Nat.reduceLeDiff, Nat.reduceAdd, Nat.reduceMul, Int.reduceLE]
 refine kn hK450 ?_
 clear hK450 K450
 refine WQ.region hT rfl ?_
 simp only [go_sem, ↓reduceIte, reduceCtorEq, Nat.reduceEqDiff, Nat.reduceLT, Nat.reduceLeDiff, Nat.reduceAdd, Nat.reduceMul, Int.reduceLE]
 refine ⟨_, _, _, _, (Option.some.inj ho445).symm, ?_, (rng_wrap64 _), rfl, rfl, rfl⟩
 refine Norm.mkL (js := []) (m := 0) [0, 1, 7, 8] [x0, (.fn 134 [(.ep 1 (.sl 1 idk10 0 1 1 true) 0 0), (.ep 1 (.sl 1 idk11 0 1 1 true) 0 0)]), (.int .i64 (v0.length : Int)), (.int .i64 (IntKind.i64.wrap (v439 + 1)))] (of_decide_eq_true rfl) ?_ (RnL.cons (.keep _ (slH_lt h0)) (RnL.cons (.keep _ (lt_fn (ltL_cons (.ep _ _ _ _ (.sl _ _ _ _ _ _ hidk10)) (ltL_cons (.ep _ _ _ _ (.sl _ _ _ _ _ _ hidk11)) ltL_nil)))) (RnL.cons (.keep _ (.int _ _)) (RnL.cons (.keep _ (.int _ _)) RnL.nil)))) RowsR.nil rfl
 kernel_rfl
 replace ho445 := ifF z449 ho445
 refine WQ.exit ?_
 simp only [go_sem, ↓reduceIte, reduceCtorEq, Nat.reduceEqDiff, Nat.reduceLT, Nat.reduceLeDiff, Nat.reduceAdd, Nat.reduceMul, Int.reduceLE]
 have e528 := hf444 _ (Option.some.inj ho445).symm
 rw [← e528] at hm
 refine j268 _ _ _  ?_ hm
 refine Norm.mkL (js := []) (m := 0) [] [] (of_decide_eq_true rfl) ?_ RnL.nil RowsR.nil rfl
 kernel_rfl
def m_g_ContainsFunc_Rec__i_chain_1 (fu : Nat) (v0 : List RecD) (vk10 : Int) (vk11 : Int) : Option Bool :=
  (Option.bind (m_g_IndexFunc_Rec__i_chain_1 fu v0 vk10 vk11) fun v26 => some (decide (0 ≤ v26)))
set_option maxHeartbeats 2000000 in
theorem w_g_ContainsFunc_Rec__i_chain_1 {x0 : AV} {v0 : List RecD} (h0 : (SlH h n 8 RecR) x0 v0) {vk10 : Int} (ik10 : I64 vk10) {idk10 : Nat} (hidk10 : idk10 < n) (hbk10 : h idk10 = some [(.int .i64 vk10)]) {vk11 : Int} (ik11 : I64 vk11) {idk11 : Nat} (hidk11 : idk11 < n) (hbk11 : h idk11 = some [(.int .i64 vk11)]) {fu : Nat} {r : Bool} (hm : m_g_ContainsFunc_Rec__i_chain_1 fu v0 vk10 vk11 = some r) (hk : ∀ y, BoolR y r → K y h n) : CA Try.prog 101 [x0, (.fn 134 [(.ep 1 (.sl 1 idk10 0 1 1 true) 0 0), (.ep 1 (.sl 1 idk11 0 1 1 true) 0 0)])] h n K := by
 refine CA.enterQ (N := 9) (rs := [.tmp 4]) hT Try.call101 Try.func101 rfl rfl (of_decide_eq_true rfl) rfl fun hlt => ?_
 unfold m_g_ContainsFunc_Rec__i_chain_1 at hm
 obtain ⟨es11, q12, a13, l14, b15, c16, g17⟩ := slH_open h0
 refine WQ.sr hT rfl fun K18 hK18 => ?_
 simp only [go_sem, ↓reduceIte, reduceCtorEq, Nat.reduceEqDiff, Nat.reduceLT, Nat.reduceLeDiff, Nat.reduceAdd, Nat.reduceMul, Int.reduceLE]
 refine kn hK18 ?_
 clear hK18 K18
 obtain ⟨v26, q25, hm⟩ := obs hm
 refine WQ.sr hT rfl fun K19 hK19 => ?_
 simp only [go_sem, ↓reduceIte, reduceCtorEq, Nat.reduceEqDiff, Nat.reduceLT, Nat.reduceLeDiff, Nat.reduceAdd, Nat.reduceMul, Int.reduceLE, rdSl_hp q12 (slH_lt h0), l14, c16, g17, hp_low hidk10, hbk10, hp_low hidk11, hbk11]
 refine w_g_IndexFunc_Rec__i_chain_1 (SlH.up h0 0) ik10 hidk10 ((hp_low hidk10).trans hbk10) ik11 hidk11 ((hp_low hidk11).trans hbk11) q25 (fun y27 h28 => ?_)
 obtain ⟨rfl, i29⟩ := h28
 unfold sealK; simp only [go_sem, ↓reduceIte, reduceCtorEq, Nat.reduceEqDiff, Nat.reduceLT, Nat.reduceLeDiff, Nat.reduceAdd, Nat.reduceMul, Int.reduceLE, rdSl_hp q12 (slH_lt h0), l14, c16, g17, hp_low hidk10, hbk10, hp_low hidk11, hbk11]
 refine kn hK19 ?_
 clear hK19 K19
 refine retN (t := 4) (js := []) (u := (.bool (decide (0 ≤ v26)))) (v := (.bool (decide (0 ≤ v26)))) hlt ?_ (.keep _ (.bool _)) (.bool _) rfl ?_
 kernel_rfl
 exact hkr hk (m := (decide (0 ≤ v26))) hm rfl
def m_i_chain_a1 (fu : Nat) (v512 : List Int) : Option (List Int) :=
  some v512
def m_i_chain_a2 (fu : Nat) (v850 : Int) (v936 : List Int) : Option (((List Int) × Int) ⊕ ((List Int) ⊕ Option (List Int))) :=
  some (Sum.inl (v936, IntKind.i64.wrap (v850 - 1)))
def m_i_chain_a3 (fu : Nat) (v847 : List Int) (v850 : Int) (v992 : Bool) : Option (((List Int) × Int) ⊕ ((List Int) ⊕ Option (List Int))) :=
  (if v992 = true then (Option.bind (snocL 8 v847 (IntKind.i64.wrap (v850 + 1))) fun v999 => (m_i_chain_a2 fu v850 v999)) else (m_i_chain_a2 fu v850 v847))
def m_i_chain_a4 (fu : Nat) (v0 : List RecD) (v1 : Int) (v847 : List Int) (v850 : Int) : Option (((List Int) × Int) ⊕ ((List Int) ⊕ Option (List Int))) :=
  (if (decide (0 ≤ v850)) = true then (Option.bind (sliceL v0 (IntKind.i64.wrap (v850 + 1)) (v0.length : Int)) fun v961 => (Option.bind (m_g_ContainsFunc_Rec__i_chain_1 fu v961 v1 (IntKind.i64.wrap (v850 + 1))) fun v973 => (Option.bind (atL v0 v850) fun a1001 => (if (decide (a1001.kind = 2)) = true then (if (decide (a1001.txn = v1)) = true then (m_i_chain_a3 fu v847 v850 (!v973)) else (m_i_chain_a3 fu v847 v850 false)) else (m_i_chain_a3 fu v847 v850 false))))) else some (Sum.inr (Sum.inl v847)))
def m_i_chain (fu : Nat) (v0 : List RecD) (v1 : Int) : Option (List Int) :=
  (Option.bind (iterN (fun (s : (List Int) × Int) => m_i_chain_a4 fu v0 v1 s.1 s.2) fu (([] : List Int), IntKind.i64.wrap ((v0.length : Int) - 1))) fun q853 => Sum.elim (fun (b : (List Int)) => (m_i_chain_a1 fu b)) (fun x => x) q853)
set_option maxHeartbeats 2000000 in
theorem w_i_chain {x0 : AV} {v0 : List RecD} (h0 : (SlH h n 8 RecR) x0 v0) {v1 : Int} (i1 : I64 v1) {fu : Nat} {r : (List Int)} (hm : m_i_chain fu v0 v1 = some r) (hk : ∀ y, (SlR 1 Int64R) y r → K y h n) : CA Try.prog 106 [x0, (.int .i64 v1)] h n K := by
 refine CA.enterQ (N := 49) (rs := [.tmp 4]) hT Try.call106 Try.func106 rfl rfl (of_decide_eq_true rfl) rfl fun hlt => ?_
 unfold m_i_chain at hm
 obtain ⟨es11, q12, a13, l14, b15, c16, g17⟩ := slH_open h0
 refine WQ.sr hT rfl fun K18 hK18 => ?_
 simp only [go_sem, ↓reduceIte, reduceCtorEq, Nat.reduceEqDiff, Nat.reduceLT, Nat.reduceLeDiff, Nat.reduceAdd, Nat.reduceMul, Int.reduceLE]
 refine kn hK18 ?_
 clear hK18 K18
 refine WQ.sr hT rfl fun K19 hK19 => ?_
 simp only [go_sem, ↓reduceIte, reduceCtorEq, Nat.reduceEqDiff, Nat.reduceLT, Nat.reduceLeDiff, Nat.reduceAdd, Nat.reduceMul, Int.reduceLE]
 refine kn hK19 ?_
 clear hK19 K19
 refine WQ.seq_k fun K20 hK20 => ?_
 have j515 : ∀ (E' : Env) (h' : Heap) (n' : Nat) (es511 : List AV) (v512 : List Int) (a513 : All2 Int64R es511 v512) (b514 : es511.length ≤ 140737488355328), Norm n h E' h' n' (envZ [5] [(.sl 1 n 0 v512.length v512.length false)]) (hp h n [some es511]) (n + 1) → (m_i_chain_a1 fu v512) = some r → K20 E' h' n' := by
  intro E517 H518 n519 es511 v512 a513 b514 N516 hm
  refine hK20 _ _ _ _ _ _ N516 ?_
  clear N516 hK20 K20
  unfold m_i_chain_a1 at hm
  refine WQ.sr hT rfl fun K520 hK520 => ?_
  simp only [go_sem, ↓reduceIte, reduceCtorEq, Nat.reduceEqDiff, Nat.reduceLT, Nat.reduceLeDiff, Nat.reduceAdd, Nat.reduceMul, Int.reduceLE, all2_length a513, own_take a513]
  refine kn hK520 ?_
  clear hK520 K520
  refine retN (t := 4) (js := []) (u := (.sl 1 n 0 v512.length v512.length false)) (v := (.ro 1 false es511)) hlt ?_ (Rn.frzA 0 rfl (of_decide_eq_true rfl) (RnL.all2 a513 int64_lt) (all2_length a513).symm) (slr_ltA _ _ _ (own_fro a513 b514 int64_lt)) rfl ?_
  kernel_rfl
  exact hkr hk (m := v512) hm (own_fro a513 b514 int64_lt)
 clear hK20
 refine WQ.sr hT rfl fun K521 hK521 => ?_
 simp only [go_sem, ↓reduceIte, reduceCtorEq, Nat.reduceEqDiff, Nat.reduceLT, Nat.reduceLeDiff, Nat.reduceAdd, Nat.reduceMul, Int.reduceLE, rdSl_hp q12 (slH_lt h0), l14, c16, g17]
 refine kn hK521 ?_
 clear hK521 K521
 refine WQ.block ?_
 obtain ⟨q853, hq854, hm⟩ := obs hm
 refine WQ.norm ?_ (WQ.iter (step := (fun (s : (List Int) × Int) => m_i_chain_a4 fu v0 v1 s.1 s.2)) (fun (s : (List Int) × Int) E' h' n' => ∃ (es846 : List AV), All2 Int64R es846 s.1 ∧ es846.length ≤ 140737488355328 ∧ I64 s.2 ∧ (envZ [0, 3, 5, 6] [x0, (.ep 1 (.sl 1 n 0 1 1 true) 0 0), (.sl 1 (n + 1) 0 s.1.length s.1.length false), (.int .i64 s.2)]) = E' ∧ (hp h n [some [(.int .i64 v1)], some es846]) = h' ∧ (n + 2) = n') hq854 ⟨([]), (show All2 Int64R [] [] from .nil), (of_decide_eq_true rfl), (rng_wrap64 _), rfl, rfl, rfl⟩ ?_)
 refine Norm.mkL (js := [0, 1]) (m := 2) [0, 3, 5, 6] [x0, (.ep 1 (.sl 1 n 0 1 1 true) 0 0), (.sl 1 (n + 1) 0 0 0 true), (.int .i64 (IntKind.i64.wrap ((v0.length : Int) - 1)))] (of_decide_eq_true rfl) ?_ (RnL.cons (.keep _ (slH_lt h0)) (RnL.cons (Rn.ptr (js := [0, 1]) 0 0) (RnL.cons (Rn.ownF (js := [0, 1]) 1 1) (RnL.cons (.keep _ (.int _ _)) RnL.nil)))) (RowsR.row 0 _ _ _ _ hp_get0 (RnL.cons (.keep _ (.int _ _)) RnL.nil) (RowsR.row 1 _ _ _ _ (hp_get 1) (RnL.all2 (show All2 Int64R [] [] from .nil) int64_lt) RowsR.nil)) rfl
 kernel_rfl
 rintro ⟨v847, v850⟩ E' h' n' o852 ⟨es846, a848, b849, i851, rfl, rfl, rfl⟩ ho856 hf855
 replace a848 : All2 Int64R es846 v847 := a848
 replace b849 : es846.length ≤ 140737488355328 := b849
 replace i851 : I64 v850 := i851
 replace ho856 : m_i_chain_a4 fu v0 v1 v847 v850 = some o852 := ho856
 unfold m_i_chain_a4 at ho856
 show WQ Try.prog _ n h _ _ (envZ [0, 3, 5, 6] [x0, (.ep 1 (.sl 1 n 0 1 1 true) 0 0), (.sl 1 (n + 1) 0 v847.length v847.length false), (.int .i64 v850)]) (hp h n [some [(.int .i64 v1)], some es846]) (n + 2)
 refine WQ.seq_k fun K857 hK857 => ?_
 refine WQ.sr hT rfl fun K860 hK860 => ?_
 simp only [go_sem, ↓reduceIte, reduceCtorEq, Nat.reduceEqDiff, Nat.reduceLT, Nat.reduceLeDiff, Nat.reduceAdd, Nat.reduceMul, Int.reduceLE]
 refine kn hK860 ?_
 clear hK860 K860
 refine WQ.cond (t := decide (0 ≤ v850)) ?_ (fun z861 => ?_) (fun z861 => ?_)
 kernel_rfl
 replace ho856 := ifT z861 ho856
 refine WQ.skip ?_
 simp only [go_sem, ↓reduceIte, reduceCtorEq, Nat.reduceEqDiff, Nat.reduceLT, Nat.reduceLeDiff, Nat.reduceAdd, Nat.reduceMul, Int.reduceLE]
 refine kn hK857 ?_
 clear hK857 K857
 refine WQ.seq_k fun K862 hK862 => ?_
 have j939 : ∀ (E' : Env) (h' : Heap) (n' : Nat) (es935 : List AV) (v936 : List Int) (a937 : All2 Int64R es935 v936) (b938 : es935.length ≤ 140737488355328), Norm n h E' h' n' (envZ [0, 3, 5, 6] [x0, (.ep 1 (.sl 1 n 0 1 1 true) 0 0), (.sl 1 (n + 1) 0 v936.length v936.length false), (.int .i64 v850)]) (hp h n [some [(.int .i64 v1)], some es935]) (n + 2) → (m_i_chain_a2 fu v850 v936) = some o852 → K862 E' h' n' := by
  intro E941 H942 n943 es935 v936 a937 b938 N940 ho856
  refine hK862 _ _ _ _ _ _ N940 ?_
  clear N940 hK862 K862
  unfold m_i_chain_a2 at ho856
  refine WQ.region hT rfl ?_
  simp only [go_sem, ↓reduceIte, reduceCtorEq, Nat.reduceEqDiff, Nat.reduceLT, Nat.reduceLeDiff, Nat.reduceAdd, Nat.reduceMul, Int.reduceLE]
  refine ⟨_, _, _, _, (Option.some.inj ho856).symm, ?_, es935, a937, b938, (rng_wrap64 _), rfl, rfl, rfl⟩
  refine Norm.mkL (js := [0, 1]) (m := 2) [0, 3, 5, 6] [x0, (.ep 1 (.sl 1 n 0 1 1 true) 0 0), (.sl 1 (n + 1) 0 v936.length v936.length false), (.int .i64 (IntKind.i64.wrap (v850 - 1)))] (of_decide_eq_true rfl) ?_ (RnL.cons (.keep _ (slH_lt h0)) (RnL.cons (Rn.ptr (js := [0, 1]) 0 0) (RnL.cons (Rn.own (js := [0, 1]) 1 1) (RnL.cons (.keep _ (.int _ _)) RnL.nil)))) (RowsR.row 0 _ _ _ _ hp_get0 (RnL.cons (.keep _ (.int _ _)) RnL.nil) (RowsR.row 1 _ _ _ _ (hp_get 1) (RnL.all2 a937 int64_lt) RowsR.nil)) rfl
  kernel_rfl
 clear hK862
 refine WQ.block ?_
 refine WQ.sr hT rfl fun K944 hK944 => ?_
 simp only [go_sem, ↓reduceIte, reduceCtorEq, Nat.reduceEqDiff, Nat.reduceLT, Nat.reduceLeDiff, Nat.reduceAdd, Nat.reduceMul, Int.reduceLE]
 refine kn hK944 ?_
 clear hK944 K944
 obtain ⟨v961, q962, ho856⟩ := obs ho856
 obtain ⟨v973, q972, ho856⟩ := obs ho856
 refine WQ.sr hT rfl fun K945 hK945 => ?_
 simp only [go_sem, ↓reduceIte, reduceCtorEq, Nat.reduceEqDiff, Nat.reduceLT, Nat.reduceLeDiff, Nat.reduceAdd, Nat.reduceMul, Int.reduceLE, rdSl_hp q12 (slH_lt h0), l14, c16, g17]
 refine op_partH (el := 76) (X := x0) rfl ?_ h0 (of_decide_eq_true rfl) tyRec_76.lt ?_ rfl q962 (fun y963 h964 => ?_)
 simp only [go_sem, ↓reduceIte, reduceCtorEq, Nat.reduceEqDiff, Nat.reduceLT, Nat.reduceLeDiff, Nat.reduceAdd, Nat.reduceMul, Int.reduceLE]
 simp only [go_sem, ↓reduceIte, reduceCtorEq, Nat.reduceEqDiff, Nat.reduceLT, Nat.reduceLeDiff, Nat.reduceAdd, Nat.reduceMul, Int.reduceLE]
 replace h964 : (SlH h n 8 RecR) y963 v961 := h964
 obtain ⟨es965, q966, a967, l968, b969, c970, g971⟩ := slH_open h964
 unfold sealK; simp only [go_sem, ↓reduceIte, reduceCtorEq, Nat.reduceEqDiff, Nat.reduceLT, Nat.reduceLeDiff, Nat.reduceAdd, Nat.reduceMul, Int.reduceLE, rdSl_hp q12 (slH_lt h0), l14, c16, g17, rdSl_hp q966 (slH_lt h964), l968, c970, g971]
 refine w_g_ContainsFunc_Rec__i_chain_1 (SlH.up h964 3) i1 (lt_row (j := 0) (m := 3) rfl) hp_get0 (rng_wrap64 _) (lt_row (j := 2) (m := 3) rfl) (hp_get 2) q972 (fun y974 h975 => ?_)
 obtain rfl := h975
 unfold sealK; simp only [go_sem, ↓reduceIte, reduceCtorEq, Nat.reduceEqDiff, Nat.reduceLT, Nat.reduceLeDiff, Nat.reduceAdd, Nat.reduceMul, Int.reduceLE, rdSl_hp q12 (slH_lt h0), l14, c16, g17, rdSl_hp q966 (slH_lt h964), l968, c970, g971]
 refine kn hK945 ?_
 clear hK945 K945
 refine WQ.seq_k fun K976 hK976 => ?_
 have j993 : ∀ (E' : Env) (h' : Heap) (n' : Nat) (v992 : Bool), Norm n h E' h' n' (envZ [0, 3, 5, 6, 7, 43] [x0, (.ep 1 (.sl 1 n 0 1 1 true) 0 0), (.sl 1 (n + 1) 0 v847.length v847.length false), (.int .i64 v850), (.ep 1 (.sl 1 (n + 2) 0 1 1 true) 0 0), (.bool v992)]) (hp h n [some [(.int .i64 v1)], some es846, some [(.int .i64 (IntKind.i64.wrap (v850 + 1)))]]) (n + 3) → (m_i_chain_a3 fu v847 v850 v992) = some o852 → K976 E' h' n' := by
  intro E995 H996 n997 v992 N994 ho856
  refine hK976 _ _ _ _ _ _ N994 ?_
  clear N994 hK976 K976
  unfold m_i_chain_a3 at ho856
  refine WQ.cond (t := v992) ?_ (fun z998 => ?_) (fun z998 => ?_)
  kernel_rfl
  replace ho856 := ifT z998 ho856
  obtain ⟨v999, q1000, ho856⟩ := obs ho856
  refine WQ.region hT rfl ?_
  simp only [go_sem, ↓reduceIte, reduceCtorEq, Nat.reduceEqDiff, Nat.reduceLT, Nat.reduceLeDiff, Nat.reduceAdd, Nat.reduceMul, Int.reduceLE, all2_length a848, own_take a848]
  refine ⟨2, rfl, app_mv1 (j := 1) rfl (of_decide_eq_true rfl) rfl ?_ ?_ (all2_length a848) q1000 a848 (int64R (rng_wrap64 _)) ?_⟩
  simp only [go_sem, ↓reduceIte, reduceCtorEq, Nat.reduceEqDiff, Nat.reduceLT, Nat.reduceLeDiff, Nat.reduceAdd, Nat.reduceMul, Int.reduceLE, all2_length a848, own_take a848]
  simp only [go_sem, ↓reduceIte, reduceCtorEq, Nat.reduceEqDiff, Nat.reduceLT, Nat.reduceLeDiff, Nat.reduceAdd, Nat.reduceMul, Int.reduceLE]
  unfold sealK; simp only [go_sem, ↓reduceIte, reduceCtorEq, Nat.reduceEqDiff, Nat.reduceLT, Nat.reduceLeDiff, Nat.reduceAdd, Nat.reduceMul, Int.reduceLE, all2_length (snoc_all2 q1000 a848 (int64R (rng_wrap64 _))), own_take (snoc_all2 q1000 a848 (int64R (rng_wrap64 _))), all2_length a848, own_take a848]
  refine j939 _ _ _ (es846 ++ [(.int .i64 (IntKind.i64.wrap (v850 + 1)))]) v999 (snoc_all2 q1000 a848 (int64R (rng_wrap64 _))) (snoc_len q1000 a848 (int64R (rng_wrap64 _))) ?_ ho856
  refine Norm.mkL (js := [0, 4]) (m := 2) [0, 3, 5, 6] [x0, (.ep 1 (.sl 1 n 0 1 1 true) 0 0), (.sl 1 (n + 4) 0 v999.length v999.length false), (.int .i64 v850)] (of_decide_eq_true rfl) ?_ (RnL.cons (.keep _ (slH_lt h0)) (RnL.cons (Rn.ptr (js := [0, 4]) 0 0) (RnL.cons (Rn.own (js := [0, 4]) 4 1) (RnL.cons (.keep _ (.int _ _)) RnL.nil)))) (RowsR.row 0 _ _ _ _ hp_get0 (RnL.cons (.keep _ (.int _ _)) RnL.nil) (RowsR.row 4 _ _ _ _ (hp_get 4) (RnL.all2 (snoc_all2 q1000 a848 (int64R (rng_wrap64 _))) int64_lt) RowsR.nil)) rfl
  kernel_rfl
  replace ho856 := ifF z998 ho856
  refine WQ.skip ?_
  simp only [go_sem, ↓reduceIte, reduceCtorEq, Nat.reduceEqDiff, Nat.reduceLT, Nat.reduceLeDiff, Nat.reduceAdd, Nat.reduceMul, Int.reduceLE]
  refine j939 _ _ _ es846 v847 a848 b849 ?_ ho856
  refine Norm.mkL (js := [0, 1]) (m := 2) [0, 3, 5, 6] [x0, (.ep 1 (.sl 1 n 0 1 1 true) 0 0), (.sl 1 (n + 1) 0 v847.length v847.length false), (.int .i64 v850)] (of_decide_eq_true rfl) ?_ (RnL.cons (.keep _ (slH_lt h0)) (RnL.cons (Rn.ptr (js := [0, 1]) 0 0) (RnL.cons (Rn.own (js := [0, 1]) 1 1) (RnL.cons (.keep _ (.int _ _)) RnL.nil)))) (RowsR.row 0 _ _ _ _ hp_get0 (RnL.cons (.keep _ (.int _ _)) RnL.nil) (RowsR.row 1 _ _ _ _ (hp_get 1) (RnL.all2 a848 int64_lt) RowsR.nil)) rfl
  kernel_rfl
 clear hK976
 obtain ⟨a1001, q1002, ho856⟩ := obs ho856
 obtain ⟨p1003, p1004, e1005, p1006, h1007⟩ := at_ok q1002 a13
 have gh1007 := h1007
 obtain ⟨rfl, i1008, i1009, i1010, i1011, i1012, i1013⟩ := h1007
 rcases Bool.eq_false_or_eq_true (decide (a1001.kind = 2)) with z1014 | z1014
 replace ho856 := ifT z1014 ho856
 rcases Bool.eq_false_or_eq_true (decide (a1001.txn = v1)) with z1015 | z1015
 replace ho856 := ifT z1015 ho856
 refine WQ.drawL hT hM [(0, 0), (1, 0), (2, 1), (3, 0), (4, 1), (5, 0), (6, 0), (7, 0), (8, 0), (9, 1), (10, 0), (11, 1), (12, 1), (13, 0), (14, 0), (15, 0), (16, 0), (17, 0), (18, 0)] [] (hp h n [some [(.int .i64 v1)], some es846, some [(.int .i64 (IntKind.i64.wrap (v850 + 1)))]]) ?_ rfl ?_ fun _ => ?_
 kernel_rfl
 simp only [go_sem]
 simp only [go_sem, ↓reduceIte, reduceCtorEq, Nat.reduceEqDiff, Nat.reduceLT, Nat.reduceLeDiff, Nat.reduceAdd, Nat.reduceMul, Int.reduceLE, rdSl_hp q12 (slH_lt h0), l14, c16, g17, p1003, p1004, p1006, eqT z1014, eqT z1015]
 refine j993 _ _ _ (!v973) ?_ ho856
 refine Norm.mkL (js := [0, 1, 2]) (m := 3) [0, 3, 5, 6, 7, 43] [x0, (.ep 1 (.sl 1 n 0 1 1 true) 0 0), (.sl 1 (n + 1) 0 v847.length v847.length false), (.int .i64 v850), (.ep 1 (.sl 1 (n + 2) 0 1 1 true) 0 0), (.bool (!v973))] (of_decide_eq_true rfl) ?_ (RnL.cons (.keep _ (slH_lt h0)) (RnL.cons (Rn.ptr (js := [0, 1, 2]) 0 0) (RnL.cons (Rn.own (js := [0, 1, 2]) 1 1) (RnL.cons (.keep _ (.int _ _)) (RnL.cons (Rn.ptr (js := [0, 1, 2]) 2 2) (RnL.cons (.keep _ (.bool _)) RnL.nil)))))) (RowsR.row 0 _ _ _ _ hp_get0 (RnL.cons (.keep _ (.int _ _)) RnL.nil) (RowsR.row 1 _ _ _ _ (hp_get 1) (RnL.all2 a848 int64_lt) (RowsR.row 2 _ _ _ _ (hp_get 2) (RnL.cons (.keep _ (.int _ _)) RnL.nil) RowsR.nil))) rfl
 kernel_rfl
 replace ho856 := ifF z1015 ho856
 refine WQ.drawL hT hM [(0, 0), (1, 0), (2, 1), (3, 0), (4, 1), (5, 0), (6, 0), (7, 0), (8, 0), (9, 1), (10, 0), (11, 1), (12, 1), (13, 0), (14, 0), (15, 0), (16, 0), (17, 0), (18, 0)] [] (hp h n [some [(.int .i64 v1)], some es846, some [(.int .i64 (IntKind.i64.wrap (v850 + 1)))]]) ?_ rfl ?_ fun _ => ?_
 kernel_rfl
 simp only [go_sem]
 simp only [go_sem, ↓reduceIte, reduceCtorEq, Nat.reduceEqDiff, Nat.reduceLT, Nat.reduceLeDiff, Nat.reduceAdd, Nat.reduceMul, Int.reduceLE, rdSl_hp q12 (slH_lt h0), l14, c16, g17, p1003, p1004, p1006, eqT z1014, eqF z1015]
 refine j993 _ _ _ false ?_ ho856
 refine Norm.mkL (js := [0, 1, 2]) (m := 3) [0, 3, 5, 6, 7, 43] [x0, (.ep 1 (.sl 1 n 0 1 1 true) 0 0), (.sl 1 (n + 1) 0 v847.length v847.length false), (.int .i64 v850), (.ep 1 (.sl 1 (n + 2) 0 1 1 true) 0 0), (.bool false)] (of_decide_eq_true rfl) ?_ (RnL.cons (.keep _ (slH_lt h0)) (RnL.cons (Rn.ptr (js := [0, 1, 2]) 0 0) (RnL.cons (Rn.own (js := [0, 1, 2]) 1 1) (RnL.cons (.keep _ (.int _ _)) (RnL.cons (Rn.ptr (js := [0, 1, 2]) 2 2) (RnL.cons (.keep _ (.bool _)) RnL.nil)))))) (RowsR.row 0 _ _ _ _ hp_get0 (RnL.cons (.keep _ (.int _ _)) RnL.nil) (RowsR.row 1 _ _ _ _ (hp_get 1) (RnL.all2 a848 int64_lt) (RowsR.row 2 _ _ _ _ (hp_get 2) (RnL.cons (.keep _ (.int _ _)) RnL.nil) RowsR.nil))) rfl
 kernel_rfl
 replace ho856 := ifF z1014 ho856
 refine WQ.drawL hT hM [(0, 0), (1, 0), (2, 1), (3, 0), (4, 1), (5, 0), (6, 0), (7, 0), (8, 0), (9, 1), (10, 0), (11, 1), (12, 1), (13, 0), (14, 0), (15, 0), (16, 0), (17, 0), (18, 0)] [] (hp h n [some [(.int .i64 v1)], some es846, some [(.int .i64 (IntKind.i64.wrap (v850 + 1)))]]) ?_ rfl ?_ fun _ => ?_
 kernel_rfl
 simp only [go_sem]
 simp only [go_sem, ↓reduceIte, reduceCtorEq, Nat.reduceEqDiff, Nat.reduceLT, Nat.reduceLeDiff, Nat.reduceAdd, Nat.reduceMul, Int.reduceLE, rdSl_hp q12 (slH_lt h0), l14, c16, g17, p1003, p1004, p1006, eqF z1014]
 refine j993 _ _ _ false ?_ ho856
 refine Norm.mkL (js := [0, 1, 2]) (m := 3) [0, 3, 5, 6, 7, 43] [x0, (.ep 1 (.sl 1 n 0 1 1 true) 0 0), (.sl 1 (n + 1) 0 v847.length v847.length false), (.int .i64 v850), (.ep 1 (.sl 1 (n + 2) 0 1 1 true) 0 0), (.bool false)] (of_decide_eq_true rfl) ?_ (RnL.cons (.keep _ (slH_lt h0)) (RnL.cons (Rn.ptr (js := [0, 1, 2]) 0 0) (RnL.cons (Rn.own (js := [0, 1, 2]) 1 1) (RnL.cons (.keep _ (.int _ _)) (RnL.cons (Rn.ptr (js := [0, 1, 2]) 2 2) (RnL.cons (.keep _ (.bool _)) RnL.nil)))))) (RowsR.row 0 _ _ _ _ hp_get0 (RnL.cons (.keep _ (.int _ _)) RnL.nil) (RowsR.row 1 _ _ _ _ (hp_get 1) (RnL.all2 a848 int64_lt) (RowsR.row 2 _ _ _ _ (hp_get 2) (RnL.cons (.keep _ (.int _ _)) RnL.nil) RowsR.nil))) rfl
 kernel_rfl
 replace ho856 := ifF z861 ho856
 refine WQ.exit ?_
 simp only [go_sem, ↓reduceIte, reduceCtorEq, Nat.reduceEqDiff, Nat.reduceLT, Nat.reduceLeDiff, Nat.reduceAdd, Nat.reduceMul, Int.reduceLE]
 have e1016 := hf855 _ (Option.some.inj ho856).symm
 rw [← e1016] at hm
 refine j515 _ _ _ es846 v847 a848 b849 ?_ hm
 refine Norm.mkL (js := [1]) (m := 1) [5] [(.sl 1 (n + 1) 0 v847.length v847.length false)] (of_decide_eq_true rfl) ?_ (RnL.cons (Rn.own (js := [1]) 1 0) RnL.nil) (RowsR.row 1 _ _ _ _ (hp_get 1) (RnL.all2 a848 int64_lt) RowsR.nil) rfl
 kernel_rfl
def m_i_soundNext_a1 (fu : Nat) : Option Int :=
  some 0
def m_i_soundNext_a2 (fu : Nat) (v415 : Bool) : Option Int :=
  (if v415 = true then some 4 else (m_i_soundNext_a1 fu))
def m_i_soundNext_a3 (fu : Nat) (v0 : List RecD) (v2 : RecD) (v377 : Bool) : Option Int :=
  (if v377 = true then some 4 else (Option.bind (atL v0 (IntKind.i64.wrap (v2.back - 1))) fun a399 => (if (decide (v2.key ≠ a399.key)) = true then (m_i_soundNext_a2 fu true) else (if (!(v2.has == a399.had)) = true then (m_i_soundNext_a2 fu true) else (m_i_soundNext_a2 fu (decide (v2.new ≠ a399.old)))))))
def m_i_soundNext_a4 (fu : Nat) (v0 : List RecD) (v2 : RecD) (v441 : Bool) : Option Int :=
  (if v441 = true then (Option.bind (m_i_kindsOf fu v0 v2.txn ([5])) fun v454 => (if v454 = true then some 4 else (m_i_soundNext_a1 fu))) else (m_i_soundNext_a1 fu))
def m_i_soundNext_a5 (fu : Nat) (v0 : List RecD) (v2 : RecD) (v179 : Bool) : Option Int :=
  (if v179 = true then some 9 else (Option.bind (m_i_chain fu v0 v2.txn) fun v200 => (if (decide (v2.kind = 5)) = true then (if (decide ((v200.length : Int) = 0)) = true then (m_i_soundNext_a3 fu v0 v2 true) else (Option.bind (atL v200 0) fun a426 => (m_i_soundNext_a3 fu v0 v2 (decide (a426 ≠ v2.back))))) else (if (decide (v2.kind = 4)) = true then (if (decide (0 < (v200.length : Int))) = true then some 4 else (m_i_soundNext_a1 fu)) else (if (decide (v2.kind = 2)) = true then (m_i_soundNext_a4 fu v0 v2 (decide (v2.kind = 2))) else (m_i_soundNext_a4 fu v0 v2 (decide (v2.kind = 3))))))))
def m_i_soundNext_a6 (fu : Nat) (v0 : List RecD) (v2 : RecD) (v145 : Bool) : Option Int :=
  (if v145 = true then some 1 else (if (decide (v2.kind = 2)) = true then (Option.bind (m_i_heldBy fu v0 v2) fun v463 => (m_i_soundNext_a5 fu v0 v2 v463)) else (m_i_soundNext_a5 fu v0 v2 false)))
def m_i_soundNext_a7 (fu : Nat) (v0 : List RecD) (v1 : List CellD) (v2 : RecD) (v107 : Bool) : Option Int :=
  (if v107 = true then some 10 else (Option.bind (m_i_valueIn fu v1 v2.key) fun v123 => (if (RecD.turns v2) = true then (if (!(v2.had == (decide (v123.code = 0)))) = true then (m_i_soundNext_a6 fu v0 v2 true) else (m_i_soundNext_a6 fu v0 v2 (decide (v2.old ≠ v123.value)))) else (m_i_soundNext_a6 fu v0 v2 false))))
def m_i_soundNext (fu : Nat) (v0 : List RecD) (v1 : List CellD) (v2 : RecD) : Option Int :=
  (if (decide (v2.kind = 6)) = true then some 0 else (Option.bind (m_g_ContainsFunc_Rec__i_soundNext_1 fu v0 v2) fun v45 => (if (decide (v2.kind = 1)) = true then (if v45 = true then some 10 else some 0) else (Option.bind (m_i_kindsOf fu v0 v2.txn ([1])) fun v469 => (if (!v469) = true then (m_i_soundNext_a7 fu v0 v1 v2 true) else (Option.bind (m_i_kindsOf fu v0 v2.txn ([3, 4])) fun v474 => (m_i_soundNext_a7 fu v0 v1 v2 v474)))))))
set_option maxHeartbeats 2000000 in
theorem w_i_soundNext {x0 : AV} {v0 : List RecD} (h0 : (SlH h n 8 RecR) x0 v0) {x1 : AV} {v1 : List CellD} (h1 : (SlH h n 2 CellR) x1 v1) {x2 : AV} {v2 : RecD} (h2 : RecR x2 v2) {fu : Nat} {r : Int} (hm : m_i_soundNext fu v0 v1 v2 = some r) (hk : ∀ y, Int64R y r → K y h n) : CA Try.prog 54 [x0, x1, x2] h n K := by
 refine CA.enterQ (N := 120) (rs := [.tmp 6]) hT Try.call54 Try.func54 rfl rfl (of_decide_eq_true rfl) rfl fun hlt => ?_
 unfold m_i_soundNext at hm
 obtain ⟨es11, q12, a13, l14, b15, c16, g17⟩ := slH_open h0
 obtain ⟨es18, q19, a20, l21, b22, c23, g24⟩ := slH_open h1
 have gh2 := h2
 obtain ⟨rfl, i25, i26, i27, i28, i29, i30⟩ := h2
 refine WQ.sr hT rfl fun K31 hK31 => ?_
 simp only [go_sem, ↓reduceIte, reduceCtorEq, Nat.reduceEqDiff, Nat.reduceLT, Nat.reduceLeDiff, Nat.reduceAdd, Nat.reduceMul, Int.reduceLE]
 refine kn hK31 ?_
 clear hK31 K31
 refine WQ.seq_k fun K32 hK32 => ?_
 refine WQ.sr hT rfl fun K36 hK36 => ?_
 simp only [go_sem, ↓reduceIte, reduceCtorEq, Nat.reduceEqDiff, Nat.reduceLT, Nat.reduceLeDiff, Nat.reduceAdd, Nat.reduceMul, Int.reduceLE]
 refine kn hK36 ?_
 clear hK36 K36
 refine WQ.cond (t := decide (v2.kind = 6)) ?_ (fun z37 => ?_) (fun z37 => ?_)
 kernel_rfl
 replace hm := ifT z37 hm
 refine WQ.sr hT rfl fun K38 hK38 => ?_
 simp only [go_sem, ↓reduceIte, reduceCtorEq, Nat.reduceEqDiff, Nat.reduceLT, Nat.reduceLeDiff, Nat.reduceAdd, Nat.reduceMul, Int.reduceLE]
 refine kn hK38 ?_
 clear hK38 K38
 refine retN (t := 6) (js := []) (u := (.int .i64 0)) (v := (.int .i64 0)) hlt ?_ (.keep _ (.int _ _)) (.int _ _) rfl ?_
 kernel_rfl
 exact hkr hk (m := 0) hm (int64R (i64c (a := 0) rfl))
 replace hm := ifF z37 hm
 refine WQ.skip ?_
 simp only [go_sem, ↓reduceIte, reduceCtorEq, Nat.reduceEqDiff, Nat.reduceLT, Nat.reduceLeDiff, Nat.reduceAdd, Nat.reduceMul, Int.reduceLE]
 refine kn hK32 ?_
 clear hK32 K32
 obtain ⟨v45, q44, hm⟩ := obs hm
 refine WQ.sr hT rfl fun K39 hK39 => ?_
 simp only [go_sem, ↓reduceIte, reduceCtorEq, Nat.reduceEqDiff, Nat.reduceLT, Nat.reduceLeDiff, Nat.reduceAdd, Nat.reduceMul, Int.reduceLE, rdSl_hp q12 (slH_lt h0), l14, c16, g17]
 refine w_g_ContainsFunc_Rec__i_soundNext_1 (SlH.up h0 1) gh2 (lt_row (j := 0) (m := 1) rfl) hp_get0 q44 (fun y46 h47 => ?_)
 obtain rfl := h47
 unfold sealK; simp only [go_sem, ↓reduceIte, reduceCtorEq, Nat.reduceEqDiff, Nat.reduceLT, Nat.reduceLeDiff, Nat.reduceAdd, Nat.reduceMul, Int.reduceLE, rdSl_hp q12 (slH_lt h0), l14, c16, g17]
 refine kn hK39 ?_
 clear hK39 K39
 refine WQ.seq_k fun K48 hK48 => ?_
 refine WQ.sr hT rfl fun K59 hK59 => ?_
 simp only [go_sem, ↓reduceIte, reduceCtorEq, Nat.reduceEqDiff, Nat.reduceLT, Nat.reduceLeDiff, Nat.reduceAdd, Nat.reduceMul, Int.reduceLE]
 refine kn hK59 ?_
 clear hK59 K59
 refine WQ.cond (t := decide (v2.kind = 1)) ?_ (fun z60 => ?_) (fun z60 => ?_)
 kernel_rfl
 replace hm := ifT z60 hm
 refine WQ.seq_k fun K61 hK61 => ?_
 refine WQ.sr hT rfl fun K65 hK65 => ?_
 simp only [go_sem, ↓reduceIte, reduceCtorEq, Nat.reduceEqDiff, Nat.reduceLT, Nat.reduceLeDiff, Nat.reduceAdd, Nat.reduceMul, Int.reduceLE]
 refine kn hK65 ?_
 clear hK65 K65
 refine WQ.cond (t := v45) ?_ (fun z66 => ?_) (fun z66 => ?_)
 kernel_rfl
 replace hm := ifT z66 hm
 refine WQ.sr hT rfl fun K67 hK67 => ?_
 simp only [go_sem, ↓reduceIte, reduceCtorEq, Nat.reduceEqDiff, Nat.reduceLT, Nat.reduceLeDiff, Nat.reduceAdd, Nat.reduceMul, Int.reduceLE]
 refine kn hK67 ?_
 clear hK67 K67
 refine retN (t := 6) (js := []) (u := (.int .i64 10)) (v := (.int .i64 10)) hlt ?_ (.keep _ (.int _ _)) (.int _ _) rfl ?_
 kernel_rfl
 exact hkr hk (m := 10) hm (int64R (i64c (a := 10) rfl))
 replace hm := ifF z66 hm
 refine WQ.skip ?_
 simp only [go_sem, ↓reduceIte, reduceCtorEq, Nat.reduceEqDiff, Nat.reduceLT, Nat.reduceLeDiff, Nat.reduceAdd, Nat.reduceMul, Int.reduceLE]
 refine kn hK61 ?_
 clear hK61 K61
 refine WQ.sr hT rfl fun K68 hK68 => ?_
 simp only [go_sem, ↓reduceIte, reduceCtorEq, Nat.reduceEqDiff, Nat.reduceLT, Nat.reduceLeDiff, Nat.reduceAdd, Nat.reduceMul, Int.reduceLE]
 refine kn hK68 ?_
 clear hK68 K68
 refine retN (t := 6) (js := []) (u := (.int .i64 0)) (v := (.int .i64 0)) hlt ?_ (.keep _ (.int _ _)) (.int _ _) rfl ?_
 kernel_rfl
 exact hkr hk (m := 0) hm (int64R (i64c (a := 0) rfl))
 replace hm := ifF z60 hm
 refine WQ.skip ?_
 simp only [go_sem, ↓reduceIte, reduceCtorEq, Nat.reduceEqDiff, Nat.reduceLT, Nat.reduceLeDiff, Nat.reduceAdd, Nat.reduceMul, Int.reduceLE]
 refine kn hK48 ?_
 clear hK48 K48
 refine WQ.seq_k fun K69 hK69 => ?_
 refine WQ.seq_k fun K97 hK97 => ?_
 have j108 : ∀ (E' : Env) (h' : Heap) (n' : Nat) (v107 : Bool), Norm n h E' h' n' (envZ [0, 1, 5, 33] [x0, x1, (.ep 8 (.sl 8 n 0 1 1 true) 0 0), (.bool v107)]) (hp h n [some [(.agg [(.int .i64 v2.kind), (.int .i64 v2.txn), (.int .i64 v2.key), (.bool v2.had), (.int .i64 v2.old), (.bool v2.has), (.int .i64 v2.new), (.int .i64 v2.back)])]]) (n + 1) → (m_i_soundNext_a7 fu v0 v1 v2 v107) = some r → K97 E' h' n' := by
  intro E110 H111 n112 v107 N109 hm
  refine hK97 _ _ _ _ _ _ N109 ?_
  clear N109 hK97 K97
  unfold m_i_soundNext_a7 at hm
  refine WQ.cond (t := v107) ?_ (fun z113 => ?_) (fun z113 => ?_)
  kernel_rfl
  replace hm := ifT z113 hm
  refine WQ.sr hT rfl fun K114 hK114 => ?_
  simp only [go_sem, ↓reduceIte, reduceCtorEq, Nat.reduceEqDiff, Nat.reduceLT, Nat.reduceLeDiff, Nat.reduceAdd, Nat.reduceMul, Int.reduceLE]
  refine kn hK114 ?_
  clear hK114 K114
  refine retN (t := 6) (js := []) (u := (.int .i64 10)) (v := (.int .i64 10)) hlt ?_ (.keep _ (.int _ _)) (.int _ _) rfl ?_
  kernel_rfl
  exact hkr hk (m := 10) hm (int64R (i64c (a := 10) rfl))
  replace hm := ifF z113 hm
  refine WQ.skip ?_
  simp only [go_sem, ↓reduceIte, reduceCtorEq, Nat.reduceEqDiff, Nat.reduceLT, Nat.reduceLeDiff, Nat.reduceAdd, Nat.reduceMul, Int.reduceLE]
  refine kn hK69 ?_
  clear hK69 K69
  obtain ⟨v123, q122, hm⟩ := obs hm
  refine WQ.sr hT rfl fun K115 hK115 => ?_
  simp only [go_sem, ↓reduceIte, reduceCtorEq, Nat.reduceEqDiff, Nat.reduceLT, Nat.reduceLeDiff, Nat.reduceAdd, Nat.reduceMul, Int.reduceLE, rdSl_hp q19 (slH_lt h1), l21, c23, g24]
  refine w_i_valueIn (SlH.up h1 1) i27 q122 (fun y124 h125 => ?_)
  have gh125 := h125
  obtain ⟨rfl, i126, i127⟩ := h125
  unfold sealK; simp only [go_sem, ↓reduceIte, reduceCtorEq, Nat.reduceEqDiff, Nat.reduceLT, Nat.reduceLeDiff, Nat.reduceAdd, Nat.reduceMul, Int.reduceLE, rdSl_hp q19 (slH_lt h1), l21, c23, g24]
  refine kn hK115 ?_
  clear hK115 K115
  refine WQ.seq_k fun K128 hK128 => ?_
  refine WQ.seq_k fun K142 hK142 => ?_
  have j146 : ∀ (E' : Env) (h' : Heap) (n' : Nat) (v145 : Bool), Norm n h E' h' n' (envZ [0, 5, 54] [x0, (.ep 8 (.sl 8 n 0 1 1 true) 0 0), (.bool v145)]) (hp h n [some [(.agg [(.int .i64 v2.kind), (.int .i64 v2.txn), (.int .i64 v2.key), (.bool v2.had), (.int .i64 v2.old), (.bool v2.has), (.int .i64 v2.new), (.int .i64 v2.back)])]]) (n + 1) → (m_i_soundNext_a6 fu v0 v2 v145) = some r → K142 E' h' n' := by
   intro E148 H149 n150 v145 N147 hm
   refine hK142 _ _ _ _ _ _ N147 ?_
   clear N147 hK142 K142
   unfold m_i_soundNext_a6 at hm
   refine WQ.cond (t := v145) ?_ (fun z151 => ?_) (fun z151 => ?_)
   kernel_rfl
   replace hm := ifT z151 hm
   refine WQ.sr hT rfl fun K152 hK152 => ?_
   simp only [go_sem, ↓reduceIte, reduceCtorEq, Nat.reduceEqDiff, Nat.reduceLT, Nat.reduceLeDiff, Nat.reduceAdd, Nat.reduceMul, Int.reduceLE]
   refine kn hK152 ?_
   clear hK152 K152
   refine retN (t := 6) (js := []) (u := (.int .i64 1)) (v := (.int .i64 1)) hlt ?_ (.keep _ (.int _ _)) (.int _ _) rfl ?_
   kernel_rfl
   exact hkr hk (m := 1) hm (int64R (i64c (a := 1) rfl))
   replace hm := ifF z151 hm
   refine WQ.skip ?_
   simp only [go_sem, ↓reduceIte, reduceCtorEq, Nat.reduceEqDiff, Nat.reduceLT, Nat.reduceLeDiff, Nat.reduceAdd, Nat.reduceMul, Int.reduceLE]
   refine kn hK128 ?_
   clear hK128 K128
   refine WQ.seq_k fun K153 hK153 => ?_
   refine WQ.seq_k fun K173 hK173 => ?_
   have j180 : ∀ (E' : Env) (h' : Heap) (n' : Nat) (v179 : Bool), Norm n h E' h' n' (envZ [0, 5, 62] [x0, (.ep 8 (.sl 8 n 0 1 1 true) 0 0), (.bool v179)]) (hp h n [some [(.agg [(.int .i64 v2.kind), (.int .i64 v2.txn), (.int .i64 v2.key), (.bool v2.had), (.int .i64 v2.old), (.bool v2.has), (.int .i64 v2.new), (.int .i64 v2.back)])]]) (n + 1) → (m_i_soundNext_a5 fu v0 v2 v179) = some r → K173 E' h' n' := by
    intro E182 H183 n184 v179 N181 hm
    refine hK173 _ _ _ _ _ _ N181 ?_
    clear N181 hK173 K173
    unfold m_i_soundNext_a5 at hm
    refine WQ.cond (t := v179) ?_ (fun z185 => ?_) (fun z185 => ?_)
    kernel_rfl
    replace hm := ifT z185 hm
    refine WQ.sr hT rfl fun K186 hK186 => ?_
    simp only [go_sem, ↓reduceIte, reduceCtorEq, Nat.reduceEqDiff, Nat.reduceLT, Nat.reduceLeDiff, Nat.reduceAdd, Nat.reduceMul, Int.reduceLE]
    refine kn hK186 ?_
    clear hK186 K186
    refine retN (t := 6) (js := []) (u := (.int .i64 9)) (v := (.int .i64 9)) hlt ?_ (.keep _ (.int _ _)) (.int _ _) rfl ?_
    kernel_rfl
    exact hkr hk (m := 9) hm (int64R (i64c (a := 9) rfl))
    replace hm := ifF z185 hm
    refine WQ.skip ?_
    simp only [go_sem, ↓reduceIte, reduceCtorEq, Nat.reduceEqDiff, Nat.reduceLT, Nat.reduceLeDiff, Nat.reduceAdd, Nat.reduceMul, Int.reduceLE]
    refine kn hK153 ?_
    clear hK153 K153
    obtain ⟨v200, q199, hm⟩ := obs hm
    refine WQ.sr hT rfl fun K187 hK187 => ?_
    simp only [go_sem, ↓reduceIte, reduceCtorEq, Nat.reduceEqDiff, Nat.reduceLT, Nat.reduceLeDiff, Nat.reduceAdd, Nat.reduceMul, Int.reduceLE, rdSl_hp q12 (slH_lt h0), l14, c16, g17]
    refine w_i_chain (SlH.up h0 1) i26 q199 (fun y201 h202 => ?_)
    obtain ⟨es203, q204, a205, l206, b207, c208, g209⟩ := slr_open h202
    unfold sealK; simp only [go_sem, ↓reduceIte, reduceCtorEq, Nat.reduceEqDiff, Nat.reduceLT, Nat.reduceLeDiff, Nat.reduceAdd, Nat.reduceMul, Int.reduceLE, rdSl_hp q12 (slH_lt h0), l14, c16, g17, rdSl_emp q204, l206, c208, g209]
    refine kn hK187 ?_
    clear hK187 K187
    refine WQ.seq_k fun K210 hK210 => ?_
    have j333 : ∀ (E' : Env) (h' : Heap) (n' : Nat), Norm n h E' h' n' (envZ [] []) (hp h n []) n → (m_i_soundNext_a1 fu) = some r → K210 E' h' n' := by
     intro E335 H336 n337 N334 hm
     refine hK210 _ _ _ _ _ _ N334 ?_
     clear N334 hK210 K210
     unfold m_i_soundNext_a1 at hm
     refine WQ.sr hT rfl fun K338 hK338 => ?_
     simp only [go_sem, ↓reduceIte, reduceCtorEq, Nat.reduceEqDiff, Nat.reduceLT, Nat.reduceLeDiff, Nat.reduceAdd, Nat.reduceMul, Int.reduceLE]
     refine kn hK338 ?_
     clear hK338 K338
     refine retN (t := 6) (js := []) (u := (.int .i64 0)) (v := (.int .i64 0)) hlt ?_ (.keep _ (.int _ _)) (.int _ _) rfl ?_
     kernel_rfl
     exact hkr hk (m := 0) hm (int64R (i64c (a := 0) rfl))
    clear hK210
    refine WQ.sr hT rfl fun K339 hK339 => ?_
    simp only [go_sem, ↓reduceIte, reduceCtorEq, Nat.reduceEqDiff, Nat.reduceLT, Nat.reduceLeDiff, Nat.reduceAdd, Nat.reduceMul, Int.reduceLE]
    refine kn hK339 ?_
    clear hK339 K339
    refine WQ.block ?_
    refine WQ.sr hT rfl fun K340 hK340 => ?_
    simp only [go_sem, ↓reduceIte, reduceCtorEq, Nat.reduceEqDiff, Nat.reduceLT, Nat.reduceLeDiff, Nat.reduceAdd, Nat.reduceMul, Int.reduceLE]
    refine kn hK340 ?_
    clear hK340 K340
    refine WQ.cond (t := decide (v2.kind = 5)) ?_ (fun z341 => ?_) (fun z341 => ?_)
    kernel_rfl
    replace hm := ifT z341 hm
    refine WQ.seq_k fun K342 hK342 => ?_
    refine WQ.seq_k fun K368 hK368 => ?_
    have j378 : ∀ (E' : Env) (h' : Heap) (n' : Nat) (v377 : Bool), Norm n h E' h' n' (envZ [0, 5, 81] [x0, (.ep 8 (.sl 8 n 0 1 1 true) 0 0), (.bool v377)]) (hp h n [some [(.agg [(.int .i64 v2.kind), (.int .i64 v2.txn), (.int .i64 v2.key), (.bool v2.had), (.int .i64 v2.old), (.bool v2.has), (.int .i64 v2.new), (.int .i64 v2.back)])]]) (n + 1) → (m_i_soundNext_a3 fu v0 v2 v377) = some r → K368 E' h' n' := by
     intro E380 H381 n382 v377 N379 hm
     refine hK368 _ _ _ _ _ _ N379 ?_
     clear N379 hK368 K368
     unfold m_i_soundNext_a3 at hm
     refine WQ.cond (t := v377) ?_ (fun z383 => ?_) (fun z383 => ?_)
     kernel_rfl
     replace hm := ifT z383 hm
     refine WQ.sr hT rfl fun K384 hK384 => ?_
     simp only [go_sem, ↓reduceIte, reduceCtorEq, Nat.reduceEqDiff, Nat.reduceLT, Nat.reduceLeDiff, Nat.reduceAdd, Nat.reduceMul, Int.reduceLE]
     refine kn hK384 ?_
     clear hK384 K384
     refine retN (t := 6) (js := []) (u := (.int .i64 4)) (v := (.int .i64 4)) hlt ?_ (.keep _ (.int _ _)) (.int _ _) rfl ?_
     kernel_rfl
     exact hkr hk (m := 4) hm (int64R (i64c (a := 4) rfl))
     replace hm := ifF z383 hm
     refine WQ.skip ?_
     simp only [go_sem, ↓reduceIte, reduceCtorEq, Nat.reduceEqDiff, Nat.reduceLT, Nat.reduceLeDiff, Nat.reduceAdd, Nat.reduceMul, Int.reduceLE]
     refine kn hK342 ?_
     clear hK342 K342
     refine WQ.seq_k fun K385 hK385 => ?_
     obtain ⟨a399, q400, hm⟩ := obs hm
     obtain ⟨p401, p402, e403, p404, h405⟩ := at_ok q400 a13
     have gh405 := h405
     obtain ⟨rfl, i406, i407, i408, i409, i410, i411⟩ := h405
     refine WQ.region hT rfl ?_
     simp only [go_sem, ↓reduceIte, reduceCtorEq, Nat.reduceEqDiff, Nat.reduceLT, Nat.reduceLeDiff, Nat.reduceAdd, Nat.reduceMul, Int.reduceLE, rdSl_hp q12 (slH_lt h0), l14, c16, g17, p401, p402, p404]
     refine kn hK385 ?_
     clear hK385 K385
     refine WQ.seq_k fun K412 hK412 => ?_
     have j416 : ∀ (E' : Env) (h' : Heap) (n' : Nat) (v415 : Bool), Norm n h E' h' n' (envZ [106] [(.bool v415)]) (hp h n []) n → (m_i_soundNext_a2 fu v415) = some r → K412 E' h' n' := by
      intro E418 H419 n420 v415 N417 hm
      refine hK412 _ _ _ _ _ _ N417 ?_
      clear N417 hK412 K412
      unfold m_i_soundNext_a2 at hm
      refine WQ.cond (t := v415) ?_ (fun z421 => ?_) (fun z421 => ?_)
      kernel_rfl
      replace hm := ifT z421 hm
      refine WQ.sr hT rfl fun K422 hK422 => ?_
      simp only [go_sem, ↓reduceIte, reduceCtorEq, Nat.reduceEqDiff, Nat.reduceLT, Nat.reduceLeDiff, Nat.reduceAdd, Nat.reduceMul, Int.reduceLE]
      refine kn hK422 ?_
      clear hK422 K422
      refine retN (t := 6) (js := []) (u := (.int .i64 4)) (v := (.int .i64 4)) hlt ?_ (.keep _ (.int _ _)) (.int _ _) rfl ?_
      kernel_rfl
      exact hkr hk (m := 4) hm (int64R (i64c (a := 4) rfl))
      replace hm := ifF z421 hm
      refine WQ.skip ?_
      simp only [go_sem, ↓reduceIte, reduceCtorEq, Nat.reduceEqDiff, Nat.reduceLT, Nat.reduceLeDiff, Nat.reduceAdd, Nat.reduceMul, Int.reduceLE]
      refine j333 _ _ _  ?_ hm
      refine Norm.mkL (js := []) (m := 0) [] [] (of_decide_eq_true rfl) ?_ RnL.nil RowsR.nil rfl
      kernel_rfl
     clear hK412
     rcases Bool.eq_false_or_eq_true (decide (v2.key ≠ a399.key)) with z423 | z423
     replace hm := ifT z423 hm
     refine WQ.region hT rfl ?_
     simp only [go_sem, ↓reduceIte, reduceCtorEq, Nat.reduceEqDiff, Nat.reduceLT, Nat.reduceLeDiff, Nat.reduceAdd, Nat.reduceMul, Int.reduceLE, eqT z423]
     refine j416 _ _ _ true ?_ hm
     refine Norm.mkL (js := []) (m := 0) [106] [(.bool true)] (of_decide_eq_true rfl) ?_ (RnL.cons (.keep _ (.bool _)) RnL.nil) RowsR.nil rfl
     kernel_rfl
     replace hm := ifF z423 hm
     rcases Bool.eq_false_or_eq_true (!(v2.has == a399.had)) with z424 | z424
     replace hm := ifT z424 hm
     refine WQ.region hT rfl ?_
     simp only [go_sem, ↓reduceIte, reduceCtorEq, Nat.reduceEqDiff, Nat.reduceLT, Nat.reduceLeDiff, Nat.reduceAdd, Nat.reduceMul, Int.reduceLE, eqF z423, eqT z424]
     refine j416 _ _ _ true ?_ hm
     refine Norm.mkL (js := []) (m := 0) [106] [(.bool true)] (of_decide_eq_true rfl) ?_ (RnL.cons (.keep _ (.bool _)) RnL.nil) RowsR.nil rfl
     kernel_rfl
     replace hm := ifF z424 hm
     refine WQ.region hT rfl ?_
     simp only [go_sem, ↓reduceIte, reduceCtorEq, Nat.reduceEqDiff, Nat.reduceLT, Nat.reduceLeDiff, Nat.reduceAdd, Nat.reduceMul, Int.reduceLE, eqF z423, eqF z424]
     refine j416 _ _ _ (decide (v2.new ≠ a399.old)) ?_ hm
     refine Norm.mkL (js := []) (m := 0) [106] [(.bool (decide (v2.new ≠ a399.old)))] (of_decide_eq_true rfl) ?_ (RnL.cons (.keep _ (.bool _)) RnL.nil) RowsR.nil rfl
     kernel_rfl
    clear hK368
    rcases Bool.eq_false_or_eq_true (decide ((v200.length : Int) = 0)) with z425 | z425
    replace hm := ifT z425 hm
    refine WQ.drawL hT hM [(0, 0), (1, 1), (2, 0), (3, 0), (4, 0), (5, 1), (6, 1), (7, 0), (8, 1), (9, 0), (10, 0)] [] (hp h n [some [(.agg [(.int .i64 v2.kind), (.int .i64 v2.txn), (.int .i64 v2.key), (.bool v2.had), (.int .i64 v2.old), (.bool v2.has), (.int .i64 v2.new), (.int .i64 v2.back)])]]) ?_ rfl ?_ fun _ => ?_
    kernel_rfl
    simp only [go_sem]
    simp only [go_sem, ↓reduceIte, reduceCtorEq, Nat.reduceEqDiff, Nat.reduceLT, Nat.reduceLeDiff, Nat.reduceAdd, Nat.reduceMul, Int.reduceLE, rdSl_emp q204, l206, c208, g209, eqT z425]
    refine j378 _ _ _ true ?_ hm
    refine Norm.mkL (js := [0]) (m := 1) [0, 5, 81] [x0, (.ep 8 (.sl 8 n 0 1 1 true) 0 0), (.bool true)] (of_decide_eq_true rfl) ?_ (RnL.cons (.keep _ (slH_lt h0)) (RnL.cons (Rn.ptr (js := [0]) 0 0) (RnL.cons (.keep _ (.bool _)) RnL.nil))) (RowsR.row 0 _ _ _ _ hp_get0 (RnL.cons (.keep _ (tyRec_76.lt _ _ _ gh2)) RnL.nil) RowsR.nil) rfl
    kernel_rfl
    replace hm := ifF z425 hm
    obtain ⟨a426, q427, hm⟩ := obs hm
    obtain ⟨p428, p429, e430, p431, h432⟩ := at_ok q427 a205
    obtain ⟨rfl, ia426⟩ := h432
    refine WQ.drawL hT hM [(0, 0), (1, 1), (2, 0), (3, 0), (4, 0), (5, 1), (6, 1), (7, 0), (8, 1), (9, 0), (10, 0)] [] (hp h n [some [(.agg [(.int .i64 v2.kind), (.int .i64 v2.txn), (.int .i64 v2.key), (.bool v2.had), (.int .i64 v2.old), (.bool v2.has), (.int .i64 v2.new), (.int .i64 v2.back)])]]) ?_ rfl ?_ fun _ => ?_
    kernel_rfl
    simp only [go_sem]
    simp only [go_sem, ↓reduceIte, reduceCtorEq, Nat.reduceEqDiff, Nat.reduceLT, Nat.reduceLeDiff, Nat.reduceAdd, Nat.reduceMul, Int.reduceLE, rdSl_emp q204, l206, c208, g209, p428, p429, p431, eqF z425]
    refine j378 _ _ _ (decide (a426 ≠ v2.back)) ?_ hm
    refine Norm.mkL (js := [0]) (m := 1) [0, 5, 81] [x0, (.ep 8 (.sl 8 n 0 1 1 true) 0 0), (.bool (decide (a426 ≠ v2.back)))] (of_decide_eq_true rfl) ?_ (RnL.cons (.keep _ (slH_lt h0)) (RnL.cons (Rn.ptr (js := [0]) 0 0) (RnL.cons (.keep _ (.bool _)) RnL.nil))) (RowsR.row 0 _ _ _ _ hp_get0 (RnL.cons (.keep _ (tyRec_76.lt _ _ _ gh2)) RnL.nil) RowsR.nil) rfl
    kernel_rfl
    replace hm := ifF z341 hm
    refine WQ.sr hT rfl fun K433 hK433 => ?_
    simp only [go_sem, ↓reduceIte, reduceCtorEq, Nat.reduceEqDiff, Nat.reduceLT, Nat.reduceLeDiff, Nat.reduceAdd, Nat.reduceMul, Int.reduceLE]
    refine kn hK433 ?_
    clear hK433 K433
    refine WQ.cond (t := decide (v2.kind = 4)) ?_ (fun z434 => ?_) (fun z434 => ?_)
    kernel_rfl
    replace hm := ifT z434 hm
    refine WQ.sr hT rfl fun K435 hK435 => ?_
    simp only [go_sem, ↓reduceIte, reduceCtorEq, Nat.reduceEqDiff, Nat.reduceLT, Nat.reduceLeDiff, Nat.reduceAdd, Nat.reduceMul, Int.reduceLE, rdSl_emp q204, l206, c208, g209]
    refine kn hK435 ?_
    clear hK435 K435
    refine WQ.cond (t := decide (0 < (v200.length : Int))) ?_ (fun z436 => ?_) (fun z436 => ?_)
    kernel_rfl
    replace hm := ifT z436 hm
    refine WQ.sr hT rfl fun K437 hK437 => ?_
    simp only [go_sem, ↓reduceIte, reduceCtorEq, Nat.reduceEqDiff, Nat.reduceLT, Nat.reduceLeDiff, Nat.reduceAdd, Nat.reduceMul, Int.reduceLE]
    refine kn hK437 ?_
    clear hK437 K437
    refine retN (t := 6) (js := []) (u := (.int .i64 4)) (v := (.int .i64 4)) hlt ?_ (.keep _ (.int _ _)) (.int _ _) rfl ?_
    kernel_rfl
    exact hkr hk (m := 4) hm (int64R (i64c (a := 4) rfl))
    replace hm := ifF z436 hm
    refine WQ.skip ?_
    simp only [go_sem, ↓reduceIte, reduceCtorEq, Nat.reduceEqDiff, Nat.reduceLT, Nat.reduceLeDiff, Nat.reduceAdd, Nat.reduceMul, Int.reduceLE]
    refine j333 _ _ _  ?_ hm
    refine Norm.mkL (js := []) (m := 0) [] [] (of_decide_eq_true rfl) ?_ RnL.nil RowsR.nil rfl
    kernel_rfl
    replace hm := ifF z434 hm
    refine WQ.seq_k fun K438 hK438 => ?_
    have j442 : ∀ (E' : Env) (h' : Heap) (n' : Nat) (v441 : Bool), Norm n h E' h' n' (envZ [0, 5, 112] [x0, (.ep 8 (.sl 8 n 0 1 1 true) 0 0), (.bool v441)]) (hp h n [some [(.agg [(.int .i64 v2.kind), (.int .i64 v2.txn), (.int .i64 v2.key), (.bool v2.had), (.int .i64 v2.old), (.bool v2.has), (.int .i64 v2.new), (.int .i64 v2.back)])]]) (n + 1) → (m_i_soundNext_a4 fu v0 v2 v441) = some r → K438 E' h' n' := by
     intro E444 H445 n446 v441 N443 hm
     refine hK438 _ _ _ _ _ _ N443 ?_
     clear N443 hK438 K438
     unfold m_i_soundNext_a4 at hm
     refine WQ.cond (t := v441) ?_ (fun z447 => ?_) (fun z447 => ?_)
     kernel_rfl
     replace hm := ifT z447 hm
     obtain ⟨v454, q453, hm⟩ := obs hm
     refine WQ.sr hT rfl fun K448 hK448 => ?_
     simp only [go_sem, ↓reduceIte, reduceCtorEq, Nat.reduceEqDiff, Nat.reduceLT, Nat.reduceLeDiff, Nat.reduceAdd, Nat.reduceMul, Int.reduceLE, rdSl_hp q12 (slH_lt h0), l14, c16, g17]
     refine w_i_kindsOf (SlH.up h0 2) i26 (slH_own (j := 1) (m := 2) (hp_get 1) (show All2 Int64R [(.int .i64 5)] [5] from (.cons (int64R (i64c (a := 5) rfl)) .nil)) (of_decide_eq_true rfl) rfl rfl) q453 (fun y455 h456 => ?_)
     obtain rfl := h456
     unfold sealK; simp only [go_sem, ↓reduceIte, reduceCtorEq, Nat.reduceEqDiff, Nat.reduceLT, Nat.reduceLeDiff, Nat.reduceAdd, Nat.reduceMul, Int.reduceLE, rdSl_hp q12 (slH_lt h0), l14, c16, g17]
     refine kn hK448 ?_
     clear hK448 K448
     refine WQ.cond (t := v454) ?_ (fun z457 => ?_) (fun z457 => ?_)
     kernel_rfl
     replace hm := ifT z457 hm
     refine WQ.sr hT rfl fun K458 hK458 => ?_
     simp only [go_sem, ↓reduceIte, reduceCtorEq, Nat.reduceEqDiff, Nat.reduceLT, Nat.reduceLeDiff, Nat.reduceAdd, Nat.reduceMul, Int.reduceLE]
     refine kn hK458 ?_
     clear hK458 K458
     refine retN (t := 6) (js := []) (u := (.int .i64 4)) (v := (.int .i64 4)) hlt ?_ (.keep _ (.int _ _)) (.int _ _) rfl ?_
     kernel_rfl
     exact hkr hk (m := 4) hm (int64R (i64c (a := 4) rfl))
     replace hm := ifF z457 hm
     refine WQ.skip ?_
     simp only [go_sem, ↓reduceIte, reduceCtorEq, Nat.reduceEqDiff, Nat.reduceLT, Nat.reduceLeDiff, Nat.reduceAdd, Nat.reduceMul, Int.reduceLE]
     refine j333 _ _ _  ?_ hm
     refine Norm.mkL (js := []) (m := 0) [] [] (of_decide_eq_true rfl) ?_ RnL.nil RowsR.nil rfl
     kernel_rfl
     replace hm := ifF z447 hm
     refine WQ.skip ?_
     simp only [go_sem, ↓reduceIte, reduceCtorEq, Nat.reduceEqDiff, Nat.reduceLT, Nat.reduceLeDiff, Nat.reduceAdd, Nat.reduceMul, Int.reduceLE]
     refine j333 _ _ _  ?_ hm
     refine Norm.mkL (js := []) (m := 0) [] [] (of_decide_eq_true rfl) ?_ RnL.nil RowsR.nil rfl
     kernel_rfl
    clear hK438
    refine WQ.sr hT rfl fun K459 hK459 => ?_
    simp only [go_sem, ↓reduceIte, reduceCtorEq, Nat.reduceEqDiff, Nat.reduceLT, Nat.reduceLeDiff, Nat.reduceAdd, Nat.reduceMul, Int.reduceLE]
    refine kn hK459 ?_
    clear hK459 K459
    refine WQ.cond (t := decide (v2.kind = 2)) ?_ (fun z460 => ?_) (fun z460 => ?_)
    kernel_rfl
    replace hm := ifT z460 hm
    refine WQ.skip ?_
    simp only [go_sem, ↓reduceIte, reduceCtorEq, Nat.reduceEqDiff, Nat.reduceLT, Nat.reduceLeDiff, Nat.reduceAdd, Nat.reduceMul, Int.reduceLE]
    refine j442 _ _ _ (decide (v2.kind = 2)) ?_ hm
    refine Norm.mkL (js := [0]) (m := 1) [0, 5, 112] [x0, (.ep 8 (.sl 8 n 0 1 1 true) 0 0), (.bool (decide (v2.kind = 2)))] (of_decide_eq_true rfl) ?_ (RnL.cons (.keep _ (slH_lt h0)) (RnL.cons (Rn.ptr (js := [0]) 0 0) (RnL.cons (.keep _ (.bool _)) RnL.nil))) (RowsR.row 0 _ _ _ _ hp_get0 (RnL.cons (.keep _ (tyRec_76.lt _ _ _ gh2)) RnL.nil) RowsR.nil) rfl
    kernel_rfl
    replace hm := ifF z460 hm
    refine WQ.region hT rfl ?_
    simp only [go_sem, ↓reduceIte, reduceCtorEq, Nat.reduceEqDiff, Nat.reduceLT, Nat.reduceLeDiff, Nat.reduceAdd, Nat.reduceMul, Int.reduceLE]
    refine j442 _ _ _ (decide (v2.kind = 3)) ?_ hm
    refine Norm.mkL (js := [0]) (m := 1) [0, 5, 112] [x0, (.ep 8 (.sl 8 n 0 1 1 true) 0 0), (.bool (decide (v2.kind = 3)))] (of_decide_eq_true rfl) ?_ (RnL.cons (.keep _ (slH_lt h0)) (RnL.cons (Rn.ptr (js := [0]) 0 0) (RnL.cons (.keep _ (.bool _)) RnL.nil))) (RowsR.row 0 _ _ _ _ hp_get0 (RnL.cons (.keep _ (tyRec_76.lt _ _ _ gh2)) RnL.nil) RowsR.nil) rfl
    kernel_rfl
   clear hK173
   rcases Bool.eq_false_or_eq_true (decide (v2.kind = 2)) with z461 | z461
   replace hm := ifT z461 hm
   obtain ⟨v463, q462, hm⟩ := obs hm
   refine WQ.region hT rfl ?_
   simp only [go_sem, ↓reduceIte, reduceCtorEq, Nat.reduceEqDiff, Nat.reduceLT, Nat.reduceLeDiff, Nat.reduceAdd, Nat.reduceMul, Int.reduceLE, rdSl_hp q12 (slH_lt h0), l14, c16, g17, eqT z461]
   refine w_i_heldBy (SlH.up h0 1) gh2 q462 (fun y464 h465 => ?_)
   obtain rfl := h465
   unfold sealK; simp only [go_sem, ↓reduceIte, reduceCtorEq, Nat.reduceEqDiff, Nat.reduceLT, Nat.reduceLeDiff, Nat.reduceAdd, Nat.reduceMul, Int.reduceLE, rdSl_hp q12 (slH_lt h0), l14, c16, g17, eqT z461]
   refine j180 _ _ _ v463 ?_ hm
   refine Norm.mkL (js := [0]) (m := 1) [0, 5, 62] [x0, (.ep 8 (.sl 8 n 0 1 1 true) 0 0), (.bool v463)] (of_decide_eq_true rfl) ?_ (RnL.cons (.keep _ (slH_lt h0)) (RnL.cons (Rn.ptr (js := [0]) 0 0) (RnL.cons (.keep _ (.bool _)) RnL.nil))) (RowsR.row 0 _ _ _ _ hp_get0 (RnL.cons (.keep _ (tyRec_76.lt _ _ _ gh2)) RnL.nil) RowsR.nil) rfl
   kernel_rfl
   replace hm := ifF z461 hm
   refine WQ.region hT rfl ?_
   simp only [go_sem, ↓reduceIte, reduceCtorEq, Nat.reduceEqDiff, Nat.reduceLT, Nat.reduceLeDiff, Nat.reduceAdd, Nat.reduceMul, Int.reduceLE, rdSl_hp q12 (slH_lt h0), l14, c16, g17, eqF z461]
   refine j180 _ _ _ false ?_ hm
   refine Norm.mkL (js := [0]) (m := 1) [0, 5, 62] [x0, (.ep 8 (.sl 8 n 0 1 1 true) 0 0), (.bool false)] (of_decide_eq_true rfl) ?_ (RnL.cons (.keep _ (slH_lt h0)) (RnL.cons (Rn.ptr (js := [0]) 0 0) (RnL.cons (.keep _ (.bool _)) RnL.nil))) (RowsR.row 0 _ _ _ _ hp_get0 (RnL.cons (.keep _ (tyRec_76.lt _ _ _ gh2)) RnL.nil) RowsR.nil) rfl
   kernel_rfl
  clear hK142
  rcases Bool.eq_false_or_eq_true (RecD.turns v2) with z466 | z466
  replace hm := ifT z466 hm
  rcases Bool.eq_false_or_eq_true (!(v2.had == (decide (v123.code = 0)))) with z467 | z467
  replace hm := ifT z467 hm
  refine WQ.region hT rfl ?_
  simp only [go_sem, ↓reduceIte, reduceCtorEq, Nat.reduceEqDiff, Nat.reduceLT, Nat.reduceLeDiff, Nat.reduceAdd, Nat.reduceMul, Int.reduceLE]
  refine c55 gh2 ?_
  unfold sealK; simp only [go_sem, ↓reduceIte, reduceCtorEq, Nat.reduceEqDiff, Nat.reduceLT, Nat.reduceLeDiff, Nat.reduceAdd, Nat.reduceMul, Int.reduceLE, eqT z466, eqT z467]
  refine j146 _ _ _ true ?_ hm
  refine Norm.mkL (js := [0]) (m := 1) [0, 5, 54] [x0, (.ep 8 (.sl 8 n 0 1 1 true) 0 0), (.bool true)] (of_decide_eq_true rfl) ?_ (RnL.cons (.keep _ (slH_lt h0)) (RnL.cons (Rn.ptr (js := [0]) 0 0) (RnL.cons (.keep _ (.bool _)) RnL.nil))) (RowsR.row 0 _ _ _ _ hp_get0 (RnL.cons (.keep _ (tyRec_76.lt _ _ _ gh2)) RnL.nil) RowsR.nil) rfl
  kernel_rfl
  replace hm := ifF z467 hm
  refine WQ.region hT rfl ?_
  simp only [go_sem, ↓reduceIte, reduceCtorEq, Nat.reduceEqDiff, Nat.reduceLT, Nat.reduceLeDiff, Nat.reduceAdd, Nat.reduceMul, Int.reduceLE]
  refine c55 gh2 ?_
  unfold sealK; simp only [go_sem, ↓reduceIte, reduceCtorEq, Nat.reduceEqDiff, Nat.reduceLT, Nat.reduceLeDiff, Nat.reduceAdd, Nat.reduceMul, Int.reduceLE, eqT z466, eqF z467]
  refine j146 _ _ _ (decide (v2.old ≠ v123.value)) ?_ hm
  refine Norm.mkL (js := [0]) (m := 1) [0, 5, 54] [x0, (.ep 8 (.sl 8 n 0 1 1 true) 0 0), (.bool (decide (v2.old ≠ v123.value)))] (of_decide_eq_true rfl) ?_ (RnL.cons (.keep _ (slH_lt h0)) (RnL.cons (Rn.ptr (js := [0]) 0 0) (RnL.cons (.keep _ (.bool _)) RnL.nil))) (RowsR.row 0 _ _ _ _ hp_get0 (RnL.cons (.keep _ (tyRec_76.lt _ _ _ gh2)) RnL.nil) RowsR.nil) rfl
  kernel_rfl
  replace hm := ifF z466 hm
  refine WQ.region hT rfl ?_
  simp only [go_sem, ↓reduceIte, reduceCtorEq, Nat.reduceEqDiff, Nat.reduceLT, Nat.reduceLeDiff, Nat.reduceAdd, Nat.reduceMul, Int.reduceLE]
  refine c55 gh2 ?_
  unfold sealK; simp only [go_sem, ↓reduceIte, reduceCtorEq, Nat.reduceEqDiff, Nat.reduceLT, Nat.reduceLeDiff, Nat.reduceAdd, Nat.reduceMul, Int.reduceLE, eqF z466]
  refine j146 _ _ _ false ?_ hm
  refine Norm.mkL (js := [0]) (m := 1) [0, 5, 54] [x0, (.ep 8 (.sl 8 n 0 1 1 true) 0 0), (.bool false)] (of_decide_eq_true rfl) ?_ (RnL.cons (.keep _ (slH_lt h0)) (RnL.cons (Rn.ptr (js := [0]) 0 0) (RnL.cons (.keep _ (.bool _)) RnL.nil))) (RowsR.row 0 _ _ _ _ hp_get0 (RnL.cons (.keep _ (tyRec_76.lt _ _ _ gh2)) RnL.nil) RowsR.nil) rfl
  kernel_rfl
 clear hK97
 obtain ⟨v469, q468, hm⟩ := obs hm
 rcases Bool.eq_false_or_eq_true (!v469) with z472 | z472
 replace hm := ifT z472 hm
 refine WQ.region hT rfl ?_
 simp only [go_sem, ↓reduceIte, reduceCtorEq, Nat.reduceEqDiff, Nat.reduceLT, Nat.reduceLeDiff, Nat.reduceAdd, Nat.reduceMul, Int.reduceLE, rdSl_hp q12 (slH_lt h0), l14, c16, g17]
 refine w_i_kindsOf (SlH.up h0 2) i26 (slH_own (j := 1) (m := 2) (hp_get 1) (show All2 Int64R [(.int .i64 1)] [1] from (.cons (int64R (i64c (a := 1) rfl)) .nil)) (of_decide_eq_true rfl) rfl rfl) q468 (fun y470 h471 => ?_)
 obtain rfl := h471
 unfold sealK; simp only [go_sem, ↓reduceIte, reduceCtorEq, Nat.reduceEqDiff, Nat.reduceLT, Nat.reduceLeDiff, Nat.reduceAdd, Nat.reduceMul, Int.reduceLE, rdSl_hp q12 (slH_lt h0), l14, c16, g17, eqT z472]
 refine j108 _ _ _ true ?_ hm
 refine Norm.mkL (js := [0]) (m := 1) [0, 1, 5, 33] [x0, x1, (.ep 8 (.sl 8 n 0 1 1 true) 0 0), (.bool true)] (of_decide_eq_true rfl) ?_ (RnL.cons (.keep _ (slH_lt h0)) (RnL.cons (.keep _ (slH_lt h1)) (RnL.cons (Rn.ptr (js := [0]) 0 0) (RnL.cons (.keep _ (.bool _)) RnL.nil)))) (RowsR.row 0 _ _ _ _ hp_get0 (RnL.cons (.keep _ (tyRec_76.lt _ _ _ gh2)) RnL.nil) RowsR.nil) rfl
 kernel_rfl
 replace hm := ifF z472 hm
 obtain ⟨v474, q473, hm⟩ := obs hm
 refine WQ.region hT rfl ?_
 simp only [go_sem, ↓reduceIte, reduceCtorEq, Nat.reduceEqDiff, Nat.reduceLT, Nat.reduceLeDiff, Nat.reduceAdd, Nat.reduceMul, Int.reduceLE, rdSl_hp q12 (slH_lt h0), l14, c16, g17]
 refine w_i_kindsOf (SlH.up h0 2) i26 (slH_own (j := 1) (m := 2) (hp_get 1) (show All2 Int64R [(.int .i64 1)] [1] from (.cons (int64R (i64c (a := 1) rfl)) .nil)) (of_decide_eq_true rfl) rfl rfl) q468 (fun y470 h471 => ?_)
 obtain rfl := h471
 unfold sealK; simp only [go_sem, ↓reduceIte, reduceCtorEq, Nat.reduceEqDiff, Nat.reduceLT, Nat.reduceLeDiff, Nat.reduceAdd, Nat.reduceMul, Int.reduceLE, rdSl_hp q12 (slH_lt h0), l14, c16, g17, eqF z472]
 refine w_i_kindsOf (SlH.up h0 3) i26 (slH_own (j := 2) (m := 3) (hp_get 2) (show All2 Int64R [(.int .i64 3), (.int .i64 4)] [3, 4] from (.cons (int64R (i64c (a := 3) rfl)) (.cons (int64R (i64c (a := 4) rfl)) .nil))) (of_decide_eq_true rfl) rfl rfl) q473 (fun y475 h476 => ?_)
 obtain rfl := h476
 unfold sealK; simp only [go_sem, ↓reduceIte, reduceCtorEq, Nat.reduceEqDiff, Nat.reduceLT, Nat.reduceLeDiff, Nat.reduceAdd, Nat.reduceMul, Int.reduceLE, rdSl_hp q12 (slH_lt h0), l14, c16, g17, eqF z472]
 refine j108 _ _ _ v474 ?_ hm
 refine Norm.mkL (js := [0]) (m := 1) [0, 1, 5, 33] [x0, x1, (.ep 8 (.sl 8 n 0 1 1 true) 0 0), (.bool v474)] (of_decide_eq_true rfl) ?_ (RnL.cons (.keep _ (slH_lt h0)) (RnL.cons (.keep _ (slH_lt h1)) (RnL.cons (Rn.ptr (js := [0]) 0 0) (RnL.cons (.keep _ (.bool _)) RnL.nil)))) (RowsR.row 0 _ _ _ _ hp_get0 (RnL.cons (.keep _ (tyRec_76.lt _ _ _ gh2)) RnL.nil) RowsR.nil) rfl
 kernel_rfl
def m_g_Clone_Cell_a1 (fu : Nat) (v31 : List CellD) : Option (List CellD) :=
  some v31
def m_g_Clone_Cell (fu : Nat) (b0 : Bool) (v0 : List CellD) : Option (List CellD) :=
  (if b0 = true then some ([] : List CellD) else (Option.bind (appL 16 ([] : List CellD) v0) fun v39 => (m_g_Clone_Cell_a1 fu v39)))
set_option maxHeartbeats 2000000 in
theorem w_g_Clone_Cell {x0 : AV} {v0 : List CellD} (h0 : (SlH h n 2 CellR) x0 v0) {b0 : Bool} (hb0 : b0 = isNil x0) {fu : Nat} {r : (List CellD)} (hm : m_g_Clone_Cell fu b0 v0 = some r) (hkN : r = [] → K .nils h n) (hkO : ∀ es, All2 CellR es r → es.length ≤ 140737488355328 → K (.sl 2 n 0 r.length r.length false) (hp h n [some es]) (n + 1)) : CA Try.prog 107 [x0] h n K := by
 refine CA.enterQ (N := 8) (rs := [.tmp 2]) hT Try.call107 Try.func107 rfl rfl (of_decide_eq_true rfl) rfl fun hlt => ?_
 unfold m_g_Clone_Cell at hm
 obtain ⟨es11, q12, a13, l14, b15, c16, g17⟩ := slH_open h0
 refine WQ.sr hT rfl fun K18 hK18 => ?_
 simp only [go_sem, ↓reduceIte, reduceCtorEq, Nat.reduceEqDiff, Nat.reduceLT, Nat.reduceLeDiff, Nat.reduceAdd, Nat.reduceMul, Int.reduceLE]
 refine kn hK18 ?_
 clear hK18 K18
 refine WQ.seq_k fun K19 hK19 => ?_
 refine WQ.sr hT rfl fun K23 hK23 => ?_
 simp only [go_sem, ↓reduceIte, reduceCtorEq, Nat.reduceEqDiff, Nat.reduceLT, Nat.reduceLeDiff, Nat.reduceAdd, Nat.reduceMul, Int.reduceLE, rdSl_hp q12 (slH_lt h0), l14, c16, g17, nil_eq (T := T) (t := 47) (el := 123) h0 hb0 rfl]
 refine kn hK23 ?_
 clear hK23 K23
 refine WQ.cond (t := b0) ?_ (fun z24 => ?_) (fun z24 => ?_)
 kernel_rfl
 replace hm := ifT z24 hm
 refine WQ.sr hT rfl fun K25 hK25 => ?_
 simp only [go_sem, ↓reduceIte, reduceCtorEq, Nat.reduceEqDiff, Nat.reduceLT, Nat.reduceLeDiff, Nat.reduceAdd, Nat.reduceMul, Int.reduceLE]
 refine kn hK25 ?_
 clear hK25 K25
 replace hm : some ([] : List CellD) = some r := hm
 refine WQ.norm (E2 := envZ [2] [.nils]) (h2 := hp h n []) (n2 := n) ?_ (WQ.ret ?_)
 refine Norm.mkL (js := []) (m := 0) [2] [.nils] (of_decide_eq_true rfl) ?_ (RnL.cons (.keep _ .nils) RnL.nil) RowsR.nil rfl
 kernel_rfl
 refine ⟨_, rfl, ret_hp hlt .nils ?_⟩
 rw [← Option.some.inj hm] at hkN
 exact hkN rfl
 replace hm := ifF z24 hm
 refine WQ.skip ?_
 simp only [go_sem, ↓reduceIte, reduceCtorEq, Nat.reduceEqDiff, Nat.reduceLT, Nat.reduceLeDiff, Nat.reduceAdd, Nat.reduceMul, Int.reduceLE]
 refine kn hK19 ?_
 clear hK19 K19
 refine WQ.seq_k fun K26 hK26 => ?_
 have j34 : ∀ (E' : Env) (h' : Heap) (n' : Nat) (es30 : List AV) (v31 : List CellD) (a32 : All2 CellR es30 v31) (b33 : es30.length ≤ 140737488355328), Norm n h E' h' n' (envZ [2] [(.sl 2 n 0 v31.length v31.length false)]) (hp h n [some es30]) (n + 1) → (m_g_Clone_Cell_a1 fu v31) = some r → K26 E' h' n' := by
  intro E36 H37 n38 es30 v31 a32 b33 N35 hm
  refine hK26 _ _ _ _ _ _ N35 ?_
  clear N35 hK26 K26
  unfold m_g_Clone_Cell_a1 at hm
  replace hm : some v31 = some r := hm
  refine WQ.norm (E2 := envZ [2] [(.sl 2 n 0 v31.length v31.length false)]) (h2 := hp h n [some es30]) (n2 := n + 1) ?_ (WQ.ret ?_)
  refine Norm.mkL (js := [0]) (m := 1) [2] [(.sl 2 n 0 v31.length v31.length false)] (of_decide_eq_true rfl) ?_ (RnL.cons (Rn.own (js := [0]) 0 0) RnL.nil) (RowsR.row 0 _ _ _ _ hp_get0 (RnL.all2 a32 tyCell_123.lt) RowsR.nil) rfl
  kernel_rfl
  refine ⟨_, rfl, _, _, _, .keep _ _ _ _ (fun _ _ h => h), ?_⟩
  rw [← Option.some.inj hm] at hkO
  exact hkO _ a32 b33
 clear hK26
 obtain ⟨v39, q40, hm⟩ := obs hm
 rcases nil_or v0 with z41 | z41
 refine WQ.region hT rfl ?_
 simp only [go_sem, ↓reduceIte, reduceCtorEq, Nat.reduceEqDiff, Nat.reduceLT, Nat.reduceLeDiff, Nat.reduceAdd, Nat.reduceMul, Int.reduceLE, rdSl_hp q12 (slH_lt h0), l14, c16, g17]
 refine ⟨123, rfl, app_exN (j := 0) rfl (of_decide_eq_true rfl) rfl ?_ ?_ rfl q40 (show All2 CellR [] [] from .nil) a13 z41 ?_⟩
 simp only [go_sem, ↓reduceIte, reduceCtorEq, Nat.reduceEqDiff, Nat.reduceLT, Nat.reduceLeDiff, Nat.reduceAdd, Nat.reduceMul, Int.reduceLE, rdSl_hp q12 (slH_lt h0), l14, c16, g17]
 simp only [go_sem, ↓reduceIte, reduceCtorEq, Nat.reduceEqDiff, Nat.reduceLT, Nat.reduceLeDiff, Nat.reduceAdd, Nat.reduceMul, Int.reduceLE]
 unfold sealK; simp only [go_sem, ↓reduceIte, reduceCtorEq, Nat.reduceEqDiff, Nat.reduceLT, Nat.reduceLeDiff, Nat.reduceAdd, Nat.reduceMul, Int.reduceLE, rdSl_hp q12 (slH_lt h0), l14, c16, g17, (all2_length (app_all2n q40 z41 (show All2 CellR [] [] from .nil))).symm]
 refine j34 _ _ _ ([]) v39 (app_all2n q40 z41 (show All2 CellR [] [] from .nil)) (of_decide_eq_true rfl) ?_ hm
 refine Norm.mkL (js := [0]) (m := 1) [2] [(.sl 2 n 0 0 0 true)] (of_decide_eq_true rfl) ?_ (RnL.cons (Rn.ownE (js := [0]) 0 0 (all2_length (app_all2n q40 z41 (show All2 CellR [] [] from .nil))).symm) RnL.nil) (RowsR.row 0 _ _ _ _ hp_get0 (RnL.all2 (app_all2n q40 z41 (show All2 CellR [] [] from .nil)) tyCell_123.lt) RowsR.nil) rfl
 kernel_rfl
 refine WQ.region hT rfl ?_
 simp only [go_sem, ↓reduceIte, reduceCtorEq, Nat.reduceEqDiff, Nat.reduceLT, Nat.reduceLeDiff, Nat.reduceAdd, Nat.reduceMul, Int.reduceLE, rdSl_hp q12 (slH_lt h0), l14, c16, g17]
 refine ⟨123, rfl, app_exC (j := 0) rfl (of_decide_eq_true rfl) rfl ?_ ?_ rfl q40 (show All2 CellR [] [] from .nil) a13 z41 ?_⟩
 simp only [go_sem, ↓reduceIte, reduceCtorEq, Nat.reduceEqDiff, Nat.reduceLT, Nat.reduceLeDiff, Nat.reduceAdd, Nat.reduceMul, Int.reduceLE, rdSl_hp q12 (slH_lt h0), l14, c16, g17]
 simp only [go_sem, ↓reduceIte, reduceCtorEq, Nat.reduceEqDiff, Nat.reduceLT, Nat.reduceLeDiff, Nat.reduceAdd, Nat.reduceMul, Int.reduceLE]
 unfold sealK; simp only [go_sem, ↓reduceIte, reduceCtorEq, Nat.reduceEqDiff, Nat.reduceLT, Nat.reduceLeDiff, Nat.reduceAdd, Nat.reduceMul, Int.reduceLE, rdSl_hp q12 (slH_lt h0), l14, c16, g17, all2_length (app_all2 q40 (show All2 CellR [] [] from .nil) a13), own_take (app_all2 q40 (show All2 CellR [] [] from .nil) a13)]
 refine j34 _ _ _ ([] ++ es11) v39 (app_all2 q40 (show All2 CellR [] [] from .nil) a13) (app_len q40 (show All2 CellR [] [] from .nil) a13) ?_ hm
 refine Norm.mkL (js := [1]) (m := 1) [2] [(.sl 2 (n + 1) 0 v39.length v39.length false)] (of_decide_eq_true rfl) ?_ (RnL.cons (Rn.own (js := [1]) 1 0) RnL.nil) (RowsR.row 1 _ _ _ _ (hp_get 1) (RnL.all2 (app_all2 q40 (show All2 CellR [] [] from .nil) a13) tyCell_123.lt) RowsR.nil) rfl
 kernel_rfl
theorem wc_g_Clone_Cell {x0 : AV} {v0 : List CellD} (h0 : SlH h n 2 CellR x0 v0) {r : List CellD} (hq : appL 16 ([] : List CellD) v0 = some r) (hkN : r = [] → K .nils h n) (hkO : ∀ es, All2 CellR es r → es.length ≤ 140737488355328 → K (.sl 2 n 0 r.length r.length false) (hp h n [some es]) (n + 1)) : CA Try.prog 107 [x0] h n K := by
  refine w_g_Clone_Cell h0 rfl (fu := 0) ?_ hkN hkO
  unfold m_g_Clone_Cell m_g_Clone_Cell_a1
  cases hb : isNil x0 with
  | true =>
    have hz := slH_isNil h0 hb
    subst hz
    rw [if_pos rfl, ← hq, app_nil_nil]
  | false => rw [if_neg (by decide), hq]; rfl
def m_i_withCell_a1 (fu : Nat) (v127 : List CellD) : Option (List CellD) :=
  some v127
def m_i_withCell_a2 (fu : Nat) (v1 : Int) (v2 : Int) (v28 : List CellD) : Option (List CellD) :=
  (Option.bind (m_i_place fu v28 v1) fun v44 => (if v44.2 = true then (Option.bind (atL v28 v44.1) fun a101 => some (v28.set (Int.toNat v44.1) (CellD.mk a101.key v2))) else (Option.bind (insL 16 v28 v44.1 (CellD.mk v1 v2)) fun v139 => (m_i_withCell_a1 fu v139))))
def m_i_withCell (fu : Nat) (v0 : List CellD) (v1 : Int) (v2 : Int) : Option (List CellD) :=
  (Option.bind (appL 16 ([] : List CellD) v0) fun v149 => (m_i_withCell_a2 fu v1 v2 v149))
set_option maxHeartbeats 2000000 in
theorem w_i_withCell {x0 : AV} {v0 : List CellD} (h0 : (SlH h n 2 CellR) x0 v0) {v1 : Int} (i1 : I64 v1) {v2 : Int} (i2 : I64 v2) {fu : Nat} {r : (List CellD)} (hm : m_i_withCell fu v0 v1 v2 = some r) (hk : ∀ y, (SlR 2 CellR) y r → K y h n) : CA Try.prog 56 [x0, (.int .i64 v1), (.int .i64 v2)] h n K := by
 refine CA.enterQ (N := 32) (rs := [.tmp 6]) hT Try.call56 Try.func56 rfl rfl (of_decide_eq_true rfl) rfl fun hlt => ?_
 unfold m_i_withCell at hm
 obtain ⟨es11, q12, a13, l14, b15, c16, g17⟩ := slH_open h0
 refine WQ.sr hT rfl fun K18 hK18 => ?_
 simp only [go_sem, ↓reduceIte, reduceCtorEq, Nat.reduceEqDiff, Nat.reduceLT, Nat.reduceLeDiff, Nat.reduceAdd, Nat.reduceMul, Int.reduceLE]
 refine kn hK18 ?_
 clear hK18 K18
 refine WQ.seq_k fun K19 hK19 => ?_
 have j30 : ∀ (E' : Env) (h' : Heap) (n' : Nat) (x26 : AV) (rw27 : Option (List AV)) (v28 : List CellD) (h29 : NOwn n 0 2 CellR x26 rw27 v28), Norm n h E' h' n' (envZ [1, 2, 7] [(.int .i64 v1), (.int .i64 v2), x26]) (hp h n [rw27]) (n + 1) → (m_i_withCell_a2 fu v1 v2 v28) = some r → K19 E' h' n' := by
  intro E32 H33 n34 x26 rw27 v28 h29 N31 hm
  refine hK19 _ _ _ _ _ _ N31 ?_
  clear N31 hK19 K19
  unfold m_i_withCell_a2 at hm
  obtain ⟨v44, q43, hm⟩ := obs hm
  refine WQ.sr hT rfl fun K35 hK35 => ?_
  simp only [go_sem, ↓reduceIte, reduceCtorEq, Nat.reduceEqDiff, Nat.reduceLT, Nat.reduceLeDiff, Nat.reduceAdd, Nat.reduceMul, Int.reduceLE, nown_rd h29, nown_len h29, nown_cells h29, nown_good h29]
  refine w_i_place (nown_H (j := 0) (m := 1) h29 hp_get0 rfl) i1 q43 (fun y45 h46 y48 h49 => ?_)
  obtain ⟨rfl, i47⟩ := h46
  obtain rfl := h49
  unfold sealK; simp only [go_sem, ↓reduceIte, reduceCtorEq, Nat.reduceEqDiff, Nat.reduceLT, Nat.reduceLeDiff, Nat.reduceAdd, Nat.reduceMul, Int.reduceLE, nown_rd h29, nown_len h29, nown_cells h29, nown_good h29]
  refine kn hK35 ?_
  clear hK35 K35
  refine WQ.seq_k fun K50 hK50 => ?_
  refine WQ.sr hT rfl fun K81 hK81 => ?_
  simp only [go_sem, ↓reduceIte, reduceCtorEq, Nat.reduceEqDiff, Nat.reduceLT, Nat.reduceLeDiff, Nat.reduceAdd, Nat.reduceMul, Int.reduceLE]
  refine kn hK81 ?_
  clear hK81 K81
  refine WQ.cond (t := v44.2) ?_ (fun z82 => ?_) (fun z82 => ?_)
  kernel_rfl
  replace hm := ifT z82 hm
  refine WQ.seq_k fun K83 hK83 => ?_
  rcases h29 with ⟨rfl, rfl, z97⟩ | ⟨es98, rfl, rfl, a99, b100⟩
  obtain ⟨_, q0, _⟩ := obs hm
  exact (at_nilE q0 z97).elim
  obtain ⟨a101, q102, hm⟩ := obs hm
  obtain ⟨p103, p104, e105, p106, h107⟩ := at_ok q102 a99
  have gh107 := h107
  obtain ⟨rfl, i108, i109⟩ := h107
  refine WQ.region hT rfl ?_
  simp only [go_sem, ↓reduceIte, reduceCtorEq, Nat.reduceEqDiff, Nat.reduceLT, Nat.reduceLeDiff, Nat.reduceAdd, Nat.reduceMul, Int.reduceLE, all2_length (all2_set a99 (show CellR (.agg [(.int .i64 a101.key), (.int .i64 v2)]) (CellD.mk a101.key v2) from ⟨rfl, i108, i2⟩)), own_take (all2_set a99 (show CellR (.agg [(.int .i64 a101.key), (.int .i64 v2)]) (CellD.mk a101.key v2) from ⟨rfl, i108, i2⟩)), all2_length a99, own_take a99, List.length_set, p103, p104, p106]
  refine kn hK83 ?_
  clear hK83 K83
  refine WQ.sr hT rfl fun K110 hK110 => ?_
  simp only [go_sem, ↓reduceIte, reduceCtorEq, Nat.reduceEqDiff, Nat.reduceLT, Nat.reduceLeDiff, Nat.reduceAdd, Nat.reduceMul, Int.reduceLE, all2_length (all2_set a99 (show CellR (.agg [(.int .i64 a101.key), (.int .i64 v2)]) (CellD.mk a101.key v2) from ⟨rfl, i108, i2⟩)), own_take (all2_set a99 (show CellR (.agg [(.int .i64 a101.key), (.int .i64 v2)]) (CellD.mk a101.key v2) from ⟨rfl, i108, i2⟩)), all2_length a99, own_take a99, List.length_set]
  refine kn hK110 ?_
  clear hK110 K110
  refine retN (t := 6) (js := []) (u := (.sl 2 n 0 v28.length v28.length false)) (v := (.ro 2 false (es98.set (Int.toNat v44.1) (.agg [(.int .i64 a101.key), (.int .i64 v2)])))) hlt ?_ (Rn.frzA 0 rfl (of_decide_eq_true rfl) (RnL.all2 (all2_set a99 (show CellR (.agg [(.int .i64 a101.key), (.int .i64 v2)]) (CellD.mk a101.key v2) from ⟨rfl, i108, i2⟩)) tyCell_123.lt) ((all2_length (all2_set a99 (show CellR (.agg [(.int .i64 a101.key), (.int .i64 v2)]) (CellD.mk a101.key v2) from ⟨rfl, i108, i2⟩))).trans List.length_set).symm) (slr_ltA _ _ _ (own_fro (all2_set a99 (show CellR (.agg [(.int .i64 a101.key), (.int .i64 v2)]) (CellD.mk a101.key v2) from ⟨rfl, i108, i2⟩)) (len_set b100) tyCell_123.lt)) rfl ?_
  kernel_rfl
  exact hkr hk (m := (v28.set (Int.toNat v44.1) (CellD.mk a101.key v2))) hm (own_fro (all2_set a99 (show CellR (.agg [(.int .i64 a101.key), (.int .i64 v2)]) (CellD.mk a101.key v2) from ⟨rfl, i108, i2⟩)) (len_set b100) tyCell_123.lt)
  replace hm := ifF z82 hm
  refine WQ.skip ?_
  simp only [go_sem, ↓reduceIte, reduceCtorEq, Nat.reduceEqDiff, Nat.reduceLT, Nat.reduceLeDiff, Nat.reduceAdd, Nat.reduceMul, Int.reduceLE]
  refine kn hK50 ?_
  clear hK50 K50
  refine WQ.seq_k fun K111 hK111 => ?_
  have j130 : ∀ (E' : Env) (h' : Heap) (n' : Nat) (es126 : List AV) (v127 : List CellD) (a128 : All2 CellR es126 v127) (b129 : es126.length ≤ 140737488355328), Norm n h E' h' n' (envZ [6] [(.sl 2 n 0 v127.length v127.length false)]) (hp h n [some es126]) (n + 1) → (m_i_withCell_a1 fu v127) = some r → K111 E' h' n' := by
   intro E132 H133 n134 es126 v127 a128 b129 N131 hm
   refine hK111 _ _ _ _ _ _ N131 ?_
   clear N131 hK111 K111
   unfold m_i_withCell_a1 at hm
   refine retN (t := 6) (js := []) (u := (.sl 2 n 0 v127.length v127.length false)) (v := (.ro 2 false es126)) hlt ?_ (Rn.frzA 0 rfl (of_decide_eq_true rfl) (RnL.all2 a128 tyCell_123.lt) (all2_length a128).symm) (slr_ltA _ _ _ (own_fro a128 b129 tyCell_123.lt)) rfl ?_
   kernel_rfl
   exact hkr hk (m := v127) hm (own_fro a128 b129 tyCell_123.lt)
  clear hK111
  rcases h29 with ⟨rfl, rfl, z135⟩ | ⟨es136, rfl, rfl, a137, b138⟩
  obtain ⟨v139, q140, hm⟩ := obs hm
  refine WQ.region hT rfl ?_
  simp only [go_sem, ↓reduceIte, reduceCtorEq, Nat.reduceEqDiff, Nat.reduceLT, Nat.reduceLeDiff, Nat.reduceAdd, Nat.reduceMul, Int.reduceLE]
  refine d109n (insL_nilE z135 q140) (show CellR (.agg [(.int .i64 v1), (.int .i64 v2)]) (CellD.mk v1 v2) from ⟨rfl, i1, i2⟩) (lt_row (j := 1) (m := 2) rfl) (hp_get 1) (fun es141 a142 b143 => ?_)
  try unfold sealK
  try simp only [go_sem, ↓reduceIte, reduceCtorEq, Nat.reduceEqDiff, Nat.reduceLT, Nat.reduceLeDiff, Nat.reduceAdd, Nat.reduceMul, Int.reduceLE, all2_length a142, own_take a142]
  refine j130 _ _ _ es141 v139 a142 b143 ?_ hm
  refine Norm.mkL (js := [2]) (m := 1) [6] [(.sl 2 (n + 2) 0 v139.length v139.length false)] (of_decide_eq_true rfl) ?_ (RnL.cons (Rn.own (js := [2]) 2 0) RnL.nil) (RowsR.row 2 _ _ _ _ (hp_get 2) (RnL.all2 a142 tyCell_123.lt) RowsR.nil) rfl
  kernel_rfl
  obtain ⟨v144, q145, hm⟩ := obs hm
  refine WQ.region hT rfl ?_
  simp only [go_sem, ↓reduceIte, reduceCtorEq, Nat.reduceEqDiff, Nat.reduceLT, Nat.reduceLeDiff, Nat.reduceAdd, Nat.reduceMul, Int.reduceLE, all2_length a137, own_take a137]
  refine d109 q145 a137 (show CellR (.agg [(.int .i64 v1), (.int .i64 v2)]) (CellD.mk v1 v2) from ⟨rfl, i1, i2⟩) (lt_row (j := 0) (m := 2) rfl) (lt_row (j := 1) (m := 2) rfl) (row_ne 1 0 rfl) hp_get0 (all2_length a137) (hp_get 1) (fun es146 a147 b148 => ?_)
  try unfold sealK
  try simp only [go_sem, ↓reduceIte, reduceCtorEq, Nat.reduceEqDiff, Nat.reduceLT, Nat.reduceLeDiff, Nat.reduceAdd, Nat.reduceMul, Int.reduceLE, all2_length a137, own_take a137, all2_length a147, own_take a147]
  refine j130 _ _ _ es146 v144 a147 b148 ?_ hm
  refine Norm.mkL (js := [2]) (m := 1) [6] [(.sl 2 (n + 2) 0 v144.length v144.length false)] (of_decide_eq_true rfl) ?_ (RnL.cons (Rn.own (js := [2]) 2 0) RnL.nil) (RowsR.row 2 _ _ _ _ (hp_get 2) (RnL.all2 a147 tyCell_123.lt) RowsR.nil) rfl
  kernel_rfl
 clear hK19
 obtain ⟨v149, q150, hm⟩ := obs hm
 refine WQ.region hT rfl ?_
 simp only [go_sem, ↓reduceIte, reduceCtorEq, Nat.reduceEqDiff, Nat.reduceLT, Nat.reduceLeDiff, Nat.reduceAdd, Nat.reduceMul, Int.reduceLE, rdSl_hp q12 (slH_lt h0), l14, c16, g17]
 refine wc_g_Clone_Cell (SlH.up h0 0) q150 (fun z151 => ?_) (fun es152 a153 b154 => ?_)
 try unfold sealK
 try simp only [go_sem, ↓reduceIte, reduceCtorEq, Nat.reduceEqDiff, Nat.reduceLT, Nat.reduceLeDiff, Nat.reduceAdd, Nat.reduceMul, Int.reduceLE, rdSl_hp q12 (slH_lt h0), l14, c16, g17]
 refine j30 _ _ _ .nils none v149 (nown_nil z151) ?_ hm
 refine Norm.mkL (js := [1000]) (m := 1) [1, 2, 7] [(.int .i64 v1), (.int .i64 v2), .nils] (of_decide_eq_true rfl) ?_ (RnL.cons (.keep _ (.int _ _)) (RnL.cons (.keep _ (.int _ _)) (RnL.cons (.keep _ .nils) RnL.nil))) (RowsR.opt 1000 none _ _ (.inl rfl) (fun _ h => nomatch h) RowsR.nil) rfl
 kernel_rfl
 try unfold sealK
 try simp only [go_sem, ↓reduceIte, reduceCtorEq, Nat.reduceEqDiff, Nat.reduceLT, Nat.reduceLeDiff, Nat.reduceAdd, Nat.reduceMul, Int.reduceLE, rdSl_hp q12 (slH_lt h0), l14, c16, g17, all2_length a153, own_take a153]
 refine j30 _ _ _ (.sl 2 n 0 v149.length v149.length false) (some es152) v149 (nown_own a153 b154) ?_ hm
 refine Norm.mkL (js := [0]) (m := 1) [1, 2, 7] [(.int .i64 v1), (.int .i64 v2), (.sl 2 n 0 v149.length v149.length false)] (of_decide_eq_true rfl) ?_ (RnL.cons (.keep _ (.int _ _)) (RnL.cons (.keep _ (.int _ _)) (RnL.cons (Rn.own (js := [0]) 0 0) RnL.nil))) (RowsR.row 0 _ _ _ _ hp_get0 (RnL.all2 a153 tyCell_123.lt) RowsR.nil) rfl
 kernel_rfl
def m_i_without_a1 (fu : Nat) (v69 : List CellD) : Option (List CellD) :=
  some v69
def m_i_without_a2 (fu : Nat) (v1 : Int) (v28 : List CellD) : Option (List CellD) :=
  (Option.bind (m_i_place fu v28 v1) fun v89 => (if v89.2 = true then (Option.bind (delL 16 v28 v89.1 (IntKind.i64.wrap (v89.1 + 1))) fun v106 => (m_i_without_a1 fu v106)) else (m_i_without_a1 fu v28)))
def m_i_without (fu : Nat) (v0 : List CellD) (v1 : Int) : Option (List CellD) :=
  (Option.bind (appL 16 ([] : List CellD) v0) fun v111 => (m_i_without_a2 fu v1 v111))
set_option maxHeartbeats 2000000 in
theorem w_i_without {x0 : AV} {v0 : List CellD} (h0 : (SlH h n 2 CellR) x0 v0) {v1 : Int} (i1 : I64 v1) {fu : Nat} {r : (List CellD)} (hm : m_i_without fu v0 v1 = some r) (hk : ∀ y, (SlR 2 CellR) y r → K y h n) : CA Try.prog 57 [x0, (.int .i64 v1)] h n K := by
 refine CA.enterQ (N := 23) (rs := [.tmp 4]) hT Try.call57 Try.func57 rfl rfl (of_decide_eq_true rfl) rfl fun hlt => ?_
 unfold m_i_without at hm
 obtain ⟨es11, q12, a13, l14, b15, c16, g17⟩ := slH_open h0
 refine WQ.sr hT rfl fun K18 hK18 => ?_
 simp only [go_sem, ↓reduceIte, reduceCtorEq, Nat.reduceEqDiff, Nat.reduceLT, Nat.reduceLeDiff, Nat.reduceAdd, Nat.reduceMul, Int.reduceLE]
 refine kn hK18 ?_
 clear hK18 K18
 refine WQ.seq_k fun K19 hK19 => ?_
 have j30 : ∀ (E' : Env) (h' : Heap) (n' : Nat) (x26 : AV) (rw27 : Option (List AV)) (v28 : List CellD) (h29 : NOwn n 0 2 CellR x26 rw27 v28), Norm n h E' h' n' (envZ [1, 5] [(.int .i64 v1), x26]) (hp h n [rw27]) (n + 1) → (m_i_without_a2 fu v1 v28) = some r → K19 E' h' n' := by
  intro E32 H33 n34 x26 rw27 v28 h29 N31 hm
  refine hK19 _ _ _ _ _ _ N31 ?_
  clear N31 hK19 K19
  unfold m_i_without_a2 at hm
  refine WQ.seq_k fun K35 hK35 => ?_
  have j71 : ∀ (E' : Env) (h' : Heap) (n' : Nat) (x67 : AV) (rw68 : Option (List AV)) (v69 : List CellD) (h70 : NOwn n 0 2 CellR x67 rw68 v69), Norm n h E' h' n' (envZ [5] [x67]) (hp h n [rw68]) (n + 1) → (m_i_without_a1 fu v69) = some r → K35 E' h' n' := by
   intro E73 H74 n75 x67 rw68 v69 h70 N72 hm
   refine hK35 _ _ _ _ _ _ N72 ?_
   clear N72 hK35 K35
   unfold m_i_without_a1 at hm
   refine WQ.sr hT rfl fun K76 hK76 => ?_
   simp only [go_sem, ↓reduceIte, reduceCtorEq, Nat.reduceEqDiff, Nat.reduceLT, Nat.reduceLeDiff, Nat.reduceAdd, Nat.reduceMul, Int.reduceLE, nown_rd h70, nown_len h70, nown_cells h70, nown_good h70]
   refine kn hK76 ?_
   clear hK76 K76
   obtain ⟨x77, r78, h79⟩ := nown_frz (h := h) (js := []) (rows := [rw68]) h70 rfl (of_decide_eq_true rfl) tyCell_123.lt
   refine retN (t := 4) (js := []) (u := x67) (v := x77) hlt ?_ r78 (slr_ltA _ _ _ h79) rfl ?_
   kernel_rfl
   exact hkr hk (m := v69) hm h79
  clear hK35
  obtain ⟨v89, q88, hm⟩ := obs hm
  refine WQ.sr hT rfl fun K80 hK80 => ?_
  simp only [go_sem, ↓reduceIte, reduceCtorEq, Nat.reduceEqDiff, Nat.reduceLT, Nat.reduceLeDiff, Nat.reduceAdd, Nat.reduceMul, Int.reduceLE, nown_rd h29, nown_len h29, nown_cells h29, nown_good h29]
  refine w_i_place (nown_H (j := 0) (m := 1) h29 hp_get0 rfl) i1 q88 (fun y90 h91 y93 h94 => ?_)
  obtain ⟨rfl, i92⟩ := h91
  obtain rfl := h94
  unfold sealK; simp only [go_sem, ↓reduceIte, reduceCtorEq, Nat.reduceEqDiff, Nat.reduceLT, Nat.reduceLeDiff, Nat.reduceAdd, Nat.reduceMul, Int.reduceLE, nown_rd h29, nown_len h29, nown_cells h29, nown_good h29]
  refine kn hK80 ?_
  clear hK80 K80
  refine WQ.sr hT rfl fun K95 hK95 => ?_
  simp only [go_sem, ↓reduceIte, reduceCtorEq, Nat.reduceEqDiff, Nat.reduceLT, Nat.reduceLeDiff, Nat.reduceAdd, Nat.reduceMul, Int.reduceLE]
  refine kn hK95 ?_
  clear hK95 K95
  refine WQ.cond (t := v89.2) ?_ (fun z96 => ?_) (fun z96 => ?_)
  kernel_rfl
  replace hm := ifT z96 hm
  rcases h29 with ⟨rfl, rfl, z97⟩ | ⟨es98, rfl, rfl, a99, b100⟩
  obtain ⟨v101, q102, hm⟩ := obs hm
  refine WQ.region hT rfl ?_
  simp only [go_sem, ↓reduceIte, reduceCtorEq, Nat.reduceEqDiff, Nat.reduceLT, Nat.reduceLeDiff, Nat.reduceAdd, Nat.reduceMul, Int.reduceLE]
  exact (delL_nilE z97 q102 i92).elim
  obtain ⟨v106, q107, hm⟩ := obs hm
  refine WQ.region hT rfl ?_
  simp only [go_sem, ↓reduceIte, reduceCtorEq, Nat.reduceEqDiff, Nat.reduceLT, Nat.reduceLeDiff, Nat.reduceAdd, Nat.reduceMul, Int.reduceLE, all2_length a99, own_take a99]
  refine d110 q107 a99 (lt_row (j := 0) (m := 1) rfl) hp_get0 (all2_length a99) (fun es108 a109 b110 => ?_)
  try unfold sealK
  try simp only [go_sem, ↓reduceIte, reduceCtorEq, Nat.reduceEqDiff, Nat.reduceLT, Nat.reduceLeDiff, Nat.reduceAdd, Nat.reduceMul, Int.reduceLE, all2_length a109, own_take a109, all2_length a99, own_take a99]
  refine j71 _ _ _ (.sl 2 n 0 v106.length v106.length false) (some es108) v106 (nown_own a109 b110) ?_ hm
  refine Norm.mkL (js := [0]) (m := 1) [5] [(.sl 2 n 0 v106.length v106.length false)] (of_decide_eq_true rfl) ?_ (RnL.cons (Rn.own (js := [0]) 0 0) RnL.nil) (RowsR.row 0 _ _ _ _ hp_get0 (RnL.all2 a109 tyCell_123.lt) RowsR.nil) rfl
  kernel_rfl
  replace hm := ifF z96 hm
  refine WQ.skip ?_
  simp only [go_sem, ↓reduceIte, reduceCtorEq, Nat.reduceEqDiff, Nat.reduceLT, Nat.reduceLeDiff, Nat.reduceAdd, Nat.reduceMul, Int.reduceLE]
  refine j71 _ _ _ x26 rw27 v28 h29 ?_ hm
  refine Norm.mkL (js := [0]) (m := 1) [5] [x26] (of_decide_eq_true rfl) ?_ (RnL.cons (nown_rn h29 rfl) RnL.nil) (RowsR.opt 0 _ _ _ (.inr hp_get0) (nown_rows h29 tyCell_123.lt) RowsR.nil) rfl
  kernel_rfl
 clear hK19
 obtain ⟨v111, q112, hm⟩ := obs hm
 refine WQ.region hT rfl ?_
 simp only [go_sem, ↓reduceIte, reduceCtorEq, Nat.reduceEqDiff, Nat.reduceLT, Nat.reduceLeDiff, Nat.reduceAdd, Nat.reduceMul, Int.reduceLE, rdSl_hp q12 (slH_lt h0), l14, c16, g17]
 refine wc_g_Clone_Cell (SlH.up h0 0) q112 (fun z113 => ?_) (fun es114 a115 b116 => ?_)
 try unfold sealK
 try simp only [go_sem, ↓reduceIte, reduceCtorEq, Nat.reduceEqDiff, Nat.reduceLT, Nat.reduceLeDiff, Nat.reduceAdd, Nat.reduceMul, Int.reduceLE, rdSl_hp q12 (slH_lt h0), l14, c16, g17]
 refine j30 _ _ _ .nils none v111 (nown_nil z113) ?_ hm
 refine Norm.mkL (js := [1000]) (m := 1) [1, 5] [(.int .i64 v1), .nils] (of_decide_eq_true rfl) ?_ (RnL.cons (.keep _ (.int _ _)) (RnL.cons (.keep _ .nils) RnL.nil)) (RowsR.opt 1000 none _ _ (.inl rfl) (fun _ h => nomatch h) RowsR.nil) rfl
 kernel_rfl
 try unfold sealK
 try simp only [go_sem, ↓reduceIte, reduceCtorEq, Nat.reduceEqDiff, Nat.reduceLT, Nat.reduceLeDiff, Nat.reduceAdd, Nat.reduceMul, Int.reduceLE, rdSl_hp q12 (slH_lt h0), l14, c16, g17, all2_length a115, own_take a115]
 refine j30 _ _ _ (.sl 2 n 0 v111.length v111.length false) (some es114) v111 (nown_own a115 b116) ?_ hm
 refine Norm.mkL (js := [0]) (m := 1) [1, 5] [(.int .i64 v1), (.sl 2 n 0 v111.length v111.length false)] (of_decide_eq_true rfl) ?_ (RnL.cons (.keep _ (.int _ _)) (RnL.cons (Rn.own (js := [0]) 0 0) RnL.nil)) (RowsR.row 0 _ _ _ _ hp_get0 (RnL.all2 a115 tyCell_123.lt) RowsR.nil) rfl
 kernel_rfl
def m_i_SoundRecs_a1 (fu : Nat) : Option Int :=
  some 0
def m_i_SoundRecs_a2 (fu : Nat) (v1605 : Int) (v1768 : List CellD) : Option (((List CellD) × Int) ⊕ (Unit ⊕ Option Int)) :=
  some (Sum.inl (v1768, IntKind.i64.wrap (v1605 + 1)))
def m_i_SoundRecs_a3 (fu : Nat) (v1603 : List CellD) (v1605 : Int) (a1796 : RecD) (v1895 : Bool) : Option (((List CellD) × Int) ⊕ (Unit ⊕ Option Int)) :=
  (if v1895 = true then (Option.bind (m_i_withCell fu v1603 a1796.key a1796.new) fun v1903 => (m_i_SoundRecs_a2 fu v1605 v1903)) else (if (RecD.turns a1796) = true then (Option.bind (m_i_without fu v1603 a1796.key) fun v1916 => (m_i_SoundRecs_a2 fu v1605 v1916)) else (m_i_SoundRecs_a2 fu v1605 v1603)))
def m_i_SoundRecs_a4 (fu : Nat) (v0 : List RecD) (v1603 : List CellD) (v1605 : Int) : Option (((List CellD) × Int) ⊕ (Unit ⊕ Option Int)) :=
  (if (decide (v1605 < (v0.length : Int))) = true then (Option.bind (atL v0 v1605) fun a1796 => (if (decide (recFault a1796 ≠ 0)) = true then some (Sum.inr (Sum.inr (some (recFault a1796)))) else (Option.bind (sliceL v0 0 v1605) fun v1873 => (Option.bind (m_i_soundNext fu v1873 v1603 a1796) fun v1885 => (if (decide (v1885 ≠ 0)) = true then some (Sum.inr (Sum.inr (some v1885))) else (if (RecD.turns a1796) = true then (m_i_SoundRecs_a3 fu v1603 v1605 a1796 a1796.has) else (m_i_SoundRecs_a3 fu v1603 v1605 a1796 false))))))) else some (Sum.inr (Sum.inl ())))
def m_i_SoundRecs (fu : Nat) (v0 : List RecD) : Option Int :=
  (if (decide (400 < (v0.length : Int))) = true then some 2 else (Option.bind (iterN (fun (s : (List CellD) × Int) => m_i_SoundRecs_a4 fu v0 s.1 s.2) fu (([] : List CellD), 0)) fun q1608 => Sum.elim (fun (b : Unit) => (m_i_SoundRecs_a1 fu)) (fun x => x) q1608))
set_option maxHeartbeats 2000000 in
theorem w_i_SoundRecs {x0 : AV} {v0 : List RecD} (h0 : (SlH h n 8 RecR) x0 v0) {fu : Nat} {r : Int} (hm : m_i_SoundRecs fu v0 = some r) (hk : ∀ y, Int64R y r → K y h n) : CA Try.prog 17 [x0] h n K := by
 refine CA.enterQ (N := 52) (rs := [.tmp 2]) hT Try.call17 Try.func17 rfl rfl (of_decide_eq_true rfl) rfl fun hlt => ?_
 unfold m_i_SoundRecs at hm
 obtain ⟨es11, q12, a13, l14, b15, c16, g17⟩ := slH_open h0
 refine WQ.sr hT rfl fun K18 hK18 => ?_
 simp only [go_sem, ↓reduceIte, reduceCtorEq, Nat.reduceEqDiff, Nat.reduceLT, Nat.reduceLeDiff, Nat.reduceAdd, Nat.reduceMul, Int.reduceLE]
 refine kn hK18 ?_
 clear hK18 K18
 refine WQ.seq_k fun K19 hK19 => ?_
 refine WQ.sr hT rfl fun K23 hK23 => ?_
 simp only [go_sem, ↓reduceIte, reduceCtorEq, Nat.reduceEqDiff, Nat.reduceLT, Nat.reduceLeDiff, Nat.reduceAdd, Nat.reduceMul, Int.reduceLE, rdSl_hp q12 (slH_lt h0), l14, c16, g17]
 refine kn hK23 ?_
 clear hK23 K23
 refine WQ.cond (t := decide (400 < (v0.length : Int))) ?_ (fun z24 => ?_) (fun z24 => ?_)
 kernel_rfl
 replace hm := ifT z24 hm
 refine WQ.sr hT rfl fun K25 hK25 => ?_
 simp only [go_sem, ↓reduceIte, reduceCtorEq, Nat.reduceEqDiff, Nat.reduceLT, Nat.reduceLeDiff, Nat.reduceAdd, Nat.reduceMul, Int.reduceLE]
 refine kn hK25 ?_
 clear hK25 K25
 refine retN (t := 2) (js := []) (u := (.int .i64 2)) (v := (.int .i64 2)) hlt ?_ (.keep _ (.int _ _)) (.int _ _) rfl ?_
 kernel_rfl
 exact hkr hk (m := 2) hm (int64R (i64c (a := 2) rfl))
 replace hm := ifF z24 hm
 refine WQ.skip ?_
 simp only [go_sem, ↓reduceIte, reduceCtorEq, Nat.reduceEqDiff, Nat.reduceLT, Nat.reduceLeDiff, Nat.reduceAdd, Nat.reduceMul, Int.reduceLE]
 refine kn hK19 ?_
 clear hK19 K19
 refine WQ.sr hT rfl fun K26 hK26 => ?_
 simp only [go_sem, ↓reduceIte, reduceCtorEq, Nat.reduceEqDiff, Nat.reduceLT, Nat.reduceLeDiff, Nat.reduceAdd, Nat.reduceMul, Int.reduceLE]
 refine kn hK26 ?_
 clear hK26 K26
 refine WQ.seq_k fun K27 hK27 => ?_
 have j971 : ∀ (E' : Env) (h' : Heap) (n' : Nat), Norm n h E' h' n' (envZ [] []) (hp h n []) n → (m_i_SoundRecs_a1 fu) = some r → K27 E' h' n' := by
  intro E973 H974 n975 N972 hm
  refine hK27 _ _ _ _ _ _ N972 ?_
  clear N972 hK27 K27
  unfold m_i_SoundRecs_a1 at hm
  refine WQ.sr hT rfl fun K976 hK976 => ?_
  simp only [go_sem, ↓reduceIte, reduceCtorEq, Nat.reduceEqDiff, Nat.reduceLT, Nat.reduceLeDiff, Nat.reduceAdd, Nat.reduceMul, Int.reduceLE]
  refine kn hK976 ?_
  clear hK976 K976
  refine retN (t := 2) (js := []) (u := (.int .i64 0)) (v := (.int .i64 0)) hlt ?_ (.keep _ (.int _ _)) (.int _ _) rfl ?_
  kernel_rfl
  exact hkr hk (m := 0) hm (int64R (i64c (a := 0) rfl))
 clear hK27
 refine WQ.sr hT rfl fun K977 hK977 => ?_
 simp only [go_sem, ↓reduceIte, reduceCtorEq, Nat.reduceEqDiff, Nat.reduceLT, Nat.reduceLeDiff, Nat.reduceAdd, Nat.reduceMul, Int.reduceLE, rdSl_hp q12 (slH_lt h0), l14, c16, g17]
 refine kn hK977 ?_
 clear hK977 K977
 refine WQ.block ?_
 obtain ⟨q1608, hq1609, hm⟩ := obs hm
 refine WQ.norm ?_ (WQ.iter (step := (fun (s : (List CellD) × Int) => m_i_SoundRecs_a4 fu v0 s.1 s.2)) (fun (s : (List CellD) × Int) E' h' n' => ∃ (x1602 : AV), (SlR 2 CellR) x1602 s.1 ∧ I64 s.2 ∧ (envZ [0, 3, 12, 13, 14] [x0, x1602, x0, (.int .i64 (v0.length : Int)), (.int .i64 s.2)]) = E' ∧ (hp h n []) = h' ∧ n = n') hq1609 ⟨(.ro 2 false []), (own_fro (show All2 CellR [] [] from .nil) (of_decide_eq_true rfl) tyCell_123.lt), (i64c (a := 0) rfl), rfl, rfl, rfl⟩ ?_)
 refine Norm.mkL (js := []) (m := 0) [0, 3, 12, 13, 14] [x0, (.sl 2 n 0 0 0 true), x0, (.int .i64 (v0.length : Int)), (.int .i64 0)] (of_decide_eq_true rfl) ?_ (RnL.cons (.keep _ (slH_lt h0)) (RnL.cons (Rn.frzA 0 rfl (of_decide_eq_true rfl) (RnL.all2 (show All2 CellR [] [] from .nil) tyCell_123.lt) rfl) (RnL.cons (.keep _ (slH_lt h0)) (RnL.cons (.keep _ (.int _ _)) (RnL.cons (.keep _ (.int _ _)) RnL.nil))))) RowsR.nil rfl
 kernel_rfl
 rintro ⟨v1603, v1605⟩ E' h' n' o1607 ⟨x1602, h1604, i1606, rfl, rfl, rfl⟩ ho1611 hf1610
 replace h1604 : (SlR 2 CellR) x1602 v1603 := h1604
 replace i1606 : I64 v1605 := i1606
 replace ho1611 : m_i_SoundRecs_a4 fu v0 v1603 v1605 = some o1607 := ho1611
 unfold m_i_SoundRecs_a4 at ho1611
 show WQ Try.prog _ n h _ _ (envZ [0, 3, 12, 13, 14] [x0, x1602, x0, (.int .i64 (v0.length : Int)), (.int .i64 v1605)]) (hp h n []) n
 obtain ⟨es1612, q1613, a1614, l1615, b1616, c1617, g1618⟩ := slr_open h1604
 refine WQ.sr hT rfl fun K1619 hK1619 => ?_
 simp only [go_sem, ↓reduceIte, reduceCtorEq, Nat.reduceEqDiff, Nat.reduceLT, Nat.reduceLeDiff, Nat.reduceAdd, Nat.reduceMul, Int.reduceLE]
 refine kn hK1619 ?_
 clear hK1619 K1619
 refine WQ.seq_k fun K1620 hK1620 => ?_
 refine WQ.cond (t := decide (v1605 < (v0.length : Int))) ?_ (fun z1622 => ?_) (fun z1622 => ?_)
 kernel_rfl
 replace ho1611 := ifT z1622 ho1611
 refine WQ.skip ?_
 simp only [go_sem, ↓reduceIte, reduceCtorEq, Nat.reduceEqDiff, Nat.reduceLT, Nat.reduceLeDiff, Nat.reduceAdd, Nat.reduceMul, Int.reduceLE]
 refine kn hK1620 ?_
 clear hK1620 K1620
 refine WQ.seq_k fun K1623 hK1623 => ?_
 have j1770 : ∀ (E' : Env) (h' : Heap) (n' : Nat) (x1767 : AV) (v1768 : List CellD) (h1769 : (SlR 2 CellR) x1767 v1768), Norm n h E' h' n' (envZ [0, 3, 12, 13, 14] [x0, x1767, x0, (.int .i64 (v0.length : Int)), (.int .i64 v1605)]) (hp h n []) n → (m_i_SoundRecs_a2 fu v1605 v1768) = some o1607 → K1623 E' h' n' := by
  intro E1772 H1773 n1774 x1767 v1768 h1769 N1771 ho1611
  refine hK1623 _ _ _ _ _ _ N1771 ?_
  clear N1771 hK1623 K1623
  unfold m_i_SoundRecs_a2 at ho1611
  obtain ⟨es1775, q1776, a1777, l1778, b1779, c1780, g1781⟩ := slr_open h1769
  refine WQ.region hT rfl ?_
  simp only [go_sem, ↓reduceIte, reduceCtorEq, Nat.reduceEqDiff, Nat.reduceLT, Nat.reduceLeDiff, Nat.reduceAdd, Nat.reduceMul, Int.reduceLE]
  refine ⟨_, _, _, _, (Option.some.inj ho1611).symm, ?_, x1767, h1769, (rng_wrap64 _), rfl, rfl, rfl⟩
  refine Norm.mkL (js := []) (m := 0) [0, 3, 12, 13, 14] [x0, x1767, x0, (.int .i64 (v0.length : Int)), (.int .i64 (IntKind.i64.wrap (v1605 + 1)))] (of_decide_eq_true rfl) ?_ (RnL.cons (.keep _ (slH_lt h0)) (RnL.cons (.keep _ (slr_ltA _ _ _ h1769)) (RnL.cons (.keep _ (slH_lt h0)) (RnL.cons (.keep _ (.int _ _)) (RnL.cons (.keep _ (.int _ _)) RnL.nil))))) RowsR.nil rfl
  kernel_rfl
 clear hK1623
 refine WQ.block ?_
 refine WQ.seq_k fun K1782 hK1782 => ?_
 obtain ⟨a1796, q1797, ho1611⟩ := obs ho1611
 obtain ⟨p1798, p1799, e1800, p1801, h1802⟩ := at_ok q1797 a13
 have gh1802 := h1802
 obtain ⟨rfl, i1803, i1804, i1805, i1806, i1807, i1808⟩ := h1802
 refine WQ.region hT rfl ?_
 simp only [go_sem, ↓reduceIte, reduceCtorEq, Nat.reduceEqDiff, Nat.reduceLT, Nat.reduceLeDiff, Nat.reduceAdd, Nat.reduceMul, Int.reduceLE, rdSl_hp q12 (slH_lt h0), l14, c16, g17, p1798, p1799, p1801]
 refine kn hK1782 ?_
 clear hK1782 K1782
 refine WQ.seq_k fun K1809 hK1809 => ?_
 refine WQ.sr hT rfl fun K1814 hK1814 => ?_
 simp only [go_sem, ↓reduceIte, reduceCtorEq, Nat.reduceEqDiff, Nat.reduceLT, Nat.reduceLeDiff, Nat.reduceAdd, Nat.reduceMul, Int.reduceLE]
 refine c53 gh1802 ?_
 unfold sealK; simp only [go_sem, ↓reduceIte, reduceCtorEq, Nat.reduceEqDiff, Nat.reduceLT, Nat.reduceLeDiff, Nat.reduceAdd, Nat.reduceMul, Int.reduceLE]
 refine kn hK1814 ?_
 clear hK1814 K1814
 refine WQ.sr hT rfl fun K1815 hK1815 => ?_
 simp only [go_sem, ↓reduceIte, reduceCtorEq, Nat.reduceEqDiff, Nat.reduceLT, Nat.reduceLeDiff, Nat.reduceAdd, Nat.reduceMul, Int.reduceLE]
 refine kn hK1815 ?_
 clear hK1815 K1815
 refine WQ.cond (t := decide (recFault a1796 ≠ 0)) ?_ (fun z1816 => ?_) (fun z1816 => ?_)
 kernel_rfl
 replace ho1611 := ifT z1816 ho1611
 refine WQ.sr hT rfl fun K1817 hK1817 => ?_
 simp only [go_sem, ↓reduceIte, reduceCtorEq, Nat.reduceEqDiff, Nat.reduceLT, Nat.reduceLeDiff, Nat.reduceAdd, Nat.reduceMul, Int.reduceLE]
 refine kn hK1817 ?_
 clear hK1817 K1817
 have e1818 := hf1610 _ (Option.some.inj ho1611).symm
 rw [← e1818] at hm
 refine retN (t := 2) (js := []) (u := (.int .i64 (recFault a1796))) (v := (.int .i64 (recFault a1796))) hlt ?_ (.keep _ (.int _ _)) (.int _ _) rfl ?_
 kernel_rfl
 exact hkr hk (m := (recFault a1796)) hm (int64R (recFault_rng a1796))
 replace ho1611 := ifF z1816 ho1611
 refine WQ.skip ?_
 simp only [go_sem, ↓reduceIte, reduceCtorEq, Nat.reduceEqDiff, Nat.reduceLT, Nat.reduceLeDiff, Nat.reduceAdd, Nat.reduceMul, Int.reduceLE]
 refine kn hK1809 ?_
 clear hK1809 K1809
 refine WQ.seq_k fun K1819 hK1819 => ?_
 refine WQ.seq_k fun K1856 hK1856 => ?_
 obtain ⟨v1873, q1874, ho1611⟩ := obs ho1611
 obtain ⟨v1885, q1884, ho1611⟩ := obs ho1611
 refine WQ.drawL hT hM [(0, 0), (1, 0), (2, 0), (3, 0), (4, 1), (5, 2), (6, 0)] [] (hp h n [some [(.agg [(.int .i64 a1796.kind), (.int .i64 a1796.txn), (.int .i64 a1796.key), (.bool a1796.had), (.int .i64 a1796.old), (.bool a1796.has), (.int .i64 a1796.new), (.int .i64 a1796.back)])]]) ?_ rfl ?_ fun _ => ?_
 kernel_rfl
 simp only [go_sem]
 simp only [go_sem, ↓reduceIte, reduceCtorEq, Nat.reduceEqDiff, Nat.reduceLT, Nat.reduceLeDiff, Nat.reduceAdd, Nat.reduceMul, Int.reduceLE, rdSl_hp q12 (slH_lt h0), l14, c16, g17, rdSl_emp q1613, l1615, c1617, g1618]
 refine op_partH (el := 76) (X := x0) rfl ?_ h0 (of_decide_eq_true rfl) tyRec_76.lt rfl ?_ q1874 (fun y1875 h1876 => ?_)
 simp only [go_sem, ↓reduceIte, reduceCtorEq, Nat.reduceEqDiff, Nat.reduceLT, Nat.reduceLeDiff, Nat.reduceAdd, Nat.reduceMul, Int.reduceLE]
 simp only [go_sem, ↓reduceIte, reduceCtorEq, Nat.reduceEqDiff, Nat.reduceLT, Nat.reduceLeDiff, Nat.reduceAdd, Nat.reduceMul, Int.reduceLE]
 replace h1876 : (SlH h n 8 RecR) y1875 v1873 := h1876
 obtain ⟨es1877, q1878, a1879, l1880, b1881, c1882, g1883⟩ := slH_open h1876
 unfold sealK; simp only [go_sem, ↓reduceIte, reduceCtorEq, Nat.reduceEqDiff, Nat.reduceLT, Nat.reduceLeDiff, Nat.reduceAdd, Nat.reduceMul, Int.reduceLE, rdSl_hp q12 (slH_lt h0), l14, c16, g17, rdSl_emp q1613, l1615, c1617, g1618, rdSl_hp q1878 (slH_lt h1876), l1880, c1882, g1883]
 refine w_i_soundNext (SlH.up h1876 1) (SlR.toH h1604) gh1802 q1884 (fun y1886 h1887 => ?_)
 obtain ⟨rfl, i1888⟩ := h1887
 unfold sealK; simp only [go_sem, ↓reduceIte, reduceCtorEq, Nat.reduceEqDiff, Nat.reduceLT, Nat.reduceLeDiff, Nat.reduceAdd, Nat.reduceMul, Int.reduceLE, rdSl_hp q12 (slH_lt h0), l14, c16, g17, rdSl_emp q1613, l1615, c1617, g1618, rdSl_hp q1878 (slH_lt h1876), l1880, c1882, g1883]
 refine kn hK1856 ?_
 clear hK1856 K1856
 refine WQ.sr hT rfl fun K1889 hK1889 => ?_
 simp only [go_sem, ↓reduceIte, reduceCtorEq, Nat.reduceEqDiff, Nat.reduceLT, Nat.reduceLeDiff, Nat.reduceAdd, Nat.reduceMul, Int.reduceLE]
 refine kn hK1889 ?_
 clear hK1889 K1889
 refine WQ.cond (t := decide (v1885 ≠ 0)) ?_ (fun z1890 => ?_) (fun z1890 => ?_)
 kernel_rfl
 replace ho1611 := ifT z1890 ho1611
 refine WQ.sr hT rfl fun K1891 hK1891 => ?_
 simp only [go_sem, ↓reduceIte, reduceCtorEq, Nat.reduceEqDiff, Nat.reduceLT, Nat.reduceLeDiff, Nat.reduceAdd, Nat.reduceMul, Int.reduceLE]
 refine kn hK1891 ?_
 clear hK1891 K1891
 have e1892 := hf1610 _ (Option.some.inj ho1611).symm
 rw [← e1892] at hm
 refine retN (t := 2) (js := []) (u := (.int .i64 v1885)) (v := (.int .i64 v1885)) hlt ?_ (.keep _ (.int _ _)) (.int _ _) rfl ?_
 kernel_rfl
 exact hkr hk (m := v1885) hm (int64R i1888)
 replace ho1611 := ifF z1890 ho1611
 refine WQ.skip ?_
 simp only [go_sem, ↓reduceIte, reduceCtorEq, Nat.reduceEqDiff, Nat.reduceLT, Nat.reduceLeDiff, Nat.reduceAdd, Nat.reduceMul, Int.reduceLE]
 refine kn hK1819 ?_
 clear hK1819 K1819
 refine WQ.seq_k fun K1893 hK1893 => ?_
 have j1896 : ∀ (E' : Env) (h' : Heap) (n' : Nat) (v1895 : Bool), Norm n h E' h' n' (envZ [0, 3, 5, 12, 13, 14, 38] [x0, x1602, (.ep 8 (.sl 8 n 0 1 1 true) 0 0), x0, (.int .i64 (v0.length : Int)), (.int .i64 v1605), (.bool v1895)]) (hp h n [some [(.agg [(.int .i64 a1796.kind), (.int .i64 a1796.txn), (.int .i64 a1796.key), (.bool a1796.had), (.int .i64 a1796.old), (.bool a1796.has), (.int .i64 a1796.new), (.int .i64 a1796.back)])]]) (n + 1) → (m_i_SoundRecs_a3 fu v1603 v1605 a1796 v1895) = some o1607 → K1893 E' h' n' := by
  intro E1898 H1899 n1900 v1895 N1897 ho1611
  refine hK1893 _ _ _ _ _ _ N1897 ?_
  clear N1897 hK1893 K1893
  unfold m_i_SoundRecs_a3 at ho1611
  refine WQ.cond (t := v1895) ?_ (fun z1901 => ?_) (fun z1901 => ?_)
  kernel_rfl
  replace ho1611 := ifT z1901 ho1611
  obtain ⟨v1903, q1902, ho1611⟩ := obs ho1611
  refine WQ.region hT rfl ?_
  simp only [go_sem, ↓reduceIte, reduceCtorEq, Nat.reduceEqDiff, Nat.reduceLT, Nat.reduceLeDiff, Nat.reduceAdd, Nat.reduceMul, Int.reduceLE, rdSl_emp q1613, l1615, c1617, g1618]
  refine w_i_withCell (SlR.toH h1604) i1805 i1807 q1902 (fun y1904 h1905 => ?_)
  obtain ⟨es1906, q1907, a1908, l1909, b1910, c1911, g1912⟩ := slr_open h1905
  unfold sealK; simp only [go_sem, ↓reduceIte, reduceCtorEq, Nat.reduceEqDiff, Nat.reduceLT, Nat.reduceLeDiff, Nat.reduceAdd, Nat.reduceMul, Int.reduceLE, rdSl_emp q1907, l1909, c1911, g1912, rdSl_emp q1613, l1615, c1617, g1618]
  refine j1770 _ _ _ y1904 v1903 h1905 ?_ ho1611
  refine Norm.mkL (js := []) (m := 0) [0, 3, 12, 13, 14] [x0, y1904, x0, (.int .i64 (v0.length : Int)), (.int .i64 v1605)] (of_decide_eq_true rfl) ?_ (RnL.cons (.keep _ (slH_lt h0)) (RnL.cons (.keep _ (slr_ltA _ _ _ h1905)) (RnL.cons (.keep _ (slH_lt h0)) (RnL.cons (.keep _ (.int _ _)) (RnL.cons (.keep _ (.int _ _)) RnL.nil))))) RowsR.nil rfl
  kernel_rfl
  replace ho1611 := ifF z1901 ho1611
  refine WQ.sr hT rfl fun K1913 hK1913 => ?_
  simp only [go_sem, ↓reduceIte, reduceCtorEq, Nat.reduceEqDiff, Nat.reduceLT, Nat.reduceLeDiff, Nat.reduceAdd, Nat.reduceMul, Int.reduceLE]
  refine c55 gh1802 ?_
  unfold sealK; simp only [go_sem, ↓reduceIte, reduceCtorEq, Nat.reduceEqDiff, Nat.reduceLT, Nat.reduceLeDiff, Nat.reduceAdd, Nat.reduceMul, Int.reduceLE]
  refine kn hK1913 ?_
  clear hK1913 K1913
  refine WQ.cond (t := RecD.turns a1796) ?_ (fun z1914 => ?_) (fun z1914 => ?_)
  kernel_rfl
  replace ho1611 := ifT z1914 ho1611
  obtain ⟨v1916, q1915, ho1611⟩ := obs ho1611
  refine WQ.region hT rfl ?_
  simp only [go_sem, ↓reduceIte, reduceCtorEq, Nat.reduceEqDiff, Nat.reduceLT, Nat.reduceLeDiff, Nat.reduceAdd, Nat.reduceMul, Int.reduceLE, rdSl_emp q1613, l1615, c1617, g1618]
  refine w_i_without (SlR.toH h1604) i1805 q1915 (fun y1917 h1918 => ?_)
  obtain ⟨es1919, q1920, a1921, l1922, b1923, c1924, g1925⟩ := slr_open h1918
  unfold sealK; simp only [go_sem, ↓reduceIte, reduceCtorEq, Nat.reduceEqDiff, Nat.reduceLT, Nat.reduceLeDiff, Nat.reduceAdd, Nat.reduceMul, Int.reduceLE, rdSl_emp q1920, l1922, c1924, g1925, rdSl_emp q1613, l1615, c1617, g1618]
  refine j1770 _ _ _ y1917 v1916 h1918 ?_ ho1611
  refine Norm.mkL (js := []) (m := 0) [0, 3, 12, 13, 14] [x0, y1917, x0, (.int .i64 (v0.length : Int)), (.int .i64 v1605)] (of_decide_eq_true rfl) ?_ (RnL.cons (.keep _ (slH_lt h0)) (RnL.cons (.keep _ (slr_ltA _ _ _ h1918)) (RnL.cons (.keep _ (slH_lt h0)) (RnL.cons (.keep _ (.int _ _)) (RnL.cons (.keep _ (.int _ _)) RnL.nil))))) RowsR.nil rfl
  kernel_rfl
  replace ho1611 := ifF z1914 ho1611
  refine WQ.skip ?_
  simp only [go_sem, ↓reduceIte, reduceCtorEq, Nat.reduceEqDiff, Nat.reduceLT, Nat.reduceLeDiff, Nat.reduceAdd, Nat.reduceMul, Int.reduceLE]
  refine j1770 _ _ _ x1602 v1603 h1604 ?_ ho1611
  refine Norm.mkL (js := []) (m := 0) [0, 3, 12, 13, 14] [x0, x1602, x0, (.int .i64 (v0.length : Int)), (.int .i64 v1605)] (of_decide_eq_true rfl) ?_ (RnL.cons (.keep _ (slH_lt h0)) (RnL.cons (.keep _ (slr_ltA _ _ _ h1604)) (RnL.cons (.keep _ (slH_lt h0)) (RnL.cons (.keep _ (.int _ _)) (RnL.cons (.keep _ (.int _ _)) RnL.nil))))) RowsR.nil rfl
  kernel_rfl
 clear hK1893
 rcases Bool.eq_false_or_eq_true (RecD.turns a1796) with z1926 | z1926
 replace ho1611 := ifT z1926 ho1611
 refine WQ.region hT rfl ?_
 simp only [go_sem, ↓reduceIte, reduceCtorEq, Nat.reduceEqDiff, Nat.reduceLT, Nat.reduceLeDiff, Nat.reduceAdd, Nat.reduceMul, Int.reduceLE]
 refine c55 gh1802 ?_
 unfold sealK; simp only [go_sem, ↓reduceIte, reduceCtorEq, Nat.reduceEqDiff, Nat.reduceLT, Nat.reduceLeDiff, Nat.reduceAdd, Nat.reduceMul, Int.reduceLE, eqT z1926]
 refine j1896 _ _ _ a1796.has ?_ ho1611
 refine Norm.mkL (js := [0]) (m := 1) [0, 3, 5, 12, 13, 14, 38] [x0, x1602, (.ep 8 (.sl 8 n 0 1 1 true) 0 0), x0, (.int .i64 (v0.length : Int)), (.int .i64 v1605), (.bool a1796.has)] (of_decide_eq_true rfl) ?_ (RnL.cons (.keep _ (slH_lt h0)) (RnL.cons (.keep _ (slr_ltA _ _ _ h1604)) (RnL.cons (Rn.ptr (js := [0]) 0 0) (RnL.cons (.keep _ (slH_lt h0)) (RnL.cons (.keep _ (.int _ _)) (RnL.cons (.keep _ (.int _ _)) (RnL.cons (.keep _ (.bool _)) RnL.nil))))))) (RowsR.row 0 _ _ _ _ hp_get0 (RnL.cons (.keep _ (tyRec_76.lt _ _ _ gh1802)) RnL.nil) RowsR.nil) rfl
 kernel_rfl
 replace ho1611 := ifF z1926 ho1611
 refine WQ.region hT rfl ?_
 simp only [go_sem, ↓reduceIte, reduceCtorEq, Nat.reduceEqDiff, Nat.reduceLT, Nat.reduceLeDiff, Nat.reduceAdd, Nat.reduceMul, Int.reduceLE]
 refine c55 gh1802 ?_
 unfold sealK; simp only [go_sem, ↓reduceIte, reduceCtorEq, Nat.reduceEqDiff, Nat.reduceLT, Nat.reduceLeDiff, Nat.reduceAdd, Nat.reduceMul, Int.reduceLE, eqF z1926]
 refine j1896 _ _ _ false ?_ ho1611
 refine Norm.mkL (js := [0]) (m := 1) [0, 3, 5, 12, 13, 14, 38] [x0, x1602, (.ep 8 (.sl 8 n 0 1 1 true) 0 0), x0, (.int .i64 (v0.length : Int)), (.int .i64 v1605), (.bool false)] (of_decide_eq_true rfl) ?_ (RnL.cons (.keep _ (slH_lt h0)) (RnL.cons (.keep _ (slr_ltA _ _ _ h1604)) (RnL.cons (Rn.ptr (js := [0]) 0 0) (RnL.cons (.keep _ (slH_lt h0)) (RnL.cons (.keep _ (.int _ _)) (RnL.cons (.keep _ (.int _ _)) (RnL.cons (.keep _ (.bool _)) RnL.nil))))))) (RowsR.row 0 _ _ _ _ hp_get0 (RnL.cons (.keep _ (tyRec_76.lt _ _ _ gh1802)) RnL.nil) RowsR.nil) rfl
 kernel_rfl
 replace ho1611 := ifF z1622 ho1611
 refine WQ.exit ?_
 simp only [go_sem, ↓reduceIte, reduceCtorEq, Nat.reduceEqDiff, Nat.reduceLT, Nat.reduceLeDiff, Nat.reduceAdd, Nat.reduceMul, Int.reduceLE]
 have e1927 := hf1610 _ (Option.some.inj ho1611).symm
 rw [← e1927] at hm
 refine j971 _ _ _  ?_ hm
 refine Norm.mkL (js := []) (m := 0) [] [] (of_decide_eq_true rfl) ?_ RnL.nil RowsR.nil rfl
 kernel_rfl
end
end Go.Proofs.Ytcngfjmfgeckmaa
end
