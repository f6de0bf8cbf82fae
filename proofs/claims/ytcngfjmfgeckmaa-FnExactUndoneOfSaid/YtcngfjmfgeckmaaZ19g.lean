import Derived.Test.YtcngfjmfgeckmaaZ19f
set_option linter.unusedSimpArgs false
set_option linter.unusedVariables false
set_option linter.unusedSectionVars false
section
namespace Go.Proofs.Ytcngfjmfgeckmaa
open Go
set_option linter.unusedSimpArgs false
set_option linter.unusedVariables false
set_option maxRecDepth 20000
attribute [local irreducible] IntKind.wrap bitA
section
variable {h : Heap} {n : Nat} {K : AV → Heap → Nat → Prop}
def m_i_soundNext_1 (fu : Nat) (v0 : RecD) (vc0 : RecD) : Option Bool :=
  some (decide (v0.txn = vc0.txn))
set_option maxHeartbeats 2000000 in
theorem w_i_soundNext_1 {x0 : AV} {v0 : RecD} (h0 : RecR x0 v0) {xc0 : AV} {vc0 : RecD} (hc0 : RecR xc0 vc0) {idc0 : Nat} (hidc0 : idc0 < n) (hbc0 : h idc0 = some [xc0]) {fu : Nat} {r : Bool} (hm : m_i_soundNext_1 fu v0 vc0 = some r) (hk : ∀ y, BoolR y r → K y h n) : CA Try.prog 102 [x0, (.ep 8 (.sl 8 idc0 0 1 1 true) 0 0)] h n K := by
 refine CA.enterQ (N := 9) (rs := [.tmp 3]) hT Try.call102 Try.func102 rfl rfl (of_decide_eq_true rfl) rfl fun hlt => ?_
 unfold m_i_soundNext_1 at hm
 have gh0 := h0
 obtain ⟨rfl, i11, i12, i13, i14, i15, i16⟩ := h0
 have ghc0 := hc0
 obtain ⟨rfl, i17, i18, i19, i20, i21, i22⟩ := hc0
 refine rg0 hT ?_
 refine rg hT (a2 (hpl h hidc0) hbc0) ?_
 exact rtB 3 hlt hk (a := (decide (v0.txn = vc0.txn))) hm
def m_g_IndexFunc_Rec__i_soundNext_1_a1 (fu : Nat) : Option Int :=
  some (-1)
def m_g_IndexFunc_Rec__i_soundNext_1_a2 (fu : Nat) (v0 : List RecD) (vk10 : RecD) (v443 : Int) : Option (Int ⊕ (Unit ⊕ Option Int)) :=
  (if (decide (v443 < (v0.length : Int))) = true then (Option.bind (atL v0 v443) fun a512 => (Option.bind (m_i_soundNext_1 fu a512 vk10) fun v526 => (if v526 = true then some (Sum.inr (Sum.inr (some v443))) else some (Sum.inl (IntKind.i64.wrap (v443 + 1)))))) else some (Sum.inr (Sum.inl ())))
def m_g_IndexFunc_Rec__i_soundNext_1 (fu : Nat) (v0 : List RecD) (vk10 : RecD) : Option Int :=
  (Option.bind (iterN (fun (s : Int) => m_g_IndexFunc_Rec__i_soundNext_1_a2 fu v0 vk10 s) fu 0) fun q446 => Sum.elim (fun (b : Unit) => (m_g_IndexFunc_Rec__i_soundNext_1_a1 fu)) (fun x => x) q446)
set_option maxHeartbeats 2000000 in
theorem w_g_IndexFunc_Rec__i_soundNext_1 {x0 : AV} {v0 : List RecD} (h0 : (SlH h n 8 RecR) x0 v0) {xk10 : AV} {vk10 : RecD} (hk10 : RecR xk10 vk10) {idk10 : Nat} (hidk10 : idk10 < n) (hbk10 : h idk10 = some [xk10]) {fu : Nat} {r : Int} (hm : m_g_IndexFunc_Rec__i_soundNext_1 fu v0 vk10 = some r) (hk : ∀ y, Int64R y r → K y h n) : CA Try.prog 131 [x0, (.fn 102 [(.ep 8 (.sl 8 idk10 0 1 1 true) 0 0)])] h n K := by
 refine CA.enterQ (N := 19) (rs := [.tmp 4]) hT Try.call131 Try.func131 rfl rfl (of_decide_eq_true rfl) rfl fun hlt => ?_
 unfold m_g_IndexFunc_Rec__i_soundNext_1 at hm
 obtain ⟨es11, a12, l13, b14, F15⟩ := sHo h0
 have ghk10 := hk10
 obtain ⟨rfl, i16, i17, i18, i19, i20, i21⟩ := hk10
 refine rg0 hT ?_
 refine WQ.seq_k fun K23 hK23 => ?_
 have j272 : ∀ (E' : Env) (h' : Heap) (n' : Nat), Norm n h E' h' n' (envZ [] []) (hp h n []) n → (m_g_IndexFunc_Rec__i_soundNext_1_a1 fu) = some r → K23 E' h' n' := by
  intro E274 H275 n276 N273 hm
  refine hK23 _ _ _ _ _ _ N273 ?_
  clear N273 hK23 K23
  unfold m_g_IndexFunc_Rec__i_soundNext_1_a1 at hm
  refine rg0 hT ?_
  exact rtI 4 hlt hk (a := (-1)) hm (i64c (a := (-1)) rfl)
 clear hK23
 refine rg hT F15 ?_
 refine WQ.block ?_
 obtain ⟨q446, hq447, hm⟩ := obs hm
 refine WQ.norm ?_ (WQ.iter (step := (fun (s : Int) => m_g_IndexFunc_Rec__i_soundNext_1_a2 fu v0 vk10 s)) (fun (s : Int) E' h' n' => I64 s ∧ (envZ [0, 1, 7, 8] [x0, (.fn 102 [(.ep 8 (.sl 8 idk10 0 1 1 true) 0 0)]), (.int .i64 (v0.length : Int)), (.int .i64 s)]) = E' ∧ (hp h n []) = h' ∧ n = n') hq447 ⟨(i64c (a := 0) rfl), rfl, rfl, rfl⟩ ?_)
 exact nm [] [0, 1, 7, 8] [x0, (.fn 102 [(.ep 8 (.sl 8 idk10 0 1 1 true) 0 0)]), (.int .i64 (v0.length : Int)), (.int .i64 0)] (rc (.keep _ (slH_lt h0)) (rc (.keep _ (lt_fn (ltL_cons (.ep _ _ _ _ (.sl _ _ _ _ _ _ hidk10)) ltL_nil))) (rc rki (rc rki rn)))) RowsR.nil
 rintro v443 E' h' n' o445 ⟨i444, rfl, rfl, rfl⟩ ho449 hf448
 replace i444 : I64 v443 := i444
 replace ho449 : m_g_IndexFunc_Rec__i_soundNext_1_a2 fu v0 vk10 v443 = some o445 := ho449
 unfold m_g_IndexFunc_Rec__i_soundNext_1_a2 at ho449
 show WQ Try.prog _ n h _ _ (envZ [0, 1, 7, 8] [x0, (.fn 102 [(.ep 8 (.sl 8 idk10 0 1 1 true) 0 0)]), (.int .i64 (v0.length : Int)), (.int .i64 v443)]) (hp h n []) n
 refine rg0 hT ?_
 refine WQ.seq_k fun K451 hK451 => ?_
 refine cn ho449 (fun z453 ho449 => ?_) fun z453 ho449 => ?_
 refine WQ.skip ?_
 refine sg ?_
 refine kn hK451 ?_
 clear hK451 K451
 refine WQ.seq_k fun K454 hK454 => ?_
 refine WQ.block ?_
 refine rg0 hT ?_
 refine WQ.seq_k fun K494 hK494 => ?_
 obtain ⟨a512, q513, ho449⟩ := obs ho449
 obtain ⟨e516, p514, h518⟩ := atk q513 a12
 have gh518 := h518
 obtain ⟨rfl, i519, i520, i521, i522, i523, i524⟩ := h518
 obtain ⟨v526, q525, ho449⟩ := obs ho449
 refine WQ.region hT rfl ?_
 refine sq (a4 F15 (hpl h hidk10) hbk10 p514) ?_
 refine w_i_soundNext_1 gh518 ghk10 hidk10 ((hp_low hidk10).trans hbk10) q525 (fun y527 h528 => ?_)
 obtain rfl := h528
 refine sk (a4 F15 (hpl h hidk10) hbk10 p514) ?_
 refine kn hK494 ?_
 clear hK494 K494
 refine cn ho449 (fun z529 ho449 => ?_) fun z529 ho449 => ?_
 refine rg0 hT ?_
 have e531 := hf448 _ (Option.some.inj ho449).symm
 rw [← e531] at hm
 exact rtI 4 hlt hk (a := v443) hm i444
 refine WQ.skip ?_
 refine sg ?_
 refine kn hK454 ?_
 clear hK454 K454
 refine WQ.region hT rfl ?_
 refine sq0 ?_
 refine ⟨_, _, _, _, (Option.some.inj ho449).symm, ?_, (rng_wrap64 _), rfl, rfl, rfl⟩
 exact nm [] [0, 1, 7, 8] [x0, (.fn 102 [(.ep 8 (.sl 8 idk10 0 1 1 true) 0 0)]), (.int .i64 (v0.length : Int)), (.int .i64 (IntKind.i64.wrap (v443 + 1)))] (rc (.keep _ (slH_lt h0)) (rc (.keep _ (lt_fn (ltL_cons (.ep _ _ _ _ (.sl _ _ _ _ _ _ hidk10)) ltL_nil))) (rc rki (rc rki rn)))) RowsR.nil
 refine WQ.exit ?_
 refine sg ?_
 have e532 := hf448 _ (Option.some.inj ho449).symm
 rw [← e532] at hm
 refine j272 _ _ _  ?_ hm
 exact nm [] [] [] rn RowsR.nil
def m_g_ContainsFunc_Rec__i_soundNext_1 (fu : Nat) (v0 : List RecD) (vk10 : RecD) : Option Bool :=
  (Option.bind (m_g_IndexFunc_Rec__i_soundNext_1 fu v0 vk10) fun v30 => some (decide (0 ≤ v30)))
set_option maxHeartbeats 2000000 in
theorem w_g_ContainsFunc_Rec__i_soundNext_1 {x0 : AV} {v0 : List RecD} (h0 : (SlH h n 8 RecR) x0 v0) {xk10 : AV} {vk10 : RecD} (hk10 : RecR xk10 vk10) {idk10 : Nat} (hidk10 : idk10 < n) (hbk10 : h idk10 = some [xk10]) {fu : Nat} {r : Bool} (hm : m_g_ContainsFunc_Rec__i_soundNext_1 fu v0 vk10 = some r) (hk : ∀ y, BoolR y r → K y h n) : CA Try.prog 101 [x0, (.fn 102 [(.ep 8 (.sl 8 idk10 0 1 1 true) 0 0)])] h n K := by
 refine CA.enterQ (N := 9) (rs := [.tmp 4]) hT Try.call101 Try.func101 rfl rfl (of_decide_eq_true rfl) rfl fun hlt => ?_
 unfold m_g_ContainsFunc_Rec__i_soundNext_1 at hm
 obtain ⟨es11, a12, l13, b14, F15⟩ := sHo h0
 have ghk10 := hk10
 obtain ⟨rfl, i16, i17, i18, i19, i20, i21⟩ := hk10
 refine rg0 hT ?_
 obtain ⟨v30, q29, hm⟩ := obs hm
 refine WQ.sr hT rfl fun K23 hK23 => ?_
 refine sq (a3 F15 (hpl h hidk10) hbk10) ?_
 refine w_g_IndexFunc_Rec__i_soundNext_1 (SlH.up h0 0) ghk10 hidk10 ((hp_low hidk10).trans hbk10) q29 (fun y31 h32 => ?_)
 obtain ⟨rfl, i33⟩ := h32
 refine sk (a3 F15 (hpl h hidk10) hbk10) ?_
 refine kn hK23 ?_
 clear hK23 K23
 exact rtB 4 hlt hk (a := (decide (0 ≤ v30))) hm
def m_g_Index_int64_a1 (fu : Nat) : Option Int :=
  some (-1)
def m_g_Index_int64_a2 (fu : Nat) (v0 : List Int) (v1 : Int) (v237 : Int) : Option (Int ⊕ (Unit ⊕ Option Int)) :=
  (if (decide (v237 < (v0.length : Int))) = true then (Option.bind (atL v0 v237) fun a276 => (if (decide (v1 = a276)) = true then some (Sum.inr (Sum.inr (some v237))) else some (Sum.inl (IntKind.i64.wrap (v237 + 1))))) else some (Sum.inr (Sum.inl ())))
def m_g_Index_int64 (fu : Nat) (v0 : List Int) (v1 : Int) : Option Int :=
  (Option.bind (iterN (fun (s : Int) => m_g_Index_int64_a2 fu v0 v1 s) fu 0) fun q240 => Sum.elim (fun (b : Unit) => (m_g_Index_int64_a1 fu)) (fun x => x) q240)
set_option maxHeartbeats 2000000 in
theorem w_g_Index_int64 {x0 : AV} {v0 : List Int} (h0 : (SlH h n 1 Int64R) x0 v0) {v1 : Int} (i1 : I64 v1) {fu : Nat} {r : Int} (hm : m_g_Index_int64 fu v0 v1 = some r) (hk : ∀ y, Int64R y r → K y h n) : CA Try.prog 115 [x0, (.int .i64 v1)] h n K := by
 refine CA.enterQ (N := 19) (rs := [.tmp 4]) hT Try.call115 Try.func115 rfl rfl (of_decide_eq_true rfl) rfl fun hlt => ?_
 unfold m_g_Index_int64 at hm
 obtain ⟨es11, a12, l13, b14, F15⟩ := sHo h0
 refine rg0 hT ?_
 refine WQ.seq_k fun K17 hK17 => ?_
 have j146 : ∀ (E' : Env) (h' : Heap) (n' : Nat), Norm n h E' h' n' (envZ [] []) (hp h n []) n → (m_g_Index_int64_a1 fu) = some r → K17 E' h' n' := by
  intro E148 H149 n150 N147 hm
  refine hK17 _ _ _ _ _ _ N147 ?_
  clear N147 hK17 K17
  unfold m_g_Index_int64_a1 at hm
  refine rg0 hT ?_
  exact rtI 4 hlt hk (a := (-1)) hm (i64c (a := (-1)) rfl)
 clear hK17
 refine rg hT F15 ?_
 refine WQ.block ?_
 obtain ⟨q240, hq241, hm⟩ := obs hm
 refine WQ.norm ?_ (WQ.iter (step := (fun (s : Int) => m_g_Index_int64_a2 fu v0 v1 s)) (fun (s : Int) E' h' n' => I64 s ∧ (envZ [0, 1, 7, 8] [x0, (.int .i64 v1), (.int .i64 (v0.length : Int)), (.int .i64 s)]) = E' ∧ (hp h n []) = h' ∧ n = n') hq241 ⟨(i64c (a := 0) rfl), rfl, rfl, rfl⟩ ?_)
 exact nm [] [0, 1, 7, 8] [x0, (.int .i64 v1), (.int .i64 (v0.length : Int)), (.int .i64 0)] (rc (.keep _ (slH_lt h0)) (rc rki (rc rki (rc rki rn)))) RowsR.nil
 rintro v237 E' h' n' o239 ⟨i238, rfl, rfl, rfl⟩ ho243 hf242
 replace i238 : I64 v237 := i238
 replace ho243 : m_g_Index_int64_a2 fu v0 v1 v237 = some o239 := ho243
 unfold m_g_Index_int64_a2 at ho243
 show WQ Try.prog _ n h _ _ (envZ [0, 1, 7, 8] [x0, (.int .i64 v1), (.int .i64 (v0.length : Int)), (.int .i64 v237)]) (hp h n []) n
 refine rg0 hT ?_
 refine WQ.seq_k fun K245 hK245 => ?_
 refine cn ho243 (fun z247 ho243 => ?_) fun z247 ho243 => ?_
 refine WQ.skip ?_
 refine sg ?_
 refine kn hK245 ?_
 clear hK245 K245
 refine WQ.seq_k fun K248 hK248 => ?_
 refine WQ.block ?_
 refine rg0 hT ?_
 refine WQ.seq_k fun K268 hK268 => ?_
 obtain ⟨a276, q277, ho243⟩ := obs ho243
 obtain ⟨e280, p278, h282⟩ := atk q277 a12
 obtain ⟨rfl, ia276⟩ := h282
 refine WQ.region hT rfl ?_
 refine sq (a2 F15 p278) ?_
 refine kn hK268 ?_
 clear hK268 K268
 refine cn ho243 (fun z283 ho243 => ?_) fun z283 ho243 => ?_
 refine rg0 hT ?_
 have e285 := hf242 _ (Option.some.inj ho243).symm
 rw [← e285] at hm
 exact rtI 4 hlt hk (a := v237) hm i238
 refine WQ.skip ?_
 refine sg ?_
 refine kn hK248 ?_
 clear hK248 K248
 refine WQ.region hT rfl ?_
 refine sq0 ?_
 refine ⟨_, _, _, _, (Option.some.inj ho243).symm, ?_, (rng_wrap64 _), rfl, rfl, rfl⟩
 exact nm [] [0, 1, 7, 8] [x0, (.int .i64 v1), (.int .i64 (v0.length : Int)), (.int .i64 (IntKind.i64.wrap (v237 + 1)))] (rc (.keep _ (slH_lt h0)) (rc rki (rc rki (rc rki rn)))) RowsR.nil
 refine WQ.exit ?_
 refine sg ?_
 have e286 := hf242 _ (Option.some.inj ho243).symm
 rw [← e286] at hm
 refine j146 _ _ _  ?_ hm
 exact nm [] [] [] rn RowsR.nil
def m_g_Contains_int64 (fu : Nat) (v0 : List Int) (v1 : Int) : Option Bool :=
  (Option.bind (m_g_Index_int64 fu v0 v1) fun v24 => some (decide (0 ≤ v24)))
set_option maxHeartbeats 2000000 in
theorem w_g_Contains_int64 {x0 : AV} {v0 : List Int} (h0 : (SlH h n 1 Int64R) x0 v0) {v1 : Int} (i1 : I64 v1) {fu : Nat} {r : Bool} (hm : m_g_Contains_int64 fu v0 v1 = some r) (hk : ∀ y, BoolR y r → K y h n) : CA Try.prog 69 [x0, (.int .i64 v1)] h n K := by
 refine CA.enterQ (N := 9) (rs := [.tmp 4]) hT Try.call69 Try.func69 rfl rfl (of_decide_eq_true rfl) rfl fun hlt => ?_
 unfold m_g_Contains_int64 at hm
 obtain ⟨es11, a12, l13, b14, F15⟩ := sHo h0
 refine rg0 hT ?_
 obtain ⟨v24, q23, hm⟩ := obs hm
 refine WQ.sr hT rfl fun K17 hK17 => ?_
 refine sq F15 ?_
 refine w_g_Index_int64 (SlH.up h0 0) i1 q23 (fun y25 h26 => ?_)
 obtain ⟨rfl, i27⟩ := h26
 refine sk F15 ?_
 refine kn hK17 ?_
 clear hK17 K17
 exact rtB 4 hlt hk (a := (decide (0 ≤ v24))) hm
def m_i_kindsOf_1_a1 (fu : Nat) (v29 : Bool) : Option Bool :=
  some v29
def m_i_kindsOf_1 (fu : Nat) (v0 : RecD) (vc0 : Int) (vc1 : List Int) : Option Bool :=
  (if (decide (v0.txn = vc0)) = true then (Option.bind (m_g_Contains_int64 fu vc1 v0.kind) fun v37 => (m_i_kindsOf_1_a1 fu v37)) else (m_i_kindsOf_1_a1 fu false))
set_option maxHeartbeats 2000000 in
theorem w_i_kindsOf_1 {x0 : AV} {v0 : RecD} (h0 : RecR x0 v0) {vc0 : Int} (ic0 : I64 vc0) {idc0 : Nat} (hidc0 : idc0 < n) (hbc0 : h idc0 = some [(.int .i64 vc0)]) {xc1 : AV} {vc1 : List Int} (hc1 : (SlH h n 1 Int64R) xc1 vc1) {idc1 : Nat} (hidc1 : idc1 < n) (hbc1 : h idc1 = some [xc1]) {fu : Nat} {r : Bool} (hm : m_i_kindsOf_1 fu v0 vc0 vc1 = some r) (hk : ∀ y, BoolR y r → K y h n) : CA Try.prog 132 [x0, (.ep 1 (.sl 1 idc0 0 1 1 true) 0 0), (.ep 1 (.sl 1 idc1 0 1 1 true) 0 0)] h n K := by
 refine CA.enterQ (N := 15) (rs := [.tmp 4]) hT Try.call132 Try.func132 rfl rfl (of_decide_eq_true rfl) rfl fun hlt => ?_
 unfold m_i_kindsOf_1 at hm
 have gh0 := h0
 obtain ⟨rfl, i11, i12, i13, i14, i15, i16⟩ := h0
 obtain ⟨es17, a18, l19, b20, F21⟩ := sHo hc1
 refine rg0 hT ?_
 refine WQ.seq_k fun K23 hK23 => ?_
 have j30 : ∀ (E' : Env) (h' : Heap) (n' : Nat) (v29 : Bool), Norm n h E' h' n' (envZ [4] [(.bool v29)]) (hp h n []) n → (m_i_kindsOf_1_a1 fu v29) = some r → K23 E' h' n' := by
  intro E32 H33 n34 v29 N31 hm
  refine hK23 _ _ _ _ _ _ N31 ?_
  clear N31 hK23 K23
  unfold m_i_kindsOf_1_a1 at hm
  exact rtB 4 hlt hk (a := v29) hm
 clear hK23
 rcases Bool.eq_false_or_eq_true (decide (v0.txn = vc0)) with z35 | z35
 replace hm := ifT z35 hm
 obtain ⟨v37, q36, hm⟩ := obs hm
 refine WQ.region hT rfl ?_
 refine sq (a5 (hpl h hidc0) hbc0 (hpl h hidc1) hbc1 (a2 F21 (eqT z35))) ?_
 refine w_g_Contains_int64 (SlH.up hc1 1) i11 q36 (fun y38 h39 => ?_)
 obtain rfl := h39
 refine sk (a5 (hpl h hidc0) hbc0 (hpl h hidc1) hbc1 (a2 F21 (eqT z35))) ?_
 refine j30 _ _ _ v37 ?_ hm
 exact nm [] [4] [(.bool v37)] (rc rkb rn) RowsR.nil
 replace hm := ifF z35 hm
 refine WQ.region hT rfl ?_
 refine sq (a5 (hpl h hidc0) hbc0 (hpl h hidc1) hbc1 (a2 F21 (eqF z35))) ?_
 refine j30 _ _ _ false ?_ hm
 exact nm [] [4] [(.bool false)] (rc rkb rn) RowsR.nil
def m_g_IndexFunc_Rec__i_kindsOf_1_a1 (fu : Nat) : Option Int :=
  some (-1)
def m_g_IndexFunc_Rec__i_kindsOf_1_a2 (fu : Nat) (v0 : List RecD) (vk10 : Int) (vk11 : List Int) (v442 : Int) : Option (Int ⊕ (Unit ⊕ Option Int)) :=
  (if (decide (v442 < (v0.length : Int))) = true then (Option.bind (atL v0 v442) fun a511 => (Option.bind (m_i_kindsOf_1 fu a511 vk10 vk11) fun v525 => (if v525 = true then some (Sum.inr (Sum.inr (some v442))) else some (Sum.inl (IntKind.i64.wrap (v442 + 1)))))) else some (Sum.inr (Sum.inl ())))
def m_g_IndexFunc_Rec__i_kindsOf_1 (fu : Nat) (v0 : List RecD) (vk10 : Int) (vk11 : List Int) : Option Int :=
  (Option.bind (iterN (fun (s : Int) => m_g_IndexFunc_Rec__i_kindsOf_1_a2 fu v0 vk10 vk11 s) fu 0) fun q445 => Sum.elim (fun (b : Unit) => (m_g_IndexFunc_Rec__i_kindsOf_1_a1 fu)) (fun x => x) q445)
set_option maxHeartbeats 2000000 in
theorem w_g_IndexFunc_Rec__i_kindsOf_1 {x0 : AV} {v0 : List RecD} (h0 : (SlH h n 8 RecR) x0 v0) {vk10 : Int} (ik10 : I64 vk10) {idk10 : Nat} (hidk10 : idk10 < n) (hbk10 : h idk10 = some [(.int .i64 vk10)]) {xk11 : AV} {vk11 : List Int} (hk11 : (SlH h n 1 Int64R) xk11 vk11) {idk11 : Nat} (hidk11 : idk11 < n) (hbk11 : h idk11 = some [xk11]) {fu : Nat} {r : Int} (hm : m_g_IndexFunc_Rec__i_kindsOf_1 fu v0 vk10 vk11 = some r) (hk : ∀ y, Int64R y r → K y h n) : CA Try.prog 131 [x0, (.fn 132 [(.ep 1 (.sl 1 idk10 0 1 1 true) 0 0), (.ep 1 (.sl 1 idk11 0 1 1 true) 0 0)])] h n K := by
 refine CA.enterQ (N := 19) (rs := [.tmp 4]) hT Try.call131 Try.func131 rfl rfl (of_decide_eq_true rfl) rfl fun hlt => ?_
 unfold m_g_IndexFunc_Rec__i_kindsOf_1 at hm
 obtain ⟨es11, a12, l13, b14, F15⟩ := sHo h0
 obtain ⟨es16, a17, l18, b19, F20⟩ := sHo hk11
 refine rg0 hT ?_
 refine WQ.seq_k fun K22 hK22 => ?_
 have j271 : ∀ (E' : Env) (h' : Heap) (n' : Nat), Norm n h E' h' n' (envZ [] []) (hp h n []) n → (m_g_IndexFunc_Rec__i_kindsOf_1_a1 fu) = some r → K22 E' h' n' := by
  intro E273 H274 n275 N272 hm
  refine hK22 _ _ _ _ _ _ N272 ?_
  clear N272 hK22 K22
  unfold m_g_IndexFunc_Rec__i_kindsOf_1_a1 at hm
  refine rg0 hT ?_
  exact rtI 4 hlt hk (a := (-1)) hm (i64c (a := (-1)) rfl)
 clear hK22
 refine rg hT F15 ?_
 refine WQ.block ?_
 obtain ⟨q445, hq446, hm⟩ := obs hm
 refine WQ.norm ?_ (WQ.iter (step := (fun (s : Int) => m_g_IndexFunc_Rec__i_kindsOf_1_a2 fu v0 vk10 vk11 s)) (fun (s : Int) E' h' n' => I64 s ∧ (envZ [0, 1, 7, 8] [x0, (.fn 132 [(.ep 1 (.sl 1 idk10 0 1 1 true) 0 0), (.ep 1 (.sl 1 idk11 0 1 1 true) 0 0)]), (.int .i64 (v0.length : Int)), (.int .i64 s)]) = E' ∧ (hp h n []) = h' ∧ n = n') hq446 ⟨(i64c (a := 0) rfl), rfl, rfl, rfl⟩ ?_)
 exact nm [] [0, 1, 7, 8] [x0, (.fn 132 [(.ep 1 (.sl 1 idk10 0 1 1 true) 0 0), (.ep 1 (.sl 1 idk11 0 1 1 true) 0 0)]), (.int .i64 (v0.length : Int)), (.int .i64 0)] (rc (.keep _ (slH_lt h0)) (rc (.keep _ (lt_fn (ltL_cons (.ep _ _ _ _ (.sl _ _ _ _ _ _ hidk10)) (ltL_cons (.ep _ _ _ _ (.sl _ _ _ _ _ _ hidk11)) ltL_nil)))) (rc rki (rc rki rn)))) RowsR.nil
 rintro v442 E' h' n' o444 ⟨i443, rfl, rfl, rfl⟩ ho448 hf447
 replace i443 : I64 v442 := i443
 replace ho448 : m_g_IndexFunc_Rec__i_kindsOf_1_a2 fu v0 vk10 vk11 v442 = some o444 := ho448
 unfold m_g_IndexFunc_Rec__i_kindsOf_1_a2 at ho448
 show WQ Try.prog _ n h _ _ (envZ [0, 1, 7, 8] [x0, (.fn 132 [(.ep 1 (.sl 1 idk10 0 1 1 true) 0 0), (.ep 1 (.sl 1 idk11 0 1 1 true) 0 0)]), (.int .i64 (v0.length : Int)), (.int .i64 v442)]) (hp h n []) n
 refine rg0 hT ?_
 refine WQ.seq_k fun K450 hK450 => ?_
 refine cn ho448 (fun z452 ho448 => ?_) fun z452 ho448 => ?_
 refine WQ.skip ?_
 refine sg ?_
 refine kn hK450 ?_
 clear hK450 K450
 refine WQ.seq_k fun K453 hK453 => ?_
 refine WQ.block ?_
 refine rg0 hT ?_
 refine WQ.seq_k fun K493 hK493 => ?_
 obtain ⟨a511, q512, ho448⟩ := obs ho448
 obtain ⟨e515, p513, h517⟩ := atk q512 a12
 have gh517 := h517
 obtain ⟨rfl, i518, i519, i520, i521, i522, i523⟩ := h517
 obtain ⟨v525, q524, ho448⟩ := obs ho448
 refine WQ.region hT rfl ?_
 refine sq (a5 F15 (hpl h hidk10) hbk10 (hpl h hidk11) (a3 hbk11 F20 p513)) ?_
 refine w_i_kindsOf_1 gh517 ik10 hidk10 ((hp_low hidk10).trans hbk10) (SlH.up hk11 0) hidk11 ((hp_low hidk11).trans hbk11) q524 (fun y526 h527 => ?_)
 obtain rfl := h527
 refine sk (a5 F15 (hpl h hidk10) hbk10 (hpl h hidk11) (a3 hbk11 F20 p513)) ?_
 refine kn hK493 ?_
 clear hK493 K493
 refine cn ho448 (fun z528 ho448 => ?_) fun z528 ho448 => ?_
 refine rg0 hT ?_
 have e530 := hf447 _ (Option.some.inj ho448).symm
 rw [← e530] at hm
 exact rtI 4 hlt hk (a := v442) hm i443
 refine WQ.skip ?_
 refine sg ?_
 refine kn hK453 ?_
 clear hK453 K453
 refine WQ.region hT rfl ?_
 refine sq0 ?_
 refine ⟨_, _, _, _, (Option.some.inj ho448).symm, ?_, (rng_wrap64 _), rfl, rfl, rfl⟩
 exact nm [] [0, 1, 7, 8] [x0, (.fn 132 [(.ep 1 (.sl 1 idk10 0 1 1 true) 0 0), (.ep 1 (.sl 1 idk11 0 1 1 true) 0 0)]), (.int .i64 (v0.length : Int)), (.int .i64 (IntKind.i64.wrap (v442 + 1)))] (rc (.keep _ (slH_lt h0)) (rc (.keep _ (lt_fn (ltL_cons (.ep _ _ _ _ (.sl _ _ _ _ _ _ hidk10)) (ltL_cons (.ep _ _ _ _ (.sl _ _ _ _ _ _ hidk11)) ltL_nil)))) (rc rki (rc rki rn)))) RowsR.nil
 refine WQ.exit ?_
 refine sg ?_
 have e531 := hf447 _ (Option.some.inj ho448).symm
 rw [← e531] at hm
 refine j271 _ _ _  ?_ hm
 exact nm [] [] [] rn RowsR.nil
def m_g_ContainsFunc_Rec__i_kindsOf_1 (fu : Nat) (v0 : List RecD) (vk10 : Int) (vk11 : List Int) : Option Bool :=
  (Option.bind (m_g_IndexFunc_Rec__i_kindsOf_1 fu v0 vk10 vk11) fun v29 => some (decide (0 ≤ v29)))
set_option maxHeartbeats 2000000 in
theorem w_g_ContainsFunc_Rec__i_kindsOf_1 {x0 : AV} {v0 : List RecD} (h0 : (SlH h n 8 RecR) x0 v0) {vk10 : Int} (ik10 : I64 vk10) {idk10 : Nat} (hidk10 : idk10 < n) (hbk10 : h idk10 = some [(.int .i64 vk10)]) {xk11 : AV} {vk11 : List Int} (hk11 : (SlH h n 1 Int64R) xk11 vk11) {idk11 : Nat} (hidk11 : idk11 < n) (hbk11 : h idk11 = some [xk11]) {fu : Nat} {r : Bool} (hm : m_g_ContainsFunc_Rec__i_kindsOf_1 fu v0 vk10 vk11 = some r) (hk : ∀ y, BoolR y r → K y h n) : CA Try.prog 101 [x0, (.fn 132 [(.ep 1 (.sl 1 idk10 0 1 1 true) 0 0), (.ep 1 (.sl 1 idk11 0 1 1 true) 0 0)])] h n K := by
 refine CA.enterQ (N := 9) (rs := [.tmp 4]) hT Try.call101 Try.func101 rfl rfl (of_decide_eq_true rfl) rfl fun hlt => ?_
 unfold m_g_ContainsFunc_Rec__i_kindsOf_1 at hm
 obtain ⟨es11, a12, l13, b14, F15⟩ := sHo h0
 obtain ⟨es16, a17, l18, b19, F20⟩ := sHo hk11
 refine rg0 hT ?_
 obtain ⟨v29, q28, hm⟩ := obs hm
 refine WQ.sr hT rfl fun K22 hK22 => ?_
 refine sq (a5 F15 (hpl h hidk10) hbk10 (hpl h hidk11) (a2 hbk11 F20)) ?_
 refine w_g_IndexFunc_Rec__i_kindsOf_1 (SlH.up h0 0) ik10 hidk10 ((hp_low hidk10).trans hbk10) (SlH.up hk11 0) hidk11 ((hp_low hidk11).trans hbk11) q28 (fun y30 h31 => ?_)
 obtain ⟨rfl, i32⟩ := h31
 refine sk (a5 F15 (hpl h hidk10) hbk10 (hpl h hidk11) (a2 hbk11 F20)) ?_
 refine kn hK22 ?_
 clear hK22 K22
 exact rtB 4 hlt hk (a := (decide (0 ≤ v29))) hm
def m_i_kindsOf (fu : Nat) (v0 : List RecD) (v1 : Int) (v2 : List Int) : Option Bool :=
  (Option.bind (m_g_ContainsFunc_Rec__i_kindsOf_1 fu v0 v1 v2) fun v28 => some v28)
set_option maxHeartbeats 2000000 in
theorem w_i_kindsOf {x0 : AV} {v0 : List RecD} (h0 : (SlH h n 8 RecR) x0 v0) {v1 : Int} (i1 : I64 v1) {x2 : AV} {v2 : List Int} (h2 : (SlH h n 1 Int64R) x2 v2) {fu : Nat} {r : Bool} (hm : m_i_kindsOf fu v0 v1 v2 = some r) (hk : ∀ y, BoolR y r → K y h n) : CA Try.prog 103 [x0, (.int .i64 v1), x2] h n K := by
 refine CA.enterQ (N := 10) (rs := [.tmp 6]) hT Try.call103 Try.func103 rfl rfl (of_decide_eq_true rfl) rfl fun hlt => ?_
 unfold m_i_kindsOf at hm
 obtain ⟨es11, a12, l13, b14, F15⟩ := sHo h0
 obtain ⟨es16, a17, l18, b19, F20⟩ := sHo h2
 refine rg hT F20 ?_
 obtain ⟨v28, q27, hm⟩ := obs hm
 refine WQ.sr hT rfl fun K22 hK22 => ?_
 refine sq (a2 F15 F20) ?_
 refine w_g_ContainsFunc_Rec__i_kindsOf_1 (SlH.up h0 2) i1 (lt_row (j := 0) (m := 2) rfl) hp_get0 (SlH.up h2 2) (lt_row (j := 1) (m := 2) rfl) (hp_get 1) q27 (fun y29 h30 => ?_)
 obtain rfl := h30
 refine sk (a2 F15 F20) ?_
 refine kn hK22 ?_
 clear hK22 K22
 exact rtB 6 hlt hk (a := v28) hm
def m_i_place_1 (fu : Nat) (v0 : CellD) (v1 : Int) : Option Int :=
  some (IntKind.i64.wrap (v0.key - v1))
set_option maxHeartbeats 2000000 in
theorem w_i_place_1 {x0 : AV} {v0 : CellD} (h0 : CellR x0 v0) {v1 : Int} (i1 : I64 v1) {fu : Nat} {r : Int} (hm : m_i_place_1 fu v0 v1 = some r) (hk : ∀ y, Int64R y r → K y h n) : CA Try.prog 136 [x0, (.int .i64 v1)] h n K := by
 refine CA.enterQ (N := 9) (rs := [.tmp 4]) hT Try.call136 Try.func136 rfl rfl (of_decide_eq_true rfl) rfl fun hlt => ?_
 unfold m_i_place_1 at hm
 have gh0 := h0
 obtain ⟨rfl, i11, i12⟩ := h0
 refine rg0 hT ?_
 refine rg0 hT ?_
 exact rtI 4 hlt hk (a := (IntKind.i64.wrap (v0.key - v1))) hm (rng_wrap64 _)
def m_g_BinarySearchFunc_Cell_int64__i_place_1_a1 (fu : Nat) (v136 : Int) (v159 : Bool) : Option (Int × Bool) :=
  some (v136, v159)
def m_g_BinarySearchFunc_Cell_int64__i_place_1_a2 (fu : Nat) (v0 : List CellD) (v1 : Int) (v136 : Int) : Option (Int × Bool) :=
  (if (decide (v136 < (v0.length : Int))) = true then (Option.bind (atL v0 v136) fun a166 => (Option.bind (m_i_place_1 fu a166 v1) fun v176 => (m_g_BinarySearchFunc_Cell_int64__i_place_1_a1 fu v136 (decide (v176 = 0))))) else (m_g_BinarySearchFunc_Cell_int64__i_place_1_a1 fu v136 false))
def m_g_BinarySearchFunc_Cell_int64__i_place_1_a3 (fu : Nat) (v0 : List CellD) (v1 : Int) (v256 : Int) (v258 : Int) : Option ((Int × Int) ⊕ (Int ⊕ Option (Int × Bool))) :=
  (if (decide (v256 < v258)) = true then (Option.bind (atL v0 (IntKind.i64.wrap (Int.fdiv (IntKind.u64.wrap (IntKind.i64.wrap (v256 + v258))) 2))) fun a286 => (Option.bind (m_i_place_1 fu a286 v1) fun v296 => (if (decide (v296 < 0)) = true then some (Sum.inl (IntKind.i64.wrap ((IntKind.i64.wrap (Int.fdiv (IntKind.u64.wrap (IntKind.i64.wrap (v256 + v258))) 2)) + 1), v258)) else some (Sum.inl (v256, IntKind.i64.wrap (Int.fdiv (IntKind.u64.wrap (IntKind.i64.wrap (v256 + v258))) 2)))))) else some (Sum.inr (Sum.inl v256)))
def m_g_BinarySearchFunc_Cell_int64__i_place_1 (fu : Nat) (v0 : List CellD) (v1 : Int) : Option (Int × Bool) :=
  (Option.bind (iterN (fun (s : Int × Int) => m_g_BinarySearchFunc_Cell_int64__i_place_1_a3 fu v0 v1 s.1 s.2) fu (0, (v0.length : Int))) fun q261 => Sum.elim (fun (b : Int) => (m_g_BinarySearchFunc_Cell_int64__i_place_1_a2 fu v0 v1 b)) (fun x => x) q261)
set_option maxHeartbeats 2000000 in
theorem w_g_BinarySearchFunc_Cell_int64__i_place_1 {x0 : AV} {v0 : List CellD} (h0 : (SlH h n 2 CellR) x0 v0) {v1 : Int} (i1 : I64 v1) {fu : Nat} {r : Int × Bool} (hm : m_g_BinarySearchFunc_Cell_int64__i_place_1 fu v0 v1 = some r) (hk : ∀ y0, Int64R y0 r.1 → ∀ y1, BoolR y1 r.2 → K (.tup [y0, y1]) h n) : CA Try.prog 135 [x0, (.int .i64 v1), (.fn 136 [])] h n K := by
 refine CA.enterQ (N := 49) (rs := [.tmp 6, .tmp 7]) hT Try.call135 Try.func135 rfl rfl (of_decide_eq_true rfl) rfl fun hlt => ?_
 unfold m_g_BinarySearchFunc_Cell_int64__i_place_1 at hm
 obtain ⟨es11, a12, l13, b14, F15⟩ := sHo h0
 refine rg0 hT ?_
 refine rg hT F15 ?_
 refine rg0 hT ?_
 refine WQ.seq_k fun K19 hK19 => ?_
 have j138 : ∀ (E' : Env) (h' : Heap) (n' : Nat) (v136 : Int) (i137 : I64 v136), Norm n h E' h' n' (envZ [0, 1, 2, 8, 9] [x0, (.int .i64 v1), (.fn 136 []), (.int .i64 (v0.length : Int)), (.int .i64 v136)]) (hp h n []) n → (m_g_BinarySearchFunc_Cell_int64__i_place_1_a2 fu v0 v1 v136) = some r → K19 E' h' n' := by
  intro E140 H141 n142 v136 i137 N139 hm
  refine hK19 _ _ _ _ _ _ N139 ?_
  clear N139 hK19 K19
  unfold m_g_BinarySearchFunc_Cell_int64__i_place_1_a2 at hm
  refine WQ.seq_k fun K143 hK143 => ?_
  have j160 : ∀ (E' : Env) (h' : Heap) (n' : Nat) (v159 : Bool), Norm n h E' h' n' (envZ [6, 7] [(.int .i64 v136), (.bool v159)]) (hp h n []) n → (m_g_BinarySearchFunc_Cell_int64__i_place_1_a1 fu v136 v159) = some r → K143 E' h' n' := by
   intro E162 H163 n164 v159 N161 hm
   refine hK143 _ _ _ _ _ _ N161 ?_
   clear N161 hK143 K143
   unfold m_g_BinarySearchFunc_Cell_int64__i_place_1_a1 at hm
   refine WQ.norm (E2 := envZ [6, 7] [(.int .i64 v136), (.bool v159)]) (h2 := hp h n []) (n2 := n) ?_ (WQ.ret ?_)
   exact nm [] [6, 7] [(.int .i64 v136), (.bool v159)] (rc rki (rc rkb rn)) RowsR.nil
   refine ⟨[(.int .i64 v136), (.bool v159)], rfl, ret_hp hlt (lt_tupL (ltL_cons (.int _ _) (ltL_cons (.bool _) ltL_nil))) ?_⟩
   exact hkr2 hk (m := (v136, v159)) hm (int64R i137) rfl
  clear hK143
  rcases Bool.eq_false_or_eq_true (decide (v136 < (v0.length : Int))) with z165 | z165
  replace hm := ifT z165 hm
  obtain ⟨a166, q167, hm⟩ := obs hm
  obtain ⟨e170, p168, h172⟩ := atk q167 a12
  have gh172 := h172
  obtain ⟨rfl, i173, i174⟩ := h172
  obtain ⟨v176, q175, hm⟩ := obs hm
  refine WQ.region hT rfl ?_
  refine sq (a3 F15 p168 (eqT z165)) ?_
  refine w_i_place_1 gh172 i1 q175 (fun y177 h178 => ?_)
  obtain ⟨rfl, i179⟩ := h178
  refine sk (a3 F15 p168 (eqT z165)) ?_
  refine j160 _ _ _ (decide (v176 = 0)) ?_ hm
  exact nm [] [6, 7] [(.int .i64 v136), (.bool (decide (v176 = 0)))] (rc rki (rc rkb rn)) RowsR.nil
  replace hm := ifF z165 hm
  refine WQ.region hT rfl ?_
  refine sq (a2 F15 (eqF z165)) ?_
  refine j160 _ _ _ false ?_ hm
  exact nm [] [6, 7] [(.int .i64 v136), (.bool false)] (rc rki (rc rkb rn)) RowsR.nil
 clear hK19
 refine WQ.block ?_
 obtain ⟨q261, hq262, hm⟩ := obs hm
 refine WQ.norm ?_ (WQ.iter (step := (fun (s : Int × Int) => m_g_BinarySearchFunc_Cell_int64__i_place_1_a3 fu v0 v1 s.1 s.2)) (fun (s : Int × Int) E' h' n' => I64 s.1 ∧ I64 s.2 ∧ (envZ [0, 1, 2, 8, 9, 10] [x0, (.int .i64 v1), (.fn 136 []), (.int .i64 (v0.length : Int)), (.int .i64 s.1), (.int .i64 s.2)]) = E' ∧ (hp h n []) = h' ∧ n = n') hq262 ⟨(i64c (a := 0) rfl), (i64_len l13 b14), rfl, rfl, rfl⟩ ?_)
 exact nm [] [0, 1, 2, 8, 9, 10] [x0, (.int .i64 v1), (.fn 136 []), (.int .i64 (v0.length : Int)), (.int .i64 0), (.int .i64 (v0.length : Int))] (rc (.keep _ (slH_lt h0)) (rc rki (rc (.keep _ (lt_fn ltL_nil)) (rc rki (rc rki (rc rki rn)))))) RowsR.nil
 rintro ⟨v256, v258⟩ E' h' n' o260 ⟨i257, i259, rfl, rfl, rfl⟩ ho264 hf263
 replace i257 : I64 v256 := i257
 replace i259 : I64 v258 := i259
 replace ho264 : m_g_BinarySearchFunc_Cell_int64__i_place_1_a3 fu v0 v1 v256 v258 = some o260 := ho264
 unfold m_g_BinarySearchFunc_Cell_int64__i_place_1_a3 at ho264
 show WQ Try.prog _ n h _ _ (envZ [0, 1, 2, 8, 9, 10] [x0, (.int .i64 v1), (.fn 136 []), (.int .i64 (v0.length : Int)), (.int .i64 v256), (.int .i64 v258)]) (hp h n []) n
 refine WQ.seq_k fun K265 hK265 => ?_
 refine rg0 hT ?_
 refine cn ho264 (fun z269 ho264 => ?_) fun z269 ho264 => ?_
 refine WQ.skip ?_
 refine sg ?_
 refine kn hK265 ?_
 clear hK265 K265
 refine WQ.block ?_
 refine rg0 hT ?_
 refine WQ.seq_k fun K271 hK271 => ?_
 obtain ⟨a286, q287, ho264⟩ := obs ho264
 obtain ⟨e290, p288, h292⟩ := atk q287 a12
 have gh292 := h292
 obtain ⟨rfl, i293, i294⟩ := h292
 obtain ⟨v296, q295, ho264⟩ := obs ho264
 refine WQ.region hT rfl ?_
 refine sq (a2 F15 p288) ?_
 refine w_i_place_1 gh292 i1 q295 (fun y297 h298 => ?_)
 obtain ⟨rfl, i299⟩ := h298
 refine sk (a2 F15 p288) ?_
 refine kn hK271 ?_
 clear hK271 K271
 refine cn ho264 (fun z300 ho264 => ?_) fun z300 ho264 => ?_
 refine WQ.region hT rfl ?_
 refine sq0 ?_
 refine ⟨_, _, _, _, (Option.some.inj ho264).symm, ?_, (rng_wrap64 _), i259, rfl, rfl, rfl⟩
 exact nm [] [0, 1, 2, 8, 9, 10] [x0, (.int .i64 v1), (.fn 136 []), (.int .i64 (v0.length : Int)), (.int .i64 (IntKind.i64.wrap ((IntKind.i64.wrap (Int.fdiv (IntKind.u64.wrap (IntKind.i64.wrap (v256 + v258))) 2)) + 1))), (.int .i64 v258)] (rc (.keep _ (slH_lt h0)) (rc rki (rc (.keep _ (lt_fn ltL_nil)) (rc rki (rc rki (rc rki rn)))))) RowsR.nil
 refine WQ.region hT rfl ?_
 refine sq0 ?_
 refine ⟨_, _, _, _, (Option.some.inj ho264).symm, ?_, i257, (rng_wrap64 _), rfl, rfl, rfl⟩
 exact nm [] [0, 1, 2, 8, 9, 10] [x0, (.int .i64 v1), (.fn 136 []), (.int .i64 (v0.length : Int)), (.int .i64 v256), (.int .i64 (IntKind.i64.wrap (Int.fdiv (IntKind.u64.wrap (IntKind.i64.wrap (v256 + v258))) 2)))] (rc (.keep _ (slH_lt h0)) (rc rki (rc (.keep _ (lt_fn ltL_nil)) (rc rki (rc rki (rc rki rn)))))) RowsR.nil
 refine WQ.exit ?_
 refine sg ?_
 have e301 := hf263 _ (Option.some.inj ho264).symm
 rw [← e301] at hm
 refine j138 _ _ _ v256 i257 ?_ hm
 exact nm [] [0, 1, 2, 8, 9] [x0, (.int .i64 v1), (.fn 136 []), (.int .i64 (v0.length : Int)), (.int .i64 v256)] (rc (.keep _ (slH_lt h0)) (rc rki (rc (.keep _ (lt_fn ltL_nil)) (rc rki (rc rki rn))))) RowsR.nil
def m_i_place (fu : Nat) (v0 : List CellD) (v1 : Int) : Option (Int × Bool) :=
  (Option.bind (m_g_BinarySearchFunc_Cell_int64__i_place_1 fu v0 v1) fun v26 => some (v26.1, v26.2))
set_option maxHeartbeats 2000000 in
theorem w_i_place {x0 : AV} {v0 : List CellD} (h0 : (SlH h n 2 CellR) x0 v0) {v1 : Int} (i1 : I64 v1) {fu : Nat} {r : Int × Bool} (hm : m_i_place fu v0 v1 = some r) (hk : ∀ y0, Int64R y0 r.1 → ∀ y1, BoolR y1 r.2 → K (.tup [y0, y1]) h n) : CA Try.prog 108 [x0, (.int .i64 v1)] h n K := by
 refine CA.enterQ (N := 11) (rs := [.tmp 4, .tmp 5]) hT Try.call108 Try.func108 rfl rfl (of_decide_eq_true rfl) rfl fun hlt => ?_
 unfold m_i_place at hm
 obtain ⟨es11, a12, l13, b14, F15⟩ := sHo h0
 refine rg0 hT ?_
 obtain ⟨v26, q25, hm⟩ := obs hm
 refine WQ.sr hT rfl fun K17 hK17 => ?_
 refine sq F15 ?_
 refine w_g_BinarySearchFunc_Cell_int64__i_place_1 (SlH.up h0 0) i1 q25 (fun y27 h28 y30 h31 => ?_)
 obtain ⟨rfl, i29⟩ := h28
 obtain rfl := h31
 refine sk F15 ?_
 refine kn hK17 ?_
 clear hK17 K17
 refine WQ.norm (E2 := envZ [4, 5] [(.int .i64 v26.1), (.bool v26.2)]) (h2 := hp h n []) (n2 := n) ?_ (WQ.ret ?_)
 exact nm [] [4, 5] [(.int .i64 v26.1), (.bool v26.2)] (rc rki (rc rkb rn)) RowsR.nil
 refine ⟨[(.int .i64 v26.1), (.bool v26.2)], rfl, ret_hp hlt (lt_tupL (ltL_cons (.int _ _) (ltL_cons (.bool _) ltL_nil))) ?_⟩
 exact hkr2 hk (m := (v26.1, v26.2)) hm (int64R i29) rfl
def m_i_valueIn (fu : Nat) (v0 : List CellD) (v1 : Int) : Option IntResultD :=
  (Option.bind (m_i_place fu v0 v1) fun v26 => (if (!v26.2) = true then some (IntResultD.mk 4 0) else (Option.bind (atL v0 v26.1) fun a49 => some (IntResultD.mk 0 a49.value))))
set_option maxHeartbeats 2000000 in
theorem w_i_valueIn {x0 : AV} {v0 : List CellD} (h0 : (SlH h n 2 CellR) x0 v0) {v1 : Int} (i1 : I64 v1) {fu : Nat} {r : IntResultD} (hm : m_i_valueIn fu v0 v1 = some r) (hk : ∀ y, IntResultR y r → K y h n) : CA Try.prog 104 [x0, (.int .i64 v1)] h n K := by
 refine CA.enterQ (N := 22) (rs := [.cell 4 118]) hT Try.call104 Try.func104 rfl rfl (of_decide_eq_true rfl) rfl fun hlt => ?_
 unfold m_i_valueIn at hm
 obtain ⟨es11, a12, l13, b14, F15⟩ := sHo h0
 refine rg0 hT ?_
 obtain ⟨v26, q25, hm⟩ := obs hm
 refine WQ.sr hT rfl fun K17 hK17 => ?_
 refine sq F15 ?_
 refine w_i_place (SlH.up h0 1) i1 q25 (fun y27 h28 y30 h31 => ?_)
 obtain ⟨rfl, i29⟩ := h28
 obtain rfl := h31
 refine sk F15 ?_
 refine kn hK17 ?_
 clear hK17 K17
 refine WQ.seq_k fun K32 hK32 => ?_
 refine rg0 hT ?_
 refine cn hm (fun z37 hm => ?_) fun z37 hm => ?_
 refine rg0 hT ?_
 refine WQ.norm (E2 := envZ [4] [(.ep 2 (.sl 2 n 0 1 1 true) 0 0)]) (h2 := hp h n [some [(.agg [(.int .i64 4), (.int .i64 0)])]]) (n2 := n + 1) ?_ (WQ.ret ?_)
 exact nm [0] [4] [(.ep 2 (.sl 2 n 0 1 1 true) 0 0)] (rc (Rn.ptr (js := [0]) 0 0) rn) (RowsR.row 0 _ _ _ _ hp_get0 (rc (.keep _ (intResult_lt _ _ _ (show IntResultR (.agg [(.int .i64 4), (.int .i64 0)]) (IntResultD.mk 4 0) from ⟨rfl, (i64c (a := 4) rfl), (i64c (a := 0) rfl)⟩))) rn) RowsR.nil)
 refine ⟨_, resA_cell rfl hp_get0 rfl rfl, ret_hp hlt (intResult_lt _ _ _ (show IntResultR (.agg [(.int .i64 4), (.int .i64 0)]) (IntResultD.mk 4 0) from ⟨rfl, (i64c (a := 4) rfl), (i64c (a := 0) rfl)⟩)) ?_⟩
 exact hkr hk (m := (IntResultD.mk 4 0)) hm (show IntResultR (.agg [(.int .i64 4), (.int .i64 0)]) (IntResultD.mk 4 0) from ⟨rfl, (i64c (a := 4) rfl), (i64c (a := 0) rfl)⟩)
 refine WQ.skip ?_
 refine sg ?_
 refine kn hK32 ?_
 clear hK32 K32
 refine WQ.seq_k fun K39 hK39 => ?_
 obtain ⟨a49, q50, hm⟩ := obs hm
 obtain ⟨e53, p51, h55⟩ := atk q50 a12
 have gh55 := h55
 obtain ⟨rfl, i56, i57⟩ := h55
 refine WQ.region hT rfl ?_
 refine sq (a2 F15 p51) ?_
 refine kn hK39 ?_
 clear hK39 K39
 refine WQ.norm (E2 := envZ [4] [(.ep 2 (.sl 2 n 0 1 1 true) 0 0)]) (h2 := hp h n [some [(.agg [(.int .i64 0), (.int .i64 a49.value)])]]) (n2 := n + 1) ?_ (WQ.ret ?_)
 exact nm [0] [4] [(.ep 2 (.sl 2 n 0 1 1 true) 0 0)] (rc (Rn.ptr (js := [0]) 0 0) rn) (RowsR.row 0 _ _ _ _ hp_get0 (rc (.keep _ (intResult_lt _ _ _ (show IntResultR (.agg [(.int .i64 0), (.int .i64 a49.value)]) (IntResultD.mk 0 a49.value) from ⟨rfl, (i64c (a := 0) rfl), i57⟩))) rn) RowsR.nil)
 refine ⟨_, resA_cell rfl hp_get0 rfl rfl, ret_hp hlt (intResult_lt _ _ _ (show IntResultR (.agg [(.int .i64 0), (.int .i64 a49.value)]) (IntResultD.mk 0 a49.value) from ⟨rfl, (i64c (a := 0) rfl), i57⟩)) ?_⟩
 exact hkr hk (m := (IntResultD.mk 0 a49.value)) hm (show IntResultR (.agg [(.int .i64 0), (.int .i64 a49.value)]) (IntResultD.mk 0 a49.value) from ⟨rfl, (i64c (a := 0) rfl), i57⟩)
def m_i_heldBy_1_a1 (fu : Nat) (v37 : Bool) : Option Bool :=
  some v37
def m_i_heldBy_1 (fu : Nat) (v0 : RecD) (vc0 : RecD) (vc1 : List RecD) : Option Bool :=
  (if (decide (v0.kind = 2)) = true then (if (decide (v0.key = vc0.key)) = true then (if (decide (v0.txn ≠ vc0.txn)) = true then (Option.bind (m_i_kindsOf fu vc1 v0.txn ([3, 4])) fun v47 => (m_i_heldBy_1_a1 fu (!v47))) else (m_i_heldBy_1_a1 fu false)) else (m_i_heldBy_1_a1 fu false)) else (m_i_heldBy_1_a1 fu false))
set_option maxHeartbeats 2000000 in
theorem w_i_heldBy_1 {x0 : AV} {v0 : RecD} (h0 : RecR x0 v0) {xc0 : AV} {vc0 : RecD} (hc0 : RecR xc0 vc0) {idc0 : Nat} (hidc0 : idc0 < n) (hbc0 : h idc0 = some [xc0]) {xc1 : AV} {vc1 : List RecD} (hc1 : (SlH h n 8 RecR) xc1 vc1) {idc1 : Nat} (hidc1 : idc1 < n) (hbc1 : h idc1 = some [xc1]) {fu : Nat} {r : Bool} (hm : m_i_heldBy_1 fu v0 vc0 vc1 = some r) (hk : ∀ y, BoolR y r → K y h n) : CA Try.prog 133 [x0, (.ep 8 (.sl 8 idc0 0 1 1 true) 0 0), (.ep 1 (.sl 1 idc1 0 1 1 true) 0 0)] h n K := by
 refine CA.enterQ (N := 30) (rs := [.tmp 4]) hT Try.call133 Try.func133 rfl rfl (of_decide_eq_true rfl) rfl fun hlt => ?_
 unfold m_i_heldBy_1 at hm
 have gh0 := h0
 obtain ⟨rfl, i11, i12, i13, i14, i15, i16⟩ := h0
 have ghc0 := hc0
 obtain ⟨rfl, i17, i18, i19, i20, i21, i22⟩ := hc0
 obtain ⟨es23, a24, l25, b26, F27⟩ := sHo hc1
 refine rg0 hT ?_
 refine WQ.seq_k fun K29 hK29 => ?_
 have j38 : ∀ (E' : Env) (h' : Heap) (n' : Nat) (v37 : Bool), Norm n h E' h' n' (envZ [4] [(.bool v37)]) (hp h n []) n → (m_i_heldBy_1_a1 fu v37) = some r → K29 E' h' n' := by
  intro E40 H41 n42 v37 N39 hm
  refine hK29 _ _ _ _ _ _ N39 ?_
  clear N39 hK29 K29
  unfold m_i_heldBy_1_a1 at hm
  exact rtB 4 hlt hk (a := v37) hm
 clear hK29
 rcases Bool.eq_false_or_eq_true (decide (v0.kind = 2)) with z43 | z43
 replace hm := ifT z43 hm
 rcases Bool.eq_false_or_eq_true (decide (v0.key = vc0.key)) with z44 | z44
 replace hm := ifT z44 hm
 rcases Bool.eq_false_or_eq_true (decide (v0.txn ≠ vc0.txn)) with z45 | z45
 replace hm := ifT z45 hm
 obtain ⟨v47, q46, hm⟩ := obs hm
 refine WQ.region hT rfl ?_
 refine sq (a5 (hpl h hidc0) hbc0 (hpl h hidc1) hbc1 (a4 F27 (eqT z43) (eqT z44) (eqT z45))) ?_
 refine w_i_kindsOf (SlH.up hc1 2) i12 (slH_own (j := 1) (m := 2) (hp_get 1) (show All2 Int64R [(.int .i64 3), (.int .i64 4)] [3, 4] from (.cons (int64R (i64c (a := 3) rfl)) (.cons (int64R (i64c (a := 4) rfl)) .nil))) (of_decide_eq_true rfl) rfl rfl) q46 (fun y48 h49 => ?_)
 obtain rfl := h49
 refine sk (a5 (hpl h hidc0) hbc0 (hpl h hidc1) hbc1 (a4 F27 (eqT z43) (eqT z44) (eqT z45))) ?_
 refine j38 _ _ _ (!v47) ?_ hm
 exact nm [] [4] [(.bool (!v47))] (rc rkb rn) RowsR.nil
 replace hm := ifF z45 hm
 refine WQ.region hT rfl ?_
 refine sq (a5 (hpl h hidc0) hbc0 (hpl h hidc1) hbc1 (a4 F27 (eqT z43) (eqT z44) (eqF z45))) ?_
 refine j38 _ _ _ false ?_ hm
 exact nm [] [4] [(.bool false)] (rc rkb rn) RowsR.nil
 replace hm := ifF z44 hm
 refine WQ.region hT rfl ?_
 refine sq (a5 (hpl h hidc0) hbc0 (hpl h hidc1) hbc1 (a3 F27 (eqT z43) (eqF z44))) ?_
 refine j38 _ _ _ false ?_ hm
 exact nm [] [4] [(.bool false)] (rc rkb rn) RowsR.nil
 replace hm := ifF z43 hm
 refine WQ.region hT rfl ?_
 refine sq (a5 (hpl h hidc0) hbc0 (hpl h hidc1) hbc1 (a2 F27 (eqF z43))) ?_
 refine j38 _ _ _ false ?_ hm
 exact nm [] [4] [(.bool false)] (rc rkb rn) RowsR.nil
def m_g_IndexFunc_Rec__i_heldBy_1_a1 (fu : Nat) : Option Int :=
  some (-1)
def m_g_IndexFunc_Rec__i_heldBy_1_a2 (fu : Nat) (v0 : List RecD) (vk10 : RecD) (vk11 : List RecD) (v448 : Int) : Option (Int ⊕ (Unit ⊕ Option Int)) :=
  (if (decide (v448 < (v0.length : Int))) = true then (Option.bind (atL v0 v448) fun a517 => (Option.bind (m_i_heldBy_1 fu a517 vk10 vk11) fun v531 => (if v531 = true then some (Sum.inr (Sum.inr (some v448))) else some (Sum.inl (IntKind.i64.wrap (v448 + 1)))))) else some (Sum.inr (Sum.inl ())))
def m_g_IndexFunc_Rec__i_heldBy_1 (fu : Nat) (v0 : List RecD) (vk10 : RecD) (vk11 : List RecD) : Option Int :=
  (Option.bind (iterN (fun (s : Int) => m_g_IndexFunc_Rec__i_heldBy_1_a2 fu v0 vk10 vk11 s) fu 0) fun q451 => Sum.elim (fun (b : Unit) => (m_g_IndexFunc_Rec__i_heldBy_1_a1 fu)) (fun x => x) q451)
set_option maxHeartbeats 2000000 in
theorem w_g_IndexFunc_Rec__i_heldBy_1 {x0 : AV} {v0 : List RecD} (h0 : (SlH h n 8 RecR) x0 v0) {xk10 : AV} {vk10 : RecD} (hk10 : RecR xk10 vk10) {idk10 : Nat} (hidk10 : idk10 < n) (hbk10 : h idk10 = some [xk10]) {xk11 : AV} {vk11 : List RecD} (hk11 : (SlH h n 8 RecR) xk11 vk11) {idk11 : Nat} (hidk11 : idk11 < n) (hbk11 : h idk11 = some [xk11]) {fu : Nat} {r : Int} (hm : m_g_IndexFunc_Rec__i_heldBy_1 fu v0 vk10 vk11 = some r) (hk : ∀ y, Int64R y r → K y h n) : CA Try.prog 131 [x0, (.fn 133 [(.ep 8 (.sl 8 idk10 0 1 1 true) 0 0), (.ep 1 (.sl 1 idk11 0 1 1 true) 0 0)])] h n K := by
 refine CA.enterQ (N := 19) (rs := [.tmp 4]) hT Try.call131 Try.func131 rfl rfl (of_decide_eq_true rfl) rfl fun hlt => ?_
 unfold m_g_IndexFunc_Rec__i_heldBy_1 at hm
 obtain ⟨es11, a12, l13, b14, F15⟩ := sHo h0
 have ghk10 := hk10
 obtain ⟨rfl, i16, i17, i18, i19, i20, i21⟩ := hk10
 obtain ⟨es22, a23, l24, b25, F26⟩ := sHo hk11
 refine rg0 hT ?_
 refine WQ.seq_k fun K28 hK28 => ?_
 have j277 : ∀ (E' : Env) (h' : Heap) (n' : Nat), Norm n h E' h' n' (envZ [] []) (hp h n []) n → (m_g_IndexFunc_Rec__i_heldBy_1_a1 fu) = some r → K28 E' h' n' := by
  intro E279 H280 n281 N278 hm
  refine hK28 _ _ _ _ _ _ N278 ?_
  clear N278 hK28 K28
  unfold m_g_IndexFunc_Rec__i_heldBy_1_a1 at hm
  refine rg0 hT ?_
  exact rtI 4 hlt hk (a := (-1)) hm (i64c (a := (-1)) rfl)
 clear hK28
 refine rg hT F15 ?_
 refine WQ.block ?_
 obtain ⟨q451, hq452, hm⟩ := obs hm
 refine WQ.norm ?_ (WQ.iter (step := (fun (s : Int) => m_g_IndexFunc_Rec__i_heldBy_1_a2 fu v0 vk10 vk11 s)) (fun (s : Int) E' h' n' => I64 s ∧ (envZ [0, 1, 7, 8] [x0, (.fn 133 [(.ep 8 (.sl 8 idk10 0 1 1 true) 0 0), (.ep 1 (.sl 1 idk11 0 1 1 true) 0 0)]), (.int .i64 (v0.length : Int)), (.int .i64 s)]) = E' ∧ (hp h n []) = h' ∧ n = n') hq452 ⟨(i64c (a := 0) rfl), rfl, rfl, rfl⟩ ?_)
 exact nm [] [0, 1, 7, 8] [x0, (.fn 133 [(.ep 8 (.sl 8 idk10 0 1 1 true) 0 0), (.ep 1 (.sl 1 idk11 0 1 1 true) 0 0)]), (.int .i64 (v0.length : Int)), (.int .i64 0)] (rc (.keep _ (slH_lt h0)) (rc (.keep _ (lt_fn (ltL_cons (.ep _ _ _ _ (.sl _ _ _ _ _ _ hidk10)) (ltL_cons (.ep _ _ _ _ (.sl _ _ _ _ _ _ hidk11)) ltL_nil)))) (rc rki (rc rki rn)))) RowsR.nil
 rintro v448 E' h' n' o450 ⟨i449, rfl, rfl, rfl⟩ ho454 hf453
 replace i449 : I64 v448 := i449
 replace ho454 : m_g_IndexFunc_Rec__i_heldBy_1_a2 fu v0 vk10 vk11 v448 = some o450 := ho454
 unfold m_g_IndexFunc_Rec__i_heldBy_1_a2 at ho454
 show WQ Try.prog _ n h _ _ (envZ [0, 1, 7, 8] [x0, (.fn 133 [(.ep 8 (.sl 8 idk10 0 1 1 true) 0 0), (.ep 1 (.sl 1 idk11 0 1 1 true) 0 0)]), (.int .i64 (v0.length : Int)), (.int .i64 v448)]) (hp h n []) n
 refine rg0 hT ?_
 refine WQ.seq_k fun K456 hK456 => ?_
 refine cn ho454 (fun z458 ho454 => ?_) fun z458 ho454 => ?_
 refine WQ.skip ?_
 refine sg ?_
 refine kn hK456 ?_
 clear hK456 K456
 refine WQ.seq_k fun K459 hK459 => ?_
 refine WQ.block ?_
 refine rg0 hT ?_
 refine WQ.seq_k fun K499 hK499 => ?_
 obtain ⟨a517, q518, ho454⟩ := obs ho454
 obtain ⟨e521, p519, h523⟩ := atk q518 a12
 have gh523 := h523
 obtain ⟨rfl, i524, i525, i526, i527, i528, i529⟩ := h523
 obtain ⟨v531, q530, ho454⟩ := obs ho454
 refine WQ.region hT rfl ?_
 refine sq (a5 F15 (hpl h hidk10) hbk10 (hpl h hidk11) (a3 hbk11 F26 p519)) ?_
 refine w_i_heldBy_1 gh523 ghk10 hidk10 ((hp_low hidk10).trans hbk10) (SlH.up hk11 0) hidk11 ((hp_low hidk11).trans hbk11) q530 (fun y532 h533 => ?_)
 obtain rfl := h533
 refine sk (a5 F15 (hpl h hidk10) hbk10 (hpl h hidk11) (a3 hbk11 F26 p519)) ?_
 refine kn hK499 ?_
 clear hK499 K499
 refine cn ho454 (fun z534 ho454 => ?_) fun z534 ho454 => ?_
 refine rg0 hT ?_
 have e536 := hf453 _ (Option.some.inj ho454).symm
 rw [← e536] at hm
 exact rtI 4 hlt hk (a := v448) hm i449
 refine WQ.skip ?_
 refine sg ?_
 refine kn hK459 ?_
 clear hK459 K459
 refine WQ.region hT rfl ?_
 refine sq0 ?_
 refine ⟨_, _, _, _, (Option.some.inj ho454).symm, ?_, (rng_wrap64 _), rfl, rfl, rfl⟩
 exact nm [] [0, 1, 7, 8] [x0, (.fn 133 [(.ep 8 (.sl 8 idk10 0 1 1 true) 0 0), (.ep 1 (.sl 1 idk11 0 1 1 true) 0 0)]), (.int .i64 (v0.length : Int)), (.int .i64 (IntKind.i64.wrap (v448 + 1)))] (rc (.keep _ (slH_lt h0)) (rc (.keep _ (lt_fn (ltL_cons (.ep _ _ _ _ (.sl _ _ _ _ _ _ hidk10)) (ltL_cons (.ep _ _ _ _ (.sl _ _ _ _ _ _ hidk11)) ltL_nil)))) (rc rki (rc rki rn)))) RowsR.nil
 refine WQ.exit ?_
 refine sg ?_
 have e537 := hf453 _ (Option.some.inj ho454).symm
 rw [← e537] at hm
 refine j277 _ _ _  ?_ hm
 exact nm [] [] [] rn RowsR.nil
def m_g_ContainsFunc_Rec__i_heldBy_1 (fu : Nat) (v0 : List RecD) (vk10 : RecD) (vk11 : List RecD) : Option Bool :=
  (Option.bind (m_g_IndexFunc_Rec__i_heldBy_1 fu v0 vk10 vk11) fun v35 => some (decide (0 ≤ v35)))
set_option maxHeartbeats 2000000 in
theorem w_g_ContainsFunc_Rec__i_heldBy_1 {x0 : AV} {v0 : List RecD} (h0 : (SlH h n 8 RecR) x0 v0) {xk10 : AV} {vk10 : RecD} (hk10 : RecR xk10 vk10) {idk10 : Nat} (hidk10 : idk10 < n) (hbk10 : h idk10 = some [xk10]) {xk11 : AV} {vk11 : List RecD} (hk11 : (SlH h n 8 RecR) xk11 vk11) {idk11 : Nat} (hidk11 : idk11 < n) (hbk11 : h idk11 = some [xk11]) {fu : Nat} {r : Bool} (hm : m_g_ContainsFunc_Rec__i_heldBy_1 fu v0 vk10 vk11 = some r) (hk : ∀ y, BoolR y r → K y h n) : CA Try.prog 101 [x0, (.fn 133 [(.ep 8 (.sl 8 idk10 0 1 1 true) 0 0), (.ep 1 (.sl 1 idk11 0 1 1 true) 0 0)])] h n K := by
 refine CA.enterQ (N := 9) (rs := [.tmp 4]) hT Try.call101 Try.func101 rfl rfl (of_decide_eq_true rfl) rfl fun hlt => ?_
 unfold m_g_ContainsFunc_Rec__i_heldBy_1 at hm
 obtain ⟨es11, a12, l13, b14, F15⟩ := sHo h0
 have ghk10 := hk10
 obtain ⟨rfl, i16, i17, i18, i19, i20, i21⟩ := hk10
 obtain ⟨es22, a23, l24, b25, F26⟩ := sHo hk11
 refine rg0 hT ?_
 obtain ⟨v35, q34, hm⟩ := obs hm
 refine WQ.sr hT rfl fun K28 hK28 => ?_
 refine sq (a5 F15 (hpl h hidk10) hbk10 (hpl h hidk11) (a2 hbk11 F26)) ?_
 refine w_g_IndexFunc_Rec__i_heldBy_1 (SlH.up h0 0) ghk10 hidk10 ((hp_low hidk10).trans hbk10) (SlH.up hk11 0) hidk11 ((hp_low hidk11).trans hbk11) q34 (fun y36 h37 => ?_)
 obtain ⟨rfl, i38⟩ := h37
 refine sk (a5 F15 (hpl h hidk10) hbk10 (hpl h hidk11) (a2 hbk11 F26)) ?_
 refine kn hK28 ?_
 clear hK28 K28
 exact rtB 4 hlt hk (a := (decide (0 ≤ v35))) hm
def m_i_heldBy (fu : Nat) (v0 : List RecD) (v1 : RecD) : Option Bool :=
  (Option.bind (m_g_ContainsFunc_Rec__i_heldBy_1 fu v0 v1 v0) fun v29 => some v29)
set_option maxHeartbeats 2000000 in
theorem w_i_heldBy {x0 : AV} {v0 : List RecD} (h0 : (SlH h n 8 RecR) x0 v0) {x1 : AV} {v1 : RecD} (h1 : RecR x1 v1) {fu : Nat} {r : Bool} (hm : m_i_heldBy fu v0 v1 = some r) (hk : ∀ y, BoolR y r → K y h n) : CA Try.prog 105 [x0, x1] h n K := by
 refine CA.enterQ (N := 8) (rs := [.tmp 4]) hT Try.call105 Try.func105 rfl rfl (of_decide_eq_true rfl) rfl fun hlt => ?_
 unfold m_i_heldBy at hm
 obtain ⟨es11, a12, l13, b14, F15⟩ := sHo h0
 have gh1 := h1
 obtain ⟨rfl, i16, i17, i18, i19, i20, i21⟩ := h1
 refine rg hT F15 ?_
 obtain ⟨v29, q28, hm⟩ := obs hm
 refine WQ.sr hT rfl fun K23 hK23 => ?_
 refine sq F15 ?_
 refine w_g_ContainsFunc_Rec__i_heldBy_1 (SlH.up h0 2) gh1 (lt_row (j := 1) (m := 2) rfl) (hp_get 1) (SlH.up h0 2) (lt_row (j := 0) (m := 2) rfl) hp_get0 q28 (fun y30 h31 => ?_)
 obtain rfl := h31
 refine sk F15 ?_
 refine kn hK23 ?_
 clear hK23 K23
 exact rtB 4 hlt hk (a := v29) hm
def m_i_chain_1_a1 (fu : Nat) (v21 : Bool) : Option Bool :=
  some v21
def m_i_chain_1 (fu : Nat) (v0 : RecD) (vc0 : Int) (vc1 : Int) : Option Bool :=
  (if (decide (v0.kind = 5)) = true then (if (decide (v0.txn = vc0)) = true then (m_i_chain_1_a1 fu (decide (v0.back = vc1))) else (m_i_chain_1_a1 fu false)) else (m_i_chain_1_a1 fu false))
set_option maxHeartbeats 2000000 in
theorem w_i_chain_1 {x0 : AV} {v0 : RecD} (h0 : RecR x0 v0) {vc0 : Int} (ic0 : I64 vc0) {idc0 : Nat} (hidc0 : idc0 < n) (hbc0 : h idc0 = some [(.int .i64 vc0)]) {vc1 : Int} (ic1 : I64 vc1) {idc1 : Nat} (hidc1 : idc1 < n) (hbc1 : h idc1 = some [(.int .i64 vc1)]) {fu : Nat} {r : Bool} (hm : m_i_chain_1 fu v0 vc0 vc1 = some r) (hk : ∀ y, BoolR y r → K y h n) : CA Try.prog 134 [x0, (.ep 1 (.sl 1 idc0 0 1 1 true) 0 0), (.ep 1 (.sl 1 idc1 0 1 1 true) 0 0)] h n K := by
 refine CA.enterQ (N := 20) (rs := [.tmp 4]) hT Try.call134 Try.func134 rfl rfl (of_decide_eq_true rfl) rfl fun hlt => ?_
 unfold m_i_chain_1 at hm
 have gh0 := h0
 obtain ⟨rfl, i11, i12, i13, i14, i15, i16⟩ := h0
 refine rg0 hT ?_
 refine WQ.seq_k fun K18 hK18 => ?_
 have j22 : ∀ (E' : Env) (h' : Heap) (n' : Nat) (v21 : Bool), Norm n h E' h' n' (envZ [4] [(.bool v21)]) (hp h n []) n → (m_i_chain_1_a1 fu v21) = some r → K18 E' h' n' := by
  intro E24 H25 n26 v21 N23 hm
  refine hK18 _ _ _ _ _ _ N23 ?_
  clear N23 hK18 K18
  unfold m_i_chain_1_a1 at hm
  exact rtB 4 hlt hk (a := v21) hm
 clear hK18
 rcases Bool.eq_false_or_eq_true (decide (v0.kind = 5)) with z27 | z27
 replace hm := ifT z27 hm
 rcases Bool.eq_false_or_eq_true (decide (v0.txn = vc0)) with z28 | z28
 replace hm := ifT z28 hm
 refine WQ.region hT rfl ?_
 refine sq (a5 (hpl h hidc0) hbc0 (hpl h hidc1) hbc1 (a2 (eqT z27) (eqT z28))) ?_
 refine j22 _ _ _ (decide (v0.back = vc1)) ?_ hm
 exact nm [] [4] [(.bool (decide (v0.back = vc1)))] (rc rkb rn) RowsR.nil
 replace hm := ifF z28 hm
 refine WQ.region hT rfl ?_
 refine sq (a5 (hpl h hidc0) hbc0 (hpl h hidc1) hbc1 (a2 (eqT z27) (eqF z28))) ?_
 refine j22 _ _ _ false ?_ hm
 exact nm [] [4] [(.bool false)] (rc rkb rn) RowsR.nil
 replace hm := ifF z27 hm
 refine WQ.region hT rfl ?_
 refine sq (a5 (hpl h hidc0) hbc0 (hpl h hidc1) hbc1 (eqF z27)) ?_
 refine j22 _ _ _ false ?_ hm
 exact nm [] [4] [(.bool false)] (rc rkb rn) RowsR.nil
def m_g_IndexFunc_Rec__i_chain_1_a1 (fu : Nat) : Option Int :=
  some (-1)
def m_g_IndexFunc_Rec__i_chain_1_a2 (fu : Nat) (v0 : List RecD) (vk10 : Int) (vk11 : Int) (v437 : Int) : Option (Int ⊕ (Unit ⊕ Option Int)) :=
  (if (decide (v437 < (v0.length : Int))) = true then (Option.bind (atL v0 v437) fun a506 => (Option.bind (m_i_chain_1 fu a506 vk10 vk11) fun v520 => (if v520 = true then some (Sum.inr (Sum.inr (some v437))) else some (Sum.inl (IntKind.i64.wrap (v437 + 1)))))) else some (Sum.inr (Sum.inl ())))
def m_g_IndexFunc_Rec__i_chain_1 (fu : Nat) (v0 : List RecD) (vk10 : Int) (vk11 : Int) : Option Int :=
  (Option.bind (iterN (fun (s : Int) => m_g_IndexFunc_Rec__i_chain_1_a2 fu v0 vk10 vk11 s) fu 0) fun q440 => Sum.elim (fun (b : Unit) => (m_g_IndexFunc_Rec__i_chain_1_a1 fu)) (fun x => x) q440)
set_option maxHeartbeats 2000000 in
theorem w_g_IndexFunc_Rec__i_chain_1 {x0 : AV} {v0 : List RecD} (h0 : (SlH h n 8 RecR) x0 v0) {vk10 : Int} (ik10 : I64 vk10) {idk10 : Nat} (hidk10 : idk10 < n) (hbk10 : h idk10 = some [(.int .i64 vk10)]) {vk11 : Int} (ik11 : I64 vk11) {idk11 : Nat} (hidk11 : idk11 < n) (hbk11 : h idk11 = some [(.int .i64 vk11)]) {fu : Nat} {r : Int} (hm : m_g_IndexFunc_Rec__i_chain_1 fu v0 vk10 vk11 = some r) (hk : ∀ y, Int64R y r → K y h n) : CA Try.prog 131 [x0, (.fn 134 [(.ep 1 (.sl 1 idk10 0 1 1 true) 0 0), (.ep 1 (.sl 1 idk11 0 1 1 true) 0 0)])] h n K := by
 refine CA.enterQ (N := 19) (rs := [.tmp 4]) hT Try.call131 Try.func131 rfl rfl (of_decide_eq_true rfl) rfl fun hlt => ?_
 unfold m_g_IndexFunc_Rec__i_chain_1 at hm
 obtain ⟨es11, a12, l13, b14, F15⟩ := sHo h0
 refine rg0 hT ?_
 refine WQ.seq_k fun K17 hK17 => ?_
 have j266 : ∀ (E' : Env) (h' : Heap) (n' : Nat), Norm n h E' h' n' (envZ [] []) (hp h n []) n → (m_g_IndexFunc_Rec__i_chain_1_a1 fu) = some r → K17 E' h' n' := by
  intro E268 H269 n270 N267 hm
  refine hK17 _ _ _ _ _ _ N267 ?_
  clear N267 hK17 K17
  unfold m_g_IndexFunc_Rec__i_chain_1_a1 at hm
  refine rg0 hT ?_
  exact rtI 4 hlt hk (a := (-1)) hm (i64c (a := (-1)) rfl)
 clear hK17
 refine rg hT F15 ?_
 refine WQ.block ?_
 obtain ⟨q440, hq441, hm⟩ := obs hm
 refine WQ.norm ?_ (WQ.iter (step := (fun (s : Int) => m_g_IndexFunc_Rec__i_chain_1_a2 fu v0 vk10 vk11 s)) (fun (s : Int) E' h' n' => I64 s ∧ (envZ [0, 1, 7, 8] [x0, (.fn 134 [(.ep 1 (.sl 1 idk10 0 1 1 true) 0 0), (.ep 1 (.sl 1 idk11 0 1 1 true) 0 0)]), (.int .i64 (v0.length : Int)), (.int .i64 s)]) = E' ∧ (hp h n []) = h' ∧ n = n') hq441 ⟨(i64c (a := 0) rfl), rfl, rfl, rfl⟩ ?_)
 exact nm [] [0, 1, 7, 8] [x0, (.fn 134 [(.ep 1 (.sl 1 idk10 0 1 1 true) 0 0), (.ep 1 (.sl 1 idk11 0 1 1 true) 0 0)]), (.int .i64 (v0.length : Int)), (.int .i64 0)] (rc (.keep _ (slH_lt h0)) (rc (.keep _ (lt_fn (ltL_cons (.ep _ _ _ _ (.sl _ _ _ _ _ _ hidk10)) (ltL_cons (.ep _ _ _ _ (.sl _ _ _ _ _ _ hidk11)) ltL_nil)))) (rc rki (rc rki rn)))) RowsR.nil
 rintro v437 E' h' n' o439 ⟨i438, rfl, rfl, rfl⟩ ho443 hf442
 replace i438 : I64 v437 := i438
 replace ho443 : m_g_IndexFunc_Rec__i_chain_1_a2 fu v0 vk10 vk11 v437 = some o439 := ho443
 unfold m_g_IndexFunc_Rec__i_chain_1_a2 at ho443
 show WQ Try.prog _ n h _ _ (envZ [0, 1, 7, 8] [x0, (.fn 134 [(.ep 1 (.sl 1 idk10 0 1 1 true) 0 0), (.ep 1 (.sl 1 idk11 0 1 1 true) 0 0)]), (.int .i64 (v0.length : Int)), (.int .i64 v437)]) (hp h n []) n
 refine rg0 hT ?_
 refine WQ.seq_k fun K445 hK445 => ?_
 refine cn ho443 (fun z447 ho443 => ?_) fun z447 ho443 => ?_
 refine WQ.skip ?_
 refine sg ?_
 refine kn hK445 ?_
 clear hK445 K445
 refine WQ.seq_k fun K448 hK448 => ?_
 refine WQ.block ?_
 refine rg0 hT ?_
 refine WQ.seq_k fun K488 hK488 => ?_
 obtain ⟨a506, q507, ho443⟩ := obs ho443
 obtain ⟨e510, p508, h512⟩ := atk q507 a12
 have gh512 := h512
 obtain ⟨rfl, i513, i514, i515, i516, i517, i518⟩ := h512
 obtain ⟨v520, q519, ho443⟩ := obs ho443
 refine WQ.region hT rfl ?_
 refine sq (a5 F15 (hpl h hidk10) hbk10 (hpl h hidk11) (a2 hbk11 p508)) ?_
 refine w_i_chain_1 gh512 ik10 hidk10 ((hp_low hidk10).trans hbk10) ik11 hidk11 ((hp_low hidk11).trans hbk11) q519 (fun y521 h522 => ?_)
 obtain rfl := h522
 refine sk (a5 F15 (hpl h hidk10) hbk10 (hpl h hidk11) (a2 hbk11 p508)) ?_
 refine kn hK488 ?_
 clear hK488 K488
 refine cn ho443 (fun z523 ho443 => ?_) fun z523 ho443 => ?_
 refine rg0 hT ?_
 have e525 := hf442 _ (Option.some.inj ho443).symm
 rw [← e525] at hm
 exact rtI 4 hlt hk (a := v437) hm i438
 refine WQ.skip ?_
 refine sg ?_
 refine kn hK448 ?_
 clear hK448 K448
 refine WQ.region hT rfl ?_
 refine sq0 ?_
 refine ⟨_, _, _, _, (Option.some.inj ho443).symm, ?_, (rng_wrap64 _), rfl, rfl, rfl⟩
 exact nm [] [0, 1, 7, 8] [x0, (.fn 134 [(.ep 1 (.sl 1 idk10 0 1 1 true) 0 0), (.ep 1 (.sl 1 idk11 0 1 1 true) 0 0)]), (.int .i64 (v0.length : Int)), (.int .i64 (IntKind.i64.wrap (v437 + 1)))] (rc (.keep _ (slH_lt h0)) (rc (.keep _ (lt_fn (ltL_cons (.ep _ _ _ _ (.sl _ _ _ _ _ _ hidk10)) (ltL_cons (.ep _ _ _ _ (.sl _ _ _ _ _ _ hidk11)) ltL_nil)))) (rc rki (rc rki rn)))) RowsR.nil
 refine WQ.exit ?_
 refine sg ?_
 have e526 := hf442 _ (Option.some.inj ho443).symm
 rw [← e526] at hm
 refine j266 _ _ _  ?_ hm
 exact nm [] [] [] rn RowsR.nil
def m_g_ContainsFunc_Rec__i_chain_1 (fu : Nat) (v0 : List RecD) (vk10 : Int) (vk11 : Int) : Option Bool :=
  (Option.bind (m_g_IndexFunc_Rec__i_chain_1 fu v0 vk10 vk11) fun v24 => some (decide (0 ≤ v24)))
set_option maxHeartbeats 2000000 in
theorem w_g_ContainsFunc_Rec__i_chain_1 {x0 : AV} {v0 : List RecD} (h0 : (SlH h n 8 RecR) x0 v0) {vk10 : Int} (ik10 : I64 vk10) {idk10 : Nat} (hidk10 : idk10 < n) (hbk10 : h idk10 = some [(.int .i64 vk10)]) {vk11 : Int} (ik11 : I64 vk11) {idk11 : Nat} (hidk11 : idk11 < n) (hbk11 : h idk11 = some [(.int .i64 vk11)]) {fu : Nat} {r : Bool} (hm : m_g_ContainsFunc_Rec__i_chain_1 fu v0 vk10 vk11 = some r) (hk : ∀ y, BoolR y r → K y h n) : CA Try.prog 101 [x0, (.fn 134 [(.ep 1 (.sl 1 idk10 0 1 1 true) 0 0), (.ep 1 (.sl 1 idk11 0 1 1 true) 0 0)])] h n K := by
 refine CA.enterQ (N := 9) (rs := [.tmp 4]) hT Try.call101 Try.func101 rfl rfl (of_decide_eq_true rfl) rfl fun hlt => ?_
 unfold m_g_ContainsFunc_Rec__i_chain_1 at hm
 obtain ⟨es11, a12, l13, b14, F15⟩ := sHo h0
 refine rg0 hT ?_
 obtain ⟨v24, q23, hm⟩ := obs hm
 refine WQ.sr hT rfl fun K17 hK17 => ?_
 refine sq (a5 F15 (hpl h hidk10) hbk10 (hpl h hidk11) hbk11) ?_
 refine w_g_IndexFunc_Rec__i_chain_1 (SlH.up h0 0) ik10 hidk10 ((hp_low hidk10).trans hbk10) ik11 hidk11 ((hp_low hidk11).trans hbk11) q23 (fun y25 h26 => ?_)
 obtain ⟨rfl, i27⟩ := h26
 refine sk (a5 F15 (hpl h hidk10) hbk10 (hpl h hidk11) hbk11) ?_
 refine kn hK17 ?_
 clear hK17 K17
 exact rtB 4 hlt hk (a := (decide (0 ≤ v24))) hm
def m_i_chain_a1 (fu : Nat) (v486 : List Int) : Option (List Int) :=
  some v486
def m_i_chain_a2 (fu : Nat) (v808 : Int) (v890 : List Int) : Option (((List Int) × Int) ⊕ ((List Int) ⊕ Option (List Int))) :=
  some (Sum.inl (v890, IntKind.i64.wrap (v808 - 1)))
def m_i_chain_a3 (fu : Nat) (v805 : List Int) (v808 : Int) (v942 : Bool) : Option (((List Int) × Int) ⊕ ((List Int) ⊕ Option (List Int))) :=
  (if v942 = true then (Option.bind (snocL 8 v805 (IntKind.i64.wrap (v808 + 1))) fun v949 => (m_i_chain_a2 fu v808 v949)) else (m_i_chain_a2 fu v808 v805))
def m_i_chain_a4 (fu : Nat) (v0 : List RecD) (v1 : Int) (v805 : List Int) (v808 : Int) : Option (((List Int) × Int) ⊕ ((List Int) ⊕ Option (List Int))) :=
  (if (decide (0 ≤ v808)) = true then (Option.bind (sliceL v0 (IntKind.i64.wrap (v808 + 1)) (v0.length : Int)) fun v913 => (Option.bind (m_g_ContainsFunc_Rec__i_chain_1 fu v913 v1 (IntKind.i64.wrap (v808 + 1))) fun v923 => (Option.bind (atL v0 v808) fun a951 => (if (decide (a951.kind = 2)) = true then (if (decide (a951.txn = v1)) = true then (m_i_chain_a3 fu v805 v808 (!v923)) else (m_i_chain_a3 fu v805 v808 false)) else (m_i_chain_a3 fu v805 v808 false))))) else some (Sum.inr (Sum.inl v805)))
def m_i_chain (fu : Nat) (v0 : List RecD) (v1 : Int) : Option (List Int) :=
  (Option.bind (iterN (fun (s : (List Int) × Int) => m_i_chain_a4 fu v0 v1 s.1 s.2) fu (([] : List Int), IntKind.i64.wrap ((v0.length : Int) - 1))) fun q811 => Sum.elim (fun (b : (List Int)) => (m_i_chain_a1 fu b)) (fun x => x) q811)
set_option maxHeartbeats 2000000 in
theorem w_i_chain_o {x0 : AV} {v0 : List RecD} (h0 : (SlH h n 8 RecR) x0 v0) {v1 : Int} (i1 : I64 v1) {fu : Nat} {r : (List Int)} (hm : m_i_chain fu v0 v1 = some r) (hk : ∀ A rw, NOwn n 0 1 Int64R A rw r → K A (hp h n [rw]) (n + 1)) : CA Try.prog 106 [x0, (.int .i64 v1)] h n K := by
 refine CA.enterQ (N := 49) (rs := [.tmp 4]) hT Try.call106 Try.func106 rfl rfl (of_decide_eq_true rfl) rfl fun hlt => ?_
 unfold m_i_chain at hm
 obtain ⟨es11, a12, l13, b14, F15⟩ := sHo h0
 refine rg0 hT ?_
 refine rg0 hT ?_
 refine WQ.seq_k fun K18 hK18 => ?_
 have j489 : ∀ (E' : Env) (h' : Heap) (n' : Nat) (es485 : List AV) (v486 : List Int) (a487 : All2 Int64R es485 v486) (b488 : es485.length ≤ 140737488355328), Norm n h E' h' n' (envZ [5] [(.sl 1 n 0 v486.length v486.length false)]) (hp h n [some es485]) (n + 1) → (m_i_chain_a1 fu v486) = some r → K18 E' h' n' := by
  intro E491 H492 n493 es485 v486 a487 b488 N490 hm
  refine hK18 _ _ _ _ _ _ N490 ?_
  clear N490 hK18 K18
  unfold m_i_chain_a1 at hm
  refine rg hT (a2 (all2_length a487) (own_take a487)) ?_
  refine WQ.norm (E2 := envZ [4] [(.sl 1 n 0 v486.length v486.length false)]) (h2 := hp h n [(some es485)]) (n2 := n + 1) ?_ (WQ.ret ⟨_, rfl, _, _, _, .keep _ _ _ _ (fun _ _ h => h), ?_⟩)
  exact nm [0] [4] [(.sl 1 n 0 v486.length v486.length false)] (rc (Rn.own (js := [0]) 0 0) rn) (RowsR.row 0 _ _ _ _ hp_get0 (RnL.all2 a487 int64_lt) RowsR.nil)
  exact hkN hk (m := v486) hm (nown_own a487 b488)
 clear hK18
 refine rg hT F15 ?_
 refine WQ.block ?_
 obtain ⟨q811, hq812, hm⟩ := obs hm
 refine WQ.norm ?_ (WQ.iter (step := (fun (s : (List Int) × Int) => m_i_chain_a4 fu v0 v1 s.1 s.2)) (fun (s : (List Int) × Int) E' h' n' => ∃ (es804 : List AV), All2 Int64R es804 s.1 ∧ es804.length ≤ 140737488355328 ∧ I64 s.2 ∧ (envZ [0, 3, 5, 6] [x0, (.ep 1 (.sl 1 n 0 1 1 true) 0 0), (.sl 1 (n + 1) 0 s.1.length s.1.length false), (.int .i64 s.2)]) = E' ∧ (hp h n [some [(.int .i64 v1)], some es804]) = h' ∧ (n + 2) = n') hq812 ⟨([]), (nl0 Int64R), (of_decide_eq_true rfl), (rng_wrap64 _), rfl, rfl, rfl⟩ ?_)
 exact nm [0, 1] [0, 3, 5, 6] [x0, (.ep 1 (.sl 1 n 0 1 1 true) 0 0), (.sl 1 (n + 1) 0 0 0 true), (.int .i64 (IntKind.i64.wrap ((v0.length : Int) - 1)))] (rc (.keep _ (slH_lt h0)) (rc (Rn.ptr (js := [0, 1]) 0 0) (rc (Rn.ownF (js := [0, 1]) 1 1) (rc rki rn)))) (RowsR.row 0 _ _ _ _ hp_get0 (rc rki rn) (RowsR.row 1 _ _ _ _ (hp_get 1) (RnL.all2 (nl0 Int64R) int64_lt) RowsR.nil))
 rintro ⟨v805, v808⟩ E' h' n' o810 ⟨es804, a806, b807, i809, rfl, rfl, rfl⟩ ho814 hf813
 replace a806 : All2 Int64R es804 v805 := a806
 replace b807 : es804.length ≤ 140737488355328 := b807
 replace i809 : I64 v808 := i809
 replace ho814 : m_i_chain_a4 fu v0 v1 v805 v808 = some o810 := ho814
 unfold m_i_chain_a4 at ho814
 show WQ Try.prog _ n h _ _ (envZ [0, 3, 5, 6] [x0, (.ep 1 (.sl 1 n 0 1 1 true) 0 0), (.sl 1 (n + 1) 0 v805.length v805.length false), (.int .i64 v808)]) (hp h n [some [(.int .i64 v1)], some es804]) (n + 2)
 refine WQ.seq_k fun K815 hK815 => ?_
 refine rg0 hT ?_
 refine cn ho814 (fun z819 ho814 => ?_) fun z819 ho814 => ?_
 refine WQ.skip ?_
 refine sg ?_
 refine kn hK815 ?_
 clear hK815 K815
 refine WQ.seq_k fun K820 hK820 => ?_
 have j893 : ∀ (E' : Env) (h' : Heap) (n' : Nat) (es889 : List AV) (v890 : List Int) (a891 : All2 Int64R es889 v890) (b892 : es889.length ≤ 140737488355328), Norm n h E' h' n' (envZ [0, 3, 5, 6] [x0, (.ep 1 (.sl 1 n 0 1 1 true) 0 0), (.sl 1 (n + 1) 0 v890.length v890.length false), (.int .i64 v808)]) (hp h n [some [(.int .i64 v1)], some es889]) (n + 2) → (m_i_chain_a2 fu v808 v890) = some o810 → K820 E' h' n' := by
  intro E895 H896 n897 es889 v890 a891 b892 N894 ho814
  refine hK820 _ _ _ _ _ _ N894 ?_
  clear N894 hK820 K820
  unfold m_i_chain_a2 at ho814
  refine WQ.region hT rfl ?_
  refine sq0 ?_
  refine ⟨_, _, _, _, (Option.some.inj ho814).symm, ?_, es889, a891, b892, (rng_wrap64 _), rfl, rfl, rfl⟩
  exact nm [0, 1] [0, 3, 5, 6] [x0, (.ep 1 (.sl 1 n 0 1 1 true) 0 0), (.sl 1 (n + 1) 0 v890.length v890.length false), (.int .i64 (IntKind.i64.wrap (v808 - 1)))] (rc (.keep _ (slH_lt h0)) (rc (Rn.ptr (js := [0, 1]) 0 0) (rc (Rn.own (js := [0, 1]) 1 1) (rc rki rn)))) (RowsR.row 0 _ _ _ _ hp_get0 (rc rki rn) (RowsR.row 1 _ _ _ _ (hp_get 1) (RnL.all2 a891 int64_lt) RowsR.nil))
 clear hK820
 refine WQ.block ?_
 refine rg0 hT ?_
 obtain ⟨v913, q914, ho814⟩ := obs ho814
 obtain ⟨v923, q922, ho814⟩ := obs ho814
 refine WQ.sr hT rfl fun K899 hK899 => ?_
 refine sq F15 ?_
 refine op_partH (el := 76) (X := x0) rfl ?_ h0 (of_decide_eq_true rfl) tyRec_76.lt ?_ rfl q914 (fun y915 h916 => ?_)
 exact sc0
 exact sc0
 replace h916 : (SlH h n 8 RecR) y915 v913 := h916
 obtain ⟨es917, a918, l919, b920, F921⟩ := sHo h916
 refine sk (a2 F15 F921) ?_
 refine w_g_ContainsFunc_Rec__i_chain_1 (SlH.up h916 3) i1 (lt_row (j := 0) (m := 3) rfl) hp_get0 (rng_wrap64 _) (lt_row (j := 2) (m := 3) rfl) (hp_get 2) q922 (fun y924 h925 => ?_)
 obtain rfl := h925
 refine sk (a2 F15 F921) ?_
 refine kn hK899 ?_
 clear hK899 K899
 refine WQ.seq_k fun K926 hK926 => ?_
 have j943 : ∀ (E' : Env) (h' : Heap) (n' : Nat) (v942 : Bool), Norm n h E' h' n' (envZ [0, 3, 5, 6, 7, 43] [x0, (.ep 1 (.sl 1 n 0 1 1 true) 0 0), (.sl 1 (n + 1) 0 v805.length v805.length false), (.int .i64 v808), (.ep 1 (.sl 1 (n + 2) 0 1 1 true) 0 0), (.bool v942)]) (hp h n [some [(.int .i64 v1)], some es804, some [(.int .i64 (IntKind.i64.wrap (v808 + 1)))]]) (n + 3) → (m_i_chain_a3 fu v805 v808 v942) = some o810 → K926 E' h' n' := by
  intro E945 H946 n947 v942 N944 ho814
  refine hK926 _ _ _ _ _ _ N944 ?_
  clear N944 hK926 K926
  unfold m_i_chain_a3 at ho814
  refine cn ho814 (fun z948 ho814 => ?_) fun z948 ho814 => ?_
  obtain ⟨v949, q950, ho814⟩ := obs ho814
  refine WQ.region hT rfl ?_
  refine sq (a2 (all2_length a806) (own_take a806)) ?_
  refine ⟨2, rfl, app_mv1 (j := 1) rfl (of_decide_eq_true rfl) rfl ?_ ?_ (all2_length a806) q950 a806 (int64R (rng_wrap64 _)) ?_⟩
  exact sc (a2 (all2_length a806) (own_take a806))
  exact sc0
  refine sk (a4 (all2_length (snoc_all2 q950 a806 (int64R (rng_wrap64 _)))) (own_take (snoc_all2 q950 a806 (int64R (rng_wrap64 _)))) (all2_length a806) (own_take a806)) ?_
  refine j893 _ _ _ (es804 ++ [(.int .i64 (IntKind.i64.wrap (v808 + 1)))]) v949 (snoc_all2 q950 a806 (int64R (rng_wrap64 _))) (snoc_len q950 a806 (int64R (rng_wrap64 _))) ?_ ho814
  exact nm [0, 4] [0, 3, 5, 6] [x0, (.ep 1 (.sl 1 n 0 1 1 true) 0 0), (.sl 1 (n + 4) 0 v949.length v949.length false), (.int .i64 v808)] (rc (.keep _ (slH_lt h0)) (rc (Rn.ptr (js := [0, 4]) 0 0) (rc (Rn.own (js := [0, 4]) 4 1) (rc rki rn)))) (RowsR.row 0 _ _ _ _ hp_get0 (rc rki rn) (RowsR.row 4 _ _ _ _ (hp_get 4) (RnL.all2 (snoc_all2 q950 a806 (int64R (rng_wrap64 _))) int64_lt) RowsR.nil))
  refine WQ.skip ?_
  refine sg ?_
  refine j893 _ _ _ es804 v805 a806 b807 ?_ ho814
  exact nm [0, 1] [0, 3, 5, 6] [x0, (.ep 1 (.sl 1 n 0 1 1 true) 0 0), (.sl 1 (n + 1) 0 v805.length v805.length false), (.int .i64 v808)] (rc (.keep _ (slH_lt h0)) (rc (Rn.ptr (js := [0, 1]) 0 0) (rc (Rn.own (js := [0, 1]) 1 1) (rc rki rn)))) (RowsR.row 0 _ _ _ _ hp_get0 (rc rki rn) (RowsR.row 1 _ _ _ _ (hp_get 1) (RnL.all2 a806 int64_lt) RowsR.nil))
 clear hK926
 obtain ⟨a951, q952, ho814⟩ := obs ho814
 obtain ⟨e955, p953, h957⟩ := atk q952 a12
 have gh957 := h957
 obtain ⟨rfl, i958, i959, i960, i961, i962, i963⟩ := h957
 rcases Bool.eq_false_or_eq_true (decide (a951.kind = 2)) with z964 | z964
 replace ho814 := ifT z964 ho814
 rcases Bool.eq_false_or_eq_true (decide (a951.txn = v1)) with z965 | z965
 replace ho814 := ifT z965 ho814
 refine WQ.drawL hT hM [(0, 0), (1, 0), (2, 1), (3, 0), (4, 1), (5, 0), (6, 0), (7, 0), (8, 0), (9, 1), (10, 0), (11, 1), (12, 1), (13, 0), (14, 0), (15, 0), (16, 0), (17, 0), (18, 0)] [] (hp h n [some [(.int .i64 v1)], some es804, some [(.int .i64 (IntKind.i64.wrap (v808 + 1)))]]) ?_ rfl ?_ fun _ => ?_
 kernel_rfl
 simp only [go_sem]
 refine sq (a4 F15 p953 (eqT z964) (eqT z965)) ?_
 refine j943 _ _ _ (!v923) ?_ ho814
 exact nm [0, 1, 2] [0, 3, 5, 6, 7, 43] [x0, (.ep 1 (.sl 1 n 0 1 1 true) 0 0), (.sl 1 (n + 1) 0 v805.length v805.length false), (.int .i64 v808), (.ep 1 (.sl 1 (n + 2) 0 1 1 true) 0 0), (.bool (!v923))] (rc (.keep _ (slH_lt h0)) (rc (Rn.ptr (js := [0, 1, 2]) 0 0) (rc (Rn.own (js := [0, 1, 2]) 1 1) (rc rki (rc (Rn.ptr (js := [0, 1, 2]) 2 2) (rc rkb rn)))))) (RowsR.row 0 _ _ _ _ hp_get0 (rc rki rn) (RowsR.row 1 _ _ _ _ (hp_get 1) (RnL.all2 a806 int64_lt) (RowsR.row 2 _ _ _ _ (hp_get 2) (rc rki rn) RowsR.nil)))
 replace ho814 := ifF z965 ho814
 refine WQ.drawL hT hM [(0, 0), (1, 0), (2, 1), (3, 0), (4, 1), (5, 0), (6, 0), (7, 0), (8, 0), (9, 1), (10, 0), (11, 1), (12, 1), (13, 0), (14, 0), (15, 0), (16, 0), (17, 0), (18, 0)] [] (hp h n [some [(.int .i64 v1)], some es804, some [(.int .i64 (IntKind.i64.wrap (v808 + 1)))]]) ?_ rfl ?_ fun _ => ?_
 kernel_rfl
 simp only [go_sem]
 refine sq (a4 F15 p953 (eqT z964) (eqF z965)) ?_
 refine j943 _ _ _ false ?_ ho814
 exact nm [0, 1, 2] [0, 3, 5, 6, 7, 43] [x0, (.ep 1 (.sl 1 n 0 1 1 true) 0 0), (.sl 1 (n + 1) 0 v805.length v805.length false), (.int .i64 v808), (.ep 1 (.sl 1 (n + 2) 0 1 1 true) 0 0), (.bool false)] (rc (.keep _ (slH_lt h0)) (rc (Rn.ptr (js := [0, 1, 2]) 0 0) (rc (Rn.own (js := [0, 1, 2]) 1 1) (rc rki (rc (Rn.ptr (js := [0, 1, 2]) 2 2) (rc rkb rn)))))) (RowsR.row 0 _ _ _ _ hp_get0 (rc rki rn) (RowsR.row 1 _ _ _ _ (hp_get 1) (RnL.all2 a806 int64_lt) (RowsR.row 2 _ _ _ _ (hp_get 2) (rc rki rn) RowsR.nil)))
 replace ho814 := ifF z964 ho814
 refine WQ.drawL hT hM [(0, 0), (1, 0), (2, 1), (3, 0), (4, 1), (5, 0), (6, 0), (7, 0), (8, 0), (9, 1), (10, 0), (11, 1), (12, 1), (13, 0), (14, 0), (15, 0), (16, 0), (17, 0), (18, 0)] [] (hp h n [some [(.int .i64 v1)], some es804, some [(.int .i64 (IntKind.i64.wrap (v808 + 1)))]]) ?_ rfl ?_ fun _ => ?_
 kernel_rfl
 simp only [go_sem]
 refine sq (a3 F15 p953 (eqF z964)) ?_
 refine j943 _ _ _ false ?_ ho814
 exact nm [0, 1, 2] [0, 3, 5, 6, 7, 43] [x0, (.ep 1 (.sl 1 n 0 1 1 true) 0 0), (.sl 1 (n + 1) 0 v805.length v805.length false), (.int .i64 v808), (.ep 1 (.sl 1 (n + 2) 0 1 1 true) 0 0), (.bool false)] (rc (.keep _ (slH_lt h0)) (rc (Rn.ptr (js := [0, 1, 2]) 0 0) (rc (Rn.own (js := [0, 1, 2]) 1 1) (rc rki (rc (Rn.ptr (js := [0, 1, 2]) 2 2) (rc rkb rn)))))) (RowsR.row 0 _ _ _ _ hp_get0 (rc rki rn) (RowsR.row 1 _ _ _ _ (hp_get 1) (RnL.all2 a806 int64_lt) (RowsR.row 2 _ _ _ _ (hp_get 2) (rc rki rn) RowsR.nil)))
 refine WQ.exit ?_
 refine sg ?_
 have e966 := hf813 _ (Option.some.inj ho814).symm
 rw [← e966] at hm
 refine j489 _ _ _ es804 v805 a806 b807 ?_ hm
 exact nm [1] [5] [(.sl 1 (n + 1) 0 v805.length v805.length false)] (rc (Rn.own (js := [1]) 1 0) rn) (RowsR.row 1 _ _ _ _ (hp_get 1) (RnL.all2 a806 int64_lt) RowsR.nil)
theorem w_i_chain {x0 : AV} {v0 : List RecD} (h0 : (SlH h n 8 RecR) x0 v0) {v1 : Int} (i1 : I64 v1) {fu : Nat} {r : (List Int)} (hm : m_i_chain fu v0 v1 = some r) (hk : ∀ y, (SlR 1 Int64R) y r → K y h n) : CA Try.prog 106 [x0, (.int .i64 v1)] h n K :=
 CA.ofN Try.call106 int64_lt (fun K hk => w_i_chain_o h0 i1 hm hk) hk
def m_i_soundNext_a1 (fu : Nat) : Option Int :=
  some 0
def m_i_soundNext_a2 (fu : Nat) (v407 : Bool) : Option Int :=
  (if v407 = true then some 4 else (m_i_soundNext_a1 fu))
def m_i_soundNext_a3 (fu : Nat) (v0 : List RecD) (v2 : RecD) (v369 : Bool) : Option Int :=
  (if v369 = true then some 4 else (Option.bind (atL v0 (IntKind.i64.wrap (v2.back - 1))) fun a391 => (if (decide (v2.key ≠ a391.key)) = true then (m_i_soundNext_a2 fu true) else (if (!(v2.has == a391.had)) = true then (m_i_soundNext_a2 fu true) else (m_i_soundNext_a2 fu (decide (v2.new ≠ a391.old)))))))
def m_i_soundNext_a4 (fu : Nat) (v0 : List RecD) (v2 : RecD) (v433 : Bool) : Option Int :=
  (if v433 = true then (Option.bind (m_i_kindsOf fu v0 v2.txn ([5])) fun v446 => (if v446 = true then some 4 else (m_i_soundNext_a1 fu))) else (m_i_soundNext_a1 fu))
def m_i_soundNext_a5 (fu : Nat) (v0 : List RecD) (v2 : RecD) (v175 : Bool) : Option Int :=
  (if v175 = true then some 9 else (Option.bind (m_i_chain fu v0 v2.txn) fun v194 => (if (decide (v2.kind = 5)) = true then (if (decide ((v194.length : Int) = 0)) = true then (m_i_soundNext_a3 fu v0 v2 true) else (Option.bind (atL v194 0) fun a418 => (m_i_soundNext_a3 fu v0 v2 (decide (a418 ≠ v2.back))))) else (if (decide (v2.kind = 4)) = true then (if (decide (0 < (v194.length : Int))) = true then some 4 else (m_i_soundNext_a1 fu)) else (if (decide (v2.kind = 2)) = true then (m_i_soundNext_a4 fu v0 v2 (decide (v2.kind = 2))) else (m_i_soundNext_a4 fu v0 v2 (decide (v2.kind = 3))))))))
def m_i_soundNext_a6 (fu : Nat) (v0 : List RecD) (v2 : RecD) (v141 : Bool) : Option Int :=
  (if v141 = true then some 1 else (if (decide (v2.kind = 2)) = true then (Option.bind (m_i_heldBy fu v0 v2) fun v455 => (m_i_soundNext_a5 fu v0 v2 v455)) else (m_i_soundNext_a5 fu v0 v2 false)))
def m_i_soundNext_a7 (fu : Nat) (v0 : List RecD) (v1 : List CellD) (v2 : RecD) (v103 : Bool) : Option Int :=
  (if v103 = true then some 10 else (Option.bind (m_i_valueIn fu v1 v2.key) fun v119 => (if (RecD.turns v2) = true then (if (!(v2.had == (decide (v119.code = 0)))) = true then (m_i_soundNext_a6 fu v0 v2 true) else (m_i_soundNext_a6 fu v0 v2 (decide (v2.old ≠ v119.value)))) else (m_i_soundNext_a6 fu v0 v2 false))))
def m_i_soundNext (fu : Nat) (v0 : List RecD) (v1 : List CellD) (v2 : RecD) : Option Int :=
  (if (decide (v2.kind = 6)) = true then some 0 else (Option.bind (m_g_ContainsFunc_Rec__i_soundNext_1 fu v0 v2) fun v41 => (if (decide (v2.kind = 1)) = true then (if v41 = true then some 10 else some 0) else (Option.bind (m_i_kindsOf fu v0 v2.txn ([1])) fun v461 => (if (!v461) = true then (m_i_soundNext_a7 fu v0 v1 v2 true) else (Option.bind (m_i_kindsOf fu v0 v2.txn ([3, 4])) fun v466 => (m_i_soundNext_a7 fu v0 v1 v2 v466)))))))
set_option maxHeartbeats 2000000 in
theorem w_i_soundNext {x0 : AV} {v0 : List RecD} (h0 : (SlH h n 8 RecR) x0 v0) {x1 : AV} {v1 : List CellD} (h1 : (SlH h n 2 CellR) x1 v1) {x2 : AV} {v2 : RecD} (h2 : RecR x2 v2) {fu : Nat} {r : Int} (hm : m_i_soundNext fu v0 v1 v2 = some r) (hk : ∀ y, Int64R y r → K y h n) : CA Try.prog 54 [x0, x1, x2] h n K := by
 refine CA.enterQ (N := 120) (rs := [.tmp 6]) hT Try.call54 Try.func54 rfl rfl (of_decide_eq_true rfl) rfl fun hlt => ?_
 unfold m_i_soundNext at hm
 obtain ⟨es11, a12, l13, b14, F15⟩ := sHo h0
 obtain ⟨es16, a17, l18, b19, F20⟩ := sHo h1
 have gh2 := h2
 obtain ⟨rfl, i21, i22, i23, i24, i25, i26⟩ := h2
 refine rg0 hT ?_
 refine WQ.seq_k fun K28 hK28 => ?_
 refine rg0 hT ?_
 refine cn hm (fun z33 hm => ?_) fun z33 hm => ?_
 refine rg0 hT ?_
 exact rtI 6 hlt hk (a := 0) hm (i64c (a := 0) rfl)
 refine WQ.skip ?_
 refine sg ?_
 refine kn hK28 ?_
 clear hK28 K28
 obtain ⟨v41, q40, hm⟩ := obs hm
 refine WQ.sr hT rfl fun K35 hK35 => ?_
 refine sq F15 ?_
 refine w_g_ContainsFunc_Rec__i_soundNext_1 (SlH.up h0 1) gh2 (lt_row (j := 0) (m := 1) rfl) hp_get0 q40 (fun y42 h43 => ?_)
 obtain rfl := h43
 refine sk F15 ?_
 refine kn hK35 ?_
 clear hK35 K35
 refine WQ.seq_k fun K44 hK44 => ?_
 refine rg0 hT ?_
 refine cn hm (fun z56 hm => ?_) fun z56 hm => ?_
 refine WQ.seq_k fun K57 hK57 => ?_
 refine rg0 hT ?_
 refine cn hm (fun z62 hm => ?_) fun z62 hm => ?_
 refine rg0 hT ?_
 exact rtI 6 hlt hk (a := 10) hm (i64c (a := 10) rfl)
 refine WQ.skip ?_
 refine sg ?_
 refine kn hK57 ?_
 clear hK57 K57
 refine rg0 hT ?_
 exact rtI 6 hlt hk (a := 0) hm (i64c (a := 0) rfl)
 refine WQ.skip ?_
 refine sg ?_
 refine kn hK44 ?_
 clear hK44 K44
 refine WQ.seq_k fun K65 hK65 => ?_
 refine WQ.seq_k fun K93 hK93 => ?_
 have j104 : ∀ (E' : Env) (h' : Heap) (n' : Nat) (v103 : Bool), Norm n h E' h' n' (envZ [0, 1, 5, 33] [x0, x1, (.ep 8 (.sl 8 n 0 1 1 true) 0 0), (.bool v103)]) (hp h n [some [(.agg [(.int .i64 v2.kind), (.int .i64 v2.txn), (.int .i64 v2.key), (.bool v2.had), (.int .i64 v2.old), (.bool v2.has), (.int .i64 v2.new), (.int .i64 v2.back)])]]) (n + 1) → (m_i_soundNext_a7 fu v0 v1 v2 v103) = some r → K93 E' h' n' := by
  intro E106 H107 n108 v103 N105 hm
  refine hK93 _ _ _ _ _ _ N105 ?_
  clear N105 hK93 K93
  unfold m_i_soundNext_a7 at hm
  refine cn hm (fun z109 hm => ?_) fun z109 hm => ?_
  refine rg0 hT ?_
  exact rtI 6 hlt hk (a := 10) hm (i64c (a := 10) rfl)
  refine WQ.skip ?_
  refine sg ?_
  refine kn hK65 ?_
  clear hK65 K65
  obtain ⟨v119, q118, hm⟩ := obs hm
  refine WQ.sr hT rfl fun K111 hK111 => ?_
  refine sq F20 ?_
  refine w_i_valueIn (SlH.up h1 1) i23 q118 (fun y120 h121 => ?_)
  have gh121 := h121
  obtain ⟨rfl, i122, i123⟩ := h121
  refine sk F20 ?_
  refine kn hK111 ?_
  clear hK111 K111
  refine WQ.seq_k fun K124 hK124 => ?_
  refine WQ.seq_k fun K138 hK138 => ?_
  have j142 : ∀ (E' : Env) (h' : Heap) (n' : Nat) (v141 : Bool), Norm n h E' h' n' (envZ [0, 5, 54] [x0, (.ep 8 (.sl 8 n 0 1 1 true) 0 0), (.bool v141)]) (hp h n [some [(.agg [(.int .i64 v2.kind), (.int .i64 v2.txn), (.int .i64 v2.key), (.bool v2.had), (.int .i64 v2.old), (.bool v2.has), (.int .i64 v2.new), (.int .i64 v2.back)])]]) (n + 1) → (m_i_soundNext_a6 fu v0 v2 v141) = some r → K138 E' h' n' := by
   intro E144 H145 n146 v141 N143 hm
   refine hK138 _ _ _ _ _ _ N143 ?_
   clear N143 hK138 K138
   unfold m_i_soundNext_a6 at hm
   refine cn hm (fun z147 hm => ?_) fun z147 hm => ?_
   refine rg0 hT ?_
   exact rtI 6 hlt hk (a := 1) hm (i64c (a := 1) rfl)
   refine WQ.skip ?_
   refine sg ?_
   refine kn hK124 ?_
   clear hK124 K124
   refine WQ.seq_k fun K149 hK149 => ?_
   refine WQ.seq_k fun K169 hK169 => ?_
   have j176 : ∀ (E' : Env) (h' : Heap) (n' : Nat) (v175 : Bool), Norm n h E' h' n' (envZ [0, 5, 62] [x0, (.ep 8 (.sl 8 n 0 1 1 true) 0 0), (.bool v175)]) (hp h n [some [(.agg [(.int .i64 v2.kind), (.int .i64 v2.txn), (.int .i64 v2.key), (.bool v2.had), (.int .i64 v2.old), (.bool v2.has), (.int .i64 v2.new), (.int .i64 v2.back)])]]) (n + 1) → (m_i_soundNext_a5 fu v0 v2 v175) = some r → K169 E' h' n' := by
    intro E178 H179 n180 v175 N177 hm
    refine hK169 _ _ _ _ _ _ N177 ?_
    clear N177 hK169 K169
    unfold m_i_soundNext_a5 at hm
    refine cn hm (fun z181 hm => ?_) fun z181 hm => ?_
    refine rg0 hT ?_
    exact rtI 6 hlt hk (a := 9) hm (i64c (a := 9) rfl)
    refine WQ.skip ?_
    refine sg ?_
    refine kn hK149 ?_
    clear hK149 K149
    obtain ⟨v194, q193, hm⟩ := obs hm
    refine WQ.sr hT rfl fun K183 hK183 => ?_
    refine sq F15 ?_
    refine w_i_chain (SlH.up h0 1) i22 q193 (fun y195 h196 => ?_)
    obtain ⟨es197, a198, l199, b200, F201⟩ := sRo h196
    refine sk (a2 F15 F201) ?_
    refine kn hK183 ?_
    clear hK183 K183
    refine WQ.seq_k fun K202 hK202 => ?_
    have j325 : ∀ (E' : Env) (h' : Heap) (n' : Nat), Norm n h E' h' n' (envZ [] []) (hp h n []) n → (m_i_soundNext_a1 fu) = some r → K202 E' h' n' := by
     intro E327 H328 n329 N326 hm
     refine hK202 _ _ _ _ _ _ N326 ?_
     clear N326 hK202 K202
     unfold m_i_soundNext_a1 at hm
     refine rg0 hT ?_
     exact rtI 6 hlt hk (a := 0) hm (i64c (a := 0) rfl)
    clear hK202
    refine rg0 hT ?_
    refine WQ.block ?_
    refine rg0 hT ?_
    refine cn hm (fun z333 hm => ?_) fun z333 hm => ?_
    refine WQ.seq_k fun K334 hK334 => ?_
    refine WQ.seq_k fun K360 hK360 => ?_
    have j370 : ∀ (E' : Env) (h' : Heap) (n' : Nat) (v369 : Bool), Norm n h E' h' n' (envZ [0, 5, 81] [x0, (.ep 8 (.sl 8 n 0 1 1 true) 0 0), (.bool v369)]) (hp h n [some [(.agg [(.int .i64 v2.kind), (.int .i64 v2.txn), (.int .i64 v2.key), (.bool v2.had), (.int .i64 v2.old), (.bool v2.has), (.int .i64 v2.new), (.int .i64 v2.back)])]]) (n + 1) → (m_i_soundNext_a3 fu v0 v2 v369) = some r → K360 E' h' n' := by
     intro E372 H373 n374 v369 N371 hm
     refine hK360 _ _ _ _ _ _ N371 ?_
     clear N371 hK360 K360
     unfold m_i_soundNext_a3 at hm
     refine cn hm (fun z375 hm => ?_) fun z375 hm => ?_
     refine rg0 hT ?_
     exact rtI 6 hlt hk (a := 4) hm (i64c (a := 4) rfl)
     refine WQ.skip ?_
     refine sg ?_
     refine kn hK334 ?_
     clear hK334 K334
     refine WQ.seq_k fun K377 hK377 => ?_
     obtain ⟨a391, q392, hm⟩ := obs hm
     obtain ⟨e395, p393, h397⟩ := atk q392 a12
     have gh397 := h397
     obtain ⟨rfl, i398, i399, i400, i401, i402, i403⟩ := h397
     refine WQ.region hT rfl ?_
     refine sq (a2 F15 p393) ?_
     refine kn hK377 ?_
     clear hK377 K377
     refine WQ.seq_k fun K404 hK404 => ?_
     have j408 : ∀ (E' : Env) (h' : Heap) (n' : Nat) (v407 : Bool), Norm n h E' h' n' (envZ [106] [(.bool v407)]) (hp h n []) n → (m_i_soundNext_a2 fu v407) = some r → K404 E' h' n' := by
      intro E410 H411 n412 v407 N409 hm
      refine hK404 _ _ _ _ _ _ N409 ?_
      clear N409 hK404 K404
      unfold m_i_soundNext_a2 at hm
      refine cn hm (fun z413 hm => ?_) fun z413 hm => ?_
      refine rg0 hT ?_
      exact rtI 6 hlt hk (a := 4) hm (i64c (a := 4) rfl)
      refine WQ.skip ?_
      refine sg ?_
      refine j325 _ _ _  ?_ hm
      exact nm [] [] [] rn RowsR.nil
     clear hK404
     rcases Bool.eq_false_or_eq_true (decide (v2.key ≠ a391.key)) with z415 | z415
     replace hm := ifT z415 hm
     refine WQ.region hT rfl ?_
     refine sq (eqT z415) ?_
     refine j408 _ _ _ true ?_ hm
     exact nm [] [106] [(.bool true)] (rc rkb rn) RowsR.nil
     replace hm := ifF z415 hm
     rcases Bool.eq_false_or_eq_true (!(v2.has == a391.had)) with z416 | z416
     replace hm := ifT z416 hm
     refine WQ.region hT rfl ?_
     refine sq (a2 (eqF z415) (eqT z416)) ?_
     refine j408 _ _ _ true ?_ hm
     exact nm [] [106] [(.bool true)] (rc rkb rn) RowsR.nil
     replace hm := ifF z416 hm
     refine WQ.region hT rfl ?_
     refine sq (a2 (eqF z415) (eqF z416)) ?_
     refine j408 _ _ _ (decide (v2.new ≠ a391.old)) ?_ hm
     exact nm [] [106] [(.bool (decide (v2.new ≠ a391.old)))] (rc rkb rn) RowsR.nil
    clear hK360
    rcases Bool.eq_false_or_eq_true (decide ((v194.length : Int) = 0)) with z417 | z417
    replace hm := ifT z417 hm
    refine WQ.drawL hT hM [(0, 0), (1, 1), (2, 0), (3, 0), (4, 0), (5, 1), (6, 1), (7, 0), (8, 1), (9, 0), (10, 0)] [] (hp h n [some [(.agg [(.int .i64 v2.kind), (.int .i64 v2.txn), (.int .i64 v2.key), (.bool v2.had), (.int .i64 v2.old), (.bool v2.has), (.int .i64 v2.new), (.int .i64 v2.back)])]]) ?_ rfl ?_ fun _ => ?_
    kernel_rfl
    simp only [go_sem]
    refine sq (a2 F201 (eqT z417)) ?_
    refine j370 _ _ _ true ?_ hm
    exact nm [0] [0, 5, 81] [x0, (.ep 8 (.sl 8 n 0 1 1 true) 0 0), (.bool true)] (rc (.keep _ (slH_lt h0)) (rc (Rn.ptr (js := [0]) 0 0) (rc rkb rn))) (RowsR.row 0 _ _ _ _ hp_get0 (rc (.keep _ (tyRec_76.lt _ _ _ gh2)) rn) RowsR.nil)
    replace hm := ifF z417 hm
    obtain ⟨a418, q419, hm⟩ := obs hm
    obtain ⟨e422, p420, h424⟩ := atk q419 a198
    obtain ⟨rfl, ia418⟩ := h424
    refine WQ.drawL hT hM [(0, 0), (1, 1), (2, 0), (3, 0), (4, 0), (5, 1), (6, 1), (7, 0), (8, 1), (9, 0), (10, 0)] [] (hp h n [some [(.agg [(.int .i64 v2.kind), (.int .i64 v2.txn), (.int .i64 v2.key), (.bool v2.had), (.int .i64 v2.old), (.bool v2.has), (.int .i64 v2.new), (.int .i64 v2.back)])]]) ?_ rfl ?_ fun _ => ?_
    kernel_rfl
    simp only [go_sem]
    refine sq (a3 F201 p420 (eqF z417)) ?_
    refine j370 _ _ _ (decide (a418 ≠ v2.back)) ?_ hm
    exact nm [0] [0, 5, 81] [x0, (.ep 8 (.sl 8 n 0 1 1 true) 0 0), (.bool (decide (a418 ≠ v2.back)))] (rc (.keep _ (slH_lt h0)) (rc (Rn.ptr (js := [0]) 0 0) (rc rkb rn))) (RowsR.row 0 _ _ _ _ hp_get0 (rc (.keep _ (tyRec_76.lt _ _ _ gh2)) rn) RowsR.nil)
    refine rg0 hT ?_
    refine cn hm (fun z426 hm => ?_) fun z426 hm => ?_
    refine rg hT F201 ?_
    refine cn hm (fun z428 hm => ?_) fun z428 hm => ?_
    refine rg0 hT ?_
    exact rtI 6 hlt hk (a := 4) hm (i64c (a := 4) rfl)
    refine WQ.skip ?_
    refine sg ?_
    refine j325 _ _ _  ?_ hm
    exact nm [] [] [] rn RowsR.nil
    refine WQ.seq_k fun K430 hK430 => ?_
    have j434 : ∀ (E' : Env) (h' : Heap) (n' : Nat) (v433 : Bool), Norm n h E' h' n' (envZ [0, 5, 112] [x0, (.ep 8 (.sl 8 n 0 1 1 true) 0 0), (.bool v433)]) (hp h n [some [(.agg [(.int .i64 v2.kind), (.int .i64 v2.txn), (.int .i64 v2.key), (.bool v2.had), (.int .i64 v2.old), (.bool v2.has), (.int .i64 v2.new), (.int .i64 v2.back)])]]) (n + 1) → (m_i_soundNext_a4 fu v0 v2 v433) = some r → K430 E' h' n' := by
     intro E436 H437 n438 v433 N435 hm
     refine hK430 _ _ _ _ _ _ N435 ?_
     clear N435 hK430 K430
     unfold m_i_soundNext_a4 at hm
     refine cn hm (fun z439 hm => ?_) fun z439 hm => ?_
     obtain ⟨v446, q445, hm⟩ := obs hm
     refine WQ.sr hT rfl fun K440 hK440 => ?_
     refine sq F15 ?_
     refine w_i_kindsOf (SlH.up h0 2) i22 (slH_own (j := 1) (m := 2) (hp_get 1) (show All2 Int64R [(.int .i64 5)] [5] from (.cons (int64R (i64c (a := 5) rfl)) .nil)) (of_decide_eq_true rfl) rfl rfl) q445 (fun y447 h448 => ?_)
     obtain rfl := h448
     refine sk F15 ?_
     refine kn hK440 ?_
     clear hK440 K440
     refine cn hm (fun z449 hm => ?_) fun z449 hm => ?_
     refine rg0 hT ?_
     exact rtI 6 hlt hk (a := 4) hm (i64c (a := 4) rfl)
     refine WQ.skip ?_
     refine sg ?_
     refine j325 _ _ _  ?_ hm
     exact nm [] [] [] rn RowsR.nil
     refine WQ.skip ?_
     refine sg ?_
     refine j325 _ _ _  ?_ hm
     exact nm [] [] [] rn RowsR.nil
    clear hK430
    refine rg0 hT ?_
    refine cn hm (fun z452 hm => ?_) fun z452 hm => ?_
    refine WQ.skip ?_
    refine sg ?_
    refine j434 _ _ _ (decide (v2.kind = 2)) ?_ hm
    exact nm [0] [0, 5, 112] [x0, (.ep 8 (.sl 8 n 0 1 1 true) 0 0), (.bool (decide (v2.kind = 2)))] (rc (.keep _ (slH_lt h0)) (rc (Rn.ptr (js := [0]) 0 0) (rc rkb rn))) (RowsR.row 0 _ _ _ _ hp_get0 (rc (.keep _ (tyRec_76.lt _ _ _ gh2)) rn) RowsR.nil)
    refine WQ.region hT rfl ?_
    refine sq0 ?_
    refine j434 _ _ _ (decide (v2.kind = 3)) ?_ hm
    exact nm [0] [0, 5, 112] [x0, (.ep 8 (.sl 8 n 0 1 1 true) 0 0), (.bool (decide (v2.kind = 3)))] (rc (.keep _ (slH_lt h0)) (rc (Rn.ptr (js := [0]) 0 0) (rc rkb rn))) (RowsR.row 0 _ _ _ _ hp_get0 (rc (.keep _ (tyRec_76.lt _ _ _ gh2)) rn) RowsR.nil)
   clear hK169
   rcases Bool.eq_false_or_eq_true (decide (v2.kind = 2)) with z453 | z453
   replace hm := ifT z453 hm
   obtain ⟨v455, q454, hm⟩ := obs hm
   refine WQ.region hT rfl ?_
   refine sq (a2 F15 (eqT z453)) ?_
   refine w_i_heldBy (SlH.up h0 1) gh2 q454 (fun y456 h457 => ?_)
   obtain rfl := h457
   refine sk (a2 F15 (eqT z453)) ?_
   refine j176 _ _ _ v455 ?_ hm
   exact nm [0] [0, 5, 62] [x0, (.ep 8 (.sl 8 n 0 1 1 true) 0 0), (.bool v455)] (rc (.keep _ (slH_lt h0)) (rc (Rn.ptr (js := [0]) 0 0) (rc rkb rn))) (RowsR.row 0 _ _ _ _ hp_get0 (rc (.keep _ (tyRec_76.lt _ _ _ gh2)) rn) RowsR.nil)
   replace hm := ifF z453 hm
   refine WQ.region hT rfl ?_
   refine sq (a2 F15 (eqF z453)) ?_
   refine j176 _ _ _ false ?_ hm
   exact nm [0] [0, 5, 62] [x0, (.ep 8 (.sl 8 n 0 1 1 true) 0 0), (.bool false)] (rc (.keep _ (slH_lt h0)) (rc (Rn.ptr (js := [0]) 0 0) (rc rkb rn))) (RowsR.row 0 _ _ _ _ hp_get0 (rc (.keep _ (tyRec_76.lt _ _ _ gh2)) rn) RowsR.nil)
  clear hK138
  rcases Bool.eq_false_or_eq_true (RecD.turns v2) with z458 | z458
  replace hm := ifT z458 hm
  rcases Bool.eq_false_or_eq_true (!(v2.had == (decide (v119.code = 0)))) with z459 | z459
  replace hm := ifT z459 hm
  refine WQ.region hT rfl ?_
  refine sq0 ?_
  refine c55 gh2 ?_
  refine sk (a2 (eqT z458) (eqT z459)) ?_
  refine j142 _ _ _ true ?_ hm
  exact nm [0] [0, 5, 54] [x0, (.ep 8 (.sl 8 n 0 1 1 true) 0 0), (.bool true)] (rc (.keep _ (slH_lt h0)) (rc (Rn.ptr (js := [0]) 0 0) (rc rkb rn))) (RowsR.row 0 _ _ _ _ hp_get0 (rc (.keep _ (tyRec_76.lt _ _ _ gh2)) rn) RowsR.nil)
  replace hm := ifF z459 hm
  refine WQ.region hT rfl ?_
  refine sq0 ?_
  refine c55 gh2 ?_
  refine sk (a2 (eqT z458) (eqF z459)) ?_
  refine j142 _ _ _ (decide (v2.old ≠ v119.value)) ?_ hm
  exact nm [0] [0, 5, 54] [x0, (.ep 8 (.sl 8 n 0 1 1 true) 0 0), (.bool (decide (v2.old ≠ v119.value)))] (rc (.keep _ (slH_lt h0)) (rc (Rn.ptr (js := [0]) 0 0) (rc rkb rn))) (RowsR.row 0 _ _ _ _ hp_get0 (rc (.keep _ (tyRec_76.lt _ _ _ gh2)) rn) RowsR.nil)
  replace hm := ifF z458 hm
  refine WQ.region hT rfl ?_
  refine sq0 ?_
  refine c55 gh2 ?_
  refine sk (eqF z458) ?_
  refine j142 _ _ _ false ?_ hm
  exact nm [0] [0, 5, 54] [x0, (.ep 8 (.sl 8 n 0 1 1 true) 0 0), (.bool false)] (rc (.keep _ (slH_lt h0)) (rc (Rn.ptr (js := [0]) 0 0) (rc rkb rn))) (RowsR.row 0 _ _ _ _ hp_get0 (rc (.keep _ (tyRec_76.lt _ _ _ gh2)) rn) RowsR.nil)
 clear hK93
 obtain ⟨v461, q460, hm⟩ := obs hm
 rcases Bool.eq_false_or_eq_true (!v461) with z464 | z464
 replace hm := ifT z464 hm
 refine WQ.region hT rfl ?_
 refine sq F15 ?_
 refine w_i_kindsOf (SlH.up h0 2) i22 (slH_own (j := 1) (m := 2) (hp_get 1) (show All2 Int64R [(.int .i64 1)] [1] from (.cons (int64R (i64c (a := 1) rfl)) .nil)) (of_decide_eq_true rfl) rfl rfl) q460 (fun y462 h463 => ?_)
 obtain rfl := h463
 refine sk (a2 F15 (eqT z464)) ?_
 refine j104 _ _ _ true ?_ hm
 exact nm [0] [0, 1, 5, 33] [x0, x1, (.ep 8 (.sl 8 n 0 1 1 true) 0 0), (.bool true)] (rc (.keep _ (slH_lt h0)) (rc (.keep _ (slH_lt h1)) (rc (Rn.ptr (js := [0]) 0 0) (rc rkb rn)))) (RowsR.row 0 _ _ _ _ hp_get0 (rc (.keep _ (tyRec_76.lt _ _ _ gh2)) rn) RowsR.nil)
 replace hm := ifF z464 hm
 obtain ⟨v466, q465, hm⟩ := obs hm
 refine WQ.region hT rfl ?_
 refine sq F15 ?_
 refine w_i_kindsOf (SlH.up h0 2) i22 (slH_own (j := 1) (m := 2) (hp_get 1) (show All2 Int64R [(.int .i64 1)] [1] from (.cons (int64R (i64c (a := 1) rfl)) .nil)) (of_decide_eq_true rfl) rfl rfl) q460 (fun y462 h463 => ?_)
 obtain rfl := h463
 refine sk (a2 F15 (eqF z464)) ?_
 refine w_i_kindsOf (SlH.up h0 3) i22 (slH_own (j := 2) (m := 3) (hp_get 2) (show All2 Int64R [(.int .i64 3), (.int .i64 4)] [3, 4] from (.cons (int64R (i64c (a := 3) rfl)) (.cons (int64R (i64c (a := 4) rfl)) .nil))) (of_decide_eq_true rfl) rfl rfl) q465 (fun y467 h468 => ?_)
 obtain rfl := h468
 refine sk (a2 F15 (eqF z464)) ?_
 refine j104 _ _ _ v466 ?_ hm
 exact nm [0] [0, 1, 5, 33] [x0, x1, (.ep 8 (.sl 8 n 0 1 1 true) 0 0), (.bool v466)] (rc (.keep _ (slH_lt h0)) (rc (.keep _ (slH_lt h1)) (rc (Rn.ptr (js := [0]) 0 0) (rc rkb rn)))) (RowsR.row 0 _ _ _ _ hp_get0 (rc (.keep _ (tyRec_76.lt _ _ _ gh2)) rn) RowsR.nil)
def m_g_Clone_Cell_a1 (fu : Nat) (v29 : List CellD) : Option (List CellD) :=
  some v29
def m_g_Clone_Cell (fu : Nat) (b0 : Bool) (v0 : List CellD) : Option (List CellD) :=
  (if b0 = true then some ([] : List CellD) else (Option.bind (appL 16 ([] : List CellD) v0) fun v37 => (m_g_Clone_Cell_a1 fu v37)))
set_option maxHeartbeats 2000000 in
theorem w_g_Clone_Cell {x0 : AV} {v0 : List CellD} (h0 : (SlH h n 2 CellR) x0 v0) {b0 : Bool} (hb0 : b0 = isNil x0) {fu : Nat} {r : (List CellD)} (hm : m_g_Clone_Cell fu b0 v0 = some r) (hkN : r = [] → K .nils h n) (hkO : ∀ es, All2 CellR es r → es.length ≤ 140737488355328 → K (.sl 2 n 0 r.length r.length false) (hp h n [some es]) (n + 1)) : CA Try.prog 107 [x0] h n K := by
 refine CA.enterQ (N := 8) (rs := [.tmp 2]) hT Try.call107 Try.func107 rfl rfl (of_decide_eq_true rfl) rfl fun hlt => ?_
 unfold m_g_Clone_Cell at hm
 obtain ⟨es11, a12, l13, b14, F15⟩ := sHo h0
 refine rg0 hT ?_
 refine WQ.seq_k fun K17 hK17 => ?_
 refine rg hT (a2 F15 (nil_eq (T := T) (t := 47) (el := 123) h0 hb0 rfl)) ?_
 refine cn hm (fun z22 hm => ?_) fun z22 hm => ?_
 refine rg0 hT ?_
 replace hm : some ([] : List CellD) = some r := hm
 refine WQ.norm (E2 := envZ [2] [.nils]) (h2 := hp h n []) (n2 := n) ?_ (WQ.ret ?_)
 exact nm [] [2] [.nils] (rc (.keep _ .nils) rn) RowsR.nil
 refine ⟨_, rfl, ret_hp hlt .nils ?_⟩
 rw [← Option.some.inj hm] at hkN
 exact hkN rfl
 refine WQ.skip ?_
 refine sg ?_
 refine kn hK17 ?_
 clear hK17 K17
 refine WQ.seq_k fun K24 hK24 => ?_
 have j32 : ∀ (E' : Env) (h' : Heap) (n' : Nat) (es28 : List AV) (v29 : List CellD) (a30 : All2 CellR es28 v29) (b31 : es28.length ≤ 140737488355328), Norm n h E' h' n' (envZ [2] [(.sl 2 n 0 v29.length v29.length false)]) (hp h n [some es28]) (n + 1) → (m_g_Clone_Cell_a1 fu v29) = some r → K24 E' h' n' := by
  intro E34 H35 n36 es28 v29 a30 b31 N33 hm
  refine hK24 _ _ _ _ _ _ N33 ?_
  clear N33 hK24 K24
  unfold m_g_Clone_Cell_a1 at hm
  replace hm : some v29 = some r := hm
  refine WQ.norm (E2 := envZ [2] [(.sl 2 n 0 v29.length v29.length false)]) (h2 := hp h n [some es28]) (n2 := n + 1) ?_ (WQ.ret ?_)
  exact nm [0] [2] [(.sl 2 n 0 v29.length v29.length false)] (rc (Rn.own (js := [0]) 0 0) rn) (RowsR.row 0 _ _ _ _ hp_get0 (RnL.all2 a30 tyCell_123.lt) RowsR.nil)
  refine ⟨_, rfl, _, _, _, .keep _ _ _ _ (fun _ _ h => h), ?_⟩
  rw [← Option.some.inj hm] at hkO
  exact hkO _ a30 b31
 clear hK24
 obtain ⟨v37, q38, hm⟩ := obs hm
 rcases nil_or v0 with z39 | z39
 refine WQ.region hT rfl ?_
 refine sq F15 ?_
 refine ⟨123, rfl, app_exN (j := 0) rfl (of_decide_eq_true rfl) rfl ?_ ?_ rfl q38 (nl0 CellR) a12 z39 ?_⟩
 exact sc F15
 exact sc0
 refine sk (a2 F15 ((all2_length (app_all2n q38 z39 (nl0 CellR))).symm)) ?_
 refine j32 _ _ _ ([]) v37 (app_all2n q38 z39 (nl0 CellR)) (of_decide_eq_true rfl) ?_ hm
 exact nm [0] [2] [(.sl 2 n 0 0 0 true)] (rc (Rn.ownE (js := [0]) 0 0 (all2_length (app_all2n q38 z39 (nl0 CellR))).symm) rn) (RowsR.row 0 _ _ _ _ hp_get0 (RnL.all2 (app_all2n q38 z39 (nl0 CellR)) tyCell_123.lt) RowsR.nil)
 refine WQ.region hT rfl ?_
 refine sq F15 ?_
 refine ⟨123, rfl, app_exC (j := 0) rfl (of_decide_eq_true rfl) rfl ?_ ?_ rfl q38 (nl0 CellR) a12 z39 ?_⟩
 exact sc F15
 exact sc0
 refine sk (a3 F15 (all2_length (app_all2 q38 (nl0 CellR) a12)) (own_take (app_all2 q38 (nl0 CellR) a12))) ?_
 refine j32 _ _ _ ([] ++ es11) v37 (app_all2 q38 (nl0 CellR) a12) (app_len q38 (nl0 CellR) a12) ?_ hm
 exact nm [1] [2] [(.sl 2 (n + 1) 0 v37.length v37.length false)] (rc (Rn.own (js := [1]) 1 0) rn) (RowsR.row 1 _ _ _ _ (hp_get 1) (RnL.all2 (app_all2 q38 (nl0 CellR) a12) tyCell_123.lt) RowsR.nil)
theorem wc_g_Clone_Cell {x0 : AV} {v0 : List CellD} (h0 : SlH h n 2 CellR x0 v0) {r : List CellD} (hq : appL 16 ([] : List CellD) v0 = some r) (hkN : r = [] → K .nils h n) (hkO : ∀ es, All2 CellR es r → es.length ≤ 140737488355328 → K (.sl 2 n 0 r.length r.length false) (hp h n [some es]) (n + 1)) : CA Try.prog 107 [x0] h n K := by
  refine w_g_Clone_Cell h0 rfl (fu := 0) ?_ hkN hkO
  unfold m_g_Clone_Cell m_g_Clone_Cell_a1
  cases hb : isNil x0 with
  | true =>
    have hz := slH_isNil h0 hb
    subst hz
    rw [if_pos rfl, ← hq, app_nil_nil]
  | false => rw [if_neg (by decide), hq]; rfl
def m_i_withCell_a1 (fu : Nat) (v125 : List CellD) : Option (List CellD) :=
  some v125
def m_i_withCell_a2 (fu : Nat) (v1 : Int) (v2 : Int) (v26 : List CellD) : Option (List CellD) :=
  (Option.bind (m_i_place fu v26 v1) fun v42 => (if v42.2 = true then (Option.bind (atL v26 v42.1) fun a99 => some (v26.set (Int.toNat v42.1) (CellD.mk a99.key v2))) else (Option.bind (insL 16 v26 v42.1 (CellD.mk v1 v2)) fun v137 => (m_i_withCell_a1 fu v137))))
def m_i_withCell (fu : Nat) (v0 : List CellD) (v1 : Int) (v2 : Int) : Option (List CellD) :=
  (Option.bind (appL 16 ([] : List CellD) v0) fun v147 => (m_i_withCell_a2 fu v1 v2 v147))
set_option maxHeartbeats 2000000 in
theorem w_i_withCell_o {x0 : AV} {v0 : List CellD} (h0 : (SlH h n 2 CellR) x0 v0) {v1 : Int} (i1 : I64 v1) {v2 : Int} (i2 : I64 v2) {fu : Nat} {r : (List CellD)} (hm : m_i_withCell fu v0 v1 v2 = some r) (hk : ∀ A rw, NOwn n 0 2 CellR A rw r → K A (hp h n [rw]) (n + 1)) : CA Try.prog 56 [x0, (.int .i64 v1), (.int .i64 v2)] h n K := by
 refine CA.enterQ (N := 32) (rs := [.tmp 6]) hT Try.call56 Try.func56 rfl rfl (of_decide_eq_true rfl) rfl fun hlt => ?_
 unfold m_i_withCell at hm
 obtain ⟨es11, a12, l13, b14, F15⟩ := sHo h0
 refine rg0 hT ?_
 refine WQ.seq_k fun K17 hK17 => ?_
 have j28 : ∀ (E' : Env) (h' : Heap) (n' : Nat) (x24 : AV) (rw25 : Option (List AV)) (v26 : List CellD) (h27 : NOwn n 0 2 CellR x24 rw25 v26), Norm n h E' h' n' (envZ [1, 2, 7] [(.int .i64 v1), (.int .i64 v2), x24]) (hp h n [rw25]) (n + 1) → (m_i_withCell_a2 fu v1 v2 v26) = some r → K17 E' h' n' := by
  intro E30 H31 n32 x24 rw25 v26 h27 N29 hm
  refine hK17 _ _ _ _ _ _ N29 ?_
  clear N29 hK17 K17
  unfold m_i_withCell_a2 at hm
  obtain ⟨v42, q41, hm⟩ := obs hm
  refine WQ.sr hT rfl fun K33 hK33 => ?_
  refine sq (a4 (nown_rd h27) (nown_len h27) (nown_cells h27) (nown_good h27)) ?_
  refine w_i_place (nown_H (j := 0) (m := 1) h27 hp_get0 rfl) i1 q41 (fun y43 h44 y46 h47 => ?_)
  obtain ⟨rfl, i45⟩ := h44
  obtain rfl := h47
  refine sk (a4 (nown_rd h27) (nown_len h27) (nown_cells h27) (nown_good h27)) ?_
  refine kn hK33 ?_
  clear hK33 K33
  refine WQ.seq_k fun K48 hK48 => ?_
  refine rg0 hT ?_
  refine cn hm (fun z80 hm => ?_) fun z80 hm => ?_
  refine WQ.seq_k fun K81 hK81 => ?_
  rcases h27 with ⟨rfl, rfl, z95⟩ | ⟨es96, rfl, rfl, a97, b98⟩
  obtain ⟨_, q0, _⟩ := obs hm
  exact (at_nilE q0 z95).elim
  obtain ⟨a99, q100, hm⟩ := obs hm
  obtain ⟨e103, p101, h105⟩ := atk q100 a97
  have gh105 := h105
  obtain ⟨rfl, i106, i107⟩ := h105
  refine WQ.region hT rfl ?_
  refine sq (a5 (all2_length (all2_set (i := Int.toNat v42.1) a97 (show CellR (.agg [(.int .i64 a99.key), (.int .i64 v2)]) (CellD.mk a99.key v2) from ⟨rfl, i106, i2⟩))) (own_take (all2_set (i := Int.toNat v42.1) a97 (show CellR (.agg [(.int .i64 a99.key), (.int .i64 v2)]) (CellD.mk a99.key v2) from ⟨rfl, i106, i2⟩))) (all2_length a97) (own_take a97) p101) ?_
  refine kn hK81 ?_
  clear hK81 K81
  refine rg hT (a4 (all2_length (all2_set (i := Int.toNat v42.1) a97 (show CellR (.agg [(.int .i64 a99.key), (.int .i64 v2)]) (CellD.mk a99.key v2) from ⟨rfl, i106, i2⟩))) (own_take (all2_set (i := Int.toNat v42.1) a97 (show CellR (.agg [(.int .i64 a99.key), (.int .i64 v2)]) (CellD.mk a99.key v2) from ⟨rfl, i106, i2⟩))) (all2_length a97) (own_take a97)) ?_
  refine WQ.norm (E2 := envZ [6] [(.sl 2 n 0 (v26.set (Int.toNat v42.1) (CellD.mk a99.key v2)).length (v26.set (Int.toNat v42.1) (CellD.mk a99.key v2)).length false)]) (h2 := hp h n [(some (es96.set (Int.toNat v42.1) (.agg [(.int .i64 a99.key), (.int .i64 v2)])))]) (n2 := n + 1) ?_ (WQ.ret ⟨_, rfl, _, _, _, .keep _ _ _ _ (fun _ _ h => h), ?_⟩)
  exact nm [0] [6] [(.sl 2 n 0 v26.length v26.length false)] (rc (Rn.ownE (js := [0]) 0 0 List.length_set) rn) (RowsR.row 0 _ _ _ _ hp_get0 (RnL.all2 (all2_set (i := Int.toNat v42.1) a97 (show CellR (.agg [(.int .i64 a99.key), (.int .i64 v2)]) (CellD.mk a99.key v2) from ⟨rfl, i106, i2⟩)) tyCell_123.lt) RowsR.nil)
  exact hkN hk (m := (v26.set (Int.toNat v42.1) (CellD.mk a99.key v2))) hm (nown_own (all2_set (i := Int.toNat v42.1) a97 (show CellR (.agg [(.int .i64 a99.key), (.int .i64 v2)]) (CellD.mk a99.key v2) from ⟨rfl, i106, i2⟩)) (len_set b98))
  refine WQ.skip ?_
  refine sg ?_
  refine kn hK48 ?_
  clear hK48 K48
  refine WQ.seq_k fun K109 hK109 => ?_
  have j128 : ∀ (E' : Env) (h' : Heap) (n' : Nat) (es124 : List AV) (v125 : List CellD) (a126 : All2 CellR es124 v125) (b127 : es124.length ≤ 140737488355328), Norm n h E' h' n' (envZ [6] [(.sl 2 n 0 v125.length v125.length false)]) (hp h n [some es124]) (n + 1) → (m_i_withCell_a1 fu v125) = some r → K109 E' h' n' := by
   intro E130 H131 n132 es124 v125 a126 b127 N129 hm
   refine hK109 _ _ _ _ _ _ N129 ?_
   clear N129 hK109 K109
   unfold m_i_withCell_a1 at hm
   refine WQ.norm (E2 := envZ [6] [(.sl 2 n 0 v125.length v125.length false)]) (h2 := hp h n [(some es124)]) (n2 := n + 1) ?_ (WQ.ret ⟨_, rfl, _, _, _, .keep _ _ _ _ (fun _ _ h => h), ?_⟩)
   exact nm [0] [6] [(.sl 2 n 0 v125.length v125.length false)] (rc (Rn.own (js := [0]) 0 0) rn) (RowsR.row 0 _ _ _ _ hp_get0 (RnL.all2 a126 tyCell_123.lt) RowsR.nil)
   exact hkN hk (m := v125) hm (nown_own a126 b127)
  clear hK109
  rcases h27 with ⟨rfl, rfl, z133⟩ | ⟨es134, rfl, rfl, a135, b136⟩
  obtain ⟨v137, q138, hm⟩ := obs hm
  refine WQ.region hT rfl ?_
  refine sq0 ?_
  refine d109n (insL_nilE z133 q138) (show CellR (.agg [(.int .i64 v1), (.int .i64 v2)]) (CellD.mk v1 v2) from ⟨rfl, i1, i2⟩) (lt_row (j := 1) (m := 2) rfl) (hp_get 1) (fun es139 a140 b141 => ?_)
  try unfold sealK
  try simp only [go_sem, ↓reduceIte, reduceCtorEq, Nat.reduceEqDiff, Nat.reduceLT, Nat.reduceLeDiff, Nat.reduceAdd, Nat.reduceMul, Int.reduceLE, all2_length a140, own_take a140]
  refine j128 _ _ _ es139 v137 a140 b141 ?_ hm
  exact nm [2] [6] [(.sl 2 (n + 2) 0 v137.length v137.length false)] (rc (Rn.own (js := [2]) 2 0) rn) (RowsR.row 2 _ _ _ _ (hp_get 2) (RnL.all2 a140 tyCell_123.lt) RowsR.nil)
  obtain ⟨v142, q143, hm⟩ := obs hm
  refine WQ.region hT rfl ?_
  refine sq (a2 (all2_length a135) (own_take a135)) ?_
  refine d109 q143 a135 (show CellR (.agg [(.int .i64 v1), (.int .i64 v2)]) (CellD.mk v1 v2) from ⟨rfl, i1, i2⟩) (lt_row (j := 0) (m := 2) rfl) (lt_row (j := 1) (m := 2) rfl) (row_ne 1 0 rfl) hp_get0 (all2_length a135) (hp_get 1) (fun es144 a145 b146 => ?_)
  try unfold sealK
  try simp only [go_sem, ↓reduceIte, reduceCtorEq, Nat.reduceEqDiff, Nat.reduceLT, Nat.reduceLeDiff, Nat.reduceAdd, Nat.reduceMul, Int.reduceLE, all2_length a135, own_take a135, all2_length a145, own_take a145]
  refine j128 _ _ _ es144 v142 a145 b146 ?_ hm
  exact nm [2] [6] [(.sl 2 (n + 2) 0 v142.length v142.length false)] (rc (Rn.own (js := [2]) 2 0) rn) (RowsR.row 2 _ _ _ _ (hp_get 2) (RnL.all2 a145 tyCell_123.lt) RowsR.nil)
 clear hK17
 obtain ⟨v147, q148, hm⟩ := obs hm
 refine WQ.region hT rfl ?_
 refine sq F15 ?_
 refine wc_g_Clone_Cell (SlH.up h0 0) q148 (fun z149 => ?_) (fun es150 a151 b152 => ?_)
 try unfold sealK
 try simp only [go_sem, ↓reduceIte, reduceCtorEq, Nat.reduceEqDiff, Nat.reduceLT, Nat.reduceLeDiff, Nat.reduceAdd, Nat.reduceMul, Int.reduceLE, F15]
 refine j28 _ _ _ .nils none v147 (nown_nil z149) ?_ hm
 exact nm [1000] [1, 2, 7] [(.int .i64 v1), (.int .i64 v2), .nils] (rc rki (rc rki (rc (.keep _ .nils) rn))) (RowsR.opt 1000 none _ _ (.inl rfl) (fun _ h => nomatch h) RowsR.nil)
 try unfold sealK
 try simp only [go_sem, ↓reduceIte, reduceCtorEq, Nat.reduceEqDiff, Nat.reduceLT, Nat.reduceLeDiff, Nat.reduceAdd, Nat.reduceMul, Int.reduceLE, F15, all2_length a151, own_take a151]
 refine j28 _ _ _ (.sl 2 n 0 v147.length v147.length false) (some es150) v147 (nown_own a151 b152) ?_ hm
 exact nm [0] [1, 2, 7] [(.int .i64 v1), (.int .i64 v2), (.sl 2 n 0 v147.length v147.length false)] (rc rki (rc rki (rc (Rn.own (js := [0]) 0 0) rn))) (RowsR.row 0 _ _ _ _ hp_get0 (RnL.all2 a151 tyCell_123.lt) RowsR.nil)
theorem w_i_withCell {x0 : AV} {v0 : List CellD} (h0 : (SlH h n 2 CellR) x0 v0) {v1 : Int} (i1 : I64 v1) {v2 : Int} (i2 : I64 v2) {fu : Nat} {r : (List CellD)} (hm : m_i_withCell fu v0 v1 v2 = some r) (hk : ∀ y, (SlR 2 CellR) y r → K y h n) : CA Try.prog 56 [x0, (.int .i64 v1), (.int .i64 v2)] h n K :=
 CA.ofN Try.call56 tyCell_123.lt (fun K hk => w_i_withCell_o h0 i1 i2 hm hk) hk
def m_i_without_a1 (fu : Nat) (v67 : List CellD) : Option (List CellD) :=
  some v67
def m_i_without_a2 (fu : Nat) (v1 : Int) (v26 : List CellD) : Option (List CellD) :=
  (Option.bind (m_i_place fu v26 v1) fun v84 => (if v84.2 = true then (Option.bind (delL 16 v26 v84.1 (IntKind.i64.wrap (v84.1 + 1))) fun v101 => (m_i_without_a1 fu v101)) else (m_i_without_a1 fu v26)))
def m_i_without (fu : Nat) (v0 : List CellD) (v1 : Int) : Option (List CellD) :=
  (Option.bind (appL 16 ([] : List CellD) v0) fun v106 => (m_i_without_a2 fu v1 v106))
set_option maxHeartbeats 2000000 in
theorem w_i_without_o {x0 : AV} {v0 : List CellD} (h0 : (SlH h n 2 CellR) x0 v0) {v1 : Int} (i1 : I64 v1) {fu : Nat} {r : (List CellD)} (hm : m_i_without fu v0 v1 = some r) (hk : ∀ A rw, NOwn n 0 2 CellR A rw r → K A (hp h n [rw]) (n + 1)) : CA Try.prog 57 [x0, (.int .i64 v1)] h n K := by
 refine CA.enterQ (N := 23) (rs := [.tmp 4]) hT Try.call57 Try.func57 rfl rfl (of_decide_eq_true rfl) rfl fun hlt => ?_
 unfold m_i_without at hm
 obtain ⟨es11, a12, l13, b14, F15⟩ := sHo h0
 refine rg0 hT ?_
 refine WQ.seq_k fun K17 hK17 => ?_
 have j28 : ∀ (E' : Env) (h' : Heap) (n' : Nat) (x24 : AV) (rw25 : Option (List AV)) (v26 : List CellD) (h27 : NOwn n 0 2 CellR x24 rw25 v26), Norm n h E' h' n' (envZ [1, 5] [(.int .i64 v1), x24]) (hp h n [rw25]) (n + 1) → (m_i_without_a2 fu v1 v26) = some r → K17 E' h' n' := by
  intro E30 H31 n32 x24 rw25 v26 h27 N29 hm
  refine hK17 _ _ _ _ _ _ N29 ?_
  clear N29 hK17 K17
  unfold m_i_without_a2 at hm
  refine WQ.seq_k fun K33 hK33 => ?_
  have j69 : ∀ (E' : Env) (h' : Heap) (n' : Nat) (x65 : AV) (rw66 : Option (List AV)) (v67 : List CellD) (h68 : NOwn n 0 2 CellR x65 rw66 v67), Norm n h E' h' n' (envZ [5] [x65]) (hp h n [rw66]) (n + 1) → (m_i_without_a1 fu v67) = some r → K33 E' h' n' := by
   intro E71 H72 n73 x65 rw66 v67 h68 N70 hm
   refine hK33 _ _ _ _ _ _ N70 ?_
   clear N70 hK33 K33
   unfold m_i_without_a1 at hm
   refine rg hT (a4 (nown_rd h68) (nown_len h68) (nown_cells h68) (nown_good h68)) ?_
   refine WQ.norm (E2 := envZ [4] [x65]) (h2 := hp h n [rw66]) (n2 := n + 1) ?_ (WQ.ret ⟨_, rfl, _, _, _, .keep _ _ _ _ (fun _ _ h => h), ?_⟩)
   exact nm [0] [4] [x65] (rc (nown_rn h68 rfl) rn) (RowsR.opt 0 _ _ _ (.inr hp_get0) (nown_rows (j := 0) h68 tyCell_123.lt) RowsR.nil)
   exact hkN hk (m := v67) hm h68
  clear hK33
  obtain ⟨v84, q83, hm⟩ := obs hm
  refine WQ.sr hT rfl fun K75 hK75 => ?_
  refine sq (a4 (nown_rd h27) (nown_len h27) (nown_cells h27) (nown_good h27)) ?_
  refine w_i_place (nown_H (j := 0) (m := 1) h27 hp_get0 rfl) i1 q83 (fun y85 h86 y88 h89 => ?_)
  obtain ⟨rfl, i87⟩ := h86
  obtain rfl := h89
  refine sk (a4 (nown_rd h27) (nown_len h27) (nown_cells h27) (nown_good h27)) ?_
  refine kn hK75 ?_
  clear hK75 K75
  refine rg0 hT ?_
  refine cn hm (fun z91 hm => ?_) fun z91 hm => ?_
  rcases h27 with ⟨rfl, rfl, z92⟩ | ⟨es93, rfl, rfl, a94, b95⟩
  obtain ⟨v96, q97, hm⟩ := obs hm
  refine WQ.region hT rfl ?_
  refine sq0 ?_
  exact (delL_nilE z92 q97 i87).elim
  obtain ⟨v101, q102, hm⟩ := obs hm
  refine WQ.region hT rfl ?_
  refine sq (a2 (all2_length a94) (own_take a94)) ?_
  refine d110 q102 a94 (lt_row (j := 0) (m := 1) rfl) hp_get0 (all2_length a94) (fun es103 a104 b105 => ?_)
  try unfold sealK
  try simp only [go_sem, ↓reduceIte, reduceCtorEq, Nat.reduceEqDiff, Nat.reduceLT, Nat.reduceLeDiff, Nat.reduceAdd, Nat.reduceMul, Int.reduceLE, all2_length a104, own_take a104, all2_length a94, own_take a94]
  refine j69 _ _ _ (.sl 2 n 0 v101.length v101.length false) (some es103) v101 (nown_own a104 b105) ?_ hm
  exact nm [0] [5] [(.sl 2 n 0 v101.length v101.length false)] (rc (Rn.own (js := [0]) 0 0) rn) (RowsR.row 0 _ _ _ _ hp_get0 (RnL.all2 a104 tyCell_123.lt) RowsR.nil)
  refine WQ.skip ?_
  refine sg ?_
  refine j69 _ _ _ x24 rw25 v26 h27 ?_ hm
  exact nm [0] [5] [x24] (rc (nown_rn h27 rfl) rn) (RowsR.opt 0 _ _ _ (.inr hp_get0) (nown_rows h27 tyCell_123.lt) RowsR.nil)
 clear hK17
 obtain ⟨v106, q107, hm⟩ := obs hm
 refine WQ.region hT rfl ?_
 refine sq F15 ?_
 refine wc_g_Clone_Cell (SlH.up h0 0) q107 (fun z108 => ?_) (fun es109 a110 b111 => ?_)
 try unfold sealK
 try simp only [go_sem, ↓reduceIte, reduceCtorEq, Nat.reduceEqDiff, Nat.reduceLT, Nat.reduceLeDiff, Nat.reduceAdd, Nat.reduceMul, Int.reduceLE, F15]
 refine j28 _ _ _ .nils none v106 (nown_nil z108) ?_ hm
 exact nm [1000] [1, 5] [(.int .i64 v1), .nils] (rc rki (rc (.keep _ .nils) rn)) (RowsR.opt 1000 none _ _ (.inl rfl) (fun _ h => nomatch h) RowsR.nil)
 try unfold sealK
 try simp only [go_sem, ↓reduceIte, reduceCtorEq, Nat.reduceEqDiff, Nat.reduceLT, Nat.reduceLeDiff, Nat.reduceAdd, Nat.reduceMul, Int.reduceLE, F15, all2_length a110, own_take a110]
 refine j28 _ _ _ (.sl 2 n 0 v106.length v106.length false) (some es109) v106 (nown_own a110 b111) ?_ hm
 exact nm [0] [1, 5] [(.int .i64 v1), (.sl 2 n 0 v106.length v106.length false)] (rc rki (rc (Rn.own (js := [0]) 0 0) rn)) (RowsR.row 0 _ _ _ _ hp_get0 (RnL.all2 a110 tyCell_123.lt) RowsR.nil)
theorem w_i_without {x0 : AV} {v0 : List CellD} (h0 : (SlH h n 2 CellR) x0 v0) {v1 : Int} (i1 : I64 v1) {fu : Nat} {r : (List CellD)} (hm : m_i_without fu v0 v1 = some r) (hk : ∀ y, (SlR 2 CellR) y r → K y h n) : CA Try.prog 57 [x0, (.int .i64 v1)] h n K :=
 CA.ofN Try.call57 tyCell_123.lt (fun K hk => w_i_without_o h0 i1 hm hk) hk
def m_i_SoundRecs_a1 (fu : Nat) : Option Int :=
  some 0
def m_i_SoundRecs_a2 (fu : Nat) (v1467 : Int) (v1616 : List CellD) : Option (((List CellD) × Int) ⊕ (Unit ⊕ Option Int)) :=
  some (Sum.inl (v1616, IntKind.i64.wrap (v1467 + 1)))
def m_i_SoundRecs_a3 (fu : Nat) (v1465 : List CellD) (v1467 : Int) (a1642 : RecD) (v1733 : Bool) : Option (((List CellD) × Int) ⊕ (Unit ⊕ Option Int)) :=
  (if v1733 = true then (Option.bind (m_i_withCell fu v1465 a1642.key a1642.new) fun v1741 => (m_i_SoundRecs_a2 fu v1467 v1741)) else (if (RecD.turns a1642) = true then (Option.bind (m_i_without fu v1465 a1642.key) fun v1752 => (m_i_SoundRecs_a2 fu v1467 v1752)) else (m_i_SoundRecs_a2 fu v1467 v1465)))
def m_i_SoundRecs_a4 (fu : Nat) (v0 : List RecD) (v1465 : List CellD) (v1467 : Int) : Option (((List CellD) × Int) ⊕ (Unit ⊕ Option Int)) :=
  (if (decide (v1467 < (v0.length : Int))) = true then (Option.bind (atL v0 v1467) fun a1642 => (if (decide (recFault a1642 ≠ 0)) = true then some (Sum.inr (Sum.inr (some (recFault a1642)))) else (Option.bind (sliceL v0 0 v1467) fun v1713 => (Option.bind (m_i_soundNext fu v1713 v1465 a1642) fun v1723 => (if (decide (v1723 ≠ 0)) = true then some (Sum.inr (Sum.inr (some v1723))) else (if (RecD.turns a1642) = true then (m_i_SoundRecs_a3 fu v1465 v1467 a1642 a1642.has) else (m_i_SoundRecs_a3 fu v1465 v1467 a1642 false))))))) else some (Sum.inr (Sum.inl ())))
def m_i_SoundRecs (fu : Nat) (v0 : List RecD) : Option Int :=
  (if (decide (400 < (v0.length : Int))) = true then some 2 else (Option.bind (iterN (fun (s : (List CellD) × Int) => m_i_SoundRecs_a4 fu v0 s.1 s.2) fu (([] : List CellD), 0)) fun q1470 => Sum.elim (fun (b : Unit) => (m_i_SoundRecs_a1 fu)) (fun x => x) q1470))
set_option maxHeartbeats 2000000 in
theorem w_i_SoundRecs {x0 : AV} {v0 : List RecD} (h0 : (SlH h n 8 RecR) x0 v0) {fu : Nat} {r : Int} (hm : m_i_SoundRecs fu v0 = some r) (hk : ∀ y, Int64R y r → K y h n) : CA Try.prog 17 [x0] h n K := by
 refine CA.enterQ (N := 52) (rs := [.tmp 2]) hT Try.call17 Try.func17 rfl rfl (of_decide_eq_true rfl) rfl fun hlt => ?_
 unfold m_i_SoundRecs at hm
 obtain ⟨es11, a12, l13, b14, F15⟩ := sHo h0
 refine rg0 hT ?_
 refine WQ.seq_k fun K17 hK17 => ?_
 refine rg hT F15 ?_
 refine cn hm (fun z22 hm => ?_) fun z22 hm => ?_
 refine rg0 hT ?_
 exact rtI 2 hlt hk (a := 2) hm (i64c (a := 2) rfl)
 refine WQ.skip ?_
 refine sg ?_
 refine kn hK17 ?_
 clear hK17 K17
 refine rg0 hT ?_
 refine WQ.seq_k fun K25 hK25 => ?_
 have j887 : ∀ (E' : Env) (h' : Heap) (n' : Nat), Norm n h E' h' n' (envZ [] []) (hp h n []) n → (m_i_SoundRecs_a1 fu) = some r → K25 E' h' n' := by
  intro E889 H890 n891 N888 hm
  refine hK25 _ _ _ _ _ _ N888 ?_
  clear N888 hK25 K25
  unfold m_i_SoundRecs_a1 at hm
  refine rg0 hT ?_
  exact rtI 2 hlt hk (a := 0) hm (i64c (a := 0) rfl)
 clear hK25
 refine rg hT F15 ?_
 refine WQ.block ?_
 obtain ⟨q1470, hq1471, hm⟩ := obs hm
 refine WQ.norm ?_ (WQ.iter (step := (fun (s : (List CellD) × Int) => m_i_SoundRecs_a4 fu v0 s.1 s.2)) (fun (s : (List CellD) × Int) E' h' n' => ∃ (x1464 : AV), (SlR 2 CellR) x1464 s.1 ∧ I64 s.2 ∧ (envZ [0, 3, 12, 13, 14] [x0, x1464, x0, (.int .i64 (v0.length : Int)), (.int .i64 s.2)]) = E' ∧ (hp h n []) = h' ∧ n = n') hq1471 ⟨(.ro 2 false []), (own_fro (nl0 CellR) (of_decide_eq_true rfl) tyCell_123.lt), (i64c (a := 0) rfl), rfl, rfl, rfl⟩ ?_)
 exact nm [] [0, 3, 12, 13, 14] [x0, (.sl 2 n 0 0 0 true), x0, (.int .i64 (v0.length : Int)), (.int .i64 0)] (rc (.keep _ (slH_lt h0)) (rc (Rn.frzA 0 rfl (of_decide_eq_true rfl) (RnL.all2 (nl0 CellR) tyCell_123.lt) rfl) (rc (.keep _ (slH_lt h0)) (rc rki (rc rki rn))))) RowsR.nil
 rintro ⟨v1465, v1467⟩ E' h' n' o1469 ⟨x1464, h1466, i1468, rfl, rfl, rfl⟩ ho1473 hf1472
 replace h1466 : (SlR 2 CellR) x1464 v1465 := h1466
 replace i1468 : I64 v1467 := i1468
 replace ho1473 : m_i_SoundRecs_a4 fu v0 v1465 v1467 = some o1469 := ho1473
 unfold m_i_SoundRecs_a4 at ho1473
 show WQ Try.prog _ n h _ _ (envZ [0, 3, 12, 13, 14] [x0, x1464, x0, (.int .i64 (v0.length : Int)), (.int .i64 v1467)]) (hp h n []) n
 obtain ⟨es1474, a1475, l1476, b1477, F1478⟩ := sRo h1466
 refine rg0 hT ?_
 refine WQ.seq_k fun K1480 hK1480 => ?_
 refine cn ho1473 (fun z1482 ho1473 => ?_) fun z1482 ho1473 => ?_
 refine WQ.skip ?_
 refine sg ?_
 refine kn hK1480 ?_
 clear hK1480 K1480
 refine WQ.seq_k fun K1483 hK1483 => ?_
 have j1618 : ∀ (E' : Env) (h' : Heap) (n' : Nat) (x1615 : AV) (v1616 : List CellD) (h1617 : (SlR 2 CellR) x1615 v1616), Norm n h E' h' n' (envZ [0, 3, 12, 13, 14] [x0, x1615, x0, (.int .i64 (v0.length : Int)), (.int .i64 v1467)]) (hp h n []) n → (m_i_SoundRecs_a2 fu v1467 v1616) = some o1469 → K1483 E' h' n' := by
  intro E1620 H1621 n1622 x1615 v1616 h1617 N1619 ho1473
  refine hK1483 _ _ _ _ _ _ N1619 ?_
  clear N1619 hK1483 K1483
  unfold m_i_SoundRecs_a2 at ho1473
  obtain ⟨es1623, a1624, l1625, b1626, F1627⟩ := sRo h1617
  refine WQ.region hT rfl ?_
  refine sq0 ?_
  refine ⟨_, _, _, _, (Option.some.inj ho1473).symm, ?_, x1615, h1617, (rng_wrap64 _), rfl, rfl, rfl⟩
  exact nm [] [0, 3, 12, 13, 14] [x0, x1615, x0, (.int .i64 (v0.length : Int)), (.int .i64 (IntKind.i64.wrap (v1467 + 1)))] (rc (.keep _ (slH_lt h0)) (rc (.keep _ (slr_ltA _ _ _ h1617)) (rc (.keep _ (slH_lt h0)) (rc rki (rc rki rn))))) RowsR.nil
 clear hK1483
 refine WQ.block ?_
 refine WQ.seq_k fun K1628 hK1628 => ?_
 obtain ⟨a1642, q1643, ho1473⟩ := obs ho1473
 obtain ⟨e1646, p1644, h1648⟩ := atk q1643 a12
 have gh1648 := h1648
 obtain ⟨rfl, i1649, i1650, i1651, i1652, i1653, i1654⟩ := h1648
 refine WQ.region hT rfl ?_
 refine sq (a2 F15 p1644) ?_
 refine kn hK1628 ?_
 clear hK1628 K1628
 refine WQ.seq_k fun K1655 hK1655 => ?_
 refine WQ.sr hT rfl fun K1660 hK1660 => ?_
 refine sq0 ?_
 refine c53 gh1648 ?_
 refine sk0 ?_
 refine kn hK1660 ?_
 clear hK1660 K1660
 refine rg0 hT ?_
 refine cn ho1473 (fun z1662 ho1473 => ?_) fun z1662 ho1473 => ?_
 refine rg0 hT ?_
 have e1664 := hf1472 _ (Option.some.inj ho1473).symm
 rw [← e1664] at hm
 exact rtI 2 hlt hk (a := (recFault a1642)) hm (recFault_rng a1642)
 refine WQ.skip ?_
 refine sg ?_
 refine kn hK1655 ?_
 clear hK1655 K1655
 refine WQ.seq_k fun K1665 hK1665 => ?_
 refine WQ.seq_k fun K1698 hK1698 => ?_
 obtain ⟨v1713, q1714, ho1473⟩ := obs ho1473
 obtain ⟨v1723, q1722, ho1473⟩ := obs ho1473
 refine WQ.drawL hT hM [(0, 0), (1, 0), (2, 0), (3, 0), (4, 1), (5, 2), (6, 0)] [] (hp h n [some [(.agg [(.int .i64 a1642.kind), (.int .i64 a1642.txn), (.int .i64 a1642.key), (.bool a1642.had), (.int .i64 a1642.old), (.bool a1642.has), (.int .i64 a1642.new), (.int .i64 a1642.back)])]]) ?_ rfl ?_ fun _ => ?_
 kernel_rfl
 simp only [go_sem]
 refine sq (a2 F15 F1478) ?_
 refine op_partH (el := 76) (X := x0) rfl ?_ h0 (of_decide_eq_true rfl) tyRec_76.lt rfl ?_ q1714 (fun y1715 h1716 => ?_)
 exact sc0
 exact sc0
 replace h1716 : (SlH h n 8 RecR) y1715 v1713 := h1716
 obtain ⟨es1717, a1718, l1719, b1720, F1721⟩ := sHo h1716
 refine sk (a3 F15 F1478 F1721) ?_
 refine w_i_soundNext (SlH.up h1716 1) (SlR.toH h1466) gh1648 q1722 (fun y1724 h1725 => ?_)
 obtain ⟨rfl, i1726⟩ := h1725
 refine sk (a3 F15 F1478 F1721) ?_
 refine kn hK1698 ?_
 clear hK1698 K1698
 refine rg0 hT ?_
 refine cn ho1473 (fun z1728 ho1473 => ?_) fun z1728 ho1473 => ?_
 refine rg0 hT ?_
 have e1730 := hf1472 _ (Option.some.inj ho1473).symm
 rw [← e1730] at hm
 exact rtI 2 hlt hk (a := v1723) hm i1726
 refine WQ.skip ?_
 refine sg ?_
 refine kn hK1665 ?_
 clear hK1665 K1665
 refine WQ.seq_k fun K1731 hK1731 => ?_
 have j1734 : ∀ (E' : Env) (h' : Heap) (n' : Nat) (v1733 : Bool), Norm n h E' h' n' (envZ [0, 3, 5, 12, 13, 14, 38] [x0, x1464, (.ep 8 (.sl 8 n 0 1 1 true) 0 0), x0, (.int .i64 (v0.length : Int)), (.int .i64 v1467), (.bool v1733)]) (hp h n [some [(.agg [(.int .i64 a1642.kind), (.int .i64 a1642.txn), (.int .i64 a1642.key), (.bool a1642.had), (.int .i64 a1642.old), (.bool a1642.has), (.int .i64 a1642.new), (.int .i64 a1642.back)])]]) (n + 1) → (m_i_SoundRecs_a3 fu v1465 v1467 a1642 v1733) = some o1469 → K1731 E' h' n' := by
  intro E1736 H1737 n1738 v1733 N1735 ho1473
  refine hK1731 _ _ _ _ _ _ N1735 ?_
  clear N1735 hK1731 K1731
  unfold m_i_SoundRecs_a3 at ho1473
  refine cn ho1473 (fun z1739 ho1473 => ?_) fun z1739 ho1473 => ?_
  obtain ⟨v1741, q1740, ho1473⟩ := obs ho1473
  refine WQ.region hT rfl ?_
  refine sq F1478 ?_
  refine w_i_withCell (SlR.toH h1466) i1651 i1653 q1740 (fun y1742 h1743 => ?_)
  obtain ⟨es1744, a1745, l1746, b1747, F1748⟩ := sRo h1743
  refine sk (a2 F1748 F1478) ?_
  refine j1618 _ _ _ y1742 v1741 h1743 ?_ ho1473
  exact nm [] [0, 3, 12, 13, 14] [x0, y1742, x0, (.int .i64 (v0.length : Int)), (.int .i64 v1467)] (rc (.keep _ (slH_lt h0)) (rc (.keep _ (slr_ltA _ _ _ h1743)) (rc (.keep _ (slH_lt h0)) (rc rki (rc rki rn))))) RowsR.nil
  refine WQ.sr hT rfl fun K1749 hK1749 => ?_
  refine sq0 ?_
  refine c55 gh1648 ?_
  refine sk0 ?_
  refine kn hK1749 ?_
  clear hK1749 K1749
  refine cn ho1473 (fun z1750 ho1473 => ?_) fun z1750 ho1473 => ?_
  obtain ⟨v1752, q1751, ho1473⟩ := obs ho1473
  refine WQ.region hT rfl ?_
  refine sq F1478 ?_
  refine w_i_without (SlR.toH h1466) i1651 q1751 (fun y1753 h1754 => ?_)
  obtain ⟨es1755, a1756, l1757, b1758, F1759⟩ := sRo h1754
  refine sk (a2 F1759 F1478) ?_
  refine j1618 _ _ _ y1753 v1752 h1754 ?_ ho1473
  exact nm [] [0, 3, 12, 13, 14] [x0, y1753, x0, (.int .i64 (v0.length : Int)), (.int .i64 v1467)] (rc (.keep _ (slH_lt h0)) (rc (.keep _ (slr_ltA _ _ _ h1754)) (rc (.keep _ (slH_lt h0)) (rc rki (rc rki rn))))) RowsR.nil
  refine WQ.skip ?_
  refine sg ?_
  refine j1618 _ _ _ x1464 v1465 h1466 ?_ ho1473
  exact nm [] [0, 3, 12, 13, 14] [x0, x1464, x0, (.int .i64 (v0.length : Int)), (.int .i64 v1467)] (rc (.keep _ (slH_lt h0)) (rc (.keep _ (slr_ltA _ _ _ h1466)) (rc (.keep _ (slH_lt h0)) (rc rki (rc rki rn))))) RowsR.nil
 clear hK1731
 rcases Bool.eq_false_or_eq_true (RecD.turns a1642) with z1760 | z1760
 replace ho1473 := ifT z1760 ho1473
 refine WQ.region hT rfl ?_
 refine sq0 ?_
 refine c55 gh1648 ?_
 refine sk (eqT z1760) ?_
 refine j1734 _ _ _ a1642.has ?_ ho1473
 exact nm [0] [0, 3, 5, 12, 13, 14, 38] [x0, x1464, (.ep 8 (.sl 8 n 0 1 1 true) 0 0), x0, (.int .i64 (v0.length : Int)), (.int .i64 v1467), (.bool a1642.has)] (rc (.keep _ (slH_lt h0)) (rc (.keep _ (slr_ltA _ _ _ h1466)) (rc (Rn.ptr (js := [0]) 0 0) (rc (.keep _ (slH_lt h0)) (rc rki (rc rki (rc rkb rn))))))) (RowsR.row 0 _ _ _ _ hp_get0 (rc (.keep _ (tyRec_76.lt _ _ _ gh1648)) rn) RowsR.nil)
 replace ho1473 := ifF z1760 ho1473
 refine WQ.region hT rfl ?_
 refine sq0 ?_
 refine c55 gh1648 ?_
 refine sk (eqF z1760) ?_
 refine j1734 _ _ _ false ?_ ho1473
 exact nm [0] [0, 3, 5, 12, 13, 14, 38] [x0, x1464, (.ep 8 (.sl 8 n 0 1 1 true) 0 0), x0, (.int .i64 (v0.length : Int)), (.int .i64 v1467), (.bool false)] (rc (.keep _ (slH_lt h0)) (rc (.keep _ (slr_ltA _ _ _ h1466)) (rc (Rn.ptr (js := [0]) 0 0) (rc (.keep _ (slH_lt h0)) (rc rki (rc rki (rc rkb rn))))))) (RowsR.row 0 _ _ _ _ hp_get0 (rc (.keep _ (tyRec_76.lt _ _ _ gh1648)) rn) RowsR.nil)
 refine WQ.exit ?_
 refine sg ?_
 have e1761 := hf1472 _ (Option.some.inj ho1473).symm
 rw [← e1761] at hm
 refine j887 _ _ _  ?_ hm
 exact nm [] [] [] rn RowsR.nil
end
end Go.Proofs.Ytcngfjmfgeckmaa
end
namespace Go.Proofs.Ytcngfjmfgeckmaa
open Go
section
variable {fu : Nat}
theorem m_g_ContainsFunc_Rec__i_soundNext_1_eq {l : List RecD} {r : RecD} (hl : l.length < 9223372036854775807) (hfu : l.length < fu) : m_g_ContainsFunc_Rec__i_soundNext_1 fu l r = some (l.any fun a => decide (a.txn = r.txn)) :=
  search_any (f := fun a => m_i_soundNext_1 fu a r) (fun a _ => rfl) hl hfu
theorem m_g_Contains_int64_eq {l : List Int} {v : Int} (hl : l.length < 9223372036854775807) (hfu : l.length < fu) : m_g_Contains_int64 fu l v = some (l.any fun a => decide (v = a)) :=
  search_any (f := fun a => some (decide (v = a))) (fun a _ => rfl) hl hfu
theorem m_i_kindsOf_1_eq {a : RecD} {t : Int} {ks : List Int} (hl : ks.length < 9223372036854775807) (hfu : ks.length < fu) : m_i_kindsOf_1 fu a t ks = some (decide (a.txn = t) && ks.any fun k => decide (a.kind = k)) := by
  unfold m_i_kindsOf_1 m_i_kindsOf_1_a1
  rw [m_g_Contains_int64_eq hl hfu]
  cases decide (a.txn = t) <;> rfl
theorem m_i_kindsOf_eq {l : List RecD} {t : Int} {ks : List Int} (hl : l.length < 9223372036854775807) (hfu : l.length < fu) (hl2 : ks.length < 9223372036854775807) (hfu2 : ks.length < fu) :
    m_i_kindsOf fu l t ks = some (l.any fun a => decide (a.txn = t) && ks.any fun k => decide (a.kind = k)) := by
  unfold m_i_kindsOf
  rw [show m_g_ContainsFunc_Rec__i_kindsOf_1 fu l t ks = _ from search_any (f := fun a => m_i_kindsOf_1 fu a t ks) (fun a _ => m_i_kindsOf_1_eq hl2 hfu2) hl hfu]
  rfl
theorem m_i_chain_1_eq {a : RecD} {t m : Int} : m_i_chain_1 fu a t m = some (undoes t m a) := by
  unfold m_i_chain_1 m_i_chain_1_a1 undoes
  cases decide (a.kind = 5) <;> cases decide (a.txn = t) <;> rfl
theorem m_g_ContainsFunc_Rec__i_chain_1_eq {l : List RecD} {t m : Int} (hl : l.length < 9223372036854775807) (hfu : l.length < fu) : m_g_ContainsFunc_Rec__i_chain_1 fu l t m = some (l.any (undoes t m)) :=
  search_any (f := fun a => m_i_chain_1 fu a t m) (fun a _ => m_i_chain_1_eq) hl hfu
def kinds (l : List RecD) (t : Int) (ks : List Int) : Bool := l.any fun a => decide (a.txn = t) && ks.any fun k => decide (a.kind = k)
def heldP (l : List RecD) (r : RecD) : Bool := l.any fun a => ((decide (a.kind = 2) && decide (a.key = r.key)) && decide (a.txn ≠ r.txn)) && !kinds l a.txn [3, 4]
theorem m_i_heldBy_1_eq {a r : RecD} {l : List RecD} (hl : l.length < 9223372036854775807) (hfu : l.length < fu) (h2 : 2 < fu) : m_i_heldBy_1 fu a r l = some (((decide (a.kind = 2) && decide (a.key = r.key)) && decide (a.txn ≠ r.txn)) && !kinds l a.txn [3, 4]) := by
  unfold m_i_heldBy_1 m_i_heldBy_1_a1
  rw [m_i_kindsOf_eq (ks := [3, 4]) hl hfu (by decide) h2]
  cases decide (a.kind = 2) <;> cases decide (a.key = r.key) <;> cases decide (a.txn ≠ r.txn) <;> rfl
theorem m_i_heldBy_eq {l : List RecD} {r : RecD} (hl : l.length < 9223372036854775807) (hfu : l.length < fu) (h2 : 2 < fu) : m_i_heldBy fu l r = some (heldP l r) := by
  unfold m_i_heldBy
  rw [show m_g_ContainsFunc_Rec__i_heldBy_1 fu l r l = _ from search_any (f := fun a => m_i_heldBy_1 fu a r l) (fun a _ => m_i_heldBy_1_eq hl hfu h2) hl hfu]
  rfl
theorem snocL_eq {l : List Int} {a : Int} (h : l.length ≤ 1000000) : snocL 8 l a = some (l ++ [a]) := by
  unfold snocL roomL
  rw [if_pos (by simp; omega)]
theorem chain_iter {l : List RecD} {t : Int} (hl : l.length ≤ 1000000) (hfu : l.length < fu) :
    ∀ (j k : Nat), j ≤ l.length → j < k → iterN (fun (s : (List Int) × Int) => m_i_chain_a4 fu l t s.1 s.2) k (chainG t j (l.drop j), (j : Int) - 1) = some (Sum.inl (chainG t 0 l)) := by
  intro j
  induction j with
  | zero =>
    intro k _ hk
    obtain ⟨k, rfl⟩ : ∃ k', k = k' + 1 := ⟨k - 1, by omega⟩
    rfl
  | succ j ih =>
    intro k hj hk
    obtain ⟨k, rfl⟩ : ∃ k', k = k' + 1 := ⟨k - 1, by omega⟩
    have hjl : j < l.length := hj
    have hr := List.getElem?_eq_getElem hjl
    have hstep := chainG_step (txn := t) hr
    have hlen := chainG_len t (l.drop (j + 1)) (j + 1)
    rw [List.length_drop] at hlen
    have e0 : ((j + 1 : Nat) : Int) - 1 = (j : Int) := by omega
    have e1 : IntKind.i64.wrap ((j : Int) + 1) = ((j + 1 : Nat) : Int) := wrap_succ (by omega)
    have e2 : IntKind.i64.wrap ((j : Int) - 1) = (j : Int) - 1 := wrap_in (by omega) (by omega)
    have es : sliceL l ((j + 1 : Nat) : Int) (l.length : Int) = some (l.drop (j + 1)) := by
      unfold sliceL
      rw [if_pos (by simp; omega)]
      simp only [Int.toNat_natCast]
      rw [List.take_of_length_le (by rw [List.length_drop]; exact Nat.le_refl _)]
    have ea := m_g_ContainsFunc_Rec__i_chain_1_eq (fu := fu) (l := l.drop (j + 1)) (t := t) (m := ((j : Int) + 1)) (by rw [List.length_drop]; omega) (by rw [List.length_drop]; omega)
    have goal : m_i_chain_a4 fu l t (chainG t (j + 1) (l.drop (j + 1))) (j : Int) = some (Sum.inl (chainG t j (l.drop j), (j : Int) - 1)) := by
      unfold m_i_chain_a4 m_i_chain_a3 m_i_chain_a2
      rw [if_pos (decide_eq_true (Int.natCast_nonneg _)), e1, e2, es, Option.bind_some, show (((j + 1 : Nat) : Int)) = (j : Int) + 1 from rfl, ea, Option.bind_some, atL_nat, hr, Option.bind_some, hstep, snocL_eq (by omega), Option.bind_some]
      cases decide (l[j].kind = 2) <;> cases decide (l[j].txn = t) <;> cases (l.drop (j + 1)).any (undoes t ((j : Int) + 1)) <;> simp
    unfold iterN
    rw [e0]
    simp only [goal]
    exact ih k (by omega) (by omega)
theorem m_i_chain_eq {l : List RecD} {t : Int} (hl : l.length ≤ 1000000) (hfu : l.length < fu) : m_i_chain fu l t = some (chainG t 0 l) := by
  unfold m_i_chain m_i_chain_a1
  have h := chain_iter (t := t) hl hfu l.length fu (Nat.le_refl _) hfu
  rw [List.drop_length] at h
  have e : IntKind.i64.wrap ((l.length : Int) - 1) = (l.length : Int) - 1 := wrap_in (by omega) (by omega)
  rw [e]
  rw [show (([] : List Int), (l.length : Int) - 1) = (chainG t l.length ([] : List RecD), (l.length : Int) - 1) from rfl, h]
  rfl
end
end Go.Proofs.Ytcngfjmfgeckmaa
namespace Go.Proofs.Ytcngfjmfgeckmaa
open Go
section
variable {fu : Nat}
def rise (l : List CellD) : Prop := l.Pairwise fun a b => a.key < b.key
def rank : List CellD → Int → Nat
  | [], _ => 0
  | c :: l, k => if c.key < k then rank l k + 1 else 0
theorem rank_le (k : Int) : ∀ l : List CellD, rank l k ≤ l.length
  | [] => Nat.le_refl _
  | c :: l => by
    unfold rank
    split
    · exact Nat.succ_le_succ (rank_le k l)
    · exact Nat.zero_le _
theorem rank_lt {k : Int} : ∀ {l : List CellD}, rise l → ∀ (i : Nat) (c : CellD), l[i]? = some c → (c.key < k ↔ i < rank l k)
  | [], _, i, c, h => by simp at h
  | d :: l, hr, i, c, h => by
    unfold rise at hr
    rw [List.pairwise_cons] at hr
    unfold rank
    cases i with
    | zero =>
      obtain rfl := Option.some.inj h
      split <;> simp_all
    | succ i =>
      have h' : l[i]? = some c := h
      have hm := List.mem_of_getElem? h'
      have := hr.1 c hm
      split
      · rw [rank_lt hr.2 i c h']; omega
      · constructor
        · intro hc; omega
        · intro hc; omega
theorem mid_eq {i j : Nat} (h : i + j < 4611686018427387904) : IntKind.i64.wrap (Int.fdiv (IntKind.u64.wrap (IntKind.i64.wrap ((i : Int) + (j : Int)))) 2) = (((i + j) / 2 : Nat) : Int) := by
  have e1 : IntKind.i64.wrap ((i : Int) + (j : Int)) = ((i + j : Nat) : Int) := by rw [wrap_in (by omega) (by omega)]; rfl
  have e2 : IntKind.u64.wrap ((i + j : Nat) : Int) = ((i + j : Nat) : Int) := by
    simp [IntKind.wrap, IntKind.bits, IntKind.signed]; omega
  have e3 : Int.fdiv ((i + j : Nat) : Int) 2 = (((i + j) / 2 : Nat) : Int) := by
    rw [Int.fdiv_eq_ediv_of_nonneg _ (by decide)]; rfl
  rw [e1, e2, e3, wrap_in (by omega) (by omega)]
def keysOk (l : List CellD) : Prop := ∀ c, c ∈ l → 0 ≤ c.key ∧ c.key ≤ 1000000
theorem cmp_eq {a k : Int} (h1 : 0 ≤ a ∧ a ≤ 1000000) (h2 : 0 ≤ k ∧ k ≤ 1000000) : IntKind.i64.wrap (a - k) = a - k := wrap_in (by omega) (by omega)
theorem bs_iter {l : List CellD} {k : Int} (hr : rise l) (hk : keysOk l) (h2 : 0 ≤ k ∧ k ≤ 1000000) (hl : l.length ≤ 1000000) :
    ∀ (m i j : Nat), i ≤ rank l k → rank l k ≤ j → j ≤ l.length → j - i < m → iterN (fun (s : Int × Int) => m_g_BinarySearchFunc_Cell_int64__i_place_1_a3 fu l k s.1 s.2) m ((i : Int), (j : Int)) = some (Sum.inl ((rank l k : Nat) : Int)) := by
  intro m
  induction m with
  | zero => intro i j _ _ _ h; omega
  | succ m ih =>
    intro i j hi hj hjl hm
    unfold iterN
    by_cases hij : i < j
    · have hh : (i + j) / 2 < l.length := by omega
      have hge := List.getElem?_eq_getElem hh
      have hc := cmp_eq (hk _ (List.getElem_mem hh)) h2
      have hrk := rank_lt hr (k := k) _ _ hge
      by_cases hlt : (i + j) / 2 < rank l k
      · have hlt2 := hrk.2 hlt
        have step : m_g_BinarySearchFunc_Cell_int64__i_place_1_a3 fu l k (i : Int) (j : Int) = some (Sum.inl ((((i + j) / 2 + 1 : Nat) : Int), (j : Int))) := by
          unfold m_g_BinarySearchFunc_Cell_int64__i_place_1_a3 m_i_place_1
          rw [if_pos (decide_eq_true (Int.ofNat_lt.2 hij)), mid_eq (by omega), atL_nat, hge, Option.bind_some, Option.bind_some, hc, if_pos (decide_eq_true (by omega)), wrap_succ (by omega)]
        simp only [step]
        exact ih _ _ (by omega) hj hjl (by omega)
      · have hlt2 : ¬ l[(i + j) / 2].key < k := fun hq => hlt (hrk.1 hq)
        have step : m_g_BinarySearchFunc_Cell_int64__i_place_1_a3 fu l k (i : Int) (j : Int) = some (Sum.inl ((i : Int), (((i + j) / 2 : Nat) : Int))) := by
          unfold m_g_BinarySearchFunc_Cell_int64__i_place_1_a3 m_i_place_1
          rw [if_pos (decide_eq_true (Int.ofNat_lt.2 hij)), mid_eq (by omega), atL_nat, hge, Option.bind_some, Option.bind_some, hc, if_neg (by simp; omega)]
        simp only [step]
        exact ih _ _ hi (by omega) (by omega) (by omega)
    · have e : i = rank l k := by omega
      have step : m_g_BinarySearchFunc_Cell_int64__i_place_1_a3 fu l k (i : Int) (j : Int) = some (Sum.inr (Sum.inl (i : Int))) := by
        unfold m_g_BinarySearchFunc_Cell_int64__i_place_1_a3
        rw [if_neg (by simp; omega)]
      simp only [step]
      rw [e]
def hasKey (l : List CellD) (k : Int) : Bool := match l[rank l k]? with | some c => decide (c.key = k) | none => false
theorem m_i_place_eq {l : List CellD} {k : Int} (hr : rise l) (hk : keysOk l) (h2 : 0 ≤ k ∧ k ≤ 1000000) (hl : l.length ≤ 1000000) (hfu : l.length < fu) : m_i_place fu l k = some (((rank l k : Nat) : Int), hasKey l k) := by
  have hle := rank_le k l
  unfold m_i_place m_g_BinarySearchFunc_Cell_int64__i_place_1 m_g_BinarySearchFunc_Cell_int64__i_place_1_a2 m_g_BinarySearchFunc_Cell_int64__i_place_1_a1 m_i_place_1
  have h := bs_iter (fu := fu) hr hk h2 hl fu 0 l.length (Nat.zero_le _) hle (Nat.le_refl _) (by omega)
  rw [show (((0 : Nat) : Int), (l.length : Int)) = (0, (l.length : Int)) from rfl] at h
  rw [h, Option.bind_some, Sum.elim_inl]
  unfold hasKey
  by_cases hlt : rank l k < l.length
  · have hge := List.getElem?_eq_getElem hlt
    rw [if_pos (decide_eq_true (Int.ofNat_lt.2 hlt)), atL_nat, hge, Option.bind_some, Option.bind_some, cmp_eq (hk _ (List.getElem_mem hlt)) h2]
    show some (((rank l k : Nat) : Int), decide (l[rank l k].key - k = 0)) = some (((rank l k : Nat) : Int), decide (l[rank l k].key = k))
    have : decide (l[rank l k].key - k = 0) = decide (l[rank l k].key = k) := decide_eq_decide.2 (by omega)
    rw [this]
  · rw [if_neg (by simp; omega), List.getElem?_eq_none (by omega)]
    rfl
def valC (l : List CellD) (k : Int) : IntResultD := match l[rank l k]? with | some c => if c.key = k then ⟨0, c.value⟩ else ⟨4, 0⟩ | none => ⟨4, 0⟩
def withC (l : List CellD) (k w : Int) : List CellD := if hasKey l k = true then l.set (rank l k) ⟨k, w⟩ else l.take (rank l k) ++ [⟨k, w⟩] ++ l.drop (rank l k)
def withoutC (l : List CellD) (k : Int) : List CellD := if hasKey l k = true then l.take (rank l k) ++ l.drop (rank l k + 1) else l
theorem hasKey_get {l : List CellD} {k : Int} (h : hasKey l k = true) : ∃ c, l[rank l k]? = some c ∧ c.key = k := by
  unfold hasKey at h
  split at h
  · rename_i c hc; exact ⟨c, hc, of_decide_eq_true h⟩
  · cases h
theorem m_i_valueIn_eq {l : List CellD} {k : Int} (hr : rise l) (hk : keysOk l) (h2 : 0 ≤ k ∧ k ≤ 1000000) (hl : l.length ≤ 1000000) (hfu : l.length < fu) : m_i_valueIn fu l k = some (valC l k) := by
  unfold m_i_valueIn
  rw [m_i_place_eq hr hk h2 hl hfu, Option.bind_some]
  cases hh : hasKey l k with
  | true =>
    obtain ⟨c, h1, h3⟩ := hasKey_get hh
    show Option.bind (atL l (rank l k : Nat)) _ = _
    rw [atL_nat, h1, Option.bind_some]
    unfold valC
    rw [h1]
    simp [h3]
  | false =>
    show some _ = some _
    unfold valC
    unfold hasKey at hh
    split at hh
    · rename_i c hc; rw [if_neg (of_decide_eq_false hh)]
    · rfl
theorem appL_eq {l : List CellD} (hl : l.length ≤ 1000000) : appL 16 ([] : List CellD) l = some l := by
  unfold appL roomL
  rw [if_pos (by simp; omega)]
  rfl
theorem m_i_withCell_eq {l : List CellD} {k w : Int} (hr : rise l) (hk : keysOk l) (h2 : 0 ≤ k ∧ k ≤ 1000000) (hl : l.length ≤ 1000000) (hfu : l.length < fu) : m_i_withCell fu l k w = some (withC l k w) := by
  unfold m_i_withCell m_i_withCell_a2 m_i_withCell_a1
  rw [appL_eq hl, Option.bind_some, m_i_place_eq hr hk h2 hl hfu, Option.bind_some]
  have hle := rank_le k l
  unfold withC
  cases hh : hasKey l k with
  | true =>
    obtain ⟨c, h1, h3⟩ := hasKey_get hh
    show Option.bind (atL l (rank l k : Nat)) _ = _
    rw [atL_nat, h1, Option.bind_some, h3]
    rfl
  | false =>
    show Option.bind (insL 16 l (rank l k : Nat) ⟨k, w⟩) _ = _
    unfold insL
    rw [if_pos ⟨Int.natCast_nonneg _, by omega, by omega, by omega⟩]
    rfl
theorem m_i_without_eq {l : List CellD} {k : Int} (hr : rise l) (hk : keysOk l) (h2 : 0 ≤ k ∧ k ≤ 1000000) (hl : l.length ≤ 1000000) (hfu : l.length < fu) : m_i_without fu l k = some (withoutC l k) := by
  unfold m_i_without m_i_without_a2 m_i_without_a1
  rw [appL_eq hl, Option.bind_some, m_i_place_eq hr hk h2 hl hfu, Option.bind_some]
  unfold withoutC
  cases hh : hasKey l k with
  | true =>
    obtain ⟨c, h1, h3⟩ := hasKey_get hh
    have hlt := (List.getElem?_eq_some_iff.1 h1).1
    show Option.bind (delL 16 l (rank l k : Nat) (IntKind.i64.wrap ((rank l k : Nat) + 1))) _ = _
    rw [wrap_succ (by omega)]
    unfold delL
    rw [if_pos ⟨Int.natCast_nonneg _, by omega, by omega, by omega, by omega⟩]
    rfl
  | false => rfl
end
end Go.Proofs.Ytcngfjmfgeckmaa
