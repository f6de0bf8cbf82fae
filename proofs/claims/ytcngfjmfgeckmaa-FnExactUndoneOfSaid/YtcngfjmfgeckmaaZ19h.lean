import Derived.Test.YtcngfjmfgeckmaaZ19g
set_option linter.unusedSimpArgs false
set_option linter.unusedVariables false
set_option linter.unusedSectionVars false
section
namespace Go.Proofs.Ytcngfjmfgeckmaa
open Go
set_option linter.unusedSimpArgs false
set_option linter.unusedVariables false
set_option maxRecDepth 20000
attribute [local irreducible] IntKind.wrap bitA
section
variable {h : Heap} {n : Nat} {K : AV → Heap → Nat → Prop}
def m_s_l1Has_a1 (fu : Nat) : Option Bool :=
  some false
def m_s_l1Has_a2 (fu : Nat) (v0 : List Int) (v1 : Int) (v232 : Int) : Option (Int ⊕ (Unit ⊕ Option Bool)) :=
  (if (decide (v232 < (v0.length : Int))) = true then (Option.bind (atL v0 v232) fun a270 => (if (decide (a270 = v1)) = true then some (Sum.inr (Sum.inr (some true))) else some (Sum.inl (IntKind.i64.wrap (v232 + 1))))) else some (Sum.inr (Sum.inl ())))
def m_s_l1Has (fu : Nat) (v0 : List Int) (v1 : Int) : Option Bool :=
  (Option.bind (iterN (fun (s : Int) => m_s_l1Has_a2 fu v0 v1 s) fu 0) fun q235 => Sum.elim (fun (b : Unit) => (m_s_l1Has_a1 fu)) (fun x => x) q235)
set_option maxHeartbeats 2000000 in
theorem w_s_l1Has {x0 : AV} {v0 : List Int} (h0 : (SlH h n 1 Int64R) x0 v0) {v1 : Int} (i1 : I64 v1) {fu : Nat} {r : Bool} (hm : m_s_l1Has fu v0 v1 = some r) (hk : ∀ y, BoolR y r → K y h n) : CA Try.prog 66 [x0, (.int .i64 v1)] h n K := by
 refine CA.enterQ (N := 18) (rs := [.tmp 4]) hT Try.call66 Try.func66 rfl rfl (of_decide_eq_true rfl) rfl fun hlt => ?_
 unfold m_s_l1Has at hm
 obtain ⟨es11, a12, l13, b14, F15⟩ := sHo h0
 refine rg0 hT ?_
 refine WQ.seq_k fun K17 hK17 => ?_
 have j143 : ∀ (E' : Env) (h' : Heap) (n' : Nat), Norm n h E' h' n' (envZ [] []) (hp h n []) n → (m_s_l1Has_a1 fu) = some r → K17 E' h' n' := by
  intro E145 H146 n147 N144 hm
  refine hK17 _ _ _ _ _ _ N144 ?_
  clear N144 hK17 K17
  unfold m_s_l1Has_a1 at hm
  refine rg0 hT ?_
  exact rtB 4 hlt hk (a := false) hm
 clear hK17
 refine rg0 hT ?_
 refine WQ.block ?_
 obtain ⟨q235, hq236, hm⟩ := obs hm
 refine WQ.norm ?_ (WQ.iter (step := (fun (s : Int) => m_s_l1Has_a2 fu v0 v1 s)) (fun (s : Int) E' h' n' => I64 s ∧ (envZ [0, 1, 5] [x0, (.int .i64 v1), (.int .i64 s)]) = E' ∧ (hp h n []) = h' ∧ n = n') hq236 ⟨(i64c (a := 0) rfl), rfl, rfl, rfl⟩ ?_)
 exact nm [] [0, 1, 5] [x0, (.int .i64 v1), (.int .i64 0)] (rc (.keep _ (slH_lt h0)) (rc rki (rc rki rn))) RowsR.nil
 rintro v232 E' h' n' o234 ⟨i233, rfl, rfl, rfl⟩ ho238 hf237
 replace i233 : I64 v232 := i233
 replace ho238 : m_s_l1Has_a2 fu v0 v1 v232 = some o234 := ho238
 unfold m_s_l1Has_a2 at ho238
 show WQ Try.prog _ n h _ _ (envZ [0, 1, 5] [x0, (.int .i64 v1), (.int .i64 v232)]) (hp h n []) n
 refine WQ.seq_k fun K239 hK239 => ?_
 refine rg hT F15 ?_
 refine cn ho238 (fun z243 ho238 => ?_) fun z243 ho238 => ?_
 refine WQ.skip ?_
 refine sg ?_
 refine kn hK239 ?_
 clear hK239 K239
 refine WQ.seq_k fun K244 hK244 => ?_
 refine WQ.block ?_
 refine WQ.seq_k fun K262 hK262 => ?_
 obtain ⟨a270, q271, ho238⟩ := obs ho238
 obtain ⟨e274, p272, h276⟩ := atk q271 a12
 obtain ⟨rfl, ia270⟩ := h276
 refine WQ.region hT rfl ?_
 refine sq (a2 F15 p272) ?_
 refine kn hK262 ?_
 clear hK262 K262
 refine cn ho238 (fun z277 ho238 => ?_) fun z277 ho238 => ?_
 refine rg0 hT ?_
 have e279 := hf237 _ (Option.some.inj ho238).symm
 rw [← e279] at hm
 exact rtB 4 hlt hk (a := true) hm
 refine WQ.skip ?_
 refine sg ?_
 refine kn hK244 ?_
 clear hK244 K244
 refine WQ.region hT rfl ?_
 refine sq0 ?_
 refine ⟨_, _, _, _, (Option.some.inj ho238).symm, ?_, (rng_wrap64 _), rfl, rfl, rfl⟩
 exact nm [] [0, 1, 5] [x0, (.int .i64 v1), (.int .i64 (IntKind.i64.wrap (v232 + 1)))] (rc (.keep _ (slH_lt h0)) (rc rki (rc rki rn))) RowsR.nil
 refine WQ.exit ?_
 refine sg ?_
 have e280 := hf237 _ (Option.some.inj ho238).symm
 rw [← e280] at hm
 refine j143 _ _ _  ?_ hm
 exact nm [] [] [] rn RowsR.nil
def m_s_l13Known_a1 (fu : Nat) (v151 : Bool) : Option Int :=
  (if v151 = true then some 10 else some 0)
def m_s_l13Known (fu : Nat) (v0 : SimD) (v1 : RecD) : Option Int :=
  (if (decide (v1.kind = 6)) = true then some 0 else (if (decide (v1.kind = 1)) = true then (Option.bind (m_s_l1Has fu v0.begun v1.txn) fun v107 => (if v107 = true then some 10 else some 0)) else (Option.bind (m_s_l1Has fu v0.begun v1.txn) fun v161 => (if (!v161) = true then (m_s_l13Known_a1 fu true) else (Option.bind (m_s_l1Has fu v0.ended v1.txn) fun v166 => (m_s_l13Known_a1 fu v166))))))
set_option maxHeartbeats 2000000 in
theorem w_s_l13Known {x0 : AV} {v0 : SimD} (h0 : (SimRH h n) x0 v0) {id0 : Nat} (hid0 : id0 < n) (hb0 : h id0 = some [x0]) {x1 : AV} {v1 : RecD} (h1 : RecR x1 v1) {fu : Nat} {r : Int} (hm : m_s_l13Known fu v0 v1 = some r) (hk : ∀ y, Int64R y r → K y h n) : CA Try.prog 93 [(.ep 5 (.sl 5 id0 0 1 1 true) 0 0), x1] h n K := by
 refine CA.enterQ (N := 35) (rs := [.tmp 4]) hT Try.call93 Try.func93 rfl rfl (of_decide_eq_true rfl) rfl fun hlt => ?_
 unfold m_s_l13Known at hm
 have gh0 := h0
 obtain ⟨x11, x13, x15, x17, x19, rfl, h12, h14, h16, h18, h20⟩ := h0
 obtain ⟨es21, a22, l23, b24, F25⟩ := sHo h12
 obtain ⟨es26, a27, l28, b29, F30⟩ := sHo h14
 obtain ⟨es31, a32, l33, b34, F35⟩ := sHo h16
 obtain ⟨es36, a37, l38, b39, F40⟩ := sHo h18
 obtain ⟨es41, a42, l43, b44, F45⟩ := sHo h20
 have gh1 := h1
 obtain ⟨rfl, i46, i47, i48, i49, i50, i51⟩ := h1
 refine rg0 hT ?_
 refine WQ.seq_k fun K53 hK53 => ?_
 refine rg0 hT ?_
 refine cn hm (fun z58 hm => ?_) fun z58 hm => ?_
 refine rg0 hT ?_
 exact rtI 4 hlt hk (a := 0) hm (i64c (a := 0) rfl)
 refine WQ.skip ?_
 refine sg ?_
 refine kn hK53 ?_
 clear hK53 K53
 refine WQ.seq_k fun K60 hK60 => ?_
 refine rg0 hT ?_
 refine cn hm (fun z88 hm => ?_) fun z88 hm => ?_
 refine WQ.seq_k fun K89 hK89 => ?_
 refine WQ.seq_k fun K101 hK101 => ?_
 obtain ⟨v107, q106, hm⟩ := obs hm
 refine WQ.drawL hT hM [(0, 0), (1, 0), (2, 0), (3, 1), (4, 0), (5, 1), (6, 2)] [] (hp h n [some [(.agg [(.int .i64 v1.kind), (.int .i64 v1.txn), (.int .i64 v1.key), (.bool v1.had), (.int .i64 v1.old), (.bool v1.has), (.int .i64 v1.new), (.int .i64 v1.back)])]]) ?_ rfl ?_ fun _ => ?_
 kernel_rfl
 simp only [go_sem]
 refine sq (a5 (hpl h hid0) hb0 F25 F30 (a3 F35 F40 F45)) ?_
 refine w_s_l1Has (SlH.up h14 1) i47 q106 (fun y108 h109 => ?_)
 obtain rfl := h109
 refine sk (a5 (hpl h hid0) hb0 F25 F30 (a3 F35 F40 F45)) ?_
 refine kn hK101 ?_
 clear hK101 K101
 refine cn hm (fun z110 hm => ?_) fun z110 hm => ?_
 refine rg0 hT ?_
 exact rtI 4 hlt hk (a := 10) hm (i64c (a := 10) rfl)
 refine WQ.skip ?_
 refine sg ?_
 refine kn hK89 ?_
 clear hK89 K89
 refine rg0 hT ?_
 exact rtI 4 hlt hk (a := 0) hm (i64c (a := 0) rfl)
 refine WQ.skip ?_
 refine sg ?_
 refine kn hK60 ?_
 clear hK60 K60
 refine WQ.seq_k fun K113 hK113 => ?_
 refine WQ.seq_k fun K141 hK141 => ?_
 have j152 : ∀ (E' : Env) (h' : Heap) (n' : Nat) (v151 : Bool), Norm n h E' h' n' (envZ [34] [(.bool v151)]) (hp h n []) n → (m_s_l13Known_a1 fu v151) = some r → K141 E' h' n' := by
  intro E154 H155 n156 v151 N153 hm
  refine hK141 _ _ _ _ _ _ N153 ?_
  clear N153 hK141 K141
  unfold m_s_l13Known_a1 at hm
  refine cn hm (fun z157 hm => ?_) fun z157 hm => ?_
  refine rg0 hT ?_
  exact rtI 4 hlt hk (a := 10) hm (i64c (a := 10) rfl)
  refine WQ.skip ?_
  refine sg ?_
  refine kn hK113 ?_
  clear hK113 K113
  refine rg0 hT ?_
  exact rtI 4 hlt hk (a := 0) hm (i64c (a := 0) rfl)
 clear hK141
 obtain ⟨v161, q160, hm⟩ := obs hm
 rcases Bool.eq_false_or_eq_true (!v161) with z164 | z164
 replace hm := ifT z164 hm
 refine WQ.drawL hT hM [(0, 0), (1, 0), (2, 0), (3, 1), (4, 0), (5, 1), (6, 2), (7, 0), (8, 0), (9, 0), (10, 0), (11, 0), (12, 1), (13, 0), (14, 1), (15, 2), (16, 0)] [] (hp h n [some [(.agg [(.int .i64 v1.kind), (.int .i64 v1.txn), (.int .i64 v1.key), (.bool v1.had), (.int .i64 v1.old), (.bool v1.has), (.int .i64 v1.new), (.int .i64 v1.back)])]]) ?_ rfl ?_ fun _ => ?_
 kernel_rfl
 simp only [go_sem]
 refine sq (a5 (hpl h hid0) hb0 F25 F30 (a3 F35 F40 F45)) ?_
 refine w_s_l1Has (SlH.up h14 1) i47 q160 (fun y162 h163 => ?_)
 obtain rfl := h163
 refine sk (a5 (hpl h hid0) hb0 F25 F30 (a4 F35 F40 F45 (eqT z164))) ?_
 refine j152 _ _ _ true ?_ hm
 exact nm [] [34] [(.bool true)] (rc rkb rn) RowsR.nil
 replace hm := ifF z164 hm
 obtain ⟨v166, q165, hm⟩ := obs hm
 refine WQ.drawL hT hM [(0, 0), (1, 0), (2, 0), (3, 1), (4, 0), (5, 1), (6, 2), (7, 0), (8, 0), (9, 0), (10, 0), (11, 0), (12, 1), (13, 0), (14, 1), (15, 2), (16, 0)] [] (hp h n [some [(.agg [(.int .i64 v1.kind), (.int .i64 v1.txn), (.int .i64 v1.key), (.bool v1.had), (.int .i64 v1.old), (.bool v1.has), (.int .i64 v1.new), (.int .i64 v1.back)])]]) ?_ rfl ?_ fun _ => ?_
 kernel_rfl
 simp only [go_sem]
 refine sq (a5 (hpl h hid0) hb0 F25 F30 (a3 F35 F40 F45)) ?_
 refine w_s_l1Has (SlH.up h14 1) i47 q160 (fun y162 h163 => ?_)
 obtain rfl := h163
 refine sk (a5 (hpl h hid0) hb0 F25 F30 (a4 F35 F40 F45 (eqF z164))) ?_
 refine w_s_l1Has (SlH.up h16 1) i47 q165 (fun y167 h168 => ?_)
 obtain rfl := h168
 refine sk (a5 (hpl h hid0) hb0 F25 F30 (a4 F35 F40 F45 (eqF z164))) ?_
 refine j152 _ _ _ v166 ?_ hm
 exact nm [] [34] [(.bool v166)] (rc rkb rn) RowsR.nil
def m_s_l1Find_a1 (fu : Nat) : Option Int :=
  some (-1)
def m_s_l1Find_a2 (fu : Nat) (v0 : List CellD) (v1 : Int) (v272 : Int) : Option (Int ⊕ (Unit ⊕ Option Int)) :=
  (if (decide (v272 < (v0.length : Int))) = true then (Option.bind (atL v0 v272) fun a316 => (if (decide (a316.key = v1)) = true then some (Sum.inr (Sum.inr (some v272))) else some (Sum.inl (IntKind.i64.wrap (v272 + 1))))) else some (Sum.inr (Sum.inl ())))
def m_s_l1Find (fu : Nat) (v0 : List CellD) (v1 : Int) : Option Int :=
  (Option.bind (iterN (fun (s : Int) => m_s_l1Find_a2 fu v0 v1 s) fu 0) fun q275 => Sum.elim (fun (b : Unit) => (m_s_l1Find_a1 fu)) (fun x => x) q275)
set_option maxHeartbeats 2000000 in
theorem w_s_l1Find {x0 : AV} {v0 : List CellD} (h0 : (SlH h n 2 CellR) x0 v0) {v1 : Int} (i1 : I64 v1) {fu : Nat} {r : Int} (hm : m_s_l1Find fu v0 v1 = some r) (hk : ∀ y, Int64R y r → K y h n) : CA Try.prog 130 [x0, (.int .i64 v1)] h n K := by
 refine CA.enterQ (N := 20) (rs := [.tmp 4]) hT Try.call130 Try.func130 rfl rfl (of_decide_eq_true rfl) rfl fun hlt => ?_
 unfold m_s_l1Find at hm
 obtain ⟨es11, a12, l13, b14, F15⟩ := sHo h0
 refine rg0 hT ?_
 refine WQ.seq_k fun K17 hK17 => ?_
 have j167 : ∀ (E' : Env) (h' : Heap) (n' : Nat), Norm n h E' h' n' (envZ [] []) (hp h n []) n → (m_s_l1Find_a1 fu) = some r → K17 E' h' n' := by
  intro E169 H170 n171 N168 hm
  refine hK17 _ _ _ _ _ _ N168 ?_
  clear N168 hK17 K17
  unfold m_s_l1Find_a1 at hm
  refine rg0 hT ?_
  exact rtI 4 hlt hk (a := (-1)) hm (i64c (a := (-1)) rfl)
 clear hK17
 refine rg0 hT ?_
 refine WQ.block ?_
 obtain ⟨q275, hq276, hm⟩ := obs hm
 refine WQ.norm ?_ (WQ.iter (step := (fun (s : Int) => m_s_l1Find_a2 fu v0 v1 s)) (fun (s : Int) E' h' n' => I64 s ∧ (envZ [0, 1, 5] [x0, (.int .i64 v1), (.int .i64 s)]) = E' ∧ (hp h n []) = h' ∧ n = n') hq276 ⟨(i64c (a := 0) rfl), rfl, rfl, rfl⟩ ?_)
 exact nm [] [0, 1, 5] [x0, (.int .i64 v1), (.int .i64 0)] (rc (.keep _ (slH_lt h0)) (rc rki (rc rki rn))) RowsR.nil
 rintro v272 E' h' n' o274 ⟨i273, rfl, rfl, rfl⟩ ho278 hf277
 replace i273 : I64 v272 := i273
 replace ho278 : m_s_l1Find_a2 fu v0 v1 v272 = some o274 := ho278
 unfold m_s_l1Find_a2 at ho278
 show WQ Try.prog _ n h _ _ (envZ [0, 1, 5] [x0, (.int .i64 v1), (.int .i64 v272)]) (hp h n []) n
 refine WQ.seq_k fun K279 hK279 => ?_
 refine rg hT F15 ?_
 refine cn ho278 (fun z283 ho278 => ?_) fun z283 ho278 => ?_
 refine WQ.skip ?_
 refine sg ?_
 refine kn hK279 ?_
 clear hK279 K279
 refine WQ.seq_k fun K284 hK284 => ?_
 refine WQ.block ?_
 refine WQ.seq_k fun K306 hK306 => ?_
 obtain ⟨a316, q317, ho278⟩ := obs ho278
 obtain ⟨e320, p318, h322⟩ := atk q317 a12
 have gh322 := h322
 obtain ⟨rfl, i323, i324⟩ := h322
 refine WQ.region hT rfl ?_
 refine sq (a2 F15 p318) ?_
 refine kn hK306 ?_
 clear hK306 K306
 refine cn ho278 (fun z325 ho278 => ?_) fun z325 ho278 => ?_
 refine rg0 hT ?_
 have e327 := hf277 _ (Option.some.inj ho278).symm
 rw [← e327] at hm
 exact rtI 4 hlt hk (a := v272) hm i273
 refine WQ.skip ?_
 refine sg ?_
 refine kn hK284 ?_
 clear hK284 K284
 refine WQ.region hT rfl ?_
 refine sq0 ?_
 refine ⟨_, _, _, _, (Option.some.inj ho278).symm, ?_, (rng_wrap64 _), rfl, rfl, rfl⟩
 exact nm [] [0, 1, 5] [x0, (.int .i64 v1), (.int .i64 (IntKind.i64.wrap (v272 + 1)))] (rc (.keep _ (slH_lt h0)) (rc rki (rc rki rn))) RowsR.nil
 refine WQ.exit ?_
 refine sg ?_
 have e328 := hf277 _ (Option.some.inj ho278).symm
 rw [← e328] at hm
 refine j167 _ _ _  ?_ hm
 exact nm [] [] [] rn RowsR.nil
def m_s_l13Was_a1 (fu : Nat) (v82 : Bool) : Option Bool :=
  some v82
def m_s_l13Was (fu : Nat) (v0 : SimD) (v1 : RecD) : Option Bool :=
  (Option.bind (m_s_l1Find fu v0.cells v1.key) fun v60 => (if (decide (v60 < 0)) = true then some (!v1.had) else (if v1.had = true then (Option.bind (atL v0.cells v60) fun a89 => (m_s_l13Was_a1 fu (decide (v1.old = a89.value)))) else (m_s_l13Was_a1 fu false))))
set_option maxHeartbeats 2000000 in
theorem w_s_l13Was {x0 : AV} {v0 : SimD} (h0 : (SimRH h n) x0 v0) {id0 : Nat} (hid0 : id0 < n) (hb0 : h id0 = some [x0]) {x1 : AV} {v1 : RecD} (h1 : RecR x1 v1) {fu : Nat} {r : Bool} (hm : m_s_l13Was fu v0 v1 = some r) (hk : ∀ y, BoolR y r → K y h n) : CA Try.prog 94 [(.ep 5 (.sl 5 id0 0 1 1 true) 0 0), x1] h n K := by
 refine CA.enterQ (N := 33) (rs := [.tmp 4]) hT Try.call94 Try.func94 rfl rfl (of_decide_eq_true rfl) rfl fun hlt => ?_
 unfold m_s_l13Was at hm
 have gh0 := h0
 obtain ⟨x11, x13, x15, x17, x19, rfl, h12, h14, h16, h18, h20⟩ := h0
 obtain ⟨es21, a22, l23, b24, F25⟩ := sHo h12
 obtain ⟨es26, a27, l28, b29, F30⟩ := sHo h14
 obtain ⟨es31, a32, l33, b34, F35⟩ := sHo h16
 obtain ⟨es36, a37, l38, b39, F40⟩ := sHo h18
 obtain ⟨es41, a42, l43, b44, F45⟩ := sHo h20
 have gh1 := h1
 obtain ⟨rfl, i46, i47, i48, i49, i50, i51⟩ := h1
 refine rg0 hT ?_
 refine WQ.seq_k fun K53 hK53 => ?_
 obtain ⟨v60, q59, hm⟩ := obs hm
 refine WQ.drawL hT hM [(0, 0), (1, 0), (2, 0), (3, 1), (4, 0), (5, 1), (6, 2), (7, 0)] [] (hp h n [some [(.agg [(.int .i64 v1.kind), (.int .i64 v1.txn), (.int .i64 v1.key), (.bool v1.had), (.int .i64 v1.old), (.bool v1.has), (.int .i64 v1.new), (.int .i64 v1.back)])]]) ?_ rfl ?_ fun _ => ?_
 kernel_rfl
 simp only [go_sem]
 refine sq (a5 (hpl h hid0) hb0 F25 F30 (a3 F35 F40 F45)) ?_
 refine w_s_l1Find (SlH.up h12 1) i48 q59 (fun y61 h62 => ?_)
 obtain ⟨rfl, i63⟩ := h62
 refine sk (a5 (hpl h hid0) hb0 F25 F30 (a3 F35 F40 F45)) ?_
 refine kn hK53 ?_
 clear hK53 K53
 refine WQ.seq_k fun K64 hK64 => ?_
 refine rg0 hT ?_
 refine cn hm (fun z69 hm => ?_) fun z69 hm => ?_
 refine rg0 hT ?_
 exact rtB 4 hlt hk (a := (!v1.had)) hm
 refine WQ.skip ?_
 refine sg ?_
 refine kn hK64 ?_
 clear hK64 K64
 refine WQ.seq_k fun K71 hK71 => ?_
 have j83 : ∀ (E' : Env) (h' : Heap) (n' : Nat) (v82 : Bool), Norm n h E' h' n' (envZ [4] [(.bool v82)]) (hp h n []) n → (m_s_l13Was_a1 fu v82) = some r → K71 E' h' n' := by
  intro E85 H86 n87 v82 N84 hm
  refine hK71 _ _ _ _ _ _ N84 ?_
  clear N84 hK71 K71
  unfold m_s_l13Was_a1 at hm
  exact rtB 4 hlt hk (a := v82) hm
 clear hK71
 rcases Bool.eq_false_or_eq_true (v1.had) with z88 | z88
 replace hm := ifT z88 hm
 obtain ⟨a89, q90, hm⟩ := obs hm
 obtain ⟨e93, p91, h95⟩ := atk q90 a22
 have gh95 := h95
 obtain ⟨rfl, i96, i97⟩ := h95
 refine WQ.drawL hT hM [(0, 0), (1, 1), (2, 0), (3, 0), (4, 1), (5, 0), (6, 0), (7, 0), (8, 1), (9, 0), (10, 1), (11, 0), (12, 1), (13, 0), (14, 0), (15, 0)] [] (hp h n [some [(.agg [(.int .i64 v1.kind), (.int .i64 v1.txn), (.int .i64 v1.key), (.bool v1.had), (.int .i64 v1.old), (.bool v1.has), (.int .i64 v1.new), (.int .i64 v1.back)])]]) ?_ rfl ?_ fun _ => ?_
 kernel_rfl
 simp only [go_sem]
 refine sq (a5 (hpl h hid0) hb0 F25 F30 (a5 F35 F40 F45 p91 (eqT z88))) ?_
 refine j83 _ _ _ (decide (v1.old = a89.value)) ?_ hm
 exact nm [] [4] [(.bool (decide (v1.old = a89.value)))] (rc rkb rn) RowsR.nil
 replace hm := ifF z88 hm
 refine WQ.drawL hT hM [(0, 0), (1, 1), (2, 0), (3, 0), (4, 1), (5, 0), (6, 0), (7, 0), (8, 1), (9, 0), (10, 1), (11, 0), (12, 1), (13, 0), (14, 0), (15, 0)] [] (hp h n [some [(.agg [(.int .i64 v1.kind), (.int .i64 v1.txn), (.int .i64 v1.key), (.bool v1.had), (.int .i64 v1.old), (.bool v1.has), (.int .i64 v1.new), (.int .i64 v1.back)])]]) ?_ rfl ?_ fun _ => ?_
 kernel_rfl
 simp only [go_sem]
 refine sq (a5 (hpl h hid0) hb0 F25 F30 (a4 F35 F40 F45 (eqF z88))) ?_
 refine j83 _ _ _ false ?_ hm
 exact nm [] [4] [(.bool false)] (rc rkb rn) RowsR.nil
def m_s_l13Held_a1 (fu : Nat) : Option Bool :=
  some false
def m_s_l13Held_a2 (fu : Nat) (v488 : Int) (v556 : Bool) : Option (Int ⊕ (Unit ⊕ Option Bool)) :=
  (if v556 = true then some (Sum.inr (Sum.inr (some true))) else some (Sum.inl (IntKind.i64.wrap (v488 + 1))))
def m_s_l13Held_a3 (fu : Nat) (v0 : SimD) (v1 : RecD) (v488 : Int) : Option (Int ⊕ (Unit ⊕ Option Bool)) :=
  (if (decide (v488 < (v0.held.length : Int))) = true then (Option.bind (atL v0.held v488) fun a565 => (if (decide (a565.key = v1.key)) = true then (if (decide (a565.txn ≠ v1.txn)) = true then (Option.bind (m_s_l1Has fu v0.ended a565.txn) fun v577 => (m_s_l13Held_a2 fu v488 (!v577))) else (m_s_l13Held_a2 fu v488 false)) else (m_s_l13Held_a2 fu v488 false))) else some (Sum.inr (Sum.inl ())))
def m_s_l13Held (fu : Nat) (v0 : SimD) (v1 : RecD) : Option Bool :=
  (Option.bind (iterN (fun (s : Int) => m_s_l13Held_a3 fu v0 v1 s) fu 0) fun q491 => Sum.elim (fun (b : Unit) => (m_s_l13Held_a1 fu)) (fun x => x) q491)
set_option maxHeartbeats 2000000 in
theorem w_s_l13Held {x0 : AV} {v0 : SimD} (h0 : (SimRH h n) x0 v0) {id0 : Nat} (hid0 : id0 < n) (hb0 : h id0 = some [x0]) {x1 : AV} {v1 : RecD} (h1 : RecR x1 v1) {fu : Nat} {r : Bool} (hm : m_s_l13Held fu v0 v1 = some r) (hk : ∀ y, BoolR y r → K y h n) : CA Try.prog 95 [(.ep 5 (.sl 5 id0 0 1 1 true) 0 0), x1] h n K := by
 refine CA.enterQ (N := 55) (rs := [.tmp 4]) hT Try.call95 Try.func95 rfl rfl (of_decide_eq_true rfl) rfl fun hlt => ?_
 unfold m_s_l13Held at hm
 have gh0 := h0
 obtain ⟨x11, x13, x15, x17, x19, rfl, h12, h14, h16, h18, h20⟩ := h0
 obtain ⟨es21, a22, l23, b24, F25⟩ := sHo h12
 obtain ⟨es26, a27, l28, b29, F30⟩ := sHo h14
 obtain ⟨es31, a32, l33, b34, F35⟩ := sHo h16
 obtain ⟨es36, a37, l38, b39, F40⟩ := sHo h18
 obtain ⟨es41, a42, l43, b44, F45⟩ := sHo h20
 have gh1 := h1
 obtain ⟨rfl, i46, i47, i48, i49, i50, i51⟩ := h1
 refine rg0 hT ?_
 refine WQ.seq_k fun K53 hK53 => ?_
 have j311 : ∀ (E' : Env) (h' : Heap) (n' : Nat), Norm n h E' h' n' (envZ [] []) (hp h n []) n → (m_s_l13Held_a1 fu) = some r → K53 E' h' n' := by
  intro E313 H314 n315 N312 hm
  refine hK53 _ _ _ _ _ _ N312 ?_
  clear N312 hK53 K53
  unfold m_s_l13Held_a1 at hm
  refine rg0 hT ?_
  exact rtB 4 hlt hk (a := false) hm
 clear hK53
 refine rg0 hT ?_
 refine WQ.block ?_
 obtain ⟨q491, hq492, hm⟩ := obs hm
 refine WQ.norm ?_ (WQ.iter (step := (fun (s : Int) => m_s_l13Held_a3 fu v0 v1 s)) (fun (s : Int) E' h' n' => I64 s ∧ (envZ [0, 3, 5] [(.ep 5 (.sl 5 id0 0 1 1 true) 0 0), (.ep 8 (.sl 8 n 0 1 1 true) 0 0), (.int .i64 s)]) = E' ∧ (hp h n [some [(.agg [(.int .i64 v1.kind), (.int .i64 v1.txn), (.int .i64 v1.key), (.bool v1.had), (.int .i64 v1.old), (.bool v1.has), (.int .i64 v1.new), (.int .i64 v1.back)])]]) = h' ∧ (n + 1) = n') hq492 ⟨(i64c (a := 0) rfl), rfl, rfl, rfl⟩ ?_)
 exact nm [0] [0, 3, 5] [(.ep 5 (.sl 5 id0 0 1 1 true) 0 0), (.ep 8 (.sl 8 n 0 1 1 true) 0 0), (.int .i64 0)] (rc (.keep _ (.ep _ _ _ _ (.sl _ _ _ _ _ _ hid0))) (rc (Rn.ptr (js := [0]) 0 0) (rc rki rn))) (RowsR.row 0 _ _ _ _ hp_get0 (rc (.keep _ (tyRec_76.lt _ _ _ gh1)) rn) RowsR.nil)
 rintro v488 E' h' n' o490 ⟨i489, rfl, rfl, rfl⟩ ho494 hf493
 replace i489 : I64 v488 := i489
 replace ho494 : m_s_l13Held_a3 fu v0 v1 v488 = some o490 := ho494
 unfold m_s_l13Held_a3 at ho494
 show WQ Try.prog _ n h _ _ (envZ [0, 3, 5] [(.ep 5 (.sl 5 id0 0 1 1 true) 0 0), (.ep 8 (.sl 8 n 0 1 1 true) 0 0), (.int .i64 v488)]) (hp h n [some [(.agg [(.int .i64 v1.kind), (.int .i64 v1.txn), (.int .i64 v1.key), (.bool v1.had), (.int .i64 v1.old), (.bool v1.has), (.int .i64 v1.new), (.int .i64 v1.back)])]]) (n + 1)
 refine WQ.seq_k fun K495 hK495 => ?_
 refine rg hT (a5 (hpl h hid0) hb0 F25 F30 (a3 F35 F40 F45)) ?_
 refine cn ho494 (fun z499 ho494 => ?_) fun z499 ho494 => ?_
 refine WQ.skip ?_
 refine sg ?_
 refine kn hK495 ?_
 clear hK495 K495
 refine WQ.seq_k fun K500 hK500 => ?_
 refine WQ.block ?_
 refine WQ.seq_k fun K540 hK540 => ?_
 have j557 : ∀ (E' : Env) (h' : Heap) (n' : Nat) (v556 : Bool), Norm n h E' h' n' (envZ [0, 3, 5, 54] [(.ep 5 (.sl 5 id0 0 1 1 true) 0 0), (.ep 8 (.sl 8 n 0 1 1 true) 0 0), (.int .i64 v488), (.bool v556)]) (hp h n [some [(.agg [(.int .i64 v1.kind), (.int .i64 v1.txn), (.int .i64 v1.key), (.bool v1.had), (.int .i64 v1.old), (.bool v1.has), (.int .i64 v1.new), (.int .i64 v1.back)])]]) (n + 1) → (m_s_l13Held_a2 fu v488 v556) = some o490 → K540 E' h' n' := by
  intro E559 H560 n561 v556 N558 ho494
  refine hK540 _ _ _ _ _ _ N558 ?_
  clear N558 hK540 K540
  unfold m_s_l13Held_a2 at ho494
  refine cn ho494 (fun z562 ho494 => ?_) fun z562 ho494 => ?_
  refine rg0 hT ?_
  have e564 := hf493 _ (Option.some.inj ho494).symm
  rw [← e564] at hm
  exact rtB 4 hlt hk (a := true) hm
  refine WQ.skip ?_
  refine sg ?_
  refine kn hK500 ?_
  clear hK500 K500
  refine WQ.region hT rfl ?_
  refine sq0 ?_
  refine ⟨_, _, _, _, (Option.some.inj ho494).symm, ?_, (rng_wrap64 _), rfl, rfl, rfl⟩
  exact nm [0] [0, 3, 5] [(.ep 5 (.sl 5 id0 0 1 1 true) 0 0), (.ep 8 (.sl 8 n 0 1 1 true) 0 0), (.int .i64 (IntKind.i64.wrap (v488 + 1)))] (rc (.keep _ (.ep _ _ _ _ (.sl _ _ _ _ _ _ hid0))) (rc (Rn.ptr (js := [0]) 0 0) (rc rki rn))) (RowsR.row 0 _ _ _ _ hp_get0 (rc (.keep _ (tyRec_76.lt _ _ _ gh1)) rn) RowsR.nil)
 clear hK540
 obtain ⟨a565, q566, ho494⟩ := obs ho494
 obtain ⟨e569, p567, h571⟩ := atk q566 a42
 have gh571 := h571
 obtain ⟨rfl, i572, i573⟩ := h571
 rcases Bool.eq_false_or_eq_true (decide (a565.key = v1.key)) with z574 | z574
 replace ho494 := ifT z574 ho494
 rcases Bool.eq_false_or_eq_true (decide (a565.txn ≠ v1.txn)) with z575 | z575
 replace ho494 := ifT z575 ho494
 obtain ⟨v577, q576, ho494⟩ := obs ho494
 refine WQ.drawL hT hM [(0, 0), (1, 0), (2, 0), (3, 1), (4, 0), (5, 1), (6, 0), (7, 1), (8, 0), (9, 1), (10, 0), (11, 0), (12, 0), (13, 0), (14, 0), (15, 1), (16, 0), (17, 1), (18, 0), (19, 1), (20, 0), (21, 1), (22, 0), (23, 0), (24, 0), (25, 0), (26, 0), (27, 0), (28, 1), (29, 0), (30, 0), (31, 0), (32, 1), (33, 0), (34, 1), (35, 0), (36, 1), (37, 2), (38, 0), (39, 0)] [] (hp h n [some [(.agg [(.int .i64 v1.kind), (.int .i64 v1.txn), (.int .i64 v1.key), (.bool v1.had), (.int .i64 v1.old), (.bool v1.has), (.int .i64 v1.new), (.int .i64 v1.back)])]]) ?_ rfl ?_ fun _ => ?_
 kernel_rfl
 simp only [go_sem]
 refine sq (a5 (hpl h hid0) hb0 F25 F30 (a5 F35 F40 F45 p567 (a2 (eqT z574) (eqT z575)))) ?_
 refine w_s_l1Has (SlH.up h16 1) i572 q576 (fun y578 h579 => ?_)
 obtain rfl := h579
 refine sk (a5 (hpl h hid0) hb0 F25 F30 (a5 F35 F40 F45 p567 (a2 (eqT z574) (eqT z575)))) ?_
 refine j557 _ _ _ (!v577) ?_ ho494
 exact nm [0] [0, 3, 5, 54] [(.ep 5 (.sl 5 id0 0 1 1 true) 0 0), (.ep 8 (.sl 8 n 0 1 1 true) 0 0), (.int .i64 v488), (.bool (!v577))] (rc (.keep _ (.ep _ _ _ _ (.sl _ _ _ _ _ _ hid0))) (rc (Rn.ptr (js := [0]) 0 0) (rc rki (rc rkb rn)))) (RowsR.row 0 _ _ _ _ hp_get0 (rc (.keep _ (tyRec_76.lt _ _ _ gh1)) rn) RowsR.nil)
 replace ho494 := ifF z575 ho494
 refine WQ.drawL hT hM [(0, 0), (1, 0), (2, 0), (3, 1), (4, 0), (5, 1), (6, 0), (7, 1), (8, 0), (9, 1), (10, 0), (11, 0), (12, 0), (13, 0), (14, 0), (15, 1), (16, 0), (17, 1), (18, 0), (19, 1), (20, 0), (21, 1), (22, 0), (23, 0), (24, 0), (25, 0), (26, 0), (27, 0), (28, 1), (29, 0), (30, 0), (31, 0), (32, 1), (33, 0), (34, 1), (35, 0), (36, 1), (37, 2), (38, 0), (39, 0)] [] (hp h n [some [(.agg [(.int .i64 v1.kind), (.int .i64 v1.txn), (.int .i64 v1.key), (.bool v1.had), (.int .i64 v1.old), (.bool v1.has), (.int .i64 v1.new), (.int .i64 v1.back)])]]) ?_ rfl ?_ fun _ => ?_
 kernel_rfl
 simp only [go_sem]
 refine sq (a5 (hpl h hid0) hb0 F25 F30 (a5 F35 F40 F45 p567 (a2 (eqT z574) (eqF z575)))) ?_
 refine j557 _ _ _ false ?_ ho494
 exact nm [0] [0, 3, 5, 54] [(.ep 5 (.sl 5 id0 0 1 1 true) 0 0), (.ep 8 (.sl 8 n 0 1 1 true) 0 0), (.int .i64 v488), (.bool false)] (rc (.keep _ (.ep _ _ _ _ (.sl _ _ _ _ _ _ hid0))) (rc (Rn.ptr (js := [0]) 0 0) (rc rki (rc rkb rn)))) (RowsR.row 0 _ _ _ _ hp_get0 (rc (.keep _ (tyRec_76.lt _ _ _ gh1)) rn) RowsR.nil)
 replace ho494 := ifF z574 ho494
 refine WQ.drawL hT hM [(0, 0), (1, 0), (2, 0), (3, 1), (4, 0), (5, 1), (6, 0), (7, 1), (8, 0), (9, 1), (10, 0), (11, 0), (12, 0), (13, 0), (14, 0), (15, 1), (16, 0), (17, 1), (18, 0), (19, 1), (20, 0), (21, 1), (22, 0), (23, 0), (24, 0), (25, 0), (26, 0), (27, 0), (28, 1), (29, 0), (30, 0), (31, 0), (32, 1), (33, 0), (34, 1), (35, 0), (36, 1), (37, 2), (38, 0), (39, 0)] [] (hp h n [some [(.agg [(.int .i64 v1.kind), (.int .i64 v1.txn), (.int .i64 v1.key), (.bool v1.had), (.int .i64 v1.old), (.bool v1.has), (.int .i64 v1.new), (.int .i64 v1.back)])]]) ?_ rfl ?_ fun _ => ?_
 kernel_rfl
 simp only [go_sem]
 refine sq (a5 (hpl h hid0) hb0 F25 F30 (a5 F35 F40 F45 p567 (eqF z574))) ?_
 refine j557 _ _ _ false ?_ ho494
 exact nm [0] [0, 3, 5, 54] [(.ep 5 (.sl 5 id0 0 1 1 true) 0 0), (.ep 8 (.sl 8 n 0 1 1 true) 0 0), (.int .i64 v488), (.bool false)] (rc (.keep _ (.ep _ _ _ _ (.sl _ _ _ _ _ _ hid0))) (rc (Rn.ptr (js := [0]) 0 0) (rc rki (rc rkb rn)))) (RowsR.row 0 _ _ _ _ hp_get0 (rc (.keep _ (tyRec_76.lt _ _ _ gh1)) rn) RowsR.nil)
 refine WQ.exit ?_
 refine sg ?_
 have e580 := hf493 _ (Option.some.inj ho494).symm
 rw [← e580] at hm
 refine j311 _ _ _  ?_ hm
 exact nm [] [] [] rn RowsR.nil
def m_s_l3Back_a1 (fu : Nat) (v519 : List Int) : Option (List Int) :=
  some v519
def m_s_l3Back_a2 (fu : Nat) (v865 : Int) (v949 : List Int) (v953 : List Int) : Option (((List Int) × (List Int) × Int) ⊕ ((List Int) ⊕ Option (List Int))) :=
  some (Sum.inl (v949, v953, IntKind.i64.wrap (v865 - 1)))
def m_s_l3Back_a3 (fu : Nat) (v862 : List Int) (v865 : Int) (v999 : List Int) (v1013 : Bool) : Option (((List Int) × (List Int) × Int) ⊕ ((List Int) ⊕ Option (List Int))) :=
  (if v1013 = true then (Option.bind (snocL 8 v862 (IntKind.i64.wrap (v865 + 1))) fun v1020 => (m_s_l3Back_a2 fu v865 v999 v1020)) else (m_s_l3Back_a2 fu v865 v999 v862))
def m_s_l3Back_a4 (fu : Nat) (v862 : List Int) (v865 : Int) (a975 : RecD) (v999 : List Int) : Option (((List Int) × (List Int) × Int) ⊕ ((List Int) ⊕ Option (List Int))) :=
  (if (decide (a975.kind = 2)) = true then (Option.bind (m_s_l1Has fu v999 (IntKind.i64.wrap (v865 + 1))) fun v1024 => (m_s_l3Back_a3 fu v862 v865 v999 (!v1024))) else (m_s_l3Back_a3 fu v862 v865 v999 false))
def m_s_l3Back_a5 (fu : Nat) (v0 : List RecD) (v1 : Int) (v858 : List Int) (v862 : List Int) (v865 : Int) : Option (((List Int) × (List Int) × Int) ⊕ ((List Int) ⊕ Option (List Int))) :=
  (if (decide (0 ≤ v865)) = true then (Option.bind (atL v0 v865) fun a975 => (if (decide (a975.txn ≠ v1)) = true then (m_s_l3Back_a2 fu v865 v858 v862) else (if (decide (a975.kind = 5)) = true then (Option.bind (snocL 8 v858 a975.back) fun v1029 => (m_s_l3Back_a4 fu v862 v865 a975 v1029)) else (m_s_l3Back_a4 fu v862 v865 a975 v858)))) else some (Sum.inr (Sum.inl v862)))
def m_s_l3Back (fu : Nat) (v0 : List RecD) (v1 : Int) : Option (List Int) :=
  (Option.bind (iterN (fun (s : (List Int) × (List Int) × Int) => m_s_l3Back_a5 fu v0 v1 s.1 s.2.1 s.2.2) fu (([] : List Int), ([] : List Int), IntKind.i64.wrap ((v0.length : Int) - 1))) fun q868 => Sum.elim (fun (b : (List Int)) => (m_s_l3Back_a1 fu b)) (fun x => x) q868)
set_option maxHeartbeats 2000000 in
theorem w_s_l3Back {x0 : AV} {v0 : List RecD} (h0 : (SlH h n 8 RecR) x0 v0) {v1 : Int} (i1 : I64 v1) {fu : Nat} {r : (List Int)} (hm : m_s_l3Back fu v0 v1 = some r) (hk : ∀ y, (SlR 1 Int64R) y r → K y h n) : CA Try.prog 117 [x0, (.int .i64 v1)] h n K := by
 refine CA.enterQ (N := 50) (rs := [.tmp 4]) hT Try.call117 Try.func117 rfl rfl (of_decide_eq_true rfl) rfl fun hlt => ?_
 unfold m_s_l3Back at hm
 obtain ⟨es11, a12, l13, b14, F15⟩ := sHo h0
 refine rg0 hT ?_
 refine rg0 hT ?_
 refine rg0 hT ?_
 refine WQ.seq_k fun K19 hK19 => ?_
 have j522 : ∀ (E' : Env) (h' : Heap) (n' : Nat) (es518 : List AV) (v519 : List Int) (a520 : All2 Int64R es518 v519) (b521 : es518.length ≤ 140737488355328), Norm n h E' h' n' (envZ [6] [(.sl 1 n 0 v519.length v519.length false)]) (hp h n [some es518]) (n + 1) → (m_s_l3Back_a1 fu v519) = some r → K19 E' h' n' := by
  intro E524 H525 n526 es518 v519 a520 b521 N523 hm
  refine hK19 _ _ _ _ _ _ N523 ?_
  clear N523 hK19 K19
  unfold m_s_l3Back_a1 at hm
  refine rg hT (a2 (all2_length a520) (own_take a520)) ?_
  exact rt1 4 (.sl 1 n 0 v519.length v519.length false) hlt hk (a := v519) hm (Rn.frzA 0 rfl (of_decide_eq_true rfl) (RnL.all2 a520 int64_lt) (all2_length a520).symm) (slr_ltA _ _ _ (own_fro a520 b521 int64_lt)) (own_fro a520 b521 int64_lt)
 clear hK19
 refine rg hT F15 ?_
 refine WQ.block ?_
 obtain ⟨q868, hq869, hm⟩ := obs hm
 refine WQ.norm ?_ (WQ.iter (step := (fun (s : (List Int) × (List Int) × Int) => m_s_l3Back_a5 fu v0 v1 s.1 s.2.1 s.2.2)) (fun (s : (List Int) × (List Int) × Int) E' h' n' => ∃ (es857 : List AV), ∃ (es861 : List AV), All2 Int64R es857 s.1 ∧ es857.length ≤ 140737488355328 ∧ All2 Int64R es861 s.2.1 ∧ es861.length ≤ 140737488355328 ∧ I64 s.2.2 ∧ (envZ [0, 1, 5, 6, 7] [x0, (.int .i64 v1), (.sl 1 n 0 s.1.length s.1.length false), (.sl 1 (n + 1) 0 s.2.1.length s.2.1.length false), (.int .i64 s.2.2)]) = E' ∧ (hp h n [some es857, some es861]) = h' ∧ (n + 2) = n') hq869 ⟨([]), ([]), (nl0 Int64R), (of_decide_eq_true rfl), (nl0 Int64R), (of_decide_eq_true rfl), (rng_wrap64 _), rfl, rfl, rfl⟩ ?_)
 exact nm [0, 1] [0, 1, 5, 6, 7] [x0, (.int .i64 v1), (.sl 1 n 0 0 0 true), (.sl 1 (n + 1) 0 0 0 true), (.int .i64 (IntKind.i64.wrap ((v0.length : Int) - 1)))] (rc (.keep _ (slH_lt h0)) (rc rki (rc (Rn.ownF (js := [0, 1]) 0 0) (rc (Rn.ownF (js := [0, 1]) 1 1) (rc rki rn))))) (RowsR.row 0 _ _ _ _ hp_get0 (RnL.all2 (nl0 Int64R) int64_lt) (RowsR.row 1 _ _ _ _ (hp_get 1) (RnL.all2 (nl0 Int64R) int64_lt) RowsR.nil))
 rintro ⟨v858, v862, v865⟩ E' h' n' o867 ⟨es857, es861, a859, b860, a863, b864, i866, rfl, rfl, rfl⟩ ho871 hf870
 replace a859 : All2 Int64R es857 v858 := a859
 replace b860 : es857.length ≤ 140737488355328 := b860
 replace a863 : All2 Int64R es861 v862 := a863
 replace b864 : es861.length ≤ 140737488355328 := b864
 replace i866 : I64 v865 := i866
 replace ho871 : m_s_l3Back_a5 fu v0 v1 v858 v862 v865 = some o867 := ho871
 unfold m_s_l3Back_a5 at ho871
 show WQ Try.prog _ n h _ _ (envZ [0, 1, 5, 6, 7] [x0, (.int .i64 v1), (.sl 1 n 0 v858.length v858.length false), (.sl 1 (n + 1) 0 v862.length v862.length false), (.int .i64 v865)]) (hp h n [some es857, some es861]) (n + 2)
 refine WQ.seq_k fun K872 hK872 => ?_
 refine rg0 hT ?_
 refine cn ho871 (fun z876 ho871 => ?_) fun z876 ho871 => ?_
 refine WQ.skip ?_
 refine sg ?_
 refine kn hK872 ?_
 clear hK872 K872
 refine WQ.seq_k fun K877 hK877 => ?_
 have j956 : ∀ (E' : Env) (h' : Heap) (n' : Nat) (es948 : List AV) (v949 : List Int) (a950 : All2 Int64R es948 v949) (b951 : es948.length ≤ 140737488355328) (es952 : List AV) (v953 : List Int) (a954 : All2 Int64R es952 v953) (b955 : es952.length ≤ 140737488355328), Norm n h E' h' n' (envZ [0, 1, 5, 6, 7] [x0, (.int .i64 v1), (.sl 1 n 0 v949.length v949.length false), (.sl 1 (n + 1) 0 v953.length v953.length false), (.int .i64 v865)]) (hp h n [some es948, some es952]) (n + 2) → (m_s_l3Back_a2 fu v865 v949 v953) = some o867 → K877 E' h' n' := by
  intro E958 H959 n960 es948 v949 a950 b951 es952 v953 a954 b955 N957 ho871
  refine hK877 _ _ _ _ _ _ N957 ?_
  clear N957 hK877 K877
  unfold m_s_l3Back_a2 at ho871
  refine WQ.region hT rfl ?_
  refine sq0 ?_
  refine ⟨_, _, _, _, (Option.some.inj ho871).symm, ?_, es948, es952, a950, b951, a954, b955, (rng_wrap64 _), rfl, rfl, rfl⟩
  exact nm [0, 1] [0, 1, 5, 6, 7] [x0, (.int .i64 v1), (.sl 1 n 0 v949.length v949.length false), (.sl 1 (n + 1) 0 v953.length v953.length false), (.int .i64 (IntKind.i64.wrap (v865 - 1)))] (rc (.keep _ (slH_lt h0)) (rc rki (rc (Rn.own (js := [0, 1]) 0 0) (rc (Rn.own (js := [0, 1]) 1 1) (rc rki rn))))) (RowsR.row 0 _ _ _ _ hp_get0 (RnL.all2 a950 int64_lt) (RowsR.row 1 _ _ _ _ (hp_get 1) (RnL.all2 a954 int64_lt) RowsR.nil))
 clear hK877
 refine WQ.block ?_
 refine WQ.seq_k fun K961 hK961 => ?_
 obtain ⟨a975, q976, ho871⟩ := obs ho871
 obtain ⟨e979, p977, h981⟩ := atk q976 a12
 have gh981 := h981
 obtain ⟨rfl, i982, i983, i984, i985, i986, i987⟩ := h981
 refine WQ.region hT rfl ?_
 refine sq (a2 F15 p977) ?_
 refine kn hK961 ?_
 clear hK961 K961
 refine WQ.seq_k fun K988 hK988 => ?_
 refine rg0 hT ?_
 refine cn ho871 (fun z992 ho871 => ?_) fun z992 ho871 => ?_
 refine WQ.exit ?_
 refine sg ?_
 refine j956 _ _ _ es857 v858 a859 b860 es861 v862 a863 b864 ?_ ho871
 exact nm [0, 1] [0, 1, 5, 6, 7] [x0, (.int .i64 v1), (.sl 1 n 0 v858.length v858.length false), (.sl 1 (n + 1) 0 v862.length v862.length false), (.int .i64 v865)] (rc (.keep _ (slH_lt h0)) (rc rki (rc (Rn.own (js := [0, 1]) 0 0) (rc (Rn.own (js := [0, 1]) 1 1) (rc rki rn))))) (RowsR.row 0 _ _ _ _ hp_get0 (RnL.all2 a859 int64_lt) (RowsR.row 1 _ _ _ _ (hp_get 1) (RnL.all2 a863 int64_lt) RowsR.nil))
 refine WQ.skip ?_
 refine sg ?_
 refine kn hK988 ?_
 clear hK988 K988
 refine WQ.seq_k fun K993 hK993 => ?_
 have j1002 : ∀ (E' : Env) (h' : Heap) (n' : Nat) (es998 : List AV) (v999 : List Int) (a1000 : All2 Int64R es998 v999) (b1001 : es998.length ≤ 140737488355328), Norm n h E' h' n' (envZ [0, 1, 5, 6, 7, 8] [x0, (.int .i64 v1), (.sl 1 n 0 v999.length v999.length false), (.sl 1 (n + 1) 0 v862.length v862.length false), (.int .i64 v865), (.ep 8 (.sl 8 (n + 2) 0 1 1 true) 0 0)]) (hp h n [some es998, some es861, some [(.agg [(.int .i64 a975.kind), (.int .i64 a975.txn), (.int .i64 a975.key), (.bool a975.had), (.int .i64 a975.old), (.bool a975.has), (.int .i64 a975.new), (.int .i64 a975.back)])]]) (n + 3) → (m_s_l3Back_a4 fu v862 v865 a975 v999) = some o867 → K993 E' h' n' := by
  intro E1004 H1005 n1006 es998 v999 a1000 b1001 N1003 ho871
  refine hK993 _ _ _ _ _ _ N1003 ?_
  clear N1003 hK993 K993
  unfold m_s_l3Back_a4 at ho871
  refine WQ.seq_k fun K1007 hK1007 => ?_
  have j1014 : ∀ (E' : Env) (h' : Heap) (n' : Nat) (v1013 : Bool), Norm n h E' h' n' (envZ [0, 1, 5, 6, 7, 43] [x0, (.int .i64 v1), (.sl 1 n 0 v999.length v999.length false), (.sl 1 (n + 1) 0 v862.length v862.length false), (.int .i64 v865), (.bool v1013)]) (hp h n [some es998, some es861]) (n + 2) → (m_s_l3Back_a3 fu v862 v865 v999 v1013) = some o867 → K1007 E' h' n' := by
   intro E1016 H1017 n1018 v1013 N1015 ho871
   refine hK1007 _ _ _ _ _ _ N1015 ?_
   clear N1015 hK1007 K1007
   unfold m_s_l3Back_a3 at ho871
   refine cn ho871 (fun z1019 ho871 => ?_) fun z1019 ho871 => ?_
   obtain ⟨v1020, q1021, ho871⟩ := obs ho871
   refine WQ.region hT rfl ?_
   refine sq (a2 (all2_length a863) (own_take a863)) ?_
   refine ⟨2, rfl, app_mv1 (j := 1) rfl (of_decide_eq_true rfl) rfl ?_ ?_ (all2_length a863) q1021 a863 (int64R (rng_wrap64 _)) ?_⟩
   exact sc (a2 (all2_length a863) (own_take a863))
   exact sc0
   refine sk (a4 (all2_length (snoc_all2 q1021 a863 (int64R (rng_wrap64 _)))) (own_take (snoc_all2 q1021 a863 (int64R (rng_wrap64 _)))) (all2_length a863) (own_take a863)) ?_
   refine j956 _ _ _ es998 v999 a1000 b1001 (es861 ++ [(.int .i64 (IntKind.i64.wrap (v865 + 1)))]) v1020 (snoc_all2 q1021 a863 (int64R (rng_wrap64 _))) (snoc_len q1021 a863 (int64R (rng_wrap64 _))) ?_ ho871
   exact nm [0, 3] [0, 1, 5, 6, 7] [x0, (.int .i64 v1), (.sl 1 n 0 v999.length v999.length false), (.sl 1 (n + 3) 0 v1020.length v1020.length false), (.int .i64 v865)] (rc (.keep _ (slH_lt h0)) (rc rki (rc (Rn.own (js := [0, 3]) 0 0) (rc (Rn.own (js := [0, 3]) 3 1) (rc rki rn))))) (RowsR.row 0 _ _ _ _ hp_get0 (RnL.all2 a1000 int64_lt) (RowsR.row 3 _ _ _ _ (hp_get 3) (RnL.all2 (snoc_all2 q1021 a863 (int64R (rng_wrap64 _))) int64_lt) RowsR.nil))
   refine WQ.skip ?_
   refine sg ?_
   refine j956 _ _ _ es998 v999 a1000 b1001 es861 v862 a863 b864 ?_ ho871
   exact nm [0, 1] [0, 1, 5, 6, 7] [x0, (.int .i64 v1), (.sl 1 n 0 v999.length v999.length false), (.sl 1 (n + 1) 0 v862.length v862.length false), (.int .i64 v865)] (rc (.keep _ (slH_lt h0)) (rc rki (rc (Rn.own (js := [0, 1]) 0 0) (rc (Rn.own (js := [0, 1]) 1 1) (rc rki rn))))) (RowsR.row 0 _ _ _ _ hp_get0 (RnL.all2 a1000 int64_lt) (RowsR.row 1 _ _ _ _ (hp_get 1) (RnL.all2 a863 int64_lt) RowsR.nil))
  clear hK1007
  rcases Bool.eq_false_or_eq_true (decide (a975.kind = 2)) with z1022 | z1022
  replace ho871 := ifT z1022 ho871
  obtain ⟨v1024, q1023, ho871⟩ := obs ho871
  refine WQ.region hT rfl ?_
  refine sq (a3 (all2_length a1000) (own_take a1000) (eqT z1022)) ?_
  refine w_s_l1Has (slH_own (j := 0) (m := 3) hp_get0 a1000 b1001 (all2_length a1000) rfl) (rng_wrap64 _) q1023 (fun y1025 h1026 => ?_)
  obtain rfl := h1026
  refine sk (a3 (all2_length a1000) (own_take a1000) (eqT z1022)) ?_
  refine j1014 _ _ _ (!v1024) ?_ ho871
  exact nm [0, 1] [0, 1, 5, 6, 7, 43] [x0, (.int .i64 v1), (.sl 1 n 0 v999.length v999.length false), (.sl 1 (n + 1) 0 v862.length v862.length false), (.int .i64 v865), (.bool (!v1024))] (rc (.keep _ (slH_lt h0)) (rc rki (rc (Rn.own (js := [0, 1]) 0 0) (rc (Rn.own (js := [0, 1]) 1 1) (rc rki (rc rkb rn)))))) (RowsR.row 0 _ _ _ _ hp_get0 (RnL.all2 a1000 int64_lt) (RowsR.row 1 _ _ _ _ (hp_get 1) (RnL.all2 a863 int64_lt) RowsR.nil))
  replace ho871 := ifF z1022 ho871
  refine WQ.region hT rfl ?_
  refine sq (a3 (all2_length a1000) (own_take a1000) (eqF z1022)) ?_
  refine j1014 _ _ _ false ?_ ho871
  exact nm [0, 1] [0, 1, 5, 6, 7, 43] [x0, (.int .i64 v1), (.sl 1 n 0 v999.length v999.length false), (.sl 1 (n + 1) 0 v862.length v862.length false), (.int .i64 v865), (.bool false)] (rc (.keep _ (slH_lt h0)) (rc rki (rc (Rn.own (js := [0, 1]) 0 0) (rc (Rn.own (js := [0, 1]) 1 1) (rc rki (rc rkb rn)))))) (RowsR.row 0 _ _ _ _ hp_get0 (RnL.all2 a1000 int64_lt) (RowsR.row 1 _ _ _ _ (hp_get 1) (RnL.all2 a863 int64_lt) RowsR.nil))
 clear hK993
 refine rg0 hT ?_
 refine cn ho871 (fun z1028 ho871 => ?_) fun z1028 ho871 => ?_
 obtain ⟨v1029, q1030, ho871⟩ := obs ho871
 refine WQ.region hT rfl ?_
 refine sq (a2 (all2_length a859) (own_take a859)) ?_
 refine ⟨2, rfl, app_mv1 (j := 0) rfl (of_decide_eq_true rfl) rfl ?_ ?_ (all2_length a859) q1030 a859 (int64R i987) ?_⟩
 exact sc (a2 (all2_length a859) (own_take a859))
 exact sc0
 refine sk (a4 (all2_length (snoc_all2 q1030 a859 (int64R i987))) (own_take (snoc_all2 q1030 a859 (int64R i987))) (all2_length a859) (own_take a859)) ?_
 refine j1002 _ _ _ (es857 ++ [(.int .i64 a975.back)]) v1029 (snoc_all2 q1030 a859 (int64R i987)) (snoc_len q1030 a859 (int64R i987)) ?_ ho871
 exact nm [4, 1, 2] [0, 1, 5, 6, 7, 8] [x0, (.int .i64 v1), (.sl 1 (n + 4) 0 v1029.length v1029.length false), (.sl 1 (n + 1) 0 v862.length v862.length false), (.int .i64 v865), (.ep 8 (.sl 8 (n + 2) 0 1 1 true) 0 0)] (rc (.keep _ (slH_lt h0)) (rc rki (rc (Rn.own (js := [4, 1, 2]) 4 0) (rc (Rn.own (js := [4, 1, 2]) 1 1) (rc rki (rc (Rn.ptr (js := [4, 1, 2]) 2 2) rn)))))) (RowsR.row 4 _ _ _ _ (hp_get 4) (RnL.all2 (snoc_all2 q1030 a859 (int64R i987)) int64_lt) (RowsR.row 1 _ _ _ _ (hp_get 1) (RnL.all2 a863 int64_lt) (RowsR.row 2 _ _ _ _ (hp_get 2) (rc (.keep _ (tyRec_76.lt _ _ _ gh981)) rn) RowsR.nil)))
 refine WQ.skip ?_
 refine sg ?_
 refine j1002 _ _ _ es857 v858 a859 b860 ?_ ho871
 exact nm [0, 1, 2] [0, 1, 5, 6, 7, 8] [x0, (.int .i64 v1), (.sl 1 n 0 v858.length v858.length false), (.sl 1 (n + 1) 0 v862.length v862.length false), (.int .i64 v865), (.ep 8 (.sl 8 (n + 2) 0 1 1 true) 0 0)] (rc (.keep _ (slH_lt h0)) (rc rki (rc (Rn.own (js := [0, 1, 2]) 0 0) (rc (Rn.own (js := [0, 1, 2]) 1 1) (rc rki (rc (Rn.ptr (js := [0, 1, 2]) 2 2) rn)))))) (RowsR.row 0 _ _ _ _ hp_get0 (RnL.all2 a859 int64_lt) (RowsR.row 1 _ _ _ _ (hp_get 1) (RnL.all2 a863 int64_lt) (RowsR.row 2 _ _ _ _ (hp_get 2) (rc (.keep _ (tyRec_76.lt _ _ _ gh981)) rn) RowsR.nil)))
 refine WQ.exit ?_
 refine sg ?_
 have e1031 := hf870 _ (Option.some.inj ho871).symm
 rw [← e1031] at hm
 refine j522 _ _ _ es861 v862 a863 b864 ?_ hm
 exact nm [1] [6] [(.sl 1 (n + 1) 0 v862.length v862.length false)] (rc (Rn.own (js := [1]) 1 0) rn) (RowsR.row 1 _ _ _ _ (hp_get 1) (RnL.all2 a863 int64_lt) RowsR.nil)
def m_s_l13Fits_a1 (fu : Nat) (v382 : Bool) : Option Bool :=
  some v382
def m_s_l13Fits_a2 (fu : Nat) (v1 : List RecD) (a66 : RecD) (v344 : Bool) : Option Bool :=
  (if v344 = true then some false else (Option.bind (atL v1 (IntKind.i64.wrap (a66.back - 1))) fun a366 => (if (decide (a66.key = a366.key)) = true then (if (a66.has == a366.had) = true then (m_s_l13Fits_a1 fu (decide (a66.new = a366.old))) else (m_s_l13Fits_a1 fu false)) else (m_s_l13Fits_a1 fu false))))
def m_s_l13Fits_a3 (fu : Nat) (v0 : SimD) (a66 : RecD) (v440 : Bool) : Option Bool :=
  (if v440 = true then (Option.bind (m_s_l1Has fu v0.undid a66.txn) fun v453 => some (!v453)) else some true)
def m_s_l13Fits (fu : Nat) (v0 : SimD) (v1 : List RecD) (v2 : Int) : Option Bool :=
  (Option.bind (atL v1 v2) fun a66 => (if (decide (a66.kind = 5)) = true then (Option.bind (sliceL v1 0 v2) fun v291 => (Option.bind (m_s_l3Back fu v291 a66.txn) fun v301 => (if (decide ((v301.length : Int) = 0)) = true then (m_s_l13Fits_a2 fu v1 a66 true) else (Option.bind (atL v301 0) fun a391 => (m_s_l13Fits_a2 fu v1 a66 (decide (a391 ≠ a66.back))))))) else (if (decide (a66.kind = 4)) = true then (Option.bind (sliceL v1 0 v2) fun v419 => (Option.bind (m_s_l3Back fu v419 a66.txn) fun v429 => some (decide ((v429.length : Int) = 0)))) else (if (decide (a66.kind = 2)) = true then (m_s_l13Fits_a3 fu v0 a66 (decide (a66.kind = 2))) else (m_s_l13Fits_a3 fu v0 a66 (decide (a66.kind = 3)))))))
set_option maxHeartbeats 2000000 in
theorem w_s_l13Fits {x0 : AV} {v0 : SimD} (h0 : (SimRH h n) x0 v0) {id0 : Nat} (hid0 : id0 < n) (hb0 : h id0 = some [x0]) {x1 : AV} {v1 : List RecD} (h1 : (SlH h n 8 RecR) x1 v1) {v2 : Int} (i2 : I64 v2) {fu : Nat} {r : Bool} (hm : m_s_l13Fits fu v0 v1 v2 = some r) (hk : ∀ y, BoolR y r → K y h n) : CA Try.prog 96 [(.ep 5 (.sl 5 id0 0 1 1 true) 0 0), x1, (.int .i64 v2)] h n K := by
 refine CA.enterQ (N := 81) (rs := [.tmp 6]) hT Try.call96 Try.func96 rfl rfl (of_decide_eq_true rfl) rfl fun hlt => ?_
 unfold m_s_l13Fits at hm
 have gh0 := h0
 obtain ⟨x11, x13, x15, x17, x19, rfl, h12, h14, h16, h18, h20⟩ := h0
 obtain ⟨es21, a22, l23, b24, F25⟩ := sHo h12
 obtain ⟨es26, a27, l28, b29, F30⟩ := sHo h14
 obtain ⟨es31, a32, l33, b34, F35⟩ := sHo h16
 obtain ⟨es36, a37, l38, b39, F40⟩ := sHo h18
 obtain ⟨es41, a42, l43, b44, F45⟩ := sHo h20
 obtain ⟨es46, a47, l48, b49, F50⟩ := sHo h1
 refine rg0 hT ?_
 refine WQ.seq_k fun K52 hK52 => ?_
 obtain ⟨a66, q67, hm⟩ := obs hm
 obtain ⟨e70, p68, h72⟩ := atk q67 a47
 have gh72 := h72
 obtain ⟨rfl, i73, i74, i75, i76, i77, i78⟩ := h72
 refine WQ.region hT rfl ?_
 refine sq (a2 F50 p68) ?_
 refine kn hK52 ?_
 clear hK52 K52
 refine WQ.seq_k fun K79 hK79 => ?_
 refine rg0 hT ?_
 refine WQ.block ?_
 refine rg0 hT ?_
 refine cn hm (fun z271 hm => ?_) fun z271 hm => ?_
 refine WQ.seq_k fun K272 hK272 => ?_
 obtain ⟨v291, q292, hm⟩ := obs hm
 obtain ⟨v301, q300, hm⟩ := obs hm
 refine WQ.drawL hT hM [(0, 0), (1, 0), (2, 0), (3, 0), (4, 1), (5, 2), (6, 0)] [] (hp h n [some [(.agg [(.int .i64 a66.kind), (.int .i64 a66.txn), (.int .i64 a66.key), (.bool a66.had), (.int .i64 a66.old), (.bool a66.has), (.int .i64 a66.new), (.int .i64 a66.back)])]]) ?_ rfl ?_ fun _ => ?_
 kernel_rfl
 simp only [go_sem]
 refine sq F50 ?_
 refine op_partH (el := 76) (X := x1) rfl ?_ h1 (of_decide_eq_true rfl) tyRec_76.lt rfl ?_ q292 (fun y293 h294 => ?_)
 exact sc0
 exact sc0
 replace h294 : (SlH h n 8 RecR) y293 v291 := h294
 obtain ⟨es295, a296, l297, b298, F299⟩ := sHo h294
 refine sk (a2 F50 F299) ?_
 refine w_s_l3Back (SlH.up h294 1) i74 q300 (fun y302 h303 => ?_)
 obtain ⟨es304, a305, l306, b307, F308⟩ := sRo h303
 refine sk (a3 F50 F299 F308) ?_
 refine kn hK272 ?_
 clear hK272 K272
 refine WQ.seq_k fun K309 hK309 => ?_
 refine WQ.seq_k fun K335 hK335 => ?_
 have j345 : ∀ (E' : Env) (h' : Heap) (n' : Nat) (v344 : Bool), Norm n h E' h' n' (envZ [1, 7, 34] [x1, (.ep 8 (.sl 8 n 0 1 1 true) 0 0), (.bool v344)]) (hp h n [some [(.agg [(.int .i64 a66.kind), (.int .i64 a66.txn), (.int .i64 a66.key), (.bool a66.had), (.int .i64 a66.old), (.bool a66.has), (.int .i64 a66.new), (.int .i64 a66.back)])]]) (n + 1) → (m_s_l13Fits_a2 fu v1 a66 v344) = some r → K335 E' h' n' := by
  intro E347 H348 n349 v344 N346 hm
  refine hK335 _ _ _ _ _ _ N346 ?_
  clear N346 hK335 K335
  unfold m_s_l13Fits_a2 at hm
  refine cn hm (fun z350 hm => ?_) fun z350 hm => ?_
  refine rg0 hT ?_
  exact rtB 6 hlt hk (a := false) hm
  refine WQ.skip ?_
  refine sg ?_
  refine kn hK309 ?_
  clear hK309 K309
  refine WQ.seq_k fun K352 hK352 => ?_
  obtain ⟨a366, q367, hm⟩ := obs hm
  obtain ⟨e370, p368, h372⟩ := atk q367 a47
  have gh372 := h372
  obtain ⟨rfl, i373, i374, i375, i376, i377, i378⟩ := h372
  refine WQ.region hT rfl ?_
  refine sq (a2 F50 p368) ?_
  refine kn hK352 ?_
  clear hK352 K352
  refine WQ.seq_k fun K379 hK379 => ?_
  have j383 : ∀ (E' : Env) (h' : Heap) (n' : Nat) (v382 : Bool), Norm n h E' h' n' (envZ [6] [(.bool v382)]) (hp h n []) n → (m_s_l13Fits_a1 fu v382) = some r → K379 E' h' n' := by
   intro E385 H386 n387 v382 N384 hm
   refine hK379 _ _ _ _ _ _ N384 ?_
   clear N384 hK379 K379
   unfold m_s_l13Fits_a1 at hm
   exact rtB 6 hlt hk (a := v382) hm
  clear hK379
  rcases Bool.eq_false_or_eq_true (decide (a66.key = a366.key)) with z388 | z388
  replace hm := ifT z388 hm
  rcases Bool.eq_false_or_eq_true (a66.has == a366.had) with z389 | z389
  replace hm := ifT z389 hm
  refine WQ.region hT rfl ?_
  refine sq (a2 (eqT z388) (eqT z389)) ?_
  refine j383 _ _ _ (decide (a66.new = a366.old)) ?_ hm
  exact nm [] [6] [(.bool (decide (a66.new = a366.old)))] (rc rkb rn) RowsR.nil
  replace hm := ifF z389 hm
  refine WQ.region hT rfl ?_
  refine sq (a2 (eqT z388) (eqF z389)) ?_
  refine j383 _ _ _ false ?_ hm
  exact nm [] [6] [(.bool false)] (rc rkb rn) RowsR.nil
  replace hm := ifF z388 hm
  refine WQ.region hT rfl ?_
  refine sq (eqF z388) ?_
  refine j383 _ _ _ false ?_ hm
  exact nm [] [6] [(.bool false)] (rc rkb rn) RowsR.nil
 clear hK335
 rcases Bool.eq_false_or_eq_true (decide ((v301.length : Int) = 0)) with z390 | z390
 replace hm := ifT z390 hm
 refine WQ.drawL hT hM [(0, 0), (1, 1), (2, 0), (3, 0), (4, 0), (5, 1), (6, 1), (7, 0), (8, 1), (9, 0), (10, 0)] [] (hp h n [some [(.agg [(.int .i64 a66.kind), (.int .i64 a66.txn), (.int .i64 a66.key), (.bool a66.had), (.int .i64 a66.old), (.bool a66.has), (.int .i64 a66.new), (.int .i64 a66.back)])]]) ?_ rfl ?_ fun _ => ?_
 kernel_rfl
 simp only [go_sem]
 refine sq (a2 F308 (eqT z390)) ?_
 refine j345 _ _ _ true ?_ hm
 exact nm [0] [1, 7, 34] [x1, (.ep 8 (.sl 8 n 0 1 1 true) 0 0), (.bool true)] (rc (.keep _ (slH_lt h1)) (rc (Rn.ptr (js := [0]) 0 0) (rc rkb rn))) (RowsR.row 0 _ _ _ _ hp_get0 (rc (.keep _ (tyRec_76.lt _ _ _ gh72)) rn) RowsR.nil)
 replace hm := ifF z390 hm
 obtain ⟨a391, q392, hm⟩ := obs hm
 obtain ⟨e395, p393, h397⟩ := atk q392 a305
 obtain ⟨rfl, ia391⟩ := h397
 refine WQ.drawL hT hM [(0, 0), (1, 1), (2, 0), (3, 0), (4, 0), (5, 1), (6, 1), (7, 0), (8, 1), (9, 0), (10, 0)] [] (hp h n [some [(.agg [(.int .i64 a66.kind), (.int .i64 a66.txn), (.int .i64 a66.key), (.bool a66.had), (.int .i64 a66.old), (.bool a66.has), (.int .i64 a66.new), (.int .i64 a66.back)])]]) ?_ rfl ?_ fun _ => ?_
 kernel_rfl
 simp only [go_sem]
 refine sq (a3 F308 p393 (eqF z390)) ?_
 refine j345 _ _ _ (decide (a391 ≠ a66.back)) ?_ hm
 exact nm [0] [1, 7, 34] [x1, (.ep 8 (.sl 8 n 0 1 1 true) 0 0), (.bool (decide (a391 ≠ a66.back)))] (rc (.keep _ (slH_lt h1)) (rc (Rn.ptr (js := [0]) 0 0) (rc rkb rn))) (RowsR.row 0 _ _ _ _ hp_get0 (rc (.keep _ (tyRec_76.lt _ _ _ gh72)) rn) RowsR.nil)
 refine rg0 hT ?_
 refine cn hm (fun z399 hm => ?_) fun z399 hm => ?_
 refine WQ.seq_k fun K400 hK400 => ?_
 obtain ⟨v419, q420, hm⟩ := obs hm
 obtain ⟨v429, q428, hm⟩ := obs hm
 refine WQ.drawL hT hM [(0, 0), (1, 0), (2, 0), (3, 0), (4, 1), (5, 2), (6, 1), (7, 0), (8, 0)] [] (hp h n [some [(.agg [(.int .i64 a66.kind), (.int .i64 a66.txn), (.int .i64 a66.key), (.bool a66.had), (.int .i64 a66.old), (.bool a66.has), (.int .i64 a66.new), (.int .i64 a66.back)])]]) ?_ rfl ?_ fun _ => ?_
 kernel_rfl
 simp only [go_sem]
 refine sq F50 ?_
 refine op_partH (el := 76) (X := x1) rfl ?_ h1 (of_decide_eq_true rfl) tyRec_76.lt rfl ?_ q420 (fun y421 h422 => ?_)
 exact sc0
 exact sc0
 replace h422 : (SlH h n 8 RecR) y421 v419 := h422
 obtain ⟨es423, a424, l425, b426, F427⟩ := sHo h422
 refine sk (a2 F50 F427) ?_
 refine w_s_l3Back (SlH.up h422 1) i74 q428 (fun y430 h431 => ?_)
 obtain ⟨es432, a433, l434, b435, F436⟩ := sRo h431
 refine sk (a3 F50 F427 F436) ?_
 refine kn hK400 ?_
 clear hK400 K400
 exact rtB 6 hlt hk (a := (decide ((v429.length : Int) = 0))) hm
 refine WQ.seq_k fun K437 hK437 => ?_
 have j441 : ∀ (E' : Env) (h' : Heap) (n' : Nat) (v440 : Bool), Norm n h E' h' n' (envZ [0, 7, 70] [(.ep 5 (.sl 5 id0 0 1 1 true) 0 0), (.ep 8 (.sl 8 n 0 1 1 true) 0 0), (.bool v440)]) (hp h n [some [(.agg [(.int .i64 a66.kind), (.int .i64 a66.txn), (.int .i64 a66.key), (.bool a66.had), (.int .i64 a66.old), (.bool a66.has), (.int .i64 a66.new), (.int .i64 a66.back)])]]) (n + 1) → (m_s_l13Fits_a3 fu v0 a66 v440) = some r → K437 E' h' n' := by
  intro E443 H444 n445 v440 N442 hm
  refine hK437 _ _ _ _ _ _ N442 ?_
  clear N442 hK437 K437
  unfold m_s_l13Fits_a3 at hm
  refine cn hm (fun z446 hm => ?_) fun z446 hm => ?_
  refine WQ.seq_k fun K447 hK447 => ?_
  obtain ⟨v453, q452, hm⟩ := obs hm
  refine WQ.drawL hT hM [(0, 0), (1, 0), (2, 0), (3, 1), (4, 0), (5, 1), (6, 2), (7, 0), (8, 0)] [] (hp h n [some [(.agg [(.int .i64 a66.kind), (.int .i64 a66.txn), (.int .i64 a66.key), (.bool a66.had), (.int .i64 a66.old), (.bool a66.has), (.int .i64 a66.new), (.int .i64 a66.back)])]]) ?_ rfl ?_ fun _ => ?_
  kernel_rfl
  simp only [go_sem]
  refine sq (a5 (hpl h hid0) hb0 F25 F30 (a3 F35 F40 F45)) ?_
  refine w_s_l1Has (SlH.up h18 1) i74 q452 (fun y454 h455 => ?_)
  obtain rfl := h455
  refine sk (a5 (hpl h hid0) hb0 F25 F30 (a3 F35 F40 F45)) ?_
  refine kn hK447 ?_
  clear hK447 K447
  exact rtB 6 hlt hk (a := (!v453)) hm
  refine WQ.skip ?_
  refine sg ?_
  refine kn hK79 ?_
  clear hK79 K79
  refine rg0 hT ?_
  exact rtB 6 hlt hk (a := true) hm
 clear hK437
 refine rg0 hT ?_
 refine cn hm (fun z458 hm => ?_) fun z458 hm => ?_
 refine WQ.skip ?_
 refine sg ?_
 refine j441 _ _ _ (decide (a66.kind = 2)) ?_ hm
 exact nm [0] [0, 7, 70] [(.ep 5 (.sl 5 id0 0 1 1 true) 0 0), (.ep 8 (.sl 8 n 0 1 1 true) 0 0), (.bool (decide (a66.kind = 2)))] (rc (.keep _ (.ep _ _ _ _ (.sl _ _ _ _ _ _ hid0))) (rc (Rn.ptr (js := [0]) 0 0) (rc rkb rn))) (RowsR.row 0 _ _ _ _ hp_get0 (rc (.keep _ (tyRec_76.lt _ _ _ gh72)) rn) RowsR.nil)
 refine WQ.region hT rfl ?_
 refine sq0 ?_
 refine j441 _ _ _ (decide (a66.kind = 3)) ?_ hm
 exact nm [0] [0, 7, 70] [(.ep 5 (.sl 5 id0 0 1 1 true) 0 0), (.ep 8 (.sl 8 n 0 1 1 true) 0 0), (.bool (decide (a66.kind = 3)))] (rc (.keep _ (.ep _ _ _ _ (.sl _ _ _ _ _ _ hid0))) (rc (Rn.ptr (js := [0]) 0 0) (rc rkb rn))) (RowsR.row 0 _ _ _ _ hp_get0 (rc (.keep _ (tyRec_76.lt _ _ _ gh72)) rn) RowsR.nil)
def m_s_l1Without_a1 (fu : Nat) (v210 : List CellD) : Option (List CellD) :=
  some v210
def m_s_l1Without_a2 (fu : Nat) (v348 : Int) (v384 : List CellD) : Option (((List CellD) × Int) ⊕ ((List CellD) ⊕ Option (List CellD))) :=
  some (Sum.inl (v384, IntKind.i64.wrap (v348 + 1)))
def m_s_l1Without_a3 (fu : Nat) (v0 : List CellD) (v1 : Int) (v345 : List CellD) (v348 : Int) : Option (((List CellD) × Int) ⊕ ((List CellD) ⊕ Option (List CellD))) :=
  (if (decide (v348 < (v0.length : Int))) = true then (Option.bind (atL v0 v348) fun a402 => (if (decide (a402.key ≠ v1)) = true then (Option.bind (snocL 16 v345 a402) fun v412 => (m_s_l1Without_a2 fu v348 v412)) else (m_s_l1Without_a2 fu v348 v345))) else some (Sum.inr (Sum.inl v345)))
def m_s_l1Without (fu : Nat) (v0 : List CellD) (v1 : Int) : Option (List CellD) :=
  (Option.bind (iterN (fun (s : (List CellD) × Int) => m_s_l1Without_a3 fu v0 v1 s.1 s.2) fu (([] : List CellD), 0)) fun q351 => Sum.elim (fun (b : (List CellD)) => (m_s_l1Without_a1 fu b)) (fun x => x) q351)
set_option maxHeartbeats 2000000 in
theorem w_s_l1Without {x0 : AV} {v0 : List CellD} (h0 : (SlH h n 2 CellR) x0 v0) {v1 : Int} (i1 : I64 v1) {fu : Nat} {r : (List CellD)} (hm : m_s_l1Without fu v0 v1 = some r) (hk : ∀ y, (SlR 2 CellR) y r → K y h n) : CA Try.prog 67 [x0, (.int .i64 v1)] h n K := by
 refine CA.enterQ (N := 29) (rs := [.tmp 4]) hT Try.call67 Try.func67 rfl rfl (of_decide_eq_true rfl) rfl fun hlt => ?_
 unfold m_s_l1Without at hm
 obtain ⟨es11, a12, l13, b14, F15⟩ := sHo h0
 refine rg0 hT ?_
 refine rg0 hT ?_
 refine WQ.seq_k fun K18 hK18 => ?_
 have j213 : ∀ (E' : Env) (h' : Heap) (n' : Nat) (es209 : List AV) (v210 : List CellD) (a211 : All2 CellR es209 v210) (b212 : es209.length ≤ 140737488355328), Norm n h E' h' n' (envZ [5] [(.sl 2 n 0 v210.length v210.length false)]) (hp h n [some es209]) (n + 1) → (m_s_l1Without_a1 fu v210) = some r → K18 E' h' n' := by
  intro E215 H216 n217 es209 v210 a211 b212 N214 hm
  refine hK18 _ _ _ _ _ _ N214 ?_
  clear N214 hK18 K18
  unfold m_s_l1Without_a1 at hm
  refine rg hT (a2 (all2_length a211) (own_take a211)) ?_
  exact rt1 4 (.sl 2 n 0 v210.length v210.length false) hlt hk (a := v210) hm (Rn.frzA 0 rfl (of_decide_eq_true rfl) (RnL.all2 a211 tyCell_123.lt) (all2_length a211).symm) (slr_ltA _ _ _ (own_fro a211 b212 tyCell_123.lt)) (own_fro a211 b212 tyCell_123.lt)
 clear hK18
 refine rg0 hT ?_
 refine WQ.block ?_
 obtain ⟨q351, hq352, hm⟩ := obs hm
 refine WQ.norm ?_ (WQ.iter (step := (fun (s : (List CellD) × Int) => m_s_l1Without_a3 fu v0 v1 s.1 s.2)) (fun (s : (List CellD) × Int) E' h' n' => ∃ (es344 : List AV), All2 CellR es344 s.1 ∧ es344.length ≤ 140737488355328 ∧ I64 s.2 ∧ (envZ [0, 1, 5, 6] [x0, (.int .i64 v1), (.sl 2 n 0 s.1.length s.1.length false), (.int .i64 s.2)]) = E' ∧ (hp h n [some es344]) = h' ∧ (n + 1) = n') hq352 ⟨([]), (nl0 CellR), (of_decide_eq_true rfl), (i64c (a := 0) rfl), rfl, rfl, rfl⟩ ?_)
 exact nm [0] [0, 1, 5, 6] [x0, (.int .i64 v1), (.sl 2 n 0 0 0 true), (.int .i64 0)] (rc (.keep _ (slH_lt h0)) (rc rki (rc (Rn.ownF (js := [0]) 0 0) (rc rki rn)))) (RowsR.row 0 _ _ _ _ hp_get0 (RnL.all2 (nl0 CellR) tyCell_123.lt) RowsR.nil)
 rintro ⟨v345, v348⟩ E' h' n' o350 ⟨es344, a346, b347, i349, rfl, rfl, rfl⟩ ho354 hf353
 replace a346 : All2 CellR es344 v345 := a346
 replace b347 : es344.length ≤ 140737488355328 := b347
 replace i349 : I64 v348 := i349
 replace ho354 : m_s_l1Without_a3 fu v0 v1 v345 v348 = some o350 := ho354
 unfold m_s_l1Without_a3 at ho354
 show WQ Try.prog _ n h _ _ (envZ [0, 1, 5, 6] [x0, (.int .i64 v1), (.sl 2 n 0 v345.length v345.length false), (.int .i64 v348)]) (hp h n [some es344]) (n + 1)
 refine WQ.seq_k fun K355 hK355 => ?_
 refine rg hT F15 ?_
 refine cn ho354 (fun z359 ho354 => ?_) fun z359 ho354 => ?_
 refine WQ.skip ?_
 refine sg ?_
 refine kn hK355 ?_
 clear hK355 K355
 refine WQ.seq_k fun K360 hK360 => ?_
 have j387 : ∀ (E' : Env) (h' : Heap) (n' : Nat) (es383 : List AV) (v384 : List CellD) (a385 : All2 CellR es383 v384) (b386 : es383.length ≤ 140737488355328), Norm n h E' h' n' (envZ [0, 1, 5, 6] [x0, (.int .i64 v1), (.sl 2 n 0 v384.length v384.length false), (.int .i64 v348)]) (hp h n [some es383]) (n + 1) → (m_s_l1Without_a2 fu v348 v384) = some o350 → K360 E' h' n' := by
  intro E389 H390 n391 es383 v384 a385 b386 N388 ho354
  refine hK360 _ _ _ _ _ _ N388 ?_
  clear N388 hK360 K360
  unfold m_s_l1Without_a2 at ho354
  refine WQ.region hT rfl ?_
  refine sq0 ?_
  refine ⟨_, _, _, _, (Option.some.inj ho354).symm, ?_, es383, a385, b386, (rng_wrap64 _), rfl, rfl, rfl⟩
  exact nm [0] [0, 1, 5, 6] [x0, (.int .i64 v1), (.sl 2 n 0 v384.length v384.length false), (.int .i64 (IntKind.i64.wrap (v348 + 1)))] (rc (.keep _ (slH_lt h0)) (rc rki (rc (Rn.own (js := [0]) 0 0) (rc rki rn)))) (RowsR.row 0 _ _ _ _ hp_get0 (RnL.all2 a385 tyCell_123.lt) RowsR.nil)
 clear hK360
 refine WQ.block ?_
 refine WQ.seq_k fun K392 hK392 => ?_
 obtain ⟨a402, q403, ho354⟩ := obs ho354
 obtain ⟨e406, p404, h408⟩ := atk q403 a12
 have gh408 := h408
 obtain ⟨rfl, i409, i410⟩ := h408
 refine WQ.region hT rfl ?_
 refine sq (a2 F15 p404) ?_
 refine kn hK392 ?_
 clear hK392 K392
 refine cn ho354 (fun z411 ho354 => ?_) fun z411 ho354 => ?_
 obtain ⟨v412, q413, ho354⟩ := obs ho354
 refine WQ.region hT rfl ?_
 refine sq (a4 F15 (all2_length a346) (own_take a346) p404) ?_
 refine ⟨123, rfl, app_mv1 (j := 0) rfl (of_decide_eq_true rfl) rfl ?_ ?_ (all2_length a346) q413 a346 gh408 ?_⟩
 exact sc (a4 F15 (all2_length a346) (own_take a346) p404)
 exact sc0
 refine sk (a5 F15 (all2_length (snoc_all2 q413 a346 gh408)) (own_take (snoc_all2 q413 a346 gh408)) (all2_length a346) (a2 (own_take a346) p404)) ?_
 refine j387 _ _ _ (es344 ++ [(.agg [(.int .i64 a402.key), (.int .i64 a402.value)])]) v412 (snoc_all2 q413 a346 gh408) (snoc_len q413 a346 gh408) ?_ ho354
 exact nm [2] [0, 1, 5, 6] [x0, (.int .i64 v1), (.sl 2 (n + 2) 0 v412.length v412.length false), (.int .i64 v348)] (rc (.keep _ (slH_lt h0)) (rc rki (rc (Rn.own (js := [2]) 2 0) (rc rki rn)))) (RowsR.row 2 _ _ _ _ (hp_get 2) (RnL.all2 (snoc_all2 q413 a346 gh408) tyCell_123.lt) RowsR.nil)
 refine WQ.skip ?_
 refine sg ?_
 refine j387 _ _ _ es344 v345 a346 b347 ?_ ho354
 exact nm [0] [0, 1, 5, 6] [x0, (.int .i64 v1), (.sl 2 n 0 v345.length v345.length false), (.int .i64 v348)] (rc (.keep _ (slH_lt h0)) (rc rki (rc (Rn.own (js := [0]) 0 0) (rc rki rn)))) (RowsR.row 0 _ _ _ _ hp_get0 (RnL.all2 a346 tyCell_123.lt) RowsR.nil)
 refine WQ.exit ?_
 refine sg ?_
 have e414 := hf353 _ (Option.some.inj ho354).symm
 rw [← e414] at hm
 refine j213 _ _ _ es344 v345 a346 b347 ?_ hm
 exact nm [0] [5] [(.sl 2 n 0 v345.length v345.length false)] (rc (Rn.own (js := [0]) 0 0) rn) (RowsR.row 0 _ _ _ _ hp_get0 (RnL.all2 a346 tyCell_123.lt) RowsR.nil)
def m_s_l1With_a1 (fu : Nat) (v253 : List CellD) : Option (List CellD) :=
  some v253
def m_s_l1With_a2 (fu : Nat) (v1 : Int) (v2 : Int) (v28 : List CellD) (v213 : Int) : Option (List CellD) :=
  (Option.bind (sliceL v28 0 v213) fun v261 => (Option.bind (sliceL v28 v213 (v28.length : Int)) fun v270 => (Option.bind (appL 16 ([] : List CellD) v261) fun v279 => (Option.bind (snocL 16 v279 (CellD.mk v1 v2)) fun v282 => (Option.bind (appL 16 v282 v270) fun v284 => (m_s_l1With_a1 fu v284))))))
def m_s_l1With_a3 (fu : Nat) (v408 : Int) (v455 : Bool) : Option (Int ⊕ (Int ⊕ Option (List CellD))) :=
  (if v455 = true then some (Sum.inl (IntKind.i64.wrap (v408 + 1))) else some (Sum.inr (Sum.inl v408)))
def m_s_l1With_a4 (fu : Nat) (v1 : Int) (v28 : List CellD) (v408 : Int) : Option (Int ⊕ (Int ⊕ Option (List CellD))) :=
  (if (decide (v408 < (v28.length : Int))) = true then (Option.bind (atL v28 v408) fun a464 => (m_s_l1With_a3 fu v408 (decide (a464.key < v1)))) else (m_s_l1With_a3 fu v408 false))
def m_s_l1With (fu : Nat) (v0 : List CellD) (v1 : Int) (v2 : Int) : Option (List CellD) :=
  (Option.bind (m_s_l1Without fu v0 v1) fun v28 => (Option.bind (iterN (fun (s : Int) => m_s_l1With_a4 fu v1 v28 s) fu 0) fun q411 => Sum.elim (fun (b : Int) => (m_s_l1With_a2 fu v1 v2 v28 b)) (fun x => x) q411))
set_option maxHeartbeats 2000000 in
theorem w_s_l1With {x0 : AV} {v0 : List CellD} (h0 : (SlH h n 2 CellR) x0 v0) {v1 : Int} (i1 : I64 v1) {v2 : Int} (i2 : I64 v2) {fu : Nat} {r : (List CellD)} (hm : m_s_l1With fu v0 v1 v2 = some r) (hk : ∀ y, (SlR 2 CellR) y r → K y h n) : CA Try.prog 68 [x0, (.int .i64 v1), (.int .i64 v2)] h n K := by
 refine CA.enterQ (N := 41) (rs := [.tmp 6]) hT Try.call68 Try.func68 rfl rfl (of_decide_eq_true rfl) rfl fun hlt => ?_
 unfold m_s_l1With at hm
 obtain ⟨es11, a12, l13, b14, F15⟩ := sHo h0
 refine rg0 hT ?_
 obtain ⟨v28, q27, hm⟩ := obs hm
 refine WQ.sr hT rfl fun K17 hK17 => ?_
 refine sq F15 ?_
 refine w_s_l1Without (SlH.up h0 0) i1 q27 (fun y29 h30 => ?_)
 obtain ⟨es31, a32, l33, b34, F35⟩ := sRo h30
 refine sk (a2 F15 F35) ?_
 refine kn hK17 ?_
 clear hK17 K17
 refine rg0 hT ?_
 refine WQ.seq_k fun K37 hK37 => ?_
 have j215 : ∀ (E' : Env) (h' : Heap) (n' : Nat) (v213 : Int) (i214 : I64 v213), Norm n h E' h' n' (envZ [1, 2, 7, 8] [(.int .i64 v1), (.int .i64 v2), y29, (.int .i64 v213)]) (hp h n []) n → (m_s_l1With_a2 fu v1 v2 v28 v213) = some r → K37 E' h' n' := by
  intro E217 H218 n219 v213 i214 N216 hm
  refine hK37 _ _ _ _ _ _ N216 ?_
  clear N216 hK37 K37
  unfold m_s_l1With_a2 at hm
  refine WQ.seq_k fun K220 hK220 => ?_
  have j256 : ∀ (E' : Env) (h' : Heap) (n' : Nat) (es252 : List AV) (v253 : List CellD) (a254 : All2 CellR es252 v253) (b255 : es252.length ≤ 140737488355328), Norm n h E' h' n' (envZ [6] [(.sl 2 n 0 v253.length v253.length false)]) (hp h n [some es252]) (n + 1) → (m_s_l1With_a1 fu v253) = some r → K220 E' h' n' := by
   intro E258 H259 n260 es252 v253 a254 b255 N257 hm
   refine hK220 _ _ _ _ _ _ N257 ?_
   clear N257 hK220 K220
   unfold m_s_l1With_a1 at hm
   exact rt1 6 (.sl 2 n 0 v253.length v253.length false) hlt hk (a := v253) hm (Rn.frzA 0 rfl (of_decide_eq_true rfl) (RnL.all2 a254 tyCell_123.lt) (all2_length a254).symm) (slr_ltA _ _ _ (own_fro a254 b255 tyCell_123.lt)) (own_fro a254 b255 tyCell_123.lt)
  clear hK220
  obtain ⟨v261, q262, hm⟩ := obs hm
  obtain ⟨v270, q271, hm⟩ := obs hm
  obtain ⟨v279, q280, hm⟩ := obs hm
  rcases nil_or v261 with z281 | z281
  obtain ⟨v282, q283, hm⟩ := obs hm
  obtain ⟨v284, q285, hm⟩ := obs hm
  rcases nil_or v270 with z286 | z286
  refine WQ.drawT hT hM (.op 1 0 (.op 2 0 (.op 3 0 (.op 5 0 (.op 6 0 (.op 7 0 (.op 10 0 (.op 11 0 (.op 12 0 (.alt 0 (.alt 4 (.op 8 2 (.op 9 2 (.op 13 2 (.op 14 0 .nil)))) (.alt 8 (.op 4 2 (.op 9 2 (.op 13 2 (.op 14 0 .nil)))) .nil)) (.alt 8 (.op 0 2 (.op 4 2 (.op 9 2 (.op 13 2 (.op 14 0 .nil))))) .nil))))))))))) [] (hp h n []) ?_ rfl ?_ fun _ => ?_
  kernel_rfl
  simp only [go_sem]
  unfold planTW; simp only [go_sem, ↓reduceIte, reduceCtorEq, Nat.reduceEqDiff, Nat.reduceLT, Nat.reduceLeDiff, Nat.reduceAdd, Nat.reduceMul, Int.reduceLE, F35]
  refine op_part (el := 123) (X := y29) rfl ?_ h30 (of_decide_eq_true rfl) tyCell_123.lt rfl ?_ q262 (fun y263 h264 => ?_)
  exact sc0
  exact sc0
  replace h264 : (SlR 2 CellR) y263 v261 := h264
  obtain ⟨es265, a266, l267, b268, F269⟩ := sRo h264
  refine sk (a2 F35 F269) ?_
  refine op_part (el := 123) (X := y29) rfl ?_ h30 (of_decide_eq_true rfl) tyCell_123.lt ?_ rfl q271 (fun y272 h273 => ?_)
  exact sc0
  exact sc0
  replace h273 : (SlR 2 CellR) y272 v270 := h273
  obtain ⟨es274, a275, l276, b277, F278⟩ := sRo h273
  refine sk (a3 F35 F269 F278) ?_
  refine planT_alt ?_ ?_
  unfold planTW; simp only [go_sem, ↓reduceIte, reduceCtorEq, Nat.reduceEqDiff, Nat.reduceLT, Nat.reduceLeDiff, Nat.reduceAdd, Nat.reduceMul, Int.reduceLE, F35, F269, F278]
  refine planT_alt ?_ ?_
  unfold planTW; simp only [go_sem, ↓reduceIte, reduceCtorEq, Nat.reduceEqDiff, Nat.reduceLT, Nat.reduceLeDiff, Nat.reduceAdd, Nat.reduceMul, Int.reduceLE, F35, F269, F278]
  refine ⟨123, rfl, app_exN (j := 0) rfl (of_decide_eq_true rfl) rfl ?_ ?_ rfl q280 (nl0 CellR) a266 z281 ?_⟩
  exact sc (a3 F35 F269 F278)
  exact sc0
  refine sk (a4 F35 F269 F278 ((all2_length (app_all2n q280 z281 (nl0 CellR))).symm)) ?_
  refine ⟨123, rfl, app_ex1 (j := 0) rfl (of_decide_eq_true rfl) rfl ?_ ?_ rfl q283 (app_all2n q280 z281 (nl0 CellR)) (show CellR (.agg [(.int .i64 v1), (.int .i64 v2)]) (CellD.mk v1 v2) from ⟨rfl, i1, i2⟩) ?_⟩
  exact sc (a4 F35 F269 F278 ((all2_length (app_all2n q280 z281 (nl0 CellR))).symm))
  exact sc0
  refine sk (a5 F35 F269 F278 ((all2_length (app_all2n q280 z281 (nl0 CellR))).symm) (a2 (all2_length (snoc_all2 q283 (app_all2n q280 z281 (nl0 CellR)) (show CellR (.agg [(.int .i64 v1), (.int .i64 v2)]) (CellD.mk v1 v2) from ⟨rfl, i1, i2⟩))) (own_take (snoc_all2 q283 (app_all2n q280 z281 (nl0 CellR)) (show CellR (.agg [(.int .i64 v1), (.int .i64 v2)]) (CellD.mk v1 v2) from ⟨rfl, i1, i2⟩))))) ?_
  refine ⟨123, rfl, app_mvN (j := 2) rfl (of_decide_eq_true rfl) rfl ?_ ?_ (all2_length (snoc_all2 q283 (app_all2n q280 z281 (nl0 CellR)) (show CellR (.agg [(.int .i64 v1), (.int .i64 v2)]) (CellD.mk v1 v2) from ⟨rfl, i1, i2⟩))) q285 (snoc_all2 q283 (app_all2n q280 z281 (nl0 CellR)) (show CellR (.agg [(.int .i64 v1), (.int .i64 v2)]) (CellD.mk v1 v2) from ⟨rfl, i1, i2⟩)) a275 z286 ?_⟩
  exact sc (a5 F35 F269 F278 ((all2_length (app_all2n q280 z281 (nl0 CellR))).symm) (a2 (all2_length (snoc_all2 q283 (app_all2n q280 z281 (nl0 CellR)) (show CellR (.agg [(.int .i64 v1), (.int .i64 v2)]) (CellD.mk v1 v2) from ⟨rfl, i1, i2⟩))) (own_take (snoc_all2 q283 (app_all2n q280 z281 (nl0 CellR)) (show CellR (.agg [(.int .i64 v1), (.int .i64 v2)]) (CellD.mk v1 v2) from ⟨rfl, i1, i2⟩)))))
  exact sc0
  refine sk (a5 F35 F269 F278 ((all2_length (app_all2n q280 z281 (nl0 CellR))).symm) (a4 (all2_length (snoc_all2 q283 (app_all2n q280 z281 (nl0 CellR)) (show CellR (.agg [(.int .i64 v1), (.int .i64 v2)]) (CellD.mk v1 v2) from ⟨rfl, i1, i2⟩))) (own_take (snoc_all2 q283 (app_all2n q280 z281 (nl0 CellR)) (show CellR (.agg [(.int .i64 v1), (.int .i64 v2)]) (CellD.mk v1 v2) from ⟨rfl, i1, i2⟩))) (all2_length (app_all2n q285 z286 (snoc_all2 q283 (app_all2n q280 z281 (nl0 CellR)) (show CellR (.agg [(.int .i64 v1), (.int .i64 v2)]) (CellD.mk v1 v2) from ⟨rfl, i1, i2⟩)))) (own_take (app_all2n q285 z286 (snoc_all2 q283 (app_all2n q280 z281 (nl0 CellR)) (show CellR (.agg [(.int .i64 v1), (.int .i64 v2)]) (CellD.mk v1 v2) from ⟨rfl, i1, i2⟩)))))) ?_
  refine j256 _ _ _ ([] ++ [(.agg [(.int .i64 v1), (.int .i64 v2)])]) v284 (app_all2n q285 z286 (snoc_all2 q283 (app_all2n q280 z281 (nl0 CellR)) (show CellR (.agg [(.int .i64 v1), (.int .i64 v2)]) (CellD.mk v1 v2) from ⟨rfl, i1, i2⟩))) (snoc_len q283 (app_all2n q280 z281 (nl0 CellR)) (show CellR (.agg [(.int .i64 v1), (.int .i64 v2)]) (CellD.mk v1 v2) from ⟨rfl, i1, i2⟩)) ?_ hm
  exact nm [2] [6] [(.sl 2 (n + 2) 0 v284.length v284.length false)] (rc (Rn.own (js := [2]) 2 0) rn) (RowsR.row 2 _ _ _ _ (hp_get 2) (RnL.all2 (app_all2n q285 z286 (snoc_all2 q283 (app_all2n q280 z281 (nl0 CellR)) (show CellR (.agg [(.int .i64 v1), (.int .i64 v2)]) (CellD.mk v1 v2) from ⟨rfl, i1, i2⟩))) tyCell_123.lt) RowsR.nil)
  refine planT_alt ?_ ?_
  unfold planTW; simp only [go_sem, ↓reduceIte, reduceCtorEq, Nat.reduceEqDiff, Nat.reduceLT, Nat.reduceLeDiff, Nat.reduceAdd, Nat.reduceMul, Int.reduceLE, F35, F269, F278]
  refine ⟨123, rfl, app_exN (j := 0) rfl (of_decide_eq_true rfl) rfl ?_ ?_ rfl q280 (nl0 CellR) a266 z281 ?_⟩
  exact sc (a3 F35 F269 F278)
  exact sc0
  refine sk (a4 F35 F269 F278 ((all2_length (app_all2n q280 z281 (nl0 CellR))).symm)) ?_
  refine ⟨123, rfl, app_ex1 (j := 0) rfl (of_decide_eq_true rfl) rfl ?_ ?_ rfl q283 (app_all2n q280 z281 (nl0 CellR)) (show CellR (.agg [(.int .i64 v1), (.int .i64 v2)]) (CellD.mk v1 v2) from ⟨rfl, i1, i2⟩) ?_⟩
  exact sc (a4 F35 F269 F278 ((all2_length (app_all2n q280 z281 (nl0 CellR))).symm))
  exact sc0
  refine sk (a5 F35 F269 F278 ((all2_length (app_all2n q280 z281 (nl0 CellR))).symm) (a2 (all2_length (snoc_all2 q283 (app_all2n q280 z281 (nl0 CellR)) (show CellR (.agg [(.int .i64 v1), (.int .i64 v2)]) (CellD.mk v1 v2) from ⟨rfl, i1, i2⟩))) (own_take (snoc_all2 q283 (app_all2n q280 z281 (nl0 CellR)) (show CellR (.agg [(.int .i64 v1), (.int .i64 v2)]) (CellD.mk v1 v2) from ⟨rfl, i1, i2⟩))))) ?_
  refine ⟨123, rfl, app_mvN (j := 2) rfl (of_decide_eq_true rfl) rfl ?_ ?_ (all2_length (snoc_all2 q283 (app_all2n q280 z281 (nl0 CellR)) (show CellR (.agg [(.int .i64 v1), (.int .i64 v2)]) (CellD.mk v1 v2) from ⟨rfl, i1, i2⟩))) q285 (snoc_all2 q283 (app_all2n q280 z281 (nl0 CellR)) (show CellR (.agg [(.int .i64 v1), (.int .i64 v2)]) (CellD.mk v1 v2) from ⟨rfl, i1, i2⟩)) a275 z286 ?_⟩
  exact sc (a5 F35 F269 F278 ((all2_length (app_all2n q280 z281 (nl0 CellR))).symm) (a2 (all2_length (snoc_all2 q283 (app_all2n q280 z281 (nl0 CellR)) (show CellR (.agg [(.int .i64 v1), (.int .i64 v2)]) (CellD.mk v1 v2) from ⟨rfl, i1, i2⟩))) (own_take (snoc_all2 q283 (app_all2n q280 z281 (nl0 CellR)) (show CellR (.agg [(.int .i64 v1), (.int .i64 v2)]) (CellD.mk v1 v2) from ⟨rfl, i1, i2⟩)))))
  exact sc0
  refine sk (a5 F35 F269 F278 ((all2_length (app_all2n q280 z281 (nl0 CellR))).symm) (a4 (all2_length (snoc_all2 q283 (app_all2n q280 z281 (nl0 CellR)) (show CellR (.agg [(.int .i64 v1), (.int .i64 v2)]) (CellD.mk v1 v2) from ⟨rfl, i1, i2⟩))) (own_take (snoc_all2 q283 (app_all2n q280 z281 (nl0 CellR)) (show CellR (.agg [(.int .i64 v1), (.int .i64 v2)]) (CellD.mk v1 v2) from ⟨rfl, i1, i2⟩))) (all2_length (app_all2n q285 z286 (snoc_all2 q283 (app_all2n q280 z281 (nl0 CellR)) (show CellR (.agg [(.int .i64 v1), (.int .i64 v2)]) (CellD.mk v1 v2) from ⟨rfl, i1, i2⟩)))) (own_take (app_all2n q285 z286 (snoc_all2 q283 (app_all2n q280 z281 (nl0 CellR)) (show CellR (.agg [(.int .i64 v1), (.int .i64 v2)]) (CellD.mk v1 v2) from ⟨rfl, i1, i2⟩)))))) ?_
  refine j256 _ _ _ ([] ++ [(.agg [(.int .i64 v1), (.int .i64 v2)])]) v284 (app_all2n q285 z286 (snoc_all2 q283 (app_all2n q280 z281 (nl0 CellR)) (show CellR (.agg [(.int .i64 v1), (.int .i64 v2)]) (CellD.mk v1 v2) from ⟨rfl, i1, i2⟩))) (snoc_len q283 (app_all2n q280 z281 (nl0 CellR)) (show CellR (.agg [(.int .i64 v1), (.int .i64 v2)]) (CellD.mk v1 v2) from ⟨rfl, i1, i2⟩)) ?_ hm
  exact nm [2] [6] [(.sl 2 (n + 2) 0 v284.length v284.length false)] (rc (Rn.own (js := [2]) 2 0) rn) (RowsR.row 2 _ _ _ _ (hp_get 2) (RnL.all2 (app_all2n q285 z286 (snoc_all2 q283 (app_all2n q280 z281 (nl0 CellR)) (show CellR (.agg [(.int .i64 v1), (.int .i64 v2)]) (CellD.mk v1 v2) from ⟨rfl, i1, i2⟩))) tyCell_123.lt) RowsR.nil)
  exact planT_end
  refine planT_alt ?_ ?_
  unfold planTW; simp only [go_sem, ↓reduceIte, reduceCtorEq, Nat.reduceEqDiff, Nat.reduceLT, Nat.reduceLeDiff, Nat.reduceAdd, Nat.reduceMul, Int.reduceLE, F35, F269, F278]
  refine ⟨123, rfl, app_exN (j := 1) rfl (of_decide_eq_true rfl) rfl ?_ ?_ rfl q280 (nl0 CellR) a266 z281 ?_⟩
  exact sc (a3 F35 F269 F278)
  exact sc0
  refine sk (a4 F35 F269 F278 ((all2_length (app_all2n q280 z281 (nl0 CellR))).symm)) ?_
  refine ⟨123, rfl, app_ex1 (j := 1) rfl (of_decide_eq_true rfl) rfl ?_ ?_ rfl q283 (app_all2n q280 z281 (nl0 CellR)) (show CellR (.agg [(.int .i64 v1), (.int .i64 v2)]) (CellD.mk v1 v2) from ⟨rfl, i1, i2⟩) ?_⟩
  exact sc (a4 F35 F269 F278 ((all2_length (app_all2n q280 z281 (nl0 CellR))).symm))
  exact sc0
  refine sk (a5 F35 F269 F278 ((all2_length (app_all2n q280 z281 (nl0 CellR))).symm) (a2 (all2_length (snoc_all2 q283 (app_all2n q280 z281 (nl0 CellR)) (show CellR (.agg [(.int .i64 v1), (.int .i64 v2)]) (CellD.mk v1 v2) from ⟨rfl, i1, i2⟩))) (own_take (snoc_all2 q283 (app_all2n q280 z281 (nl0 CellR)) (show CellR (.agg [(.int .i64 v1), (.int .i64 v2)]) (CellD.mk v1 v2) from ⟨rfl, i1, i2⟩))))) ?_
  refine ⟨123, rfl, app_mvN (j := 2) rfl (of_decide_eq_true rfl) rfl ?_ ?_ (all2_length (snoc_all2 q283 (app_all2n q280 z281 (nl0 CellR)) (show CellR (.agg [(.int .i64 v1), (.int .i64 v2)]) (CellD.mk v1 v2) from ⟨rfl, i1, i2⟩))) q285 (snoc_all2 q283 (app_all2n q280 z281 (nl0 CellR)) (show CellR (.agg [(.int .i64 v1), (.int .i64 v2)]) (CellD.mk v1 v2) from ⟨rfl, i1, i2⟩)) a275 z286 ?_⟩
  exact sc (a5 F35 F269 F278 ((all2_length (app_all2n q280 z281 (nl0 CellR))).symm) (a2 (all2_length (snoc_all2 q283 (app_all2n q280 z281 (nl0 CellR)) (show CellR (.agg [(.int .i64 v1), (.int .i64 v2)]) (CellD.mk v1 v2) from ⟨rfl, i1, i2⟩))) (own_take (snoc_all2 q283 (app_all2n q280 z281 (nl0 CellR)) (show CellR (.agg [(.int .i64 v1), (.int .i64 v2)]) (CellD.mk v1 v2) from ⟨rfl, i1, i2⟩)))))
  exact sc0
  refine sk (a5 F35 F269 F278 ((all2_length (app_all2n q280 z281 (nl0 CellR))).symm) (a4 (all2_length (snoc_all2 q283 (app_all2n q280 z281 (nl0 CellR)) (show CellR (.agg [(.int .i64 v1), (.int .i64 v2)]) (CellD.mk v1 v2) from ⟨rfl, i1, i2⟩))) (own_take (snoc_all2 q283 (app_all2n q280 z281 (nl0 CellR)) (show CellR (.agg [(.int .i64 v1), (.int .i64 v2)]) (CellD.mk v1 v2) from ⟨rfl, i1, i2⟩))) (all2_length (app_all2n q285 z286 (snoc_all2 q283 (app_all2n q280 z281 (nl0 CellR)) (show CellR (.agg [(.int .i64 v1), (.int .i64 v2)]) (CellD.mk v1 v2) from ⟨rfl, i1, i2⟩)))) (own_take (app_all2n q285 z286 (snoc_all2 q283 (app_all2n q280 z281 (nl0 CellR)) (show CellR (.agg [(.int .i64 v1), (.int .i64 v2)]) (CellD.mk v1 v2) from ⟨rfl, i1, i2⟩)))))) ?_
  refine j256 _ _ _ ([] ++ [(.agg [(.int .i64 v1), (.int .i64 v2)])]) v284 (app_all2n q285 z286 (snoc_all2 q283 (app_all2n q280 z281 (nl0 CellR)) (show CellR (.agg [(.int .i64 v1), (.int .i64 v2)]) (CellD.mk v1 v2) from ⟨rfl, i1, i2⟩))) (snoc_len q283 (app_all2n q280 z281 (nl0 CellR)) (show CellR (.agg [(.int .i64 v1), (.int .i64 v2)]) (CellD.mk v1 v2) from ⟨rfl, i1, i2⟩)) ?_ hm
  exact nm [2] [6] [(.sl 2 (n + 2) 0 v284.length v284.length false)] (rc (Rn.own (js := [2]) 2 0) rn) (RowsR.row 2 _ _ _ _ (hp_get 2) (RnL.all2 (app_all2n q285 z286 (snoc_all2 q283 (app_all2n q280 z281 (nl0 CellR)) (show CellR (.agg [(.int .i64 v1), (.int .i64 v2)]) (CellD.mk v1 v2) from ⟨rfl, i1, i2⟩))) tyCell_123.lt) RowsR.nil)
  exact planT_end
  refine WQ.drawT hT hM (.op 1 0 (.op 2 0 (.op 3 0 (.op 5 0 (.op 6 0 (.op 7 0 (.op 10 0 (.op 11 0 (.op 12 0 (.alt 0 (.alt 4 (.op 8 2 (.op 9 2 (.op 13 2 (.op 14 0 .nil)))) (.alt 8 (.op 4 2 (.op 9 2 (.op 13 2 (.op 14 0 .nil)))) .nil)) (.alt 8 (.op 0 2 (.op 4 2 (.op 9 2 (.op 13 2 (.op 14 0 .nil))))) .nil))))))))))) [] (hp h n []) ?_ rfl ?_ fun _ => ?_
  kernel_rfl
  simp only [go_sem]
  unfold planTW; simp only [go_sem, ↓reduceIte, reduceCtorEq, Nat.reduceEqDiff, Nat.reduceLT, Nat.reduceLeDiff, Nat.reduceAdd, Nat.reduceMul, Int.reduceLE, F35]
  refine op_part (el := 123) (X := y29) rfl ?_ h30 (of_decide_eq_true rfl) tyCell_123.lt rfl ?_ q262 (fun y263 h264 => ?_)
  exact sc0
  exact sc0
  replace h264 : (SlR 2 CellR) y263 v261 := h264
  obtain ⟨es265, a266, l267, b268, F269⟩ := sRo h264
  refine sk (a2 F35 F269) ?_
  refine op_part (el := 123) (X := y29) rfl ?_ h30 (of_decide_eq_true rfl) tyCell_123.lt ?_ rfl q271 (fun y272 h273 => ?_)
  exact sc0
  exact sc0
  replace h273 : (SlR 2 CellR) y272 v270 := h273
  obtain ⟨es274, a275, l276, b277, F278⟩ := sRo h273
  refine sk (a3 F35 F269 F278) ?_
  refine planT_alt ?_ ?_
  unfold planTW; simp only [go_sem, ↓reduceIte, reduceCtorEq, Nat.reduceEqDiff, Nat.reduceLT, Nat.reduceLeDiff, Nat.reduceAdd, Nat.reduceMul, Int.reduceLE, F35, F269, F278]
  refine planT_alt ?_ ?_
  unfold planTW; simp only [go_sem, ↓reduceIte, reduceCtorEq, Nat.reduceEqDiff, Nat.reduceLT, Nat.reduceLeDiff, Nat.reduceAdd, Nat.reduceMul, Int.reduceLE, F35, F269, F278]
  refine ⟨123, rfl, app_exN (j := 0) rfl (of_decide_eq_true rfl) rfl ?_ ?_ rfl q280 (nl0 CellR) a266 z281 ?_⟩
  exact sc (a3 F35 F269 F278)
  exact sc0
  refine sk (a4 F35 F269 F278 ((all2_length (app_all2n q280 z281 (nl0 CellR))).symm)) ?_
  refine ⟨123, rfl, app_ex1 (j := 0) rfl (of_decide_eq_true rfl) rfl ?_ ?_ rfl q283 (app_all2n q280 z281 (nl0 CellR)) (show CellR (.agg [(.int .i64 v1), (.int .i64 v2)]) (CellD.mk v1 v2) from ⟨rfl, i1, i2⟩) ?_⟩
  exact sc (a4 F35 F269 F278 ((all2_length (app_all2n q280 z281 (nl0 CellR))).symm))
  exact sc0
  refine sk (a5 F35 F269 F278 ((all2_length (app_all2n q280 z281 (nl0 CellR))).symm) (a2 (all2_length (snoc_all2 q283 (app_all2n q280 z281 (nl0 CellR)) (show CellR (.agg [(.int .i64 v1), (.int .i64 v2)]) (CellD.mk v1 v2) from ⟨rfl, i1, i2⟩))) (own_take (snoc_all2 q283 (app_all2n q280 z281 (nl0 CellR)) (show CellR (.agg [(.int .i64 v1), (.int .i64 v2)]) (CellD.mk v1 v2) from ⟨rfl, i1, i2⟩))))) ?_
  refine ⟨123, rfl, app_mvC (j := 2) rfl (of_decide_eq_true rfl) rfl ?_ ?_ (all2_length (snoc_all2 q283 (app_all2n q280 z281 (nl0 CellR)) (show CellR (.agg [(.int .i64 v1), (.int .i64 v2)]) (CellD.mk v1 v2) from ⟨rfl, i1, i2⟩))) q285 (snoc_all2 q283 (app_all2n q280 z281 (nl0 CellR)) (show CellR (.agg [(.int .i64 v1), (.int .i64 v2)]) (CellD.mk v1 v2) from ⟨rfl, i1, i2⟩)) a275 z286 ?_⟩
  exact sc (a5 F35 F269 F278 ((all2_length (app_all2n q280 z281 (nl0 CellR))).symm) (a2 (all2_length (snoc_all2 q283 (app_all2n q280 z281 (nl0 CellR)) (show CellR (.agg [(.int .i64 v1), (.int .i64 v2)]) (CellD.mk v1 v2) from ⟨rfl, i1, i2⟩))) (own_take (snoc_all2 q283 (app_all2n q280 z281 (nl0 CellR)) (show CellR (.agg [(.int .i64 v1), (.int .i64 v2)]) (CellD.mk v1 v2) from ⟨rfl, i1, i2⟩)))))
  exact sc0
  refine sk (a5 F35 F269 F278 ((all2_length (app_all2n q280 z281 (nl0 CellR))).symm) (a4 (all2_length (snoc_all2 q283 (app_all2n q280 z281 (nl0 CellR)) (show CellR (.agg [(.int .i64 v1), (.int .i64 v2)]) (CellD.mk v1 v2) from ⟨rfl, i1, i2⟩))) (own_take (snoc_all2 q283 (app_all2n q280 z281 (nl0 CellR)) (show CellR (.agg [(.int .i64 v1), (.int .i64 v2)]) (CellD.mk v1 v2) from ⟨rfl, i1, i2⟩))) (all2_length (app_all2 q285 (snoc_all2 q283 (app_all2n q280 z281 (nl0 CellR)) (show CellR (.agg [(.int .i64 v1), (.int .i64 v2)]) (CellD.mk v1 v2) from ⟨rfl, i1, i2⟩)) a275)) (own_take (app_all2 q285 (snoc_all2 q283 (app_all2n q280 z281 (nl0 CellR)) (show CellR (.agg [(.int .i64 v1), (.int .i64 v2)]) (CellD.mk v1 v2) from ⟨rfl, i1, i2⟩)) a275)))) ?_
  refine j256 _ _ _ (([] ++ [(.agg [(.int .i64 v1), (.int .i64 v2)])]) ++ es274) v284 (app_all2 q285 (snoc_all2 q283 (app_all2n q280 z281 (nl0 CellR)) (show CellR (.agg [(.int .i64 v1), (.int .i64 v2)]) (CellD.mk v1 v2) from ⟨rfl, i1, i2⟩)) a275) (app_len q285 (snoc_all2 q283 (app_all2n q280 z281 (nl0 CellR)) (show CellR (.agg [(.int .i64 v1), (.int .i64 v2)]) (CellD.mk v1 v2) from ⟨rfl, i1, i2⟩)) a275) ?_ hm
  exact nm [3] [6] [(.sl 2 (n + 3) 0 v284.length v284.length false)] (rc (Rn.own (js := [3]) 3 0) rn) (RowsR.row 3 _ _ _ _ (hp_get 3) (RnL.all2 (app_all2 q285 (snoc_all2 q283 (app_all2n q280 z281 (nl0 CellR)) (show CellR (.agg [(.int .i64 v1), (.int .i64 v2)]) (CellD.mk v1 v2) from ⟨rfl, i1, i2⟩)) a275) tyCell_123.lt) RowsR.nil)
  refine planT_alt ?_ ?_
  unfold planTW; simp only [go_sem, ↓reduceIte, reduceCtorEq, Nat.reduceEqDiff, Nat.reduceLT, Nat.reduceLeDiff, Nat.reduceAdd, Nat.reduceMul, Int.reduceLE, F35, F269, F278]
  refine ⟨123, rfl, app_exN (j := 0) rfl (of_decide_eq_true rfl) rfl ?_ ?_ rfl q280 (nl0 CellR) a266 z281 ?_⟩
  exact sc (a3 F35 F269 F278)
  exact sc0
  refine sk (a4 F35 F269 F278 ((all2_length (app_all2n q280 z281 (nl0 CellR))).symm)) ?_
  refine ⟨123, rfl, app_ex1 (j := 0) rfl (of_decide_eq_true rfl) rfl ?_ ?_ rfl q283 (app_all2n q280 z281 (nl0 CellR)) (show CellR (.agg [(.int .i64 v1), (.int .i64 v2)]) (CellD.mk v1 v2) from ⟨rfl, i1, i2⟩) ?_⟩
  exact sc (a4 F35 F269 F278 ((all2_length (app_all2n q280 z281 (nl0 CellR))).symm))
  exact sc0
  refine sk (a5 F35 F269 F278 ((all2_length (app_all2n q280 z281 (nl0 CellR))).symm) (a2 (all2_length (snoc_all2 q283 (app_all2n q280 z281 (nl0 CellR)) (show CellR (.agg [(.int .i64 v1), (.int .i64 v2)]) (CellD.mk v1 v2) from ⟨rfl, i1, i2⟩))) (own_take (snoc_all2 q283 (app_all2n q280 z281 (nl0 CellR)) (show CellR (.agg [(.int .i64 v1), (.int .i64 v2)]) (CellD.mk v1 v2) from ⟨rfl, i1, i2⟩))))) ?_
  refine ⟨123, rfl, app_mvC (j := 2) rfl (of_decide_eq_true rfl) rfl ?_ ?_ (all2_length (snoc_all2 q283 (app_all2n q280 z281 (nl0 CellR)) (show CellR (.agg [(.int .i64 v1), (.int .i64 v2)]) (CellD.mk v1 v2) from ⟨rfl, i1, i2⟩))) q285 (snoc_all2 q283 (app_all2n q280 z281 (nl0 CellR)) (show CellR (.agg [(.int .i64 v1), (.int .i64 v2)]) (CellD.mk v1 v2) from ⟨rfl, i1, i2⟩)) a275 z286 ?_⟩
  exact sc (a5 F35 F269 F278 ((all2_length (app_all2n q280 z281 (nl0 CellR))).symm) (a2 (all2_length (snoc_all2 q283 (app_all2n q280 z281 (nl0 CellR)) (show CellR (.agg [(.int .i64 v1), (.int .i64 v2)]) (CellD.mk v1 v2) from ⟨rfl, i1, i2⟩))) (own_take (snoc_all2 q283 (app_all2n q280 z281 (nl0 CellR)) (show CellR (.agg [(.int .i64 v1), (.int .i64 v2)]) (CellD.mk v1 v2) from ⟨rfl, i1, i2⟩)))))
  exact sc0
  refine sk (a5 F35 F269 F278 ((all2_length (app_all2n q280 z281 (nl0 CellR))).symm) (a4 (all2_length (snoc_all2 q283 (app_all2n q280 z281 (nl0 CellR)) (show CellR (.agg [(.int .i64 v1), (.int .i64 v2)]) (CellD.mk v1 v2) from ⟨rfl, i1, i2⟩))) (own_take (snoc_all2 q283 (app_all2n q280 z281 (nl0 CellR)) (show CellR (.agg [(.int .i64 v1), (.int .i64 v2)]) (CellD.mk v1 v2) from ⟨rfl, i1, i2⟩))) (all2_length (app_all2 q285 (snoc_all2 q283 (app_all2n q280 z281 (nl0 CellR)) (show CellR (.agg [(.int .i64 v1), (.int .i64 v2)]) (CellD.mk v1 v2) from ⟨rfl, i1, i2⟩)) a275)) (own_take (app_all2 q285 (snoc_all2 q283 (app_all2n q280 z281 (nl0 CellR)) (show CellR (.agg [(.int .i64 v1), (.int .i64 v2)]) (CellD.mk v1 v2) from ⟨rfl, i1, i2⟩)) a275)))) ?_
  refine j256 _ _ _ (([] ++ [(.agg [(.int .i64 v1), (.int .i64 v2)])]) ++ es274) v284 (app_all2 q285 (snoc_all2 q283 (app_all2n q280 z281 (nl0 CellR)) (show CellR (.agg [(.int .i64 v1), (.int .i64 v2)]) (CellD.mk v1 v2) from ⟨rfl, i1, i2⟩)) a275) (app_len q285 (snoc_all2 q283 (app_all2n q280 z281 (nl0 CellR)) (show CellR (.agg [(.int .i64 v1), (.int .i64 v2)]) (CellD.mk v1 v2) from ⟨rfl, i1, i2⟩)) a275) ?_ hm
  exact nm [3] [6] [(.sl 2 (n + 3) 0 v284.length v284.length false)] (rc (Rn.own (js := [3]) 3 0) rn) (RowsR.row 3 _ _ _ _ (hp_get 3) (RnL.all2 (app_all2 q285 (snoc_all2 q283 (app_all2n q280 z281 (nl0 CellR)) (show CellR (.agg [(.int .i64 v1), (.int .i64 v2)]) (CellD.mk v1 v2) from ⟨rfl, i1, i2⟩)) a275) tyCell_123.lt) RowsR.nil)
  exact planT_end
  refine planT_alt ?_ ?_
  unfold planTW; simp only [go_sem, ↓reduceIte, reduceCtorEq, Nat.reduceEqDiff, Nat.reduceLT, Nat.reduceLeDiff, Nat.reduceAdd, Nat.reduceMul, Int.reduceLE, F35, F269, F278]
  refine ⟨123, rfl, app_exN (j := 1) rfl (of_decide_eq_true rfl) rfl ?_ ?_ rfl q280 (nl0 CellR) a266 z281 ?_⟩
  exact sc (a3 F35 F269 F278)
  exact sc0
  refine sk (a4 F35 F269 F278 ((all2_length (app_all2n q280 z281 (nl0 CellR))).symm)) ?_
  refine ⟨123, rfl, app_ex1 (j := 1) rfl (of_decide_eq_true rfl) rfl ?_ ?_ rfl q283 (app_all2n q280 z281 (nl0 CellR)) (show CellR (.agg [(.int .i64 v1), (.int .i64 v2)]) (CellD.mk v1 v2) from ⟨rfl, i1, i2⟩) ?_⟩
  exact sc (a4 F35 F269 F278 ((all2_length (app_all2n q280 z281 (nl0 CellR))).symm))
  exact sc0
  refine sk (a5 F35 F269 F278 ((all2_length (app_all2n q280 z281 (nl0 CellR))).symm) (a2 (all2_length (snoc_all2 q283 (app_all2n q280 z281 (nl0 CellR)) (show CellR (.agg [(.int .i64 v1), (.int .i64 v2)]) (CellD.mk v1 v2) from ⟨rfl, i1, i2⟩))) (own_take (snoc_all2 q283 (app_all2n q280 z281 (nl0 CellR)) (show CellR (.agg [(.int .i64 v1), (.int .i64 v2)]) (CellD.mk v1 v2) from ⟨rfl, i1, i2⟩))))) ?_
  refine ⟨123, rfl, app_mvC (j := 2) rfl (of_decide_eq_true rfl) rfl ?_ ?_ (all2_length (snoc_all2 q283 (app_all2n q280 z281 (nl0 CellR)) (show CellR (.agg [(.int .i64 v1), (.int .i64 v2)]) (CellD.mk v1 v2) from ⟨rfl, i1, i2⟩))) q285 (snoc_all2 q283 (app_all2n q280 z281 (nl0 CellR)) (show CellR (.agg [(.int .i64 v1), (.int .i64 v2)]) (CellD.mk v1 v2) from ⟨rfl, i1, i2⟩)) a275 z286 ?_⟩
  exact sc (a5 F35 F269 F278 ((all2_length (app_all2n q280 z281 (nl0 CellR))).symm) (a2 (all2_length (snoc_all2 q283 (app_all2n q280 z281 (nl0 CellR)) (show CellR (.agg [(.int .i64 v1), (.int .i64 v2)]) (CellD.mk v1 v2) from ⟨rfl, i1, i2⟩))) (own_take (snoc_all2 q283 (app_all2n q280 z281 (nl0 CellR)) (show CellR (.agg [(.int .i64 v1), (.int .i64 v2)]) (CellD.mk v1 v2) from ⟨rfl, i1, i2⟩)))))
  exact sc0
  refine sk (a5 F35 F269 F278 ((all2_length (app_all2n q280 z281 (nl0 CellR))).symm) (a4 (all2_length (snoc_all2 q283 (app_all2n q280 z281 (nl0 CellR)) (show CellR (.agg [(.int .i64 v1), (.int .i64 v2)]) (CellD.mk v1 v2) from ⟨rfl, i1, i2⟩))) (own_take (snoc_all2 q283 (app_all2n q280 z281 (nl0 CellR)) (show CellR (.agg [(.int .i64 v1), (.int .i64 v2)]) (CellD.mk v1 v2) from ⟨rfl, i1, i2⟩))) (all2_length (app_all2 q285 (snoc_all2 q283 (app_all2n q280 z281 (nl0 CellR)) (show CellR (.agg [(.int .i64 v1), (.int .i64 v2)]) (CellD.mk v1 v2) from ⟨rfl, i1, i2⟩)) a275)) (own_take (app_all2 q285 (snoc_all2 q283 (app_all2n q280 z281 (nl0 CellR)) (show CellR (.agg [(.int .i64 v1), (.int .i64 v2)]) (CellD.mk v1 v2) from ⟨rfl, i1, i2⟩)) a275)))) ?_
  refine j256 _ _ _ (([] ++ [(.agg [(.int .i64 v1), (.int .i64 v2)])]) ++ es274) v284 (app_all2 q285 (snoc_all2 q283 (app_all2n q280 z281 (nl0 CellR)) (show CellR (.agg [(.int .i64 v1), (.int .i64 v2)]) (CellD.mk v1 v2) from ⟨rfl, i1, i2⟩)) a275) (app_len q285 (snoc_all2 q283 (app_all2n q280 z281 (nl0 CellR)) (show CellR (.agg [(.int .i64 v1), (.int .i64 v2)]) (CellD.mk v1 v2) from ⟨rfl, i1, i2⟩)) a275) ?_ hm
  exact nm [3] [6] [(.sl 2 (n + 3) 0 v284.length v284.length false)] (rc (Rn.own (js := [3]) 3 0) rn) (RowsR.row 3 _ _ _ _ (hp_get 3) (RnL.all2 (app_all2 q285 (snoc_all2 q283 (app_all2n q280 z281 (nl0 CellR)) (show CellR (.agg [(.int .i64 v1), (.int .i64 v2)]) (CellD.mk v1 v2) from ⟨rfl, i1, i2⟩)) a275) tyCell_123.lt) RowsR.nil)
  exact planT_end
  obtain ⟨v287, q288, hm⟩ := obs hm
  obtain ⟨v289, q290, hm⟩ := obs hm
  rcases nil_or v270 with z291 | z291
  refine WQ.drawT hT hM (.op 1 0 (.op 2 0 (.op 3 0 (.op 5 0 (.op 6 0 (.op 7 0 (.op 10 0 (.op 11 0 (.op 12 0 (.alt 0 (.alt 4 (.op 8 2 (.op 9 2 (.op 13 2 (.op 14 0 .nil)))) (.alt 8 (.op 4 2 (.op 9 2 (.op 13 2 (.op 14 0 .nil)))) .nil)) (.alt 8 (.op 0 2 (.op 4 2 (.op 9 2 (.op 13 2 (.op 14 0 .nil))))) .nil))))))))))) [] (hp h n []) ?_ rfl ?_ fun _ => ?_
  kernel_rfl
  simp only [go_sem]
  unfold planTW; simp only [go_sem, ↓reduceIte, reduceCtorEq, Nat.reduceEqDiff, Nat.reduceLT, Nat.reduceLeDiff, Nat.reduceAdd, Nat.reduceMul, Int.reduceLE, F35]
  refine op_part (el := 123) (X := y29) rfl ?_ h30 (of_decide_eq_true rfl) tyCell_123.lt rfl ?_ q262 (fun y263 h264 => ?_)
  exact sc0
  exact sc0
  replace h264 : (SlR 2 CellR) y263 v261 := h264
  obtain ⟨es265, a266, l267, b268, F269⟩ := sRo h264
  refine sk (a2 F35 F269) ?_
  refine op_part (el := 123) (X := y29) rfl ?_ h30 (of_decide_eq_true rfl) tyCell_123.lt ?_ rfl q271 (fun y272 h273 => ?_)
  exact sc0
  exact sc0
  replace h273 : (SlR 2 CellR) y272 v270 := h273
  obtain ⟨es274, a275, l276, b277, F278⟩ := sRo h273
  refine sk (a3 F35 F269 F278) ?_
  refine planT_alt ?_ ?_
  unfold planTW; simp only [go_sem, ↓reduceIte, reduceCtorEq, Nat.reduceEqDiff, Nat.reduceLT, Nat.reduceLeDiff, Nat.reduceAdd, Nat.reduceMul, Int.reduceLE, F35, F269, F278]
  refine planT_alt ?_ ?_
  unfold planTW; simp only [go_sem, ↓reduceIte, reduceCtorEq, Nat.reduceEqDiff, Nat.reduceLT, Nat.reduceLeDiff, Nat.reduceAdd, Nat.reduceMul, Int.reduceLE, F35, F269, F278]
  refine ⟨123, rfl, app_exC (j := 0) rfl (of_decide_eq_true rfl) rfl ?_ ?_ rfl q280 (nl0 CellR) a266 z281 ?_⟩
  exact sc (a3 F35 F269 F278)
  exact sc0
  refine sk (a5 F35 F269 F278 (all2_length (app_all2 q280 (nl0 CellR) a266)) (own_take (app_all2 q280 (nl0 CellR) a266))) ?_
  refine ⟨123, rfl, app_mv1 (j := 1) rfl (of_decide_eq_true rfl) rfl ?_ ?_ (all2_length (app_all2 q280 (nl0 CellR) a266)) q288 (app_all2 q280 (nl0 CellR) a266) (show CellR (.agg [(.int .i64 v1), (.int .i64 v2)]) (CellD.mk v1 v2) from ⟨rfl, i1, i2⟩) ?_⟩
  exact sc (a5 F35 F269 F278 (all2_length (app_all2 q280 (nl0 CellR) a266)) (own_take (app_all2 q280 (nl0 CellR) a266)))
  exact sc0
  refine sk (a5 F35 F269 F278 (all2_length (app_all2 q280 (nl0 CellR) a266)) (a3 (own_take (app_all2 q280 (nl0 CellR) a266)) (all2_length (snoc_all2 q288 (app_all2 q280 (nl0 CellR) a266) (show CellR (.agg [(.int .i64 v1), (.int .i64 v2)]) (CellD.mk v1 v2) from ⟨rfl, i1, i2⟩))) (own_take (snoc_all2 q288 (app_all2 q280 (nl0 CellR) a266) (show CellR (.agg [(.int .i64 v1), (.int .i64 v2)]) (CellD.mk v1 v2) from ⟨rfl, i1, i2⟩))))) ?_
  refine ⟨123, rfl, app_mvN (j := 3) rfl (of_decide_eq_true rfl) rfl ?_ ?_ (all2_length (snoc_all2 q288 (app_all2 q280 (nl0 CellR) a266) (show CellR (.agg [(.int .i64 v1), (.int .i64 v2)]) (CellD.mk v1 v2) from ⟨rfl, i1, i2⟩))) q290 (snoc_all2 q288 (app_all2 q280 (nl0 CellR) a266) (show CellR (.agg [(.int .i64 v1), (.int .i64 v2)]) (CellD.mk v1 v2) from ⟨rfl, i1, i2⟩)) a275 z291 ?_⟩
  exact sc (a5 F35 F269 F278 (all2_length (app_all2 q280 (nl0 CellR) a266)) (a3 (own_take (app_all2 q280 (nl0 CellR) a266)) (all2_length (snoc_all2 q288 (app_all2 q280 (nl0 CellR) a266) (show CellR (.agg [(.int .i64 v1), (.int .i64 v2)]) (CellD.mk v1 v2) from ⟨rfl, i1, i2⟩))) (own_take (snoc_all2 q288 (app_all2 q280 (nl0 CellR) a266) (show CellR (.agg [(.int .i64 v1), (.int .i64 v2)]) (CellD.mk v1 v2) from ⟨rfl, i1, i2⟩)))))
  exact sc0
  refine sk (a5 F35 F269 F278 (all2_length (app_all2 q280 (nl0 CellR) a266)) (a5 (own_take (app_all2 q280 (nl0 CellR) a266)) (all2_length (snoc_all2 q288 (app_all2 q280 (nl0 CellR) a266) (show CellR (.agg [(.int .i64 v1), (.int .i64 v2)]) (CellD.mk v1 v2) from ⟨rfl, i1, i2⟩))) (own_take (snoc_all2 q288 (app_all2 q280 (nl0 CellR) a266) (show CellR (.agg [(.int .i64 v1), (.int .i64 v2)]) (CellD.mk v1 v2) from ⟨rfl, i1, i2⟩))) (all2_length (app_all2n q290 z291 (snoc_all2 q288 (app_all2 q280 (nl0 CellR) a266) (show CellR (.agg [(.int .i64 v1), (.int .i64 v2)]) (CellD.mk v1 v2) from ⟨rfl, i1, i2⟩)))) (own_take (app_all2n q290 z291 (snoc_all2 q288 (app_all2 q280 (nl0 CellR) a266) (show CellR (.agg [(.int .i64 v1), (.int .i64 v2)]) (CellD.mk v1 v2) from ⟨rfl, i1, i2⟩)))))) ?_
  refine j256 _ _ _ (([] ++ es265) ++ [(.agg [(.int .i64 v1), (.int .i64 v2)])]) v289 (app_all2n q290 z291 (snoc_all2 q288 (app_all2 q280 (nl0 CellR) a266) (show CellR (.agg [(.int .i64 v1), (.int .i64 v2)]) (CellD.mk v1 v2) from ⟨rfl, i1, i2⟩))) (snoc_len q288 (app_all2 q280 (nl0 CellR) a266) (show CellR (.agg [(.int .i64 v1), (.int .i64 v2)]) (CellD.mk v1 v2) from ⟨rfl, i1, i2⟩)) ?_ hm
  exact nm [3] [6] [(.sl 2 (n + 3) 0 v289.length v289.length false)] (rc (Rn.own (js := [3]) 3 0) rn) (RowsR.row 3 _ _ _ _ (hp_get 3) (RnL.all2 (app_all2n q290 z291 (snoc_all2 q288 (app_all2 q280 (nl0 CellR) a266) (show CellR (.agg [(.int .i64 v1), (.int .i64 v2)]) (CellD.mk v1 v2) from ⟨rfl, i1, i2⟩))) tyCell_123.lt) RowsR.nil)
  refine planT_alt ?_ ?_
  unfold planTW; simp only [go_sem, ↓reduceIte, reduceCtorEq, Nat.reduceEqDiff, Nat.reduceLT, Nat.reduceLeDiff, Nat.reduceAdd, Nat.reduceMul, Int.reduceLE, F35, F269, F278]
  refine ⟨123, rfl, app_exC (j := 0) rfl (of_decide_eq_true rfl) rfl ?_ ?_ rfl q280 (nl0 CellR) a266 z281 ?_⟩
  exact sc (a3 F35 F269 F278)
  exact sc0
  refine sk (a5 F35 F269 F278 (all2_length (app_all2 q280 (nl0 CellR) a266)) (own_take (app_all2 q280 (nl0 CellR) a266))) ?_
  refine ⟨123, rfl, app_mv1 (j := 2) rfl (of_decide_eq_true rfl) rfl ?_ ?_ (all2_length (app_all2 q280 (nl0 CellR) a266)) q288 (app_all2 q280 (nl0 CellR) a266) (show CellR (.agg [(.int .i64 v1), (.int .i64 v2)]) (CellD.mk v1 v2) from ⟨rfl, i1, i2⟩) ?_⟩
  exact sc (a5 F35 F269 F278 (all2_length (app_all2 q280 (nl0 CellR) a266)) (own_take (app_all2 q280 (nl0 CellR) a266)))
  exact sc0
  refine sk (a5 F35 F269 F278 (all2_length (app_all2 q280 (nl0 CellR) a266)) (a3 (own_take (app_all2 q280 (nl0 CellR) a266)) (all2_length (snoc_all2 q288 (app_all2 q280 (nl0 CellR) a266) (show CellR (.agg [(.int .i64 v1), (.int .i64 v2)]) (CellD.mk v1 v2) from ⟨rfl, i1, i2⟩))) (own_take (snoc_all2 q288 (app_all2 q280 (nl0 CellR) a266) (show CellR (.agg [(.int .i64 v1), (.int .i64 v2)]) (CellD.mk v1 v2) from ⟨rfl, i1, i2⟩))))) ?_
  refine ⟨123, rfl, app_mvN (j := 3) rfl (of_decide_eq_true rfl) rfl ?_ ?_ (all2_length (snoc_all2 q288 (app_all2 q280 (nl0 CellR) a266) (show CellR (.agg [(.int .i64 v1), (.int .i64 v2)]) (CellD.mk v1 v2) from ⟨rfl, i1, i2⟩))) q290 (snoc_all2 q288 (app_all2 q280 (nl0 CellR) a266) (show CellR (.agg [(.int .i64 v1), (.int .i64 v2)]) (CellD.mk v1 v2) from ⟨rfl, i1, i2⟩)) a275 z291 ?_⟩
  exact sc (a5 F35 F269 F278 (all2_length (app_all2 q280 (nl0 CellR) a266)) (a3 (own_take (app_all2 q280 (nl0 CellR) a266)) (all2_length (snoc_all2 q288 (app_all2 q280 (nl0 CellR) a266) (show CellR (.agg [(.int .i64 v1), (.int .i64 v2)]) (CellD.mk v1 v2) from ⟨rfl, i1, i2⟩))) (own_take (snoc_all2 q288 (app_all2 q280 (nl0 CellR) a266) (show CellR (.agg [(.int .i64 v1), (.int .i64 v2)]) (CellD.mk v1 v2) from ⟨rfl, i1, i2⟩)))))
  exact sc0
  refine sk (a5 F35 F269 F278 (all2_length (app_all2 q280 (nl0 CellR) a266)) (a5 (own_take (app_all2 q280 (nl0 CellR) a266)) (all2_length (snoc_all2 q288 (app_all2 q280 (nl0 CellR) a266) (show CellR (.agg [(.int .i64 v1), (.int .i64 v2)]) (CellD.mk v1 v2) from ⟨rfl, i1, i2⟩))) (own_take (snoc_all2 q288 (app_all2 q280 (nl0 CellR) a266) (show CellR (.agg [(.int .i64 v1), (.int .i64 v2)]) (CellD.mk v1 v2) from ⟨rfl, i1, i2⟩))) (all2_length (app_all2n q290 z291 (snoc_all2 q288 (app_all2 q280 (nl0 CellR) a266) (show CellR (.agg [(.int .i64 v1), (.int .i64 v2)]) (CellD.mk v1 v2) from ⟨rfl, i1, i2⟩)))) (own_take (app_all2n q290 z291 (snoc_all2 q288 (app_all2 q280 (nl0 CellR) a266) (show CellR (.agg [(.int .i64 v1), (.int .i64 v2)]) (CellD.mk v1 v2) from ⟨rfl, i1, i2⟩)))))) ?_
  refine j256 _ _ _ (([] ++ es265) ++ [(.agg [(.int .i64 v1), (.int .i64 v2)])]) v289 (app_all2n q290 z291 (snoc_all2 q288 (app_all2 q280 (nl0 CellR) a266) (show CellR (.agg [(.int .i64 v1), (.int .i64 v2)]) (CellD.mk v1 v2) from ⟨rfl, i1, i2⟩))) (snoc_len q288 (app_all2 q280 (nl0 CellR) a266) (show CellR (.agg [(.int .i64 v1), (.int .i64 v2)]) (CellD.mk v1 v2) from ⟨rfl, i1, i2⟩)) ?_ hm
  exact nm [3] [6] [(.sl 2 (n + 3) 0 v289.length v289.length false)] (rc (Rn.own (js := [3]) 3 0) rn) (RowsR.row 3 _ _ _ _ (hp_get 3) (RnL.all2 (app_all2n q290 z291 (snoc_all2 q288 (app_all2 q280 (nl0 CellR) a266) (show CellR (.agg [(.int .i64 v1), (.int .i64 v2)]) (CellD.mk v1 v2) from ⟨rfl, i1, i2⟩))) tyCell_123.lt) RowsR.nil)
  exact planT_end
  refine planT_alt ?_ ?_
  unfold planTW; simp only [go_sem, ↓reduceIte, reduceCtorEq, Nat.reduceEqDiff, Nat.reduceLT, Nat.reduceLeDiff, Nat.reduceAdd, Nat.reduceMul, Int.reduceLE, F35, F269, F278]
  refine ⟨123, rfl, app_exC (j := 1) rfl (of_decide_eq_true rfl) rfl ?_ ?_ rfl q280 (nl0 CellR) a266 z281 ?_⟩
  exact sc (a3 F35 F269 F278)
  exact sc0
  refine sk (a5 F35 F269 F278 (all2_length (app_all2 q280 (nl0 CellR) a266)) (own_take (app_all2 q280 (nl0 CellR) a266))) ?_
  refine ⟨123, rfl, app_mv1 (j := 2) rfl (of_decide_eq_true rfl) rfl ?_ ?_ (all2_length (app_all2 q280 (nl0 CellR) a266)) q288 (app_all2 q280 (nl0 CellR) a266) (show CellR (.agg [(.int .i64 v1), (.int .i64 v2)]) (CellD.mk v1 v2) from ⟨rfl, i1, i2⟩) ?_⟩
  exact sc (a5 F35 F269 F278 (all2_length (app_all2 q280 (nl0 CellR) a266)) (own_take (app_all2 q280 (nl0 CellR) a266)))
  exact sc0
  refine sk (a5 F35 F269 F278 (all2_length (app_all2 q280 (nl0 CellR) a266)) (a3 (own_take (app_all2 q280 (nl0 CellR) a266)) (all2_length (snoc_all2 q288 (app_all2 q280 (nl0 CellR) a266) (show CellR (.agg [(.int .i64 v1), (.int .i64 v2)]) (CellD.mk v1 v2) from ⟨rfl, i1, i2⟩))) (own_take (snoc_all2 q288 (app_all2 q280 (nl0 CellR) a266) (show CellR (.agg [(.int .i64 v1), (.int .i64 v2)]) (CellD.mk v1 v2) from ⟨rfl, i1, i2⟩))))) ?_
  refine ⟨123, rfl, app_mvN (j := 3) rfl (of_decide_eq_true rfl) rfl ?_ ?_ (all2_length (snoc_all2 q288 (app_all2 q280 (nl0 CellR) a266) (show CellR (.agg [(.int .i64 v1), (.int .i64 v2)]) (CellD.mk v1 v2) from ⟨rfl, i1, i2⟩))) q290 (snoc_all2 q288 (app_all2 q280 (nl0 CellR) a266) (show CellR (.agg [(.int .i64 v1), (.int .i64 v2)]) (CellD.mk v1 v2) from ⟨rfl, i1, i2⟩)) a275 z291 ?_⟩
  exact sc (a5 F35 F269 F278 (all2_length (app_all2 q280 (nl0 CellR) a266)) (a3 (own_take (app_all2 q280 (nl0 CellR) a266)) (all2_length (snoc_all2 q288 (app_all2 q280 (nl0 CellR) a266) (show CellR (.agg [(.int .i64 v1), (.int .i64 v2)]) (CellD.mk v1 v2) from ⟨rfl, i1, i2⟩))) (own_take (snoc_all2 q288 (app_all2 q280 (nl0 CellR) a266) (show CellR (.agg [(.int .i64 v1), (.int .i64 v2)]) (CellD.mk v1 v2) from ⟨rfl, i1, i2⟩)))))
  exact sc0
  refine sk (a5 F35 F269 F278 (all2_length (app_all2 q280 (nl0 CellR) a266)) (a5 (own_take (app_all2 q280 (nl0 CellR) a266)) (all2_length (snoc_all2 q288 (app_all2 q280 (nl0 CellR) a266) (show CellR (.agg [(.int .i64 v1), (.int .i64 v2)]) (CellD.mk v1 v2) from ⟨rfl, i1, i2⟩))) (own_take (snoc_all2 q288 (app_all2 q280 (nl0 CellR) a266) (show CellR (.agg [(.int .i64 v1), (.int .i64 v2)]) (CellD.mk v1 v2) from ⟨rfl, i1, i2⟩))) (all2_length (app_all2n q290 z291 (snoc_all2 q288 (app_all2 q280 (nl0 CellR) a266) (show CellR (.agg [(.int .i64 v1), (.int .i64 v2)]) (CellD.mk v1 v2) from ⟨rfl, i1, i2⟩)))) (own_take (app_all2n q290 z291 (snoc_all2 q288 (app_all2 q280 (nl0 CellR) a266) (show CellR (.agg [(.int .i64 v1), (.int .i64 v2)]) (CellD.mk v1 v2) from ⟨rfl, i1, i2⟩)))))) ?_
  refine j256 _ _ _ (([] ++ es265) ++ [(.agg [(.int .i64 v1), (.int .i64 v2)])]) v289 (app_all2n q290 z291 (snoc_all2 q288 (app_all2 q280 (nl0 CellR) a266) (show CellR (.agg [(.int .i64 v1), (.int .i64 v2)]) (CellD.mk v1 v2) from ⟨rfl, i1, i2⟩))) (snoc_len q288 (app_all2 q280 (nl0 CellR) a266) (show CellR (.agg [(.int .i64 v1), (.int .i64 v2)]) (CellD.mk v1 v2) from ⟨rfl, i1, i2⟩)) ?_ hm
  exact nm [3] [6] [(.sl 2 (n + 3) 0 v289.length v289.length false)] (rc (Rn.own (js := [3]) 3 0) rn) (RowsR.row 3 _ _ _ _ (hp_get 3) (RnL.all2 (app_all2n q290 z291 (snoc_all2 q288 (app_all2 q280 (nl0 CellR) a266) (show CellR (.agg [(.int .i64 v1), (.int .i64 v2)]) (CellD.mk v1 v2) from ⟨rfl, i1, i2⟩))) tyCell_123.lt) RowsR.nil)
  exact planT_end
  refine WQ.drawT hT hM (.op 1 0 (.op 2 0 (.op 3 0 (.op 5 0 (.op 6 0 (.op 7 0 (.op 10 0 (.op 11 0 (.op 12 0 (.alt 0 (.alt 4 (.op 8 2 (.op 9 2 (.op 13 2 (.op 14 0 .nil)))) (.alt 8 (.op 4 2 (.op 9 2 (.op 13 2 (.op 14 0 .nil)))) .nil)) (.alt 8 (.op 0 2 (.op 4 2 (.op 9 2 (.op 13 2 (.op 14 0 .nil))))) .nil))))))))))) [] (hp h n []) ?_ rfl ?_ fun _ => ?_
  kernel_rfl
  simp only [go_sem]
  unfold planTW; simp only [go_sem, ↓reduceIte, reduceCtorEq, Nat.reduceEqDiff, Nat.reduceLT, Nat.reduceLeDiff, Nat.reduceAdd, Nat.reduceMul, Int.reduceLE, F35]
  refine op_part (el := 123) (X := y29) rfl ?_ h30 (of_decide_eq_true rfl) tyCell_123.lt rfl ?_ q262 (fun y263 h264 => ?_)
  exact sc0
  exact sc0
  replace h264 : (SlR 2 CellR) y263 v261 := h264
  obtain ⟨es265, a266, l267, b268, F269⟩ := sRo h264
  refine sk (a2 F35 F269) ?_
  refine op_part (el := 123) (X := y29) rfl ?_ h30 (of_decide_eq_true rfl) tyCell_123.lt ?_ rfl q271 (fun y272 h273 => ?_)
  exact sc0
  exact sc0
  replace h273 : (SlR 2 CellR) y272 v270 := h273
  obtain ⟨es274, a275, l276, b277, F278⟩ := sRo h273
  refine sk (a3 F35 F269 F278) ?_
  refine planT_alt ?_ ?_
  unfold planTW; simp only [go_sem, ↓reduceIte, reduceCtorEq, Nat.reduceEqDiff, Nat.reduceLT, Nat.reduceLeDiff, Nat.reduceAdd, Nat.reduceMul, Int.reduceLE, F35, F269, F278]
  refine planT_alt ?_ ?_
  unfold planTW; simp only [go_sem, ↓reduceIte, reduceCtorEq, Nat.reduceEqDiff, Nat.reduceLT, Nat.reduceLeDiff, Nat.reduceAdd, Nat.reduceMul, Int.reduceLE, F35, F269, F278]
  refine ⟨123, rfl, app_exC (j := 0) rfl (of_decide_eq_true rfl) rfl ?_ ?_ rfl q280 (nl0 CellR) a266 z281 ?_⟩
  exact sc (a3 F35 F269 F278)
  exact sc0
  refine sk (a5 F35 F269 F278 (all2_length (app_all2 q280 (nl0 CellR) a266)) (own_take (app_all2 q280 (nl0 CellR) a266))) ?_
  refine ⟨123, rfl, app_mv1 (j := 1) rfl (of_decide_eq_true rfl) rfl ?_ ?_ (all2_length (app_all2 q280 (nl0 CellR) a266)) q288 (app_all2 q280 (nl0 CellR) a266) (show CellR (.agg [(.int .i64 v1), (.int .i64 v2)]) (CellD.mk v1 v2) from ⟨rfl, i1, i2⟩) ?_⟩
  exact sc (a5 F35 F269 F278 (all2_length (app_all2 q280 (nl0 CellR) a266)) (own_take (app_all2 q280 (nl0 CellR) a266)))
  exact sc0
  refine sk (a5 F35 F269 F278 (all2_length (app_all2 q280 (nl0 CellR) a266)) (a3 (own_take (app_all2 q280 (nl0 CellR) a266)) (all2_length (snoc_all2 q288 (app_all2 q280 (nl0 CellR) a266) (show CellR (.agg [(.int .i64 v1), (.int .i64 v2)]) (CellD.mk v1 v2) from ⟨rfl, i1, i2⟩))) (own_take (snoc_all2 q288 (app_all2 q280 (nl0 CellR) a266) (show CellR (.agg [(.int .i64 v1), (.int .i64 v2)]) (CellD.mk v1 v2) from ⟨rfl, i1, i2⟩))))) ?_
  refine ⟨123, rfl, app_mvC (j := 3) rfl (of_decide_eq_true rfl) rfl ?_ ?_ (all2_length (snoc_all2 q288 (app_all2 q280 (nl0 CellR) a266) (show CellR (.agg [(.int .i64 v1), (.int .i64 v2)]) (CellD.mk v1 v2) from ⟨rfl, i1, i2⟩))) q290 (snoc_all2 q288 (app_all2 q280 (nl0 CellR) a266) (show CellR (.agg [(.int .i64 v1), (.int .i64 v2)]) (CellD.mk v1 v2) from ⟨rfl, i1, i2⟩)) a275 z291 ?_⟩
  exact sc (a5 F35 F269 F278 (all2_length (app_all2 q280 (nl0 CellR) a266)) (a3 (own_take (app_all2 q280 (nl0 CellR) a266)) (all2_length (snoc_all2 q288 (app_all2 q280 (nl0 CellR) a266) (show CellR (.agg [(.int .i64 v1), (.int .i64 v2)]) (CellD.mk v1 v2) from ⟨rfl, i1, i2⟩))) (own_take (snoc_all2 q288 (app_all2 q280 (nl0 CellR) a266) (show CellR (.agg [(.int .i64 v1), (.int .i64 v2)]) (CellD.mk v1 v2) from ⟨rfl, i1, i2⟩)))))
  exact sc0
  refine sk (a5 F35 F269 F278 (all2_length (app_all2 q280 (nl0 CellR) a266)) (a5 (own_take (app_all2 q280 (nl0 CellR) a266)) (all2_length (snoc_all2 q288 (app_all2 q280 (nl0 CellR) a266) (show CellR (.agg [(.int .i64 v1), (.int .i64 v2)]) (CellD.mk v1 v2) from ⟨rfl, i1, i2⟩))) (own_take (snoc_all2 q288 (app_all2 q280 (nl0 CellR) a266) (show CellR (.agg [(.int .i64 v1), (.int .i64 v2)]) (CellD.mk v1 v2) from ⟨rfl, i1, i2⟩))) (all2_length (app_all2 q290 (snoc_all2 q288 (app_all2 q280 (nl0 CellR) a266) (show CellR (.agg [(.int .i64 v1), (.int .i64 v2)]) (CellD.mk v1 v2) from ⟨rfl, i1, i2⟩)) a275)) (own_take (app_all2 q290 (snoc_all2 q288 (app_all2 q280 (nl0 CellR) a266) (show CellR (.agg [(.int .i64 v1), (.int .i64 v2)]) (CellD.mk v1 v2) from ⟨rfl, i1, i2⟩)) a275)))) ?_
  refine j256 _ _ _ ((([] ++ es265) ++ [(.agg [(.int .i64 v1), (.int .i64 v2)])]) ++ es274) v289 (app_all2 q290 (snoc_all2 q288 (app_all2 q280 (nl0 CellR) a266) (show CellR (.agg [(.int .i64 v1), (.int .i64 v2)]) (CellD.mk v1 v2) from ⟨rfl, i1, i2⟩)) a275) (app_len q290 (snoc_all2 q288 (app_all2 q280 (nl0 CellR) a266) (show CellR (.agg [(.int .i64 v1), (.int .i64 v2)]) (CellD.mk v1 v2) from ⟨rfl, i1, i2⟩)) a275) ?_ hm
  exact nm [4] [6] [(.sl 2 (n + 4) 0 v289.length v289.length false)] (rc (Rn.own (js := [4]) 4 0) rn) (RowsR.row 4 _ _ _ _ (hp_get 4) (RnL.all2 (app_all2 q290 (snoc_all2 q288 (app_all2 q280 (nl0 CellR) a266) (show CellR (.agg [(.int .i64 v1), (.int .i64 v2)]) (CellD.mk v1 v2) from ⟨rfl, i1, i2⟩)) a275) tyCell_123.lt) RowsR.nil)
  refine planT_alt ?_ ?_
  unfold planTW; simp only [go_sem, ↓reduceIte, reduceCtorEq, Nat.reduceEqDiff, Nat.reduceLT, Nat.reduceLeDiff, Nat.reduceAdd, Nat.reduceMul, Int.reduceLE, F35, F269, F278]
  refine ⟨123, rfl, app_exC (j := 0) rfl (of_decide_eq_true rfl) rfl ?_ ?_ rfl q280 (nl0 CellR) a266 z281 ?_⟩
  exact sc (a3 F35 F269 F278)
  exact sc0
  refine sk (a5 F35 F269 F278 (all2_length (app_all2 q280 (nl0 CellR) a266)) (own_take (app_all2 q280 (nl0 CellR) a266))) ?_
  refine ⟨123, rfl, app_mv1 (j := 2) rfl (of_decide_eq_true rfl) rfl ?_ ?_ (all2_length (app_all2 q280 (nl0 CellR) a266)) q288 (app_all2 q280 (nl0 CellR) a266) (show CellR (.agg [(.int .i64 v1), (.int .i64 v2)]) (CellD.mk v1 v2) from ⟨rfl, i1, i2⟩) ?_⟩
  exact sc (a5 F35 F269 F278 (all2_length (app_all2 q280 (nl0 CellR) a266)) (own_take (app_all2 q280 (nl0 CellR) a266)))
  exact sc0
  refine sk (a5 F35 F269 F278 (all2_length (app_all2 q280 (nl0 CellR) a266)) (a3 (own_take (app_all2 q280 (nl0 CellR) a266)) (all2_length (snoc_all2 q288 (app_all2 q280 (nl0 CellR) a266) (show CellR (.agg [(.int .i64 v1), (.int .i64 v2)]) (CellD.mk v1 v2) from ⟨rfl, i1, i2⟩))) (own_take (snoc_all2 q288 (app_all2 q280 (nl0 CellR) a266) (show CellR (.agg [(.int .i64 v1), (.int .i64 v2)]) (CellD.mk v1 v2) from ⟨rfl, i1, i2⟩))))) ?_
  refine ⟨123, rfl, app_mvC (j := 3) rfl (of_decide_eq_true rfl) rfl ?_ ?_ (all2_length (snoc_all2 q288 (app_all2 q280 (nl0 CellR) a266) (show CellR (.agg [(.int .i64 v1), (.int .i64 v2)]) (CellD.mk v1 v2) from ⟨rfl, i1, i2⟩))) q290 (snoc_all2 q288 (app_all2 q280 (nl0 CellR) a266) (show CellR (.agg [(.int .i64 v1), (.int .i64 v2)]) (CellD.mk v1 v2) from ⟨rfl, i1, i2⟩)) a275 z291 ?_⟩
  exact sc (a5 F35 F269 F278 (all2_length (app_all2 q280 (nl0 CellR) a266)) (a3 (own_take (app_all2 q280 (nl0 CellR) a266)) (all2_length (snoc_all2 q288 (app_all2 q280 (nl0 CellR) a266) (show CellR (.agg [(.int .i64 v1), (.int .i64 v2)]) (CellD.mk v1 v2) from ⟨rfl, i1, i2⟩))) (own_take (snoc_all2 q288 (app_all2 q280 (nl0 CellR) a266) (show CellR (.agg [(.int .i64 v1), (.int .i64 v2)]) (CellD.mk v1 v2) from ⟨rfl, i1, i2⟩)))))
  exact sc0
  refine sk (a5 F35 F269 F278 (all2_length (app_all2 q280 (nl0 CellR) a266)) (a5 (own_take (app_all2 q280 (nl0 CellR) a266)) (all2_length (snoc_all2 q288 (app_all2 q280 (nl0 CellR) a266) (show CellR (.agg [(.int .i64 v1), (.int .i64 v2)]) (CellD.mk v1 v2) from ⟨rfl, i1, i2⟩))) (own_take (snoc_all2 q288 (app_all2 q280 (nl0 CellR) a266) (show CellR (.agg [(.int .i64 v1), (.int .i64 v2)]) (CellD.mk v1 v2) from ⟨rfl, i1, i2⟩))) (all2_length (app_all2 q290 (snoc_all2 q288 (app_all2 q280 (nl0 CellR) a266) (show CellR (.agg [(.int .i64 v1), (.int .i64 v2)]) (CellD.mk v1 v2) from ⟨rfl, i1, i2⟩)) a275)) (own_take (app_all2 q290 (snoc_all2 q288 (app_all2 q280 (nl0 CellR) a266) (show CellR (.agg [(.int .i64 v1), (.int .i64 v2)]) (CellD.mk v1 v2) from ⟨rfl, i1, i2⟩)) a275)))) ?_
  refine j256 _ _ _ ((([] ++ es265) ++ [(.agg [(.int .i64 v1), (.int .i64 v2)])]) ++ es274) v289 (app_all2 q290 (snoc_all2 q288 (app_all2 q280 (nl0 CellR) a266) (show CellR (.agg [(.int .i64 v1), (.int .i64 v2)]) (CellD.mk v1 v2) from ⟨rfl, i1, i2⟩)) a275) (app_len q290 (snoc_all2 q288 (app_all2 q280 (nl0 CellR) a266) (show CellR (.agg [(.int .i64 v1), (.int .i64 v2)]) (CellD.mk v1 v2) from ⟨rfl, i1, i2⟩)) a275) ?_ hm
  exact nm [4] [6] [(.sl 2 (n + 4) 0 v289.length v289.length false)] (rc (Rn.own (js := [4]) 4 0) rn) (RowsR.row 4 _ _ _ _ (hp_get 4) (RnL.all2 (app_all2 q290 (snoc_all2 q288 (app_all2 q280 (nl0 CellR) a266) (show CellR (.agg [(.int .i64 v1), (.int .i64 v2)]) (CellD.mk v1 v2) from ⟨rfl, i1, i2⟩)) a275) tyCell_123.lt) RowsR.nil)
  exact planT_end
  refine planT_alt ?_ ?_
  unfold planTW; simp only [go_sem, ↓reduceIte, reduceCtorEq, Nat.reduceEqDiff, Nat.reduceLT, Nat.reduceLeDiff, Nat.reduceAdd, Nat.reduceMul, Int.reduceLE, F35, F269, F278]
  refine ⟨123, rfl, app_exC (j := 1) rfl (of_decide_eq_true rfl) rfl ?_ ?_ rfl q280 (nl0 CellR) a266 z281 ?_⟩
  exact sc (a3 F35 F269 F278)
  exact sc0
  refine sk (a5 F35 F269 F278 (all2_length (app_all2 q280 (nl0 CellR) a266)) (own_take (app_all2 q280 (nl0 CellR) a266))) ?_
  refine ⟨123, rfl, app_mv1 (j := 2) rfl (of_decide_eq_true rfl) rfl ?_ ?_ (all2_length (app_all2 q280 (nl0 CellR) a266)) q288 (app_all2 q280 (nl0 CellR) a266) (show CellR (.agg [(.int .i64 v1), (.int .i64 v2)]) (CellD.mk v1 v2) from ⟨rfl, i1, i2⟩) ?_⟩
  exact sc (a5 F35 F269 F278 (all2_length (app_all2 q280 (nl0 CellR) a266)) (own_take (app_all2 q280 (nl0 CellR) a266)))
  exact sc0
  refine sk (a5 F35 F269 F278 (all2_length (app_all2 q280 (nl0 CellR) a266)) (a3 (own_take (app_all2 q280 (nl0 CellR) a266)) (all2_length (snoc_all2 q288 (app_all2 q280 (nl0 CellR) a266) (show CellR (.agg [(.int .i64 v1), (.int .i64 v2)]) (CellD.mk v1 v2) from ⟨rfl, i1, i2⟩))) (own_take (snoc_all2 q288 (app_all2 q280 (nl0 CellR) a266) (show CellR (.agg [(.int .i64 v1), (.int .i64 v2)]) (CellD.mk v1 v2) from ⟨rfl, i1, i2⟩))))) ?_
  refine ⟨123, rfl, app_mvC (j := 3) rfl (of_decide_eq_true rfl) rfl ?_ ?_ (all2_length (snoc_all2 q288 (app_all2 q280 (nl0 CellR) a266) (show CellR (.agg [(.int .i64 v1), (.int .i64 v2)]) (CellD.mk v1 v2) from ⟨rfl, i1, i2⟩))) q290 (snoc_all2 q288 (app_all2 q280 (nl0 CellR) a266) (show CellR (.agg [(.int .i64 v1), (.int .i64 v2)]) (CellD.mk v1 v2) from ⟨rfl, i1, i2⟩)) a275 z291 ?_⟩
  exact sc (a5 F35 F269 F278 (all2_length (app_all2 q280 (nl0 CellR) a266)) (a3 (own_take (app_all2 q280 (nl0 CellR) a266)) (all2_length (snoc_all2 q288 (app_all2 q280 (nl0 CellR) a266) (show CellR (.agg [(.int .i64 v1), (.int .i64 v2)]) (CellD.mk v1 v2) from ⟨rfl, i1, i2⟩))) (own_take (snoc_all2 q288 (app_all2 q280 (nl0 CellR) a266) (show CellR (.agg [(.int .i64 v1), (.int .i64 v2)]) (CellD.mk v1 v2) from ⟨rfl, i1, i2⟩)))))
  exact sc0
  refine sk (a5 F35 F269 F278 (all2_length (app_all2 q280 (nl0 CellR) a266)) (a5 (own_take (app_all2 q280 (nl0 CellR) a266)) (all2_length (snoc_all2 q288 (app_all2 q280 (nl0 CellR) a266) (show CellR (.agg [(.int .i64 v1), (.int .i64 v2)]) (CellD.mk v1 v2) from ⟨rfl, i1, i2⟩))) (own_take (snoc_all2 q288 (app_all2 q280 (nl0 CellR) a266) (show CellR (.agg [(.int .i64 v1), (.int .i64 v2)]) (CellD.mk v1 v2) from ⟨rfl, i1, i2⟩))) (all2_length (app_all2 q290 (snoc_all2 q288 (app_all2 q280 (nl0 CellR) a266) (show CellR (.agg [(.int .i64 v1), (.int .i64 v2)]) (CellD.mk v1 v2) from ⟨rfl, i1, i2⟩)) a275)) (own_take (app_all2 q290 (snoc_all2 q288 (app_all2 q280 (nl0 CellR) a266) (show CellR (.agg [(.int .i64 v1), (.int .i64 v2)]) (CellD.mk v1 v2) from ⟨rfl, i1, i2⟩)) a275)))) ?_
  refine j256 _ _ _ ((([] ++ es265) ++ [(.agg [(.int .i64 v1), (.int .i64 v2)])]) ++ es274) v289 (app_all2 q290 (snoc_all2 q288 (app_all2 q280 (nl0 CellR) a266) (show CellR (.agg [(.int .i64 v1), (.int .i64 v2)]) (CellD.mk v1 v2) from ⟨rfl, i1, i2⟩)) a275) (app_len q290 (snoc_all2 q288 (app_all2 q280 (nl0 CellR) a266) (show CellR (.agg [(.int .i64 v1), (.int .i64 v2)]) (CellD.mk v1 v2) from ⟨rfl, i1, i2⟩)) a275) ?_ hm
  exact nm [4] [6] [(.sl 2 (n + 4) 0 v289.length v289.length false)] (rc (Rn.own (js := [4]) 4 0) rn) (RowsR.row 4 _ _ _ _ (hp_get 4) (RnL.all2 (app_all2 q290 (snoc_all2 q288 (app_all2 q280 (nl0 CellR) a266) (show CellR (.agg [(.int .i64 v1), (.int .i64 v2)]) (CellD.mk v1 v2) from ⟨rfl, i1, i2⟩)) a275) tyCell_123.lt) RowsR.nil)
  exact planT_end
 clear hK37
 refine WQ.block ?_
 obtain ⟨q411, hq412, hm⟩ := obs hm
 refine WQ.norm ?_ (WQ.iter (step := (fun (s : Int) => m_s_l1With_a4 fu v1 v28 s)) (fun (s : Int) E' h' n' => I64 s ∧ (envZ [1, 2, 7, 8] [(.int .i64 v1), (.int .i64 v2), y29, (.int .i64 s)]) = E' ∧ (hp h n []) = h' ∧ n = n') hq412 ⟨(i64c (a := 0) rfl), rfl, rfl, rfl⟩ ?_)
 exact nm [] [1, 2, 7, 8] [(.int .i64 v1), (.int .i64 v2), y29, (.int .i64 0)] (rc rki (rc rki (rc (.keep _ (slr_ltA _ _ _ h30)) (rc rki rn)))) RowsR.nil
 rintro v408 E' h' n' o410 ⟨i409, rfl, rfl, rfl⟩ ho414 hf413
 replace i409 : I64 v408 := i409
 replace ho414 : m_s_l1With_a4 fu v1 v28 v408 = some o410 := ho414
 unfold m_s_l1With_a4 at ho414
 show WQ Try.prog _ n h _ _ (envZ [1, 2, 7, 8] [(.int .i64 v1), (.int .i64 v2), y29, (.int .i64 v408)]) (hp h n []) n
 refine WQ.seq_k fun K415 hK415 => ?_
 refine WQ.seq_k fun K444 hK444 => ?_
 have j456 : ∀ (E' : Env) (h' : Heap) (n' : Nat) (v455 : Bool), Norm n h E' h' n' (envZ [1, 2, 7, 8, 24] [(.int .i64 v1), (.int .i64 v2), y29, (.int .i64 v408), (.bool v455)]) (hp h n []) n → (m_s_l1With_a3 fu v408 v455) = some o410 → K444 E' h' n' := by
  intro E458 H459 n460 v455 N457 ho414
  refine hK444 _ _ _ _ _ _ N457 ?_
  clear N457 hK444 K444
  unfold m_s_l1With_a3 at ho414
  refine cn ho414 (fun z461 ho414 => ?_) fun z461 ho414 => ?_
  refine WQ.skip ?_
  refine sg ?_
  refine kn hK415 ?_
  clear hK415 K415
  refine WQ.block ?_
  refine WQ.region hT rfl ?_
  refine sq0 ?_
  refine ⟨_, _, _, _, (Option.some.inj ho414).symm, ?_, (rng_wrap64 _), rfl, rfl, rfl⟩
  exact nm [] [1, 2, 7, 8] [(.int .i64 v1), (.int .i64 v2), y29, (.int .i64 (IntKind.i64.wrap (v408 + 1)))] (rc rki (rc rki (rc (.keep _ (slr_ltA _ _ _ h30)) (rc rki rn)))) RowsR.nil
  refine WQ.exit ?_
  refine sg ?_
  have e462 := hf413 _ (Option.some.inj ho414).symm
  rw [← e462] at hm
  refine j215 _ _ _ v408 i409 ?_ hm
  exact nm [] [1, 2, 7, 8] [(.int .i64 v1), (.int .i64 v2), y29, (.int .i64 v408)] (rc rki (rc rki (rc (.keep _ (slr_ltA _ _ _ h30)) (rc rki rn)))) RowsR.nil
 clear hK444
 rcases Bool.eq_false_or_eq_true (decide (v408 < (v28.length : Int))) with z463 | z463
 replace ho414 := ifT z463 ho414
 obtain ⟨a464, q465, ho414⟩ := obs ho414
 obtain ⟨e468, p466, h470⟩ := atk q465 a32
 have gh470 := h470
 obtain ⟨rfl, i471, i472⟩ := h470
 refine WQ.region hT rfl ?_
 refine sq (a3 F35 p466 (eqT z463)) ?_
 refine j456 _ _ _ (decide (a464.key < v1)) ?_ ho414
 exact nm [] [1, 2, 7, 8, 24] [(.int .i64 v1), (.int .i64 v2), y29, (.int .i64 v408), (.bool (decide (a464.key < v1)))] (rc rki (rc rki (rc (.keep _ (slr_ltA _ _ _ h30)) (rc rki (rc rkb rn))))) RowsR.nil
 replace ho414 := ifF z463 ho414
 refine WQ.region hT rfl ?_
 refine sq (a2 F35 (eqF z463)) ?_
 refine j456 _ _ _ false ?_ ho414
 exact nm [] [1, 2, 7, 8, 24] [(.int .i64 v1), (.int .i64 v2), y29, (.int .i64 v408), (.bool false)] (rc rki (rc rki (rc (.keep _ (slr_ltA _ _ _ h30)) (rc rki (rc rkb rn))))) RowsR.nil
def m_s_l13Sound_a1 (fu : Nat) : Option Int :=
  some 0
def m_s_l13Sound_a2 (fu : Nat) (v4056 : Int) (v4482 : List Int) (v4486 : List Int) (v4490 : List Int) (v4494 : List HeldD) (v4497 : List CellD) : Option (((List Int) × (List Int) × (List Int) × (List HeldD) × (List CellD) × Int) ⊕ (Unit ⊕ Option Int)) :=
  some (Sum.inl (v4482, v4486, v4490, v4494, v4497, IntKind.i64.wrap (v4056 + 1)))
def m_s_l13Sound_a3 (fu : Nat) (v0 : List RecD) (v4054 : List CellD) (v4056 : Int) (a4518 : RecD) (v4706 : List Int) (v4710 : List Int) (v4714 : List Int) (v4718 : List HeldD) (v4720 : Bool) : Option (((List Int) × (List Int) × (List Int) × (List HeldD) × (List CellD) × Int) ⊕ (Unit ⊕ Option Int)) :=
  (if v4720 = true then some (Sum.inr (Sum.inr (some 9))) else (Option.bind (m_s_l13Fits fu (SimD.mk v4054 v4706 v4710 v4714 v4718) v0 v4056) fun v4747 => (if (!v4747) = true then some (Sum.inr (Sum.inr (some 4))) else (if (decide (a4518.kind = 1)) = true then (Option.bind (snocL 8 v4706 a4518.txn) fun v4758 => (m_s_l13Sound_a2 fu v4056 v4758 v4710 v4714 v4718 v4054)) else (if (decide (a4518.kind = 2)) = true then (if (decide (a4518.kind = 2)) = true then (Option.bind (m_s_l1Without fu v4054 a4518.key) fun v4777 => (if a4518.has = true then (Option.bind (m_s_l1With fu v4777 a4518.key a4518.new) fun v4800 => (Option.bind (snocL 16 v4718 (HeldD.mk a4518.txn a4518.key)) fun v4811 => (if (decide (a4518.kind = 5)) = true then (Option.bind (snocL 8 v4714 a4518.txn) fun v4815 => (m_s_l13Sound_a2 fu v4056 v4706 v4710 v4815 v4811 v4800)) else (m_s_l13Sound_a2 fu v4056 v4706 v4710 v4714 v4811 v4800)))) else (Option.bind (snocL 16 v4718 (HeldD.mk a4518.txn a4518.key)) fun v4820 => (if (decide (a4518.kind = 5)) = true then (Option.bind (snocL 8 v4714 a4518.txn) fun v4824 => (m_s_l13Sound_a2 fu v4056 v4706 v4710 v4824 v4820 v4777)) else (m_s_l13Sound_a2 fu v4056 v4706 v4710 v4714 v4820 v4777))))) else (if (decide (a4518.kind = 3)) = true then (if (decide (a4518.kind = 3)) = true then (Option.bind (snocL 8 v4710 a4518.txn) fun v4832 => (m_s_l13Sound_a2 fu v4056 v4706 v4832 v4714 v4718 v4054)) else (m_s_l13Sound_a2 fu v4056 v4706 v4710 v4714 v4718 v4054)) else (if (decide (a4518.kind = 4)) = true then (Option.bind (snocL 8 v4710 a4518.txn) fun v4835 => (m_s_l13Sound_a2 fu v4056 v4706 v4835 v4714 v4718 v4054)) else (m_s_l13Sound_a2 fu v4056 v4706 v4710 v4714 v4718 v4054)))) else (if (decide (a4518.kind = 5)) = true then (Option.bind (m_s_l1Without fu v4054 a4518.key) fun v4849 => (if a4518.has = true then (Option.bind (m_s_l1With fu v4849 a4518.key a4518.new) fun v4872 => (Option.bind (snocL 16 v4718 (HeldD.mk a4518.txn a4518.key)) fun v4883 => (if (decide (a4518.kind = 5)) = true then (Option.bind (snocL 8 v4714 a4518.txn) fun v4887 => (m_s_l13Sound_a2 fu v4056 v4706 v4710 v4887 v4883 v4872)) else (m_s_l13Sound_a2 fu v4056 v4706 v4710 v4714 v4883 v4872)))) else (Option.bind (snocL 16 v4718 (HeldD.mk a4518.txn a4518.key)) fun v4892 => (if (decide (a4518.kind = 5)) = true then (Option.bind (snocL 8 v4714 a4518.txn) fun v4896 => (m_s_l13Sound_a2 fu v4056 v4706 v4710 v4896 v4892 v4849)) else (m_s_l13Sound_a2 fu v4056 v4706 v4710 v4714 v4892 v4849))))) else (if (decide (a4518.kind = 3)) = true then (if (decide (a4518.kind = 3)) = true then (Option.bind (snocL 8 v4710 a4518.txn) fun v4904 => (m_s_l13Sound_a2 fu v4056 v4706 v4904 v4714 v4718 v4054)) else (m_s_l13Sound_a2 fu v4056 v4706 v4710 v4714 v4718 v4054)) else (if (decide (a4518.kind = 4)) = true then (Option.bind (snocL 8 v4710 a4518.txn) fun v4907 => (m_s_l13Sound_a2 fu v4056 v4706 v4907 v4714 v4718 v4054)) else (m_s_l13Sound_a2 fu v4056 v4706 v4710 v4714 v4718 v4054)))))))))
def m_s_l13Sound_a4 (fu : Nat) (v0 : List RecD) (v4054 : List CellD) (v4056 : Int) (a4518 : RecD) (v4639 : List Int) (v4643 : List Int) (v4647 : List Int) (v4651 : List HeldD) (v4653 : Bool) : Option (((List Int) × (List Int) × (List Int) × (List HeldD) × (List CellD) × Int) ⊕ (Unit ⊕ Option Int)) :=
  (if v4653 = true then some (Sum.inr (Sum.inr (some 1))) else (if (decide (a4518.kind = 2)) = true then (Option.bind (m_s_l13Held fu (SimD.mk v4054 v4639 v4643 v4647 v4651) a4518) fun v4911 => (m_s_l13Sound_a3 fu v0 v4054 v4056 a4518 v4639 v4643 v4647 v4651 v4911)) else (m_s_l13Sound_a3 fu v0 v4054 v4056 a4518 v4639 v4643 v4647 v4651 false)))
def m_s_l13Sound_a5 (fu : Nat) (v0 : List RecD) (v4054 : List CellD) (v4056 : Int) (a4518 : RecD) (v4575 : List Int) (v4579 : List Int) (v4583 : List Int) (v4587 : List HeldD) (v4589 : Bool) : Option (((List Int) × (List Int) × (List Int) × (List HeldD) × (List CellD) × Int) ⊕ (Unit ⊕ Option Int)) :=
  (if v4589 = true then (Option.bind (m_s_l13Was fu (SimD.mk v4054 v4575 v4579 v4583 v4587) a4518) fun v4916 => (m_s_l13Sound_a4 fu v0 v4054 v4056 a4518 v4575 v4579 v4583 v4587 (!v4916))) else (m_s_l13Sound_a4 fu v0 v4054 v4056 a4518 v4575 v4579 v4583 v4587 false))
def m_s_l13Sound_a6 (fu : Nat) (v0 : List RecD) (v4039 : List Int) (v4043 : List Int) (v4047 : List Int) (v4051 : List HeldD) (v4054 : List CellD) (v4056 : Int) : Option (((List Int) × (List Int) × (List Int) × (List HeldD) × (List CellD) × Int) ⊕ (Unit ⊕ Option Int)) :=
  (if (decide (v4056 < (v0.length : Int))) = true then (Option.bind (atL v0 v4056) fun a4518 => (if (decide (recFault a4518 ≠ 0)) = true then some (Sum.inr (Sum.inr (some (recFault a4518)))) else (Option.bind (m_s_l13Known fu (SimD.mk v4054 v4039 v4043 v4047 v4051) a4518) fun v4563 => (if (decide (v4563 ≠ 0)) = true then some (Sum.inr (Sum.inr (some v4563))) else (if (decide (a4518.kind = 2)) = true then (m_s_l13Sound_a5 fu v0 v4054 v4056 a4518 v4039 v4043 v4047 v4051 true) else (m_s_l13Sound_a5 fu v0 v4054 v4056 a4518 v4039 v4043 v4047 v4051 (decide (a4518.kind = 5)))))))) else some (Sum.inr (Sum.inl ())))
def m_s_l13Sound (fu : Nat) (v0 : List RecD) : Option Int :=
  (if (decide (400 < (v0.length : Int))) = true then some 2 else (Option.bind (iterN (fun (s : (List Int) × (List Int) × (List Int) × (List HeldD) × (List CellD) × Int) => m_s_l13Sound_a6 fu v0 s.1 s.2.1 s.2.2.1 s.2.2.2.1 s.2.2.2.2.1 s.2.2.2.2.2) fu (([] : List Int), ([] : List Int), ([] : List Int), ([] : List HeldD), [], 0)) fun q4059 => Sum.elim (fun (b : Unit) => (m_s_l13Sound_a1 fu)) (fun x => x) q4059))
set_option maxHeartbeats 2000000 in
theorem w_s_l13Sound {x0 : AV} {v0 : List RecD} (h0 : (SlH h n 8 RecR) x0 v0) {fu : Nat} {r : Int} (hm : m_s_l13Sound fu v0 = some r) (hk : ∀ y, Int64R y r → K y h n) : CA Try.prog 51 [x0] h n K := by
 refine CA.enterQ (N := 60) (rs := [.tmp 2]) hT Try.call51 Try.func51 rfl rfl (of_decide_eq_true rfl) rfl fun hlt => ?_
 unfold m_s_l13Sound at hm
 obtain ⟨es11, a12, l13, b14, F15⟩ := sHo h0
 refine rg0 hT ?_
 refine WQ.seq_k fun K17 hK17 => ?_
 refine rg hT F15 ?_
 refine cn hm (fun z22 hm => ?_) fun z22 hm => ?_
 refine rg0 hT ?_
 exact rtI 2 hlt hk (a := 2) hm (i64c (a := 2) rfl)
 refine WQ.skip ?_
 refine sg ?_
 refine kn hK17 ?_
 clear hK17 K17
 refine rg0 hT ?_
 refine WQ.seq_k fun K25 hK25 => ?_
 have j2465 : ∀ (E' : Env) (h' : Heap) (n' : Nat), Norm n h E' h' n' (envZ [] []) (hp h n []) n → (m_s_l13Sound_a1 fu) = some r → K25 E' h' n' := by
  intro E2467 H2468 n2469 N2466 hm
  refine hK25 _ _ _ _ _ _ N2466 ?_
  clear N2466 hK25 K25
  unfold m_s_l13Sound_a1 at hm
  refine rg0 hT ?_
  exact rtI 2 hlt hk (a := 0) hm (i64c (a := 0) rfl)
 clear hK25
 refine rg0 hT ?_
 refine WQ.block ?_
 obtain ⟨q4059, hq4060, hm⟩ := obs hm
 refine WQ.norm ?_ (WQ.iter (step := (fun (s : (List Int) × (List Int) × (List Int) × (List HeldD) × (List CellD) × Int) => m_s_l13Sound_a6 fu v0 s.1 s.2.1 s.2.2.1 s.2.2.2.1 s.2.2.2.2.1 s.2.2.2.2.2)) (fun (s : (List Int) × (List Int) × (List Int) × (List HeldD) × (List CellD) × Int) E' h' n' => ∃ (x4037 : AV), ∃ (rw4038 : Option (List AV)), ∃ (x4041 : AV), ∃ (rw4042 : Option (List AV)), ∃ (x4045 : AV), ∃ (rw4046 : Option (List AV)), ∃ (x4049 : AV), ∃ (rw4050 : Option (List AV)), ∃ (x4053 : AV), NOwn n 1 1 Int64R x4037 rw4038 s.1 ∧ NOwn n 2 1 Int64R x4041 rw4042 s.2.1 ∧ NOwn n 3 1 Int64R x4045 rw4046 s.2.2.1 ∧ NOwn n 4 2 HeldR x4049 rw4050 s.2.2.2.1 ∧ (SlR 2 CellR) x4053 s.2.2.2.2.1 ∧ I64 s.2.2.2.2.2 ∧ (envZ [0, 3, 4] [x0, (.ep 5 (.sl 5 n 0 1 1 true) 0 0), (.int .i64 s.2.2.2.2.2)]) = E' ∧ (hp h n [some [(.agg [x4053, x4037, x4041, x4045, x4049])], rw4038, rw4042, rw4046, rw4050]) = h' ∧ (n + 5) = n') hq4060 ⟨.nils, none, .nils, none, .nils, none, .nils, none, .nils, (nown_nil rfl), (nown_nil rfl), (nown_nil rfl), (nown_nil rfl), slr_nil, (i64c (a := 0) rfl), rfl, rfl, rfl⟩ ?_)
 exact nm [0, 1001, 1002, 1003, 1004] [0, 3, 4] [x0, (.ep 5 (.sl 5 n 0 1 1 true) 0 0), (.int .i64 0)] (rc (.keep _ (slH_lt h0)) (rc (Rn.ptr (js := [0, 1001, 1002, 1003, 1004]) 0 0) (rc rki rn))) (RowsR.row 0 _ _ _ _ hp_get0 (rc (.keep _ (sim_lt _ _ _ (show SimR (.agg [.nils, .nils, .nils, .nils, .nils]) (SimD.mk ([]) ([]) ([]) ([]) ([])) from ⟨.nils, .nils, .nils, .nils, .nils, rfl, slr_nil, slr_nil, slr_nil, slr_nil, slr_nil⟩))) rn) (RowsR.opt 1001 none _ _ (.inl rfl) (fun _ h => nomatch h) (RowsR.opt 1002 none _ _ (.inl rfl) (fun _ h => nomatch h) (RowsR.opt 1003 none _ _ (.inl rfl) (fun _ h => nomatch h) (RowsR.opt 1004 none _ _ (.inl rfl) (fun _ h => nomatch h) RowsR.nil)))))
 rintro ⟨v4039, v4043, v4047, v4051, v4054, v4056⟩ E' h' n' o4058 ⟨x4037, rw4038, x4041, rw4042, x4045, rw4046, x4049, rw4050, x4053, h4040, h4044, h4048, h4052, h4055, i4057, rfl, rfl, rfl⟩ ho4062 hf4061
 replace h4040 : NOwn n 1 1 Int64R x4037 rw4038 v4039 := h4040
 replace h4044 : NOwn n 2 1 Int64R x4041 rw4042 v4043 := h4044
 replace h4048 : NOwn n 3 1 Int64R x4045 rw4046 v4047 := h4048
 replace h4052 : NOwn n 4 2 HeldR x4049 rw4050 v4051 := h4052
 replace h4055 : (SlR 2 CellR) x4053 v4054 := h4055
 replace i4057 : I64 v4056 := i4057
 replace ho4062 : m_s_l13Sound_a6 fu v0 v4039 v4043 v4047 v4051 v4054 v4056 = some o4058 := ho4062
 unfold m_s_l13Sound_a6 at ho4062
 show WQ Try.prog _ n h _ _ (envZ [0, 3, 4] [x0, (.ep 5 (.sl 5 n 0 1 1 true) 0 0), (.int .i64 v4056)]) (hp h n [some [(.agg [x4053, x4037, x4041, x4045, x4049])], rw4038, rw4042, rw4046, rw4050]) (n + 5)
 refine WQ.seq_k fun K4063 hK4063 => ?_
 refine rg hT F15 ?_
 refine cn ho4062 (fun z4067 ho4062 => ?_) fun z4067 ho4062 => ?_
 refine WQ.skip ?_
 refine sg ?_
 refine kn hK4063 ?_
 clear hK4063 K4063
 refine WQ.seq_k fun K4068 hK4068 => ?_
 have j4499 : ∀ (E' : Env) (h' : Heap) (n' : Nat) (x4480 : AV) (rw4481 : Option (List AV)) (v4482 : List Int) (h4483 : NOwn n 1 1 Int64R x4480 rw4481 v4482) (x4484 : AV) (rw4485 : Option (List AV)) (v4486 : List Int) (h4487 : NOwn n 2 1 Int64R x4484 rw4485 v4486) (x4488 : AV) (rw4489 : Option (List AV)) (v4490 : List Int) (h4491 : NOwn n 3 1 Int64R x4488 rw4489 v4490) (x4492 : AV) (rw4493 : Option (List AV)) (v4494 : List HeldD) (h4495 : NOwn n 4 2 HeldR x4492 rw4493 v4494) (x4496 : AV) (v4497 : List CellD) (h4498 : (SlR 2 CellR) x4496 v4497), Norm n h E' h' n' (envZ [0, 3, 4] [x0, (.ep 5 (.sl 5 n 0 1 1 true) 0 0), (.int .i64 v4056)]) (hp h n [some [(.agg [x4496, x4480, x4484, x4488, x4492])], rw4481, rw4485, rw4489, rw4493]) (n + 5) → (m_s_l13Sound_a2 fu v4056 v4482 v4486 v4490 v4494 v4497) = some o4058 → K4068 E' h' n' := by
  intro E4501 H4502 n4503 x4480 rw4481 v4482 h4483 x4484 rw4485 v4486 h4487 x4488 rw4489 v4490 h4491 x4492 rw4493 v4494 h4495 x4496 v4497 h4498 N4500 ho4062
  refine hK4068 _ _ _ _ _ _ N4500 ?_
  clear N4500 hK4068 K4068
  unfold m_s_l13Sound_a2 at ho4062
  refine WQ.region hT rfl ?_
  refine sq0 ?_
  refine ⟨_, _, _, _, (Option.some.inj ho4062).symm, ?_, x4480, rw4481, x4484, rw4485, x4488, rw4489, x4492, rw4493, x4496, h4483, h4487, h4491, h4495, h4498, (rng_wrap64 _), rfl, rfl, rfl⟩
  exact nm [0, 1, 2, 3, 4] [0, 3, 4] [x0, (.ep 5 (.sl 5 n 0 1 1 true) 0 0), (.int .i64 (IntKind.i64.wrap (v4056 + 1)))] (rc (.keep _ (slH_lt h0)) (rc (Rn.ptr (js := [0, 1, 2, 3, 4]) 0 0) (rc rki rn))) (RowsR.row 0 _ _ _ _ hp_get0 (rc (Rn.agg' (rc (.keep _ (slr_ltA _ _ _ h4498)) (rc (nown_rn h4483 rfl) (rc (nown_rn h4487 rfl) (rc (nown_rn h4491 rfl) (rc (nown_rn h4495 rfl) rn)))))) rn) (RowsR.opt 1 _ _ _ (.inr (hp_get 1)) (nown_rows h4483 int64_lt) (RowsR.opt 2 _ _ _ (.inr (hp_get 2)) (nown_rows h4487 int64_lt) (RowsR.opt 3 _ _ _ (.inr (hp_get 3)) (nown_rows h4491 int64_lt) (RowsR.opt 4 _ _ _ (.inr (hp_get 4)) (nown_rows h4495 tyHeld_140.lt) RowsR.nil)))))
 clear hK4068
 refine WQ.block ?_
 refine WQ.seq_k fun K4504 hK4504 => ?_
 obtain ⟨a4518, q4519, ho4062⟩ := obs ho4062
 obtain ⟨e4522, p4520, h4524⟩ := atk q4519 a12
 have gh4524 := h4524
 obtain ⟨rfl, i4525, i4526, i4527, i4528, i4529, i4530⟩ := h4524
 refine WQ.region hT rfl ?_
 refine sq (a2 F15 p4520) ?_
 refine kn hK4504 ?_
 clear hK4504 K4504
 refine WQ.seq_k fun K4531 hK4531 => ?_
 refine WQ.sr hT rfl fun K4536 hK4536 => ?_
 refine sq0 ?_
 refine c92 gh4524 ?_
 refine sk0 ?_
 refine kn hK4536 ?_
 clear hK4536 K4536
 refine rg0 hT ?_
 refine cn ho4062 (fun z4538 ho4062 => ?_) fun z4538 ho4062 => ?_
 refine rg0 hT ?_
 have e4540 := hf4061 _ (Option.some.inj ho4062).symm
 rw [← e4540] at hm
 exact rtI 2 hlt hk (a := (recFault a4518)) hm (recFault_rng a4518)
 refine WQ.skip ?_
 refine sg ?_
 refine kn hK4531 ?_
 clear hK4531 K4531
 refine WQ.seq_k fun K4541 hK4541 => ?_
 obtain ⟨v4563, q4562, ho4062⟩ := obs ho4062
 refine WQ.sr hT rfl fun K4556 hK4556 => ?_
 refine sq (a5 (nown_rd h4040) (nown_len h4040) (nown_cells h4040) (nown_good h4040) (a5 (nown_rd h4044) (nown_len h4044) (nown_cells h4044) (nown_good h4044) (a5 (nown_rd h4048) (nown_len h4048) (nown_cells h4048) (nown_good h4048) (a4 (nown_rd h4052) (nown_len h4052) (nown_cells h4052) (nown_good h4052))))) ?_
 refine w_s_l13Known (⟨x4053, x4037, x4041, x4045, x4049, rfl, (SlR.toH h4055), (nown_H (j := 1) (m := 6) h4040 (hp_get 1) rfl), (nown_H (j := 2) (m := 6) h4044 (hp_get 2) rfl), (nown_H (j := 3) (m := 6) h4048 (hp_get 3) rfl), (nown_H (j := 4) (m := 6) h4052 (hp_get 4) rfl)⟩) (lt_row (j := 0) (m := 6) rfl) hp_get0 gh4524 q4562 (fun y4564 h4565 => ?_)
 obtain ⟨rfl, i4566⟩ := h4565
 refine sk (a5 (nown_rd h4040) (nown_len h4040) (nown_cells h4040) (nown_good h4040) (a5 (nown_rd h4044) (nown_len h4044) (nown_cells h4044) (nown_good h4044) (a5 (nown_rd h4048) (nown_len h4048) (nown_cells h4048) (nown_good h4048) (a4 (nown_rd h4052) (nown_len h4052) (nown_cells h4052) (nown_good h4052))))) ?_
 refine kn hK4556 ?_
 clear hK4556 K4556
 refine rg0 hT ?_
 refine cn ho4062 (fun z4568 ho4062 => ?_) fun z4568 ho4062 => ?_
 refine rg0 hT ?_
 have e4570 := hf4061 _ (Option.some.inj ho4062).symm
 rw [← e4570] at hm
 exact rtI 2 hlt hk (a := v4563) hm i4566
 refine WQ.skip ?_
 refine sg ?_
 refine kn hK4541 ?_
 clear hK4541 K4541
 refine WQ.seq_k fun K4571 hK4571 => ?_
 have j4590 : ∀ (E' : Env) (h' : Heap) (n' : Nat) (x4573 : AV) (rw4574 : Option (List AV)) (v4575 : List Int) (h4576 : NOwn n 1 1 Int64R x4573 rw4574 v4575) (x4577 : AV) (rw4578 : Option (List AV)) (v4579 : List Int) (h4580 : NOwn n 2 1 Int64R x4577 rw4578 v4579) (x4581 : AV) (rw4582 : Option (List AV)) (v4583 : List Int) (h4584 : NOwn n 3 1 Int64R x4581 rw4582 v4583) (x4585 : AV) (rw4586 : Option (List AV)) (v4587 : List HeldD) (h4588 : NOwn n 4 2 HeldR x4585 rw4586 v4587) (v4589 : Bool), Norm n h E' h' n' (envZ [0, 3, 4, 5, 8] [x0, (.ep 5 (.sl 5 n 0 1 1 true) 0 0), (.int .i64 v4056), (.ep 8 (.sl 8 (n + 5) 0 1 1 true) 0 0), (.bool v4589)]) (hp h n [some [(.agg [x4053, x4573, x4577, x4581, x4585])], rw4574, rw4578, rw4582, rw4586, some [(.agg [(.int .i64 a4518.kind), (.int .i64 a4518.txn), (.int .i64 a4518.key), (.bool a4518.had), (.int .i64 a4518.old), (.bool a4518.has), (.int .i64 a4518.new), (.int .i64 a4518.back)])]]) (n + 6) → (m_s_l13Sound_a5 fu v0 v4054 v4056 a4518 v4575 v4579 v4583 v4587 v4589) = some o4058 → K4571 E' h' n' := by
  intro E4592 H4593 n4594 x4573 rw4574 v4575 h4576 x4577 rw4578 v4579 h4580 x4581 rw4582 v4583 h4584 x4585 rw4586 v4587 h4588 v4589 N4591 ho4062
  refine hK4571 _ _ _ _ _ _ N4591 ?_
  clear N4591 hK4571 K4571
  unfold m_s_l13Sound_a5 at ho4062
  refine WQ.seq_k fun K4595 hK4595 => ?_
  refine WQ.seq_k fun K4631 hK4631 => ?_
  have j4654 : ∀ (E' : Env) (h' : Heap) (n' : Nat) (x4637 : AV) (rw4638 : Option (List AV)) (v4639 : List Int) (h4640 : NOwn n 1 1 Int64R x4637 rw4638 v4639) (x4641 : AV) (rw4642 : Option (List AV)) (v4643 : List Int) (h4644 : NOwn n 2 1 Int64R x4641 rw4642 v4643) (x4645 : AV) (rw4646 : Option (List AV)) (v4647 : List Int) (h4648 : NOwn n 3 1 Int64R x4645 rw4646 v4647) (x4649 : AV) (rw4650 : Option (List AV)) (v4651 : List HeldD) (h4652 : NOwn n 4 2 HeldR x4649 rw4650 v4651) (v4653 : Bool), Norm n h E' h' n' (envZ [0, 3, 4, 5, 46] [x0, (.ep 5 (.sl 5 n 0 1 1 true) 0 0), (.int .i64 v4056), (.ep 8 (.sl 8 (n + 5) 0 1 1 true) 0 0), (.bool v4653)]) (hp h n [some [(.agg [x4053, x4637, x4641, x4645, x4649])], rw4638, rw4642, rw4646, rw4650, some [(.agg [(.int .i64 a4518.kind), (.int .i64 a4518.txn), (.int .i64 a4518.key), (.bool a4518.had), (.int .i64 a4518.old), (.bool a4518.has), (.int .i64 a4518.new), (.int .i64 a4518.back)])]]) (n + 6) → (m_s_l13Sound_a4 fu v0 v4054 v4056 a4518 v4639 v4643 v4647 v4651 v4653) = some o4058 → K4631 E' h' n' := by
   intro E4656 H4657 n4658 x4637 rw4638 v4639 h4640 x4641 rw4642 v4643 h4644 x4645 rw4646 v4647 h4648 x4649 rw4650 v4651 h4652 v4653 N4655 ho4062
   refine hK4631 _ _ _ _ _ _ N4655 ?_
   clear N4655 hK4631 K4631
   unfold m_s_l13Sound_a4 at ho4062
   refine cn ho4062 (fun z4659 ho4062 => ?_) fun z4659 ho4062 => ?_
   refine rg0 hT ?_
   have e4661 := hf4061 _ (Option.some.inj ho4062).symm
   rw [← e4661] at hm
   exact rtI 2 hlt hk (a := 1) hm (i64c (a := 1) rfl)
   refine WQ.skip ?_
   refine sg ?_
   refine kn hK4595 ?_
   clear hK4595 K4595
   refine WQ.seq_k fun K4662 hK4662 => ?_
   refine WQ.seq_k fun K4698 hK4698 => ?_
   have j4721 : ∀ (E' : Env) (h' : Heap) (n' : Nat) (x4704 : AV) (rw4705 : Option (List AV)) (v4706 : List Int) (h4707 : NOwn n 1 1 Int64R x4704 rw4705 v4706) (x4708 : AV) (rw4709 : Option (List AV)) (v4710 : List Int) (h4711 : NOwn n 2 1 Int64R x4708 rw4709 v4710) (x4712 : AV) (rw4713 : Option (List AV)) (v4714 : List Int) (h4715 : NOwn n 3 1 Int64R x4712 rw4713 v4714) (x4716 : AV) (rw4717 : Option (List AV)) (v4718 : List HeldD) (h4719 : NOwn n 4 2 HeldR x4716 rw4717 v4718) (v4720 : Bool), Norm n h E' h' n' (envZ [0, 3, 4, 5, 53] [x0, (.ep 5 (.sl 5 n 0 1 1 true) 0 0), (.int .i64 v4056), (.ep 8 (.sl 8 (n + 5) 0 1 1 true) 0 0), (.bool v4720)]) (hp h n [some [(.agg [x4053, x4704, x4708, x4712, x4716])], rw4705, rw4709, rw4713, rw4717, some [(.agg [(.int .i64 a4518.kind), (.int .i64 a4518.txn), (.int .i64 a4518.key), (.bool a4518.had), (.int .i64 a4518.old), (.bool a4518.has), (.int .i64 a4518.new), (.int .i64 a4518.back)])]]) (n + 6) → (m_s_l13Sound_a3 fu v0 v4054 v4056 a4518 v4706 v4710 v4714 v4718 v4720) = some o4058 → K4698 E' h' n' := by
    intro E4723 H4724 n4725 x4704 rw4705 v4706 h4707 x4708 rw4709 v4710 h4711 x4712 rw4713 v4714 h4715 x4716 rw4717 v4718 h4719 v4720 N4722 ho4062
    refine hK4698 _ _ _ _ _ _ N4722 ?_
    clear N4722 hK4698 K4698
    unfold m_s_l13Sound_a3 at ho4062
    refine cn ho4062 (fun z4726 ho4062 => ?_) fun z4726 ho4062 => ?_
    refine rg0 hT ?_
    have e4728 := hf4061 _ (Option.some.inj ho4062).symm
    rw [← e4728] at hm
    exact rtI 2 hlt hk (a := 9) hm (i64c (a := 9) rfl)
    refine WQ.skip ?_
    refine sg ?_
    refine kn hK4662 ?_
    clear hK4662 K4662
    refine WQ.seq_k fun K4729 hK4729 => ?_
    obtain ⟨v4747, q4746, ho4062⟩ := obs ho4062
    refine WQ.sr hT rfl fun K4741 hK4741 => ?_
    refine sq (a5 F15 (nown_rd h4707) (nown_len h4707) (nown_cells h4707) (a5 (nown_good h4707) (nown_rd h4711) (nown_len h4711) (nown_cells h4711) (a5 (nown_good h4711) (nown_rd h4715) (nown_len h4715) (nown_cells h4715) (a5 (nown_good h4715) (nown_rd h4719) (nown_len h4719) (nown_cells h4719) (nown_good h4719))))) ?_
    refine w_s_l13Fits (⟨x4053, x4704, x4708, x4712, x4716, rfl, (SlR.toH h4055), (nown_H (j := 1) (m := 6) h4707 (hp_get 1) rfl), (nown_H (j := 2) (m := 6) h4711 (hp_get 2) rfl), (nown_H (j := 3) (m := 6) h4715 (hp_get 3) rfl), (nown_H (j := 4) (m := 6) h4719 (hp_get 4) rfl)⟩) (lt_row (j := 0) (m := 6) rfl) hp_get0 (SlH.up h0 6) i4057 q4746 (fun y4748 h4749 => ?_)
    obtain rfl := h4749
    refine sk (a5 F15 (nown_rd h4707) (nown_len h4707) (nown_cells h4707) (a5 (nown_good h4707) (nown_rd h4711) (nown_len h4711) (nown_cells h4711) (a5 (nown_good h4711) (nown_rd h4715) (nown_len h4715) (nown_cells h4715) (a5 (nown_good h4715) (nown_rd h4719) (nown_len h4719) (nown_cells h4719) (nown_good h4719))))) ?_
    refine kn hK4741 ?_
    clear hK4741 K4741
    refine cn ho4062 (fun z4750 ho4062 => ?_) fun z4750 ho4062 => ?_
    refine rg0 hT ?_
    have e4752 := hf4061 _ (Option.some.inj ho4062).symm
    rw [← e4752] at hm
    exact rtI 2 hlt hk (a := 4) hm (i64c (a := 4) rfl)
    refine WQ.skip ?_
    refine sg ?_
    refine kn hK4729 ?_
    clear hK4729 K4729
    refine WQ.region hT rfl ?_
    refine sq (a5 (nown_rd h4707) (nown_len h4707) (nown_cells h4707) (nown_good h4707) (a5 (nown_rd h4711) (nown_len h4711) (nown_cells h4711) (nown_good h4711) (a5 (nown_rd h4715) (nown_len h4715) (nown_cells h4715) (nown_good h4715) (a4 (nown_rd h4719) (nown_len h4719) (nown_cells h4719) (nown_good h4719))))) ?_
    refine CA.enterQ (N := 88) (rs := []) hT Try.call97 Try.func97 rfl rfl (of_decide_eq_true rfl) rfl fun hlt4753 => ?_
    rw [hp_nil hlt4753]
    refine rg0 hT ?_
    refine rg0 hT ?_
    refine WQ.block ?_
    refine rg0 hT ?_
    refine cn ho4062 (fun z4757 ho4062 => ?_) fun z4757 ho4062 => ?_
    obtain ⟨v4758, q4759, ho4062⟩ := obs ho4062
    refine WQ.drawL hT hM [(0, 0), (1, 0), (2, 0), (3, 0), (4, 1), (5, 0), (6, 1), (7, 2), (8, 2), (9, 0), (10, 0), (11, 2)] [11] (hp h n [some [(.agg [x4053, x4704, x4708, x4712, x4716])], none, rw4709, rw4713, rw4717, some [(.agg [(.int .i64 a4518.kind), (.int .i64 a4518.txn), (.int .i64 a4518.key), (.bool a4518.had), (.int .i64 a4518.old), (.bool a4518.has), (.int .i64 a4518.new), (.int .i64 a4518.back)])], some [(.agg [(.int .i64 a4518.kind), (.int .i64 a4518.txn), (.int .i64 a4518.key), (.bool a4518.had), (.int .i64 a4518.old), (.bool a4518.has), (.int .i64 a4518.new), (.int .i64 a4518.back)])]]) ?_ rfl ?_ fun _ => ?_
    kernel_rfl
    simp only [go_sem]
    refine sq (a5 (nown_rd h4707) (nown_len h4707) (nown_cells h4707) (nown_good h4707) (a5 (nown_rd h4711) (nown_len h4711) (nown_cells h4711) (nown_good h4711) (a5 (nown_rd h4715) (nown_len h4715) (nown_cells h4715) (nown_good h4715) (a4 (nown_rd h4719) (nown_len h4719) (nown_cells h4719) (nown_good h4719))))) ?_
    refine ⟨2, rfl, app_nw1 (j := 1) h4707 (hp_get 1) rfl (of_decide_eq_true rfl) rfl ?_ q4759 (int64R i4526) ?_⟩
    exact sc (a5 (nown_rd h4707) (nown_len h4707) (nown_cells h4707) (nown_good h4707) (a5 (nown_rd h4711) (nown_len h4711) (nown_cells h4711) (nown_good h4711) (a5 (nown_rd h4715) (nown_len h4715) (nown_cells h4715) (nown_good h4715) (a4 (nown_rd h4719) (nown_len h4719) (nown_cells h4719) (nown_good h4719)))))
    refine sk (a5 (all2_length (snoc_all2 q4759 (nown_all h4707) (int64R i4526))) (own_take (snoc_all2 q4759 (nown_all h4707) (int64R i4526))) (nown_rd h4711) (nown_len h4711) (a5 (nown_cells h4711) (nown_good h4711) (nown_rd h4715) (nown_len h4715) (a5 (nown_cells h4715) (nown_good h4715) (nown_rd h4719) (nown_len h4719) (a5 (nown_cells h4719) (nown_good h4719) (nown_rd h4707) (nown_len h4707) (a2 (nown_cells h4707) (nown_good h4707)))))) ?_
    refine ⟨[], rfl, _, _, _, .keep _ _ _ _ (fun _ _ h => h), ?_⟩
    try unfold sealK
    try simp only [go_sem, ↓reduceIte, reduceCtorEq, Nat.reduceEqDiff, Nat.reduceLT, Nat.reduceLeDiff, Nat.reduceAdd, Nat.reduceMul, Int.reduceLE, F15, all2_length (snoc_all2 q4759 (nown_all h4707) (int64R i4526)), own_take (snoc_all2 q4759 (nown_all h4707) (int64R i4526)), nown_rd h4711, nown_len h4711, nown_cells h4711, nown_good h4711, nown_rd h4715, nown_len h4715, nown_cells h4715, nown_good h4715, nown_rd h4719, nown_len h4719, nown_cells h4719, nown_good h4719]
    refine j4499 _ _ _ (.sl 1 (n + 1) 0 v4758.length v4758.length false) (some (Option.getD rw4705 [] ++ [(.int .i64 a4518.txn)])) v4758 (nown_own (snoc_all2 q4759 (nown_all h4707) (int64R i4526)) (snoc_len q4759 (nown_all h4707) (int64R i4526))) x4708 rw4709 v4710 h4711 x4712 rw4713 v4714 h4715 x4716 rw4717 v4718 h4719 x4053 v4054 h4055 ?_ ho4062
    exact nm [0, 8, 2, 3, 4] [0, 3, 4] [x0, (.ep 5 (.sl 5 n 0 1 1 true) 0 0), (.int .i64 v4056)] (rc (.keep _ (slH_lt h0)) (rc (Rn.ptr (js := [0, 8, 2, 3, 4]) 0 0) (rc rki rn))) (RowsR.row 0 _ _ _ _ hp_get0 (rc (Rn.agg' (rc (.keep _ (slr_ltA _ _ _ h4055)) (rc (Rn.own (js := [0, 8, 2, 3, 4]) 8 1) (rc (nown_rn h4711 rfl) (rc (nown_rn h4715 rfl) (rc (nown_rn h4719 rfl) rn)))))) rn) (RowsR.row 8 _ _ _ _ (hp_get 8) (RnL.all2 (snoc_all2 q4759 (nown_all h4707) (int64R i4526)) int64_lt) (RowsR.opt 2 _ _ _ (.inr (hp_get 2)) (nown_rows h4711 int64_lt) (RowsR.opt 3 _ _ _ (.inr (hp_get 3)) (nown_rows h4715 int64_lt) (RowsR.opt 4 _ _ _ (.inr (hp_get 4)) (nown_rows h4719 tyHeld_140.lt) RowsR.nil)))))
    refine WQ.seq_k fun K4760 hK4760 => ?_
    refine rg0 hT ?_
    refine cn ho4062 (fun z4764 ho4062 => ?_) fun z4764 ho4062 => ?_
    refine WQ.skip ?_
    refine sg ?_
    refine kn hK4760 ?_
    clear hK4760 K4760
    refine cn ho4062 (fun z4765 ho4062 => ?_) fun z4765 ho4062 => ?_
    refine WQ.seq_k fun K4766 hK4766 => ?_
    obtain ⟨v4777, q4776, ho4062⟩ := obs ho4062
    refine WQ.drawL hT hM [(0, 0), (1, 0), (2, 0), (3, 0), (4, 1), (5, 0), (6, 1), (7, 2), (8, 0), (9, 0), (10, 2)] [10] (hp h n [some [(.agg [x4053, x4704, x4708, x4712, x4716])], rw4705, rw4709, rw4713, rw4717, some [(.agg [(.int .i64 a4518.kind), (.int .i64 a4518.txn), (.int .i64 a4518.key), (.bool a4518.had), (.int .i64 a4518.old), (.bool a4518.has), (.int .i64 a4518.new), (.int .i64 a4518.back)])], some [(.agg [(.int .i64 a4518.kind), (.int .i64 a4518.txn), (.int .i64 a4518.key), (.bool a4518.had), (.int .i64 a4518.old), (.bool a4518.has), (.int .i64 a4518.new), (.int .i64 a4518.back)])]]) ?_ rfl ?_ fun _ => ?_
    kernel_rfl
    simp only [go_sem]
    refine sq (a5 (nown_rd h4707) (nown_len h4707) (nown_cells h4707) (nown_good h4707) (a5 (nown_rd h4711) (nown_len h4711) (nown_cells h4711) (nown_good h4711) (a5 (nown_rd h4715) (nown_len h4715) (nown_cells h4715) (nown_good h4715) (a4 (nown_rd h4719) (nown_len h4719) (nown_cells h4719) (nown_good h4719))))) ?_
    refine w_s_l1Without (SlR.toH h4055) i4527 q4776 (fun y4778 h4779 => ?_)
    obtain ⟨es4780, a4781, l4782, b4783, F4784⟩ := sRo h4779
    refine sk (a5 F4784 (nown_rd h4707) (nown_len h4707) (nown_cells h4707) (a5 (nown_good h4707) (nown_rd h4711) (nown_len h4711) (nown_cells h4711) (a5 (nown_good h4711) (nown_rd h4715) (nown_len h4715) (nown_cells h4715) (a5 (nown_good h4715) (nown_rd h4719) (nown_len h4719) (nown_cells h4719) (nown_good h4719))))) ?_
    refine kn hK4766 ?_
    clear hK4766 K4766
    refine WQ.seq_k fun K4785 hK4785 => ?_
    refine rg0 hT ?_
    refine cn ho4062 (fun z4798 ho4062 => ?_) fun z4798 ho4062 => ?_
    obtain ⟨v4800, q4799, ho4062⟩ := obs ho4062
    refine WQ.drawL hT hM [(0, 0), (1, 0), (2, 0), (3, 0), (4, 1), (5, 0), (6, 1), (7, 0), (8, 1), (9, 2), (10, 0), (11, 0), (12, 2)] [12] (hp h n [some [(.agg [y4778, x4704, x4708, x4712, x4716])], rw4705, rw4709, rw4713, rw4717, some [(.agg [(.int .i64 a4518.kind), (.int .i64 a4518.txn), (.int .i64 a4518.key), (.bool a4518.had), (.int .i64 a4518.old), (.bool a4518.has), (.int .i64 a4518.new), (.int .i64 a4518.back)])], some [(.agg [(.int .i64 a4518.kind), (.int .i64 a4518.txn), (.int .i64 a4518.key), (.bool a4518.had), (.int .i64 a4518.old), (.bool a4518.has), (.int .i64 a4518.new), (.int .i64 a4518.back)])]]) ?_ rfl ?_ fun _ => ?_
    kernel_rfl
    simp only [go_sem]
    refine sq (a5 F4784 (nown_rd h4707) (nown_len h4707) (nown_cells h4707) (a5 (nown_good h4707) (nown_rd h4711) (nown_len h4711) (nown_cells h4711) (a5 (nown_good h4711) (nown_rd h4715) (nown_len h4715) (nown_cells h4715) (a5 (nown_good h4715) (nown_rd h4719) (nown_len h4719) (nown_cells h4719) (nown_good h4719))))) ?_
    refine w_s_l1With (SlR.toH h4779) i4527 i4529 q4799 (fun y4801 h4802 => ?_)
    obtain ⟨es4803, a4804, l4805, b4806, F4807⟩ := sRo h4802
    refine sk (a5 F4807 (nown_rd h4707) (nown_len h4707) (nown_cells h4707) (a5 (nown_good h4707) (nown_rd h4711) (nown_len h4711) (nown_cells h4711) (a5 (nown_good h4711) (nown_rd h4715) (nown_len h4715) (nown_cells h4715) (a5 (nown_good h4715) (nown_rd h4719) (nown_len h4719) (nown_cells h4719) (a2 (nown_good h4719) F4784))))) ?_
    refine kn hK4785 ?_
    clear hK4785 K4785
    refine WQ.seq_k fun K4808 hK4808 => ?_
    obtain ⟨v4811, q4812, ho4062⟩ := obs ho4062
    refine WQ.drawL hT hM [(0, 0), (1, 0), (2, 0), (3, 0), (4, 1), (5, 0), (6, 1), (7, 0), (8, 1), (9, 0), (10, 2), (11, 2), (12, 0), (13, 0), (14, 2)] [14] (hp h n [some [(.agg [y4801, x4704, x4708, x4712, x4716])], rw4705, rw4709, rw4713, none, some [(.agg [(.int .i64 a4518.kind), (.int .i64 a4518.txn), (.int .i64 a4518.key), (.bool a4518.had), (.int .i64 a4518.old), (.bool a4518.has), (.int .i64 a4518.new), (.int .i64 a4518.back)])], some [(.agg [(.int .i64 a4518.kind), (.int .i64 a4518.txn), (.int .i64 a4518.key), (.bool a4518.had), (.int .i64 a4518.old), (.bool a4518.has), (.int .i64 a4518.new), (.int .i64 a4518.back)])]]) ?_ rfl ?_ fun _ => ?_
    kernel_rfl
    simp only [go_sem]
    refine sq (a5 F4807 (nown_rd h4707) (nown_len h4707) (nown_cells h4707) (a5 (nown_good h4707) (nown_rd h4711) (nown_len h4711) (nown_cells h4711) (a5 (nown_good h4711) (nown_rd h4715) (nown_len h4715) (nown_cells h4715) (a5 (nown_good h4715) (nown_rd h4719) (nown_len h4719) (nown_cells h4719) (nown_good h4719))))) ?_
    refine ⟨140, rfl, app_nw1 (j := 4) h4719 (hp_get 4) rfl (of_decide_eq_true rfl) rfl ?_ q4812 (show HeldR (.agg [(.int .i64 a4518.txn), (.int .i64 a4518.key)]) (HeldD.mk a4518.txn a4518.key) from ⟨rfl, i4526, i4527⟩) ?_⟩
    exact sc (a5 F4807 (nown_rd h4707) (nown_len h4707) (nown_cells h4707) (a5 (nown_good h4707) (nown_rd h4711) (nown_len h4711) (nown_cells h4711) (a5 (nown_good h4711) (nown_rd h4715) (nown_len h4715) (nown_cells h4715) (a5 (nown_good h4715) (nown_rd h4719) (nown_len h4719) (nown_cells h4719) (nown_good h4719)))))
    refine sk (a5 F4807 (nown_rd h4707) (nown_len h4707) (nown_cells h4707) (a5 (nown_good h4707) (nown_rd h4711) (nown_len h4711) (nown_cells h4711) (a5 (nown_good h4711) (nown_rd h4715) (nown_len h4715) (nown_cells h4715) (a5 (nown_good h4715) (all2_length (snoc_all2 q4812 (nown_all h4719) (show HeldR (.agg [(.int .i64 a4518.txn), (.int .i64 a4518.key)]) (HeldD.mk a4518.txn a4518.key) from ⟨rfl, i4526, i4527⟩))) (own_take (snoc_all2 q4812 (nown_all h4719) (show HeldR (.agg [(.int .i64 a4518.txn), (.int .i64 a4518.key)]) (HeldD.mk a4518.txn a4518.key) from ⟨rfl, i4526, i4527⟩))) (nown_rd h4719) (a3 (nown_len h4719) (nown_cells h4719) (nown_good h4719)))))) ?_
    refine kn hK4808 ?_
    clear hK4808 K4808
    refine rg0 hT ?_
    refine cn ho4062 (fun z4814 ho4062 => ?_) fun z4814 ho4062 => ?_
    obtain ⟨v4815, q4816, ho4062⟩ := obs ho4062
    refine WQ.drawL hT hM [(0, 0), (1, 0), (2, 0), (3, 0), (4, 1), (5, 0), (6, 1), (7, 2), (8, 2), (9, 0), (10, 0), (11, 2)] [11] (hp h n [some [(.agg [y4801, x4704, x4708, x4712, (.sl 2 (n + 8) 0 v4811.length v4811.length false)])], rw4705, rw4709, none, none, some [(.agg [(.int .i64 a4518.kind), (.int .i64 a4518.txn), (.int .i64 a4518.key), (.bool a4518.had), (.int .i64 a4518.old), (.bool a4518.has), (.int .i64 a4518.new), (.int .i64 a4518.back)])], some [(.agg [(.int .i64 a4518.kind), (.int .i64 a4518.txn), (.int .i64 a4518.key), (.bool a4518.had), (.int .i64 a4518.old), (.bool a4518.has), (.int .i64 a4518.new), (.int .i64 a4518.back)])], some ([(.agg [(.int .i64 a4518.txn), (.int .i64 a4518.key)])]), some (Option.getD rw4717 [] ++ [(.agg [(.int .i64 a4518.txn), (.int .i64 a4518.key)])])]) ?_ rfl ?_ fun _ => ?_
    kernel_rfl
    simp only [go_sem]
    refine sq (a5 F4807 (nown_rd h4707) (nown_len h4707) (nown_cells h4707) (a5 (nown_good h4707) (nown_rd h4711) (nown_len h4711) (nown_cells h4711) (a5 (nown_good h4711) (nown_rd h4715) (nown_len h4715) (nown_cells h4715) (a3 (nown_good h4715) (all2_length (snoc_all2 q4812 (nown_all h4719) (show HeldR (.agg [(.int .i64 a4518.txn), (.int .i64 a4518.key)]) (HeldD.mk a4518.txn a4518.key) from ⟨rfl, i4526, i4527⟩))) (own_take (snoc_all2 q4812 (nown_all h4719) (show HeldR (.agg [(.int .i64 a4518.txn), (.int .i64 a4518.key)]) (HeldD.mk a4518.txn a4518.key) from ⟨rfl, i4526, i4527⟩))))))) ?_
    refine ⟨2, rfl, app_nw1 (j := 3) h4715 (hp_get 3) rfl (of_decide_eq_true rfl) rfl ?_ q4816 (int64R i4526) ?_⟩
    exact sc (a5 F4807 (nown_rd h4707) (nown_len h4707) (nown_cells h4707) (a5 (nown_good h4707) (nown_rd h4711) (nown_len h4711) (nown_cells h4711) (a5 (nown_good h4711) (nown_rd h4715) (nown_len h4715) (nown_cells h4715) (a3 (nown_good h4715) (all2_length (snoc_all2 q4812 (nown_all h4719) (show HeldR (.agg [(.int .i64 a4518.txn), (.int .i64 a4518.key)]) (HeldD.mk a4518.txn a4518.key) from ⟨rfl, i4526, i4527⟩))) (own_take (snoc_all2 q4812 (nown_all h4719) (show HeldR (.agg [(.int .i64 a4518.txn), (.int .i64 a4518.key)]) (HeldD.mk a4518.txn a4518.key) from ⟨rfl, i4526, i4527⟩)))))))
    refine sk (a5 F4807 (nown_rd h4707) (nown_len h4707) (nown_cells h4707) (a5 (nown_good h4707) (nown_rd h4711) (nown_len h4711) (nown_cells h4711) (a5 (nown_good h4711) (all2_length (snoc_all2 q4816 (nown_all h4715) (int64R i4526))) (own_take (snoc_all2 q4816 (nown_all h4715) (int64R i4526))) (all2_length (snoc_all2 q4812 (nown_all h4719) (show HeldR (.agg [(.int .i64 a4518.txn), (.int .i64 a4518.key)]) (HeldD.mk a4518.txn a4518.key) from ⟨rfl, i4526, i4527⟩))) (a5 (own_take (snoc_all2 q4812 (nown_all h4719) (show HeldR (.agg [(.int .i64 a4518.txn), (.int .i64 a4518.key)]) (HeldD.mk a4518.txn a4518.key) from ⟨rfl, i4526, i4527⟩))) (nown_rd h4715) (nown_len h4715) (nown_cells h4715) (nown_good h4715))))) ?_
    refine ⟨[], rfl, _, _, _, .keep _ _ _ _ (fun _ _ h => h), ?_⟩
    try unfold sealK
    try simp only [go_sem, ↓reduceIte, reduceCtorEq, Nat.reduceEqDiff, Nat.reduceLT, Nat.reduceLeDiff, Nat.reduceAdd, Nat.reduceMul, Int.reduceLE, F15, F4807, nown_rd h4707, nown_len h4707, nown_cells h4707, nown_good h4707, nown_rd h4711, nown_len h4711, nown_cells h4711, nown_good h4711, all2_length (snoc_all2 q4816 (nown_all h4715) (int64R i4526)), own_take (snoc_all2 q4816 (nown_all h4715) (int64R i4526)), all2_length (snoc_all2 q4812 (nown_all h4719) (show HeldR (.agg [(.int .i64 a4518.txn), (.int .i64 a4518.key)]) (HeldD.mk a4518.txn a4518.key) from ⟨rfl, i4526, i4527⟩)), own_take (snoc_all2 q4812 (nown_all h4719) (show HeldR (.agg [(.int .i64 a4518.txn), (.int .i64 a4518.key)]) (HeldD.mk a4518.txn a4518.key) from ⟨rfl, i4526, i4527⟩))]
    refine j4499 _ _ _ x4704 rw4705 v4706 h4707 x4708 rw4709 v4710 h4711 (.sl 1 (n + 3) 0 v4815.length v4815.length false) (some (Option.getD rw4713 [] ++ [(.int .i64 a4518.txn)])) v4815 (nown_own (snoc_all2 q4816 (nown_all h4715) (int64R i4526)) (snoc_len q4816 (nown_all h4715) (int64R i4526))) (.sl 2 (n + 4) 0 v4811.length v4811.length false) (some (Option.getD rw4717 [] ++ [(.agg [(.int .i64 a4518.txn), (.int .i64 a4518.key)])])) v4811 (nown_own (snoc_all2 q4812 (nown_all h4719) (show HeldR (.agg [(.int .i64 a4518.txn), (.int .i64 a4518.key)]) (HeldD.mk a4518.txn a4518.key) from ⟨rfl, i4526, i4527⟩)) (snoc_len q4812 (nown_all h4719) (show HeldR (.agg [(.int .i64 a4518.txn), (.int .i64 a4518.key)]) (HeldD.mk a4518.txn a4518.key) from ⟨rfl, i4526, i4527⟩))) y4801 v4800 h4802 ?_ ho4062
    exact nm [0, 1, 2, 10, 8] [0, 3, 4] [x0, (.ep 5 (.sl 5 n 0 1 1 true) 0 0), (.int .i64 v4056)] (rc (.keep _ (slH_lt h0)) (rc (Rn.ptr (js := [0, 1, 2, 10, 8]) 0 0) (rc rki rn))) (RowsR.row 0 _ _ _ _ hp_get0 (rc (Rn.agg' (rc (.keep _ (slr_ltA _ _ _ h4802)) (rc (nown_rn h4707 rfl) (rc (nown_rn h4711 rfl) (rc (Rn.own (js := [0, 1, 2, 10, 8]) 10 3) (rc (Rn.own (js := [0, 1, 2, 10, 8]) 8 4) rn)))))) rn) (RowsR.opt 1 _ _ _ (.inr (hp_get 1)) (nown_rows h4707 int64_lt) (RowsR.opt 2 _ _ _ (.inr (hp_get 2)) (nown_rows h4711 int64_lt) (RowsR.row 10 _ _ _ _ (hp_get 10) (RnL.all2 (snoc_all2 q4816 (nown_all h4715) (int64R i4526)) int64_lt) (RowsR.row 8 _ _ _ _ (hp_get 8) (RnL.all2 (snoc_all2 q4812 (nown_all h4719) (show HeldR (.agg [(.int .i64 a4518.txn), (.int .i64 a4518.key)]) (HeldD.mk a4518.txn a4518.key) from ⟨rfl, i4526, i4527⟩)) tyHeld_140.lt) RowsR.nil)))))
    refine WQ.skip ?_
    refine sg ?_
    refine ⟨[], rfl, _, _, _, .keep _ _ _ _ (fun _ _ h => h), ?_⟩
    try unfold sealK
    try simp only [go_sem, ↓reduceIte, reduceCtorEq, Nat.reduceEqDiff, Nat.reduceLT, Nat.reduceLeDiff, Nat.reduceAdd, Nat.reduceMul, Int.reduceLE, F15, F4807, nown_rd h4707, nown_len h4707, nown_cells h4707, nown_good h4707, nown_rd h4711, nown_len h4711, nown_cells h4711, nown_good h4711, nown_rd h4715, nown_len h4715, nown_cells h4715, nown_good h4715, all2_length (snoc_all2 q4812 (nown_all h4719) (show HeldR (.agg [(.int .i64 a4518.txn), (.int .i64 a4518.key)]) (HeldD.mk a4518.txn a4518.key) from ⟨rfl, i4526, i4527⟩)), own_take (snoc_all2 q4812 (nown_all h4719) (show HeldR (.agg [(.int .i64 a4518.txn), (.int .i64 a4518.key)]) (HeldD.mk a4518.txn a4518.key) from ⟨rfl, i4526, i4527⟩))]
    refine j4499 _ _ _ x4704 rw4705 v4706 h4707 x4708 rw4709 v4710 h4711 x4712 rw4713 v4714 h4715 (.sl 2 (n + 4) 0 v4811.length v4811.length false) (some (Option.getD rw4717 [] ++ [(.agg [(.int .i64 a4518.txn), (.int .i64 a4518.key)])])) v4811 (nown_own (snoc_all2 q4812 (nown_all h4719) (show HeldR (.agg [(.int .i64 a4518.txn), (.int .i64 a4518.key)]) (HeldD.mk a4518.txn a4518.key) from ⟨rfl, i4526, i4527⟩)) (snoc_len q4812 (nown_all h4719) (show HeldR (.agg [(.int .i64 a4518.txn), (.int .i64 a4518.key)]) (HeldD.mk a4518.txn a4518.key) from ⟨rfl, i4526, i4527⟩))) y4801 v4800 h4802 ?_ ho4062
    exact nm [0, 1, 2, 3, 8] [0, 3, 4] [x0, (.ep 5 (.sl 5 n 0 1 1 true) 0 0), (.int .i64 v4056)] (rc (.keep _ (slH_lt h0)) (rc (Rn.ptr (js := [0, 1, 2, 3, 8]) 0 0) (rc rki rn))) (RowsR.row 0 _ _ _ _ hp_get0 (rc (Rn.agg' (rc (.keep _ (slr_ltA _ _ _ h4802)) (rc (nown_rn h4707 rfl) (rc (nown_rn h4711 rfl) (rc (nown_rn h4715 rfl) (rc (Rn.own (js := [0, 1, 2, 3, 8]) 8 4) rn)))))) rn) (RowsR.opt 1 _ _ _ (.inr (hp_get 1)) (nown_rows h4707 int64_lt) (RowsR.opt 2 _ _ _ (.inr (hp_get 2)) (nown_rows h4711 int64_lt) (RowsR.opt 3 _ _ _ (.inr (hp_get 3)) (nown_rows h4715 int64_lt) (RowsR.row 8 _ _ _ _ (hp_get 8) (RnL.all2 (snoc_all2 q4812 (nown_all h4719) (show HeldR (.agg [(.int .i64 a4518.txn), (.int .i64 a4518.key)]) (HeldD.mk a4518.txn a4518.key) from ⟨rfl, i4526, i4527⟩)) tyHeld_140.lt) RowsR.nil)))))
    refine WQ.skip ?_
    refine sg ?_
    refine kn hK4785 ?_
    clear hK4785 K4785
    refine WQ.seq_k fun K4817 hK4817 => ?_
    obtain ⟨v4820, q4821, ho4062⟩ := obs ho4062
    refine WQ.drawL hT hM [(0, 0), (1, 0), (2, 0), (3, 0), (4, 1), (5, 0), (6, 1), (7, 0), (8, 1), (9, 0), (10, 2), (11, 2), (12, 0), (13, 0), (14, 2)] [14] (hp h n [some [(.agg [y4778, x4704, x4708, x4712, x4716])], rw4705, rw4709, rw4713, none, some [(.agg [(.int .i64 a4518.kind), (.int .i64 a4518.txn), (.int .i64 a4518.key), (.bool a4518.had), (.int .i64 a4518.old), (.bool a4518.has), (.int .i64 a4518.new), (.int .i64 a4518.back)])], some [(.agg [(.int .i64 a4518.kind), (.int .i64 a4518.txn), (.int .i64 a4518.key), (.bool a4518.had), (.int .i64 a4518.old), (.bool a4518.has), (.int .i64 a4518.new), (.int .i64 a4518.back)])]]) ?_ rfl ?_ fun _ => ?_
    kernel_rfl
    simp only [go_sem]
    refine sq (a5 F4784 (nown_rd h4707) (nown_len h4707) (nown_cells h4707) (a5 (nown_good h4707) (nown_rd h4711) (nown_len h4711) (nown_cells h4711) (a5 (nown_good h4711) (nown_rd h4715) (nown_len h4715) (nown_cells h4715) (a5 (nown_good h4715) (nown_rd h4719) (nown_len h4719) (nown_cells h4719) (nown_good h4719))))) ?_
    refine ⟨140, rfl, app_nw1 (j := 4) h4719 (hp_get 4) rfl (of_decide_eq_true rfl) rfl ?_ q4821 (show HeldR (.agg [(.int .i64 a4518.txn), (.int .i64 a4518.key)]) (HeldD.mk a4518.txn a4518.key) from ⟨rfl, i4526, i4527⟩) ?_⟩
    exact sc (a5 F4784 (nown_rd h4707) (nown_len h4707) (nown_cells h4707) (a5 (nown_good h4707) (nown_rd h4711) (nown_len h4711) (nown_cells h4711) (a5 (nown_good h4711) (nown_rd h4715) (nown_len h4715) (nown_cells h4715) (a5 (nown_good h4715) (nown_rd h4719) (nown_len h4719) (nown_cells h4719) (nown_good h4719)))))
    refine sk (a5 F4784 (nown_rd h4707) (nown_len h4707) (nown_cells h4707) (a5 (nown_good h4707) (nown_rd h4711) (nown_len h4711) (nown_cells h4711) (a5 (nown_good h4711) (nown_rd h4715) (nown_len h4715) (nown_cells h4715) (a5 (nown_good h4715) (all2_length (snoc_all2 q4821 (nown_all h4719) (show HeldR (.agg [(.int .i64 a4518.txn), (.int .i64 a4518.key)]) (HeldD.mk a4518.txn a4518.key) from ⟨rfl, i4526, i4527⟩))) (own_take (snoc_all2 q4821 (nown_all h4719) (show HeldR (.agg [(.int .i64 a4518.txn), (.int .i64 a4518.key)]) (HeldD.mk a4518.txn a4518.key) from ⟨rfl, i4526, i4527⟩))) (nown_rd h4719) (a3 (nown_len h4719) (nown_cells h4719) (nown_good h4719)))))) ?_
    refine kn hK4817 ?_
    clear hK4817 K4817
    refine rg0 hT ?_
    refine cn ho4062 (fun z4823 ho4062 => ?_) fun z4823 ho4062 => ?_
    obtain ⟨v4824, q4825, ho4062⟩ := obs ho4062
    refine WQ.drawL hT hM [(0, 0), (1, 0), (2, 0), (3, 0), (4, 1), (5, 0), (6, 1), (7, 2), (8, 2), (9, 0), (10, 0), (11, 2)] [11] (hp h n [some [(.agg [y4778, x4704, x4708, x4712, (.sl 2 (n + 8) 0 v4820.length v4820.length false)])], rw4705, rw4709, none, none, some [(.agg [(.int .i64 a4518.kind), (.int .i64 a4518.txn), (.int .i64 a4518.key), (.bool a4518.had), (.int .i64 a4518.old), (.bool a4518.has), (.int .i64 a4518.new), (.int .i64 a4518.back)])], some [(.agg [(.int .i64 a4518.kind), (.int .i64 a4518.txn), (.int .i64 a4518.key), (.bool a4518.had), (.int .i64 a4518.old), (.bool a4518.has), (.int .i64 a4518.new), (.int .i64 a4518.back)])], some ([(.agg [(.int .i64 a4518.txn), (.int .i64 a4518.key)])]), some (Option.getD rw4717 [] ++ [(.agg [(.int .i64 a4518.txn), (.int .i64 a4518.key)])])]) ?_ rfl ?_ fun _ => ?_
    kernel_rfl
    simp only [go_sem]
    refine sq (a5 F4784 (nown_rd h4707) (nown_len h4707) (nown_cells h4707) (a5 (nown_good h4707) (nown_rd h4711) (nown_len h4711) (nown_cells h4711) (a5 (nown_good h4711) (nown_rd h4715) (nown_len h4715) (nown_cells h4715) (a3 (nown_good h4715) (all2_length (snoc_all2 q4821 (nown_all h4719) (show HeldR (.agg [(.int .i64 a4518.txn), (.int .i64 a4518.key)]) (HeldD.mk a4518.txn a4518.key) from ⟨rfl, i4526, i4527⟩))) (own_take (snoc_all2 q4821 (nown_all h4719) (show HeldR (.agg [(.int .i64 a4518.txn), (.int .i64 a4518.key)]) (HeldD.mk a4518.txn a4518.key) from ⟨rfl, i4526, i4527⟩))))))) ?_
    refine ⟨2, rfl, app_nw1 (j := 3) h4715 (hp_get 3) rfl (of_decide_eq_true rfl) rfl ?_ q4825 (int64R i4526) ?_⟩
    exact sc (a5 F4784 (nown_rd h4707) (nown_len h4707) (nown_cells h4707) (a5 (nown_good h4707) (nown_rd h4711) (nown_len h4711) (nown_cells h4711) (a5 (nown_good h4711) (nown_rd h4715) (nown_len h4715) (nown_cells h4715) (a3 (nown_good h4715) (all2_length (snoc_all2 q4821 (nown_all h4719) (show HeldR (.agg [(.int .i64 a4518.txn), (.int .i64 a4518.key)]) (HeldD.mk a4518.txn a4518.key) from ⟨rfl, i4526, i4527⟩))) (own_take (snoc_all2 q4821 (nown_all h4719) (show HeldR (.agg [(.int .i64 a4518.txn), (.int .i64 a4518.key)]) (HeldD.mk a4518.txn a4518.key) from ⟨rfl, i4526, i4527⟩)))))))
    refine sk (a5 F4784 (nown_rd h4707) (nown_len h4707) (nown_cells h4707) (a5 (nown_good h4707) (nown_rd h4711) (nown_len h4711) (nown_cells h4711) (a5 (nown_good h4711) (all2_length (snoc_all2 q4825 (nown_all h4715) (int64R i4526))) (own_take (snoc_all2 q4825 (nown_all h4715) (int64R i4526))) (all2_length (snoc_all2 q4821 (nown_all h4719) (show HeldR (.agg [(.int .i64 a4518.txn), (.int .i64 a4518.key)]) (HeldD.mk a4518.txn a4518.key) from ⟨rfl, i4526, i4527⟩))) (a5 (own_take (snoc_all2 q4821 (nown_all h4719) (show HeldR (.agg [(.int .i64 a4518.txn), (.int .i64 a4518.key)]) (HeldD.mk a4518.txn a4518.key) from ⟨rfl, i4526, i4527⟩))) (nown_rd h4715) (nown_len h4715) (nown_cells h4715) (nown_good h4715))))) ?_
    refine ⟨[], rfl, _, _, _, .keep _ _ _ _ (fun _ _ h => h), ?_⟩
    try unfold sealK
    try simp only [go_sem, ↓reduceIte, reduceCtorEq, Nat.reduceEqDiff, Nat.reduceLT, Nat.reduceLeDiff, Nat.reduceAdd, Nat.reduceMul, Int.reduceLE, F15, F4784, nown_rd h4707, nown_len h4707, nown_cells h4707, nown_good h4707, nown_rd h4711, nown_len h4711, nown_cells h4711, nown_good h4711, all2_length (snoc_all2 q4825 (nown_all h4715) (int64R i4526)), own_take (snoc_all2 q4825 (nown_all h4715) (int64R i4526)), all2_length (snoc_all2 q4821 (nown_all h4719) (show HeldR (.agg [(.int .i64 a4518.txn), (.int .i64 a4518.key)]) (HeldD.mk a4518.txn a4518.key) from ⟨rfl, i4526, i4527⟩)), own_take (snoc_all2 q4821 (nown_all h4719) (show HeldR (.agg [(.int .i64 a4518.txn), (.int .i64 a4518.key)]) (HeldD.mk a4518.txn a4518.key) from ⟨rfl, i4526, i4527⟩))]
    refine j4499 _ _ _ x4704 rw4705 v4706 h4707 x4708 rw4709 v4710 h4711 (.sl 1 (n + 3) 0 v4824.length v4824.length false) (some (Option.getD rw4713 [] ++ [(.int .i64 a4518.txn)])) v4824 (nown_own (snoc_all2 q4825 (nown_all h4715) (int64R i4526)) (snoc_len q4825 (nown_all h4715) (int64R i4526))) (.sl 2 (n + 4) 0 v4820.length v4820.length false) (some (Option.getD rw4717 [] ++ [(.agg [(.int .i64 a4518.txn), (.int .i64 a4518.key)])])) v4820 (nown_own (snoc_all2 q4821 (nown_all h4719) (show HeldR (.agg [(.int .i64 a4518.txn), (.int .i64 a4518.key)]) (HeldD.mk a4518.txn a4518.key) from ⟨rfl, i4526, i4527⟩)) (snoc_len q4821 (nown_all h4719) (show HeldR (.agg [(.int .i64 a4518.txn), (.int .i64 a4518.key)]) (HeldD.mk a4518.txn a4518.key) from ⟨rfl, i4526, i4527⟩))) y4778 v4777 h4779 ?_ ho4062
    exact nm [0, 1, 2, 10, 8] [0, 3, 4] [x0, (.ep 5 (.sl 5 n 0 1 1 true) 0 0), (.int .i64 v4056)] (rc (.keep _ (slH_lt h0)) (rc (Rn.ptr (js := [0, 1, 2, 10, 8]) 0 0) (rc rki rn))) (RowsR.row 0 _ _ _ _ hp_get0 (rc (Rn.agg' (rc (.keep _ (slr_ltA _ _ _ h4779)) (rc (nown_rn h4707 rfl) (rc (nown_rn h4711 rfl) (rc (Rn.own (js := [0, 1, 2, 10, 8]) 10 3) (rc (Rn.own (js := [0, 1, 2, 10, 8]) 8 4) rn)))))) rn) (RowsR.opt 1 _ _ _ (.inr (hp_get 1)) (nown_rows h4707 int64_lt) (RowsR.opt 2 _ _ _ (.inr (hp_get 2)) (nown_rows h4711 int64_lt) (RowsR.row 10 _ _ _ _ (hp_get 10) (RnL.all2 (snoc_all2 q4825 (nown_all h4715) (int64R i4526)) int64_lt) (RowsR.row 8 _ _ _ _ (hp_get 8) (RnL.all2 (snoc_all2 q4821 (nown_all h4719) (show HeldR (.agg [(.int .i64 a4518.txn), (.int .i64 a4518.key)]) (HeldD.mk a4518.txn a4518.key) from ⟨rfl, i4526, i4527⟩)) tyHeld_140.lt) RowsR.nil)))))
    refine WQ.skip ?_
    refine sg ?_
    refine ⟨[], rfl, _, _, _, .keep _ _ _ _ (fun _ _ h => h), ?_⟩
    try unfold sealK
    try simp only [go_sem, ↓reduceIte, reduceCtorEq, Nat.reduceEqDiff, Nat.reduceLT, Nat.reduceLeDiff, Nat.reduceAdd, Nat.reduceMul, Int.reduceLE, F15, F4784, nown_rd h4707, nown_len h4707, nown_cells h4707, nown_good h4707, nown_rd h4711, nown_len h4711, nown_cells h4711, nown_good h4711, nown_rd h4715, nown_len h4715, nown_cells h4715, nown_good h4715, all2_length (snoc_all2 q4821 (nown_all h4719) (show HeldR (.agg [(.int .i64 a4518.txn), (.int .i64 a4518.key)]) (HeldD.mk a4518.txn a4518.key) from ⟨rfl, i4526, i4527⟩)), own_take (snoc_all2 q4821 (nown_all h4719) (show HeldR (.agg [(.int .i64 a4518.txn), (.int .i64 a4518.key)]) (HeldD.mk a4518.txn a4518.key) from ⟨rfl, i4526, i4527⟩))]
    refine j4499 _ _ _ x4704 rw4705 v4706 h4707 x4708 rw4709 v4710 h4711 x4712 rw4713 v4714 h4715 (.sl 2 (n + 4) 0 v4820.length v4820.length false) (some (Option.getD rw4717 [] ++ [(.agg [(.int .i64 a4518.txn), (.int .i64 a4518.key)])])) v4820 (nown_own (snoc_all2 q4821 (nown_all h4719) (show HeldR (.agg [(.int .i64 a4518.txn), (.int .i64 a4518.key)]) (HeldD.mk a4518.txn a4518.key) from ⟨rfl, i4526, i4527⟩)) (snoc_len q4821 (nown_all h4719) (show HeldR (.agg [(.int .i64 a4518.txn), (.int .i64 a4518.key)]) (HeldD.mk a4518.txn a4518.key) from ⟨rfl, i4526, i4527⟩))) y4778 v4777 h4779 ?_ ho4062
    exact nm [0, 1, 2, 3, 8] [0, 3, 4] [x0, (.ep 5 (.sl 5 n 0 1 1 true) 0 0), (.int .i64 v4056)] (rc (.keep _ (slH_lt h0)) (rc (Rn.ptr (js := [0, 1, 2, 3, 8]) 0 0) (rc rki rn))) (RowsR.row 0 _ _ _ _ hp_get0 (rc (Rn.agg' (rc (.keep _ (slr_ltA _ _ _ h4779)) (rc (nown_rn h4707 rfl) (rc (nown_rn h4711 rfl) (rc (nown_rn h4715 rfl) (rc (Rn.own (js := [0, 1, 2, 3, 8]) 8 4) rn)))))) rn) (RowsR.opt 1 _ _ _ (.inr (hp_get 1)) (nown_rows h4707 int64_lt) (RowsR.opt 2 _ _ _ (.inr (hp_get 2)) (nown_rows h4711 int64_lt) (RowsR.opt 3 _ _ _ (.inr (hp_get 3)) (nown_rows h4715 int64_lt) (RowsR.row 8 _ _ _ _ (hp_get 8) (RnL.all2 (snoc_all2 q4821 (nown_all h4719) (show HeldR (.agg [(.int .i64 a4518.txn), (.int .i64 a4518.key)]) (HeldD.mk a4518.txn a4518.key) from ⟨rfl, i4526, i4527⟩)) tyHeld_140.lt) RowsR.nil)))))
    refine WQ.seq_k fun K4826 hK4826 => ?_
    refine rg0 hT ?_
    refine cn ho4062 (fun z4830 ho4062 => ?_) fun z4830 ho4062 => ?_
    refine WQ.skip ?_
    refine sg ?_
    refine kn hK4826 ?_
    clear hK4826 K4826
    refine cn ho4062 (fun z4831 ho4062 => ?_) fun z4831 ho4062 => ?_
    obtain ⟨v4832, q4833, ho4062⟩ := obs ho4062
    refine WQ.drawL hT hM [(0, 0), (1, 0), (2, 0), (3, 0), (4, 1), (5, 0), (6, 1), (7, 2), (8, 2), (9, 0), (10, 0), (11, 2)] [11] (hp h n [some [(.agg [x4053, x4704, x4708, x4712, x4716])], rw4705, none, rw4713, rw4717, some [(.agg [(.int .i64 a4518.kind), (.int .i64 a4518.txn), (.int .i64 a4518.key), (.bool a4518.had), (.int .i64 a4518.old), (.bool a4518.has), (.int .i64 a4518.new), (.int .i64 a4518.back)])], some [(.agg [(.int .i64 a4518.kind), (.int .i64 a4518.txn), (.int .i64 a4518.key), (.bool a4518.had), (.int .i64 a4518.old), (.bool a4518.has), (.int .i64 a4518.new), (.int .i64 a4518.back)])]]) ?_ rfl ?_ fun _ => ?_
    kernel_rfl
    simp only [go_sem]
    refine sq (a5 (nown_rd h4707) (nown_len h4707) (nown_cells h4707) (nown_good h4707) (a5 (nown_rd h4711) (nown_len h4711) (nown_cells h4711) (nown_good h4711) (a5 (nown_rd h4715) (nown_len h4715) (nown_cells h4715) (nown_good h4715) (a4 (nown_rd h4719) (nown_len h4719) (nown_cells h4719) (nown_good h4719))))) ?_
    refine ⟨2, rfl, app_nw1 (j := 2) h4711 (hp_get 2) rfl (of_decide_eq_true rfl) rfl ?_ q4833 (int64R i4526) ?_⟩
    exact sc (a5 (nown_rd h4707) (nown_len h4707) (nown_cells h4707) (nown_good h4707) (a5 (nown_rd h4711) (nown_len h4711) (nown_cells h4711) (nown_good h4711) (a5 (nown_rd h4715) (nown_len h4715) (nown_cells h4715) (nown_good h4715) (a4 (nown_rd h4719) (nown_len h4719) (nown_cells h4719) (nown_good h4719)))))
    refine sk (a5 (nown_rd h4707) (nown_len h4707) (nown_cells h4707) (nown_good h4707) (a5 (all2_length (snoc_all2 q4833 (nown_all h4711) (int64R i4526))) (own_take (snoc_all2 q4833 (nown_all h4711) (int64R i4526))) (nown_rd h4715) (nown_len h4715) (a5 (nown_cells h4715) (nown_good h4715) (nown_rd h4719) (nown_len h4719) (a5 (nown_cells h4719) (nown_good h4719) (nown_rd h4711) (nown_len h4711) (a2 (nown_cells h4711) (nown_good h4711)))))) ?_
    refine ⟨[], rfl, _, _, _, .keep _ _ _ _ (fun _ _ h => h), ?_⟩
    try unfold sealK
    try simp only [go_sem, ↓reduceIte, reduceCtorEq, Nat.reduceEqDiff, Nat.reduceLT, Nat.reduceLeDiff, Nat.reduceAdd, Nat.reduceMul, Int.reduceLE, F15, nown_rd h4707, nown_len h4707, nown_cells h4707, nown_good h4707, all2_length (snoc_all2 q4833 (nown_all h4711) (int64R i4526)), own_take (snoc_all2 q4833 (nown_all h4711) (int64R i4526)), nown_rd h4715, nown_len h4715, nown_cells h4715, nown_good h4715, nown_rd h4719, nown_len h4719, nown_cells h4719, nown_good h4719]
    refine j4499 _ _ _ x4704 rw4705 v4706 h4707 (.sl 1 (n + 2) 0 v4832.length v4832.length false) (some (Option.getD rw4709 [] ++ [(.int .i64 a4518.txn)])) v4832 (nown_own (snoc_all2 q4833 (nown_all h4711) (int64R i4526)) (snoc_len q4833 (nown_all h4711) (int64R i4526))) x4712 rw4713 v4714 h4715 x4716 rw4717 v4718 h4719 x4053 v4054 h4055 ?_ ho4062
    exact nm [0, 1, 8, 3, 4] [0, 3, 4] [x0, (.ep 5 (.sl 5 n 0 1 1 true) 0 0), (.int .i64 v4056)] (rc (.keep _ (slH_lt h0)) (rc (Rn.ptr (js := [0, 1, 8, 3, 4]) 0 0) (rc rki rn))) (RowsR.row 0 _ _ _ _ hp_get0 (rc (Rn.agg' (rc (.keep _ (slr_ltA _ _ _ h4055)) (rc (nown_rn h4707 rfl) (rc (Rn.own (js := [0, 1, 8, 3, 4]) 8 2) (rc (nown_rn h4715 rfl) (rc (nown_rn h4719 rfl) rn)))))) rn) (RowsR.opt 1 _ _ _ (.inr (hp_get 1)) (nown_rows h4707 int64_lt) (RowsR.row 8 _ _ _ _ (hp_get 8) (RnL.all2 (snoc_all2 q4833 (nown_all h4711) (int64R i4526)) int64_lt) (RowsR.opt 3 _ _ _ (.inr (hp_get 3)) (nown_rows h4715 int64_lt) (RowsR.opt 4 _ _ _ (.inr (hp_get 4)) (nown_rows h4719 tyHeld_140.lt) RowsR.nil)))))
    refine WQ.skip ?_
    refine sg ?_
    refine ⟨[], rfl, _, _, _, .keep _ _ _ _ (fun _ _ h => h), ?_⟩
    try unfold sealK
    try simp only [go_sem, ↓reduceIte, reduceCtorEq, Nat.reduceEqDiff, Nat.reduceLT, Nat.reduceLeDiff, Nat.reduceAdd, Nat.reduceMul, Int.reduceLE, F15, nown_rd h4707, nown_len h4707, nown_cells h4707, nown_good h4707, nown_rd h4711, nown_len h4711, nown_cells h4711, nown_good h4711, nown_rd h4715, nown_len h4715, nown_cells h4715, nown_good h4715, nown_rd h4719, nown_len h4719, nown_cells h4719, nown_good h4719]
    refine j4499 _ _ _ x4704 rw4705 v4706 h4707 x4708 rw4709 v4710 h4711 x4712 rw4713 v4714 h4715 x4716 rw4717 v4718 h4719 x4053 v4054 h4055 ?_ ho4062
    exact nm [0, 1, 2, 3, 4] [0, 3, 4] [x0, (.ep 5 (.sl 5 n 0 1 1 true) 0 0), (.int .i64 v4056)] (rc (.keep _ (slH_lt h0)) (rc (Rn.ptr (js := [0, 1, 2, 3, 4]) 0 0) (rc rki rn))) (RowsR.row 0 _ _ _ _ hp_get0 (rc (Rn.agg' (rc (.keep _ (slr_ltA _ _ _ h4055)) (rc (nown_rn h4707 rfl) (rc (nown_rn h4711 rfl) (rc (nown_rn h4715 rfl) (rc (nown_rn h4719 rfl) rn)))))) rn) (RowsR.opt 1 _ _ _ (.inr (hp_get 1)) (nown_rows h4707 int64_lt) (RowsR.opt 2 _ _ _ (.inr (hp_get 2)) (nown_rows h4711 int64_lt) (RowsR.opt 3 _ _ _ (.inr (hp_get 3)) (nown_rows h4715 int64_lt) (RowsR.opt 4 _ _ _ (.inr (hp_get 4)) (nown_rows h4719 tyHeld_140.lt) RowsR.nil)))))
    refine WQ.region hT rfl ?_
    refine sq0 ?_
    refine kn hK4826 ?_
    clear hK4826 K4826
    refine cn ho4062 (fun z4834 ho4062 => ?_) fun z4834 ho4062 => ?_
    obtain ⟨v4835, q4836, ho4062⟩ := obs ho4062
    refine WQ.drawL hT hM [(0, 0), (1, 0), (2, 0), (3, 0), (4, 1), (5, 0), (6, 1), (7, 2), (8, 2), (9, 0), (10, 0), (11, 2)] [11] (hp h n [some [(.agg [x4053, x4704, x4708, x4712, x4716])], rw4705, none, rw4713, rw4717, some [(.agg [(.int .i64 a4518.kind), (.int .i64 a4518.txn), (.int .i64 a4518.key), (.bool a4518.had), (.int .i64 a4518.old), (.bool a4518.has), (.int .i64 a4518.new), (.int .i64 a4518.back)])], some [(.agg [(.int .i64 a4518.kind), (.int .i64 a4518.txn), (.int .i64 a4518.key), (.bool a4518.had), (.int .i64 a4518.old), (.bool a4518.has), (.int .i64 a4518.new), (.int .i64 a4518.back)])]]) ?_ rfl ?_ fun _ => ?_
    kernel_rfl
    simp only [go_sem]
    refine sq (a5 (nown_rd h4707) (nown_len h4707) (nown_cells h4707) (nown_good h4707) (a5 (nown_rd h4711) (nown_len h4711) (nown_cells h4711) (nown_good h4711) (a5 (nown_rd h4715) (nown_len h4715) (nown_cells h4715) (nown_good h4715) (a4 (nown_rd h4719) (nown_len h4719) (nown_cells h4719) (nown_good h4719))))) ?_
    refine ⟨2, rfl, app_nw1 (j := 2) h4711 (hp_get 2) rfl (of_decide_eq_true rfl) rfl ?_ q4836 (int64R i4526) ?_⟩
    exact sc (a5 (nown_rd h4707) (nown_len h4707) (nown_cells h4707) (nown_good h4707) (a5 (nown_rd h4711) (nown_len h4711) (nown_cells h4711) (nown_good h4711) (a5 (nown_rd h4715) (nown_len h4715) (nown_cells h4715) (nown_good h4715) (a4 (nown_rd h4719) (nown_len h4719) (nown_cells h4719) (nown_good h4719)))))
    refine sk (a5 (nown_rd h4707) (nown_len h4707) (nown_cells h4707) (nown_good h4707) (a5 (all2_length (snoc_all2 q4836 (nown_all h4711) (int64R i4526))) (own_take (snoc_all2 q4836 (nown_all h4711) (int64R i4526))) (nown_rd h4715) (nown_len h4715) (a5 (nown_cells h4715) (nown_good h4715) (nown_rd h4719) (nown_len h4719) (a5 (nown_cells h4719) (nown_good h4719) (nown_rd h4711) (nown_len h4711) (a2 (nown_cells h4711) (nown_good h4711)))))) ?_
    refine ⟨[], rfl, _, _, _, .keep _ _ _ _ (fun _ _ h => h), ?_⟩
    try unfold sealK
    try simp only [go_sem, ↓reduceIte, reduceCtorEq, Nat.reduceEqDiff, Nat.reduceLT, Nat.reduceLeDiff, Nat.reduceAdd, Nat.reduceMul, Int.reduceLE, F15, nown_rd h4707, nown_len h4707, nown_cells h4707, nown_good h4707, all2_length (snoc_all2 q4836 (nown_all h4711) (int64R i4526)), own_take (snoc_all2 q4836 (nown_all h4711) (int64R i4526)), nown_rd h4715, nown_len h4715, nown_cells h4715, nown_good h4715, nown_rd h4719, nown_len h4719, nown_cells h4719, nown_good h4719]
    refine j4499 _ _ _ x4704 rw4705 v4706 h4707 (.sl 1 (n + 2) 0 v4835.length v4835.length false) (some (Option.getD rw4709 [] ++ [(.int .i64 a4518.txn)])) v4835 (nown_own (snoc_all2 q4836 (nown_all h4711) (int64R i4526)) (snoc_len q4836 (nown_all h4711) (int64R i4526))) x4712 rw4713 v4714 h4715 x4716 rw4717 v4718 h4719 x4053 v4054 h4055 ?_ ho4062
    exact nm [0, 1, 8, 3, 4] [0, 3, 4] [x0, (.ep 5 (.sl 5 n 0 1 1 true) 0 0), (.int .i64 v4056)] (rc (.keep _ (slH_lt h0)) (rc (Rn.ptr (js := [0, 1, 8, 3, 4]) 0 0) (rc rki rn))) (RowsR.row 0 _ _ _ _ hp_get0 (rc (Rn.agg' (rc (.keep _ (slr_ltA _ _ _ h4055)) (rc (nown_rn h4707 rfl) (rc (Rn.own (js := [0, 1, 8, 3, 4]) 8 2) (rc (nown_rn h4715 rfl) (rc (nown_rn h4719 rfl) rn)))))) rn) (RowsR.opt 1 _ _ _ (.inr (hp_get 1)) (nown_rows h4707 int64_lt) (RowsR.row 8 _ _ _ _ (hp_get 8) (RnL.all2 (snoc_all2 q4836 (nown_all h4711) (int64R i4526)) int64_lt) (RowsR.opt 3 _ _ _ (.inr (hp_get 3)) (nown_rows h4715 int64_lt) (RowsR.opt 4 _ _ _ (.inr (hp_get 4)) (nown_rows h4719 tyHeld_140.lt) RowsR.nil)))))
    refine WQ.skip ?_
    refine sg ?_
    refine ⟨[], rfl, _, _, _, .keep _ _ _ _ (fun _ _ h => h), ?_⟩
    try unfold sealK
    try simp only [go_sem, ↓reduceIte, reduceCtorEq, Nat.reduceEqDiff, Nat.reduceLT, Nat.reduceLeDiff, Nat.reduceAdd, Nat.reduceMul, Int.reduceLE, F15, nown_rd h4707, nown_len h4707, nown_cells h4707, nown_good h4707, nown_rd h4711, nown_len h4711, nown_cells h4711, nown_good h4711, nown_rd h4715, nown_len h4715, nown_cells h4715, nown_good h4715, nown_rd h4719, nown_len h4719, nown_cells h4719, nown_good h4719]
    refine j4499 _ _ _ x4704 rw4705 v4706 h4707 x4708 rw4709 v4710 h4711 x4712 rw4713 v4714 h4715 x4716 rw4717 v4718 h4719 x4053 v4054 h4055 ?_ ho4062
    exact nm [0, 1, 2, 3, 4] [0, 3, 4] [x0, (.ep 5 (.sl 5 n 0 1 1 true) 0 0), (.int .i64 v4056)] (rc (.keep _ (slH_lt h0)) (rc (Rn.ptr (js := [0, 1, 2, 3, 4]) 0 0) (rc rki rn))) (RowsR.row 0 _ _ _ _ hp_get0 (rc (Rn.agg' (rc (.keep _ (slr_ltA _ _ _ h4055)) (rc (nown_rn h4707 rfl) (rc (nown_rn h4711 rfl) (rc (nown_rn h4715 rfl) (rc (nown_rn h4719 rfl) rn)))))) rn) (RowsR.opt 1 _ _ _ (.inr (hp_get 1)) (nown_rows h4707 int64_lt) (RowsR.opt 2 _ _ _ (.inr (hp_get 2)) (nown_rows h4711 int64_lt) (RowsR.opt 3 _ _ _ (.inr (hp_get 3)) (nown_rows h4715 int64_lt) (RowsR.opt 4 _ _ _ (.inr (hp_get 4)) (nown_rows h4719 tyHeld_140.lt) RowsR.nil)))))
    refine WQ.region hT rfl ?_
    refine sq0 ?_
    refine kn hK4760 ?_
    clear hK4760 K4760
    refine cn ho4062 (fun z4837 ho4062 => ?_) fun z4837 ho4062 => ?_
    refine WQ.seq_k fun K4838 hK4838 => ?_
    obtain ⟨v4849, q4848, ho4062⟩ := obs ho4062
    refine WQ.drawL hT hM [(0, 0), (1, 0), (2, 0), (3, 0), (4, 1), (5, 0), (6, 1), (7, 2), (8, 0), (9, 0), (10, 2)] [10] (hp h n [some [(.agg [x4053, x4704, x4708, x4712, x4716])], rw4705, rw4709, rw4713, rw4717, some [(.agg [(.int .i64 a4518.kind), (.int .i64 a4518.txn), (.int .i64 a4518.key), (.bool a4518.had), (.int .i64 a4518.old), (.bool a4518.has), (.int .i64 a4518.new), (.int .i64 a4518.back)])], some [(.agg [(.int .i64 a4518.kind), (.int .i64 a4518.txn), (.int .i64 a4518.key), (.bool a4518.had), (.int .i64 a4518.old), (.bool a4518.has), (.int .i64 a4518.new), (.int .i64 a4518.back)])]]) ?_ rfl ?_ fun _ => ?_
    kernel_rfl
    simp only [go_sem]
    refine sq (a5 (nown_rd h4707) (nown_len h4707) (nown_cells h4707) (nown_good h4707) (a5 (nown_rd h4711) (nown_len h4711) (nown_cells h4711) (nown_good h4711) (a5 (nown_rd h4715) (nown_len h4715) (nown_cells h4715) (nown_good h4715) (a4 (nown_rd h4719) (nown_len h4719) (nown_cells h4719) (nown_good h4719))))) ?_
    refine w_s_l1Without (SlR.toH h4055) i4527 q4848 (fun y4850 h4851 => ?_)
    obtain ⟨es4852, a4853, l4854, b4855, F4856⟩ := sRo h4851
    refine sk (a5 F4856 (nown_rd h4707) (nown_len h4707) (nown_cells h4707) (a5 (nown_good h4707) (nown_rd h4711) (nown_len h4711) (nown_cells h4711) (a5 (nown_good h4711) (nown_rd h4715) (nown_len h4715) (nown_cells h4715) (a5 (nown_good h4715) (nown_rd h4719) (nown_len h4719) (nown_cells h4719) (nown_good h4719))))) ?_
    refine kn hK4838 ?_
    clear hK4838 K4838
    refine WQ.seq_k fun K4857 hK4857 => ?_
    refine rg0 hT ?_
    refine cn ho4062 (fun z4870 ho4062 => ?_) fun z4870 ho4062 => ?_
    obtain ⟨v4872, q4871, ho4062⟩ := obs ho4062
    refine WQ.drawL hT hM [(0, 0), (1, 0), (2, 0), (3, 0), (4, 1), (5, 0), (6, 1), (7, 0), (8, 1), (9, 2), (10, 0), (11, 0), (12, 2)] [12] (hp h n [some [(.agg [y4850, x4704, x4708, x4712, x4716])], rw4705, rw4709, rw4713, rw4717, some [(.agg [(.int .i64 a4518.kind), (.int .i64 a4518.txn), (.int .i64 a4518.key), (.bool a4518.had), (.int .i64 a4518.old), (.bool a4518.has), (.int .i64 a4518.new), (.int .i64 a4518.back)])], some [(.agg [(.int .i64 a4518.kind), (.int .i64 a4518.txn), (.int .i64 a4518.key), (.bool a4518.had), (.int .i64 a4518.old), (.bool a4518.has), (.int .i64 a4518.new), (.int .i64 a4518.back)])]]) ?_ rfl ?_ fun _ => ?_
    kernel_rfl
    simp only [go_sem]
    refine sq (a5 F4856 (nown_rd h4707) (nown_len h4707) (nown_cells h4707) (a5 (nown_good h4707) (nown_rd h4711) (nown_len h4711) (nown_cells h4711) (a5 (nown_good h4711) (nown_rd h4715) (nown_len h4715) (nown_cells h4715) (a5 (nown_good h4715) (nown_rd h4719) (nown_len h4719) (nown_cells h4719) (nown_good h4719))))) ?_
    refine w_s_l1With (SlR.toH h4851) i4527 i4529 q4871 (fun y4873 h4874 => ?_)
    obtain ⟨es4875, a4876, l4877, b4878, F4879⟩ := sRo h4874
    refine sk (a5 F4879 (nown_rd h4707) (nown_len h4707) (nown_cells h4707) (a5 (nown_good h4707) (nown_rd h4711) (nown_len h4711) (nown_cells h4711) (a5 (nown_good h4711) (nown_rd h4715) (nown_len h4715) (nown_cells h4715) (a5 (nown_good h4715) (nown_rd h4719) (nown_len h4719) (nown_cells h4719) (a2 (nown_good h4719) F4856))))) ?_
    refine kn hK4857 ?_
    clear hK4857 K4857
    refine WQ.seq_k fun K4880 hK4880 => ?_
    obtain ⟨v4883, q4884, ho4062⟩ := obs ho4062
    refine WQ.drawL hT hM [(0, 0), (1, 0), (2, 0), (3, 0), (4, 1), (5, 0), (6, 1), (7, 0), (8, 1), (9, 0), (10, 2), (11, 2), (12, 0), (13, 0), (14, 2)] [14] (hp h n [some [(.agg [y4873, x4704, x4708, x4712, x4716])], rw4705, rw4709, rw4713, none, some [(.agg [(.int .i64 a4518.kind), (.int .i64 a4518.txn), (.int .i64 a4518.key), (.bool a4518.had), (.int .i64 a4518.old), (.bool a4518.has), (.int .i64 a4518.new), (.int .i64 a4518.back)])], some [(.agg [(.int .i64 a4518.kind), (.int .i64 a4518.txn), (.int .i64 a4518.key), (.bool a4518.had), (.int .i64 a4518.old), (.bool a4518.has), (.int .i64 a4518.new), (.int .i64 a4518.back)])]]) ?_ rfl ?_ fun _ => ?_
    kernel_rfl
    simp only [go_sem]
    refine sq (a5 F4879 (nown_rd h4707) (nown_len h4707) (nown_cells h4707) (a5 (nown_good h4707) (nown_rd h4711) (nown_len h4711) (nown_cells h4711) (a5 (nown_good h4711) (nown_rd h4715) (nown_len h4715) (nown_cells h4715) (a5 (nown_good h4715) (nown_rd h4719) (nown_len h4719) (nown_cells h4719) (nown_good h4719))))) ?_
    refine ⟨140, rfl, app_nw1 (j := 4) h4719 (hp_get 4) rfl (of_decide_eq_true rfl) rfl ?_ q4884 (show HeldR (.agg [(.int .i64 a4518.txn), (.int .i64 a4518.key)]) (HeldD.mk a4518.txn a4518.key) from ⟨rfl, i4526, i4527⟩) ?_⟩
    exact sc (a5 F4879 (nown_rd h4707) (nown_len h4707) (nown_cells h4707) (a5 (nown_good h4707) (nown_rd h4711) (nown_len h4711) (nown_cells h4711) (a5 (nown_good h4711) (nown_rd h4715) (nown_len h4715) (nown_cells h4715) (a5 (nown_good h4715) (nown_rd h4719) (nown_len h4719) (nown_cells h4719) (nown_good h4719)))))
    refine sk (a5 F4879 (nown_rd h4707) (nown_len h4707) (nown_cells h4707) (a5 (nown_good h4707) (nown_rd h4711) (nown_len h4711) (nown_cells h4711) (a5 (nown_good h4711) (nown_rd h4715) (nown_len h4715) (nown_cells h4715) (a5 (nown_good h4715) (all2_length (snoc_all2 q4884 (nown_all h4719) (show HeldR (.agg [(.int .i64 a4518.txn), (.int .i64 a4518.key)]) (HeldD.mk a4518.txn a4518.key) from ⟨rfl, i4526, i4527⟩))) (own_take (snoc_all2 q4884 (nown_all h4719) (show HeldR (.agg [(.int .i64 a4518.txn), (.int .i64 a4518.key)]) (HeldD.mk a4518.txn a4518.key) from ⟨rfl, i4526, i4527⟩))) (nown_rd h4719) (a3 (nown_len h4719) (nown_cells h4719) (nown_good h4719)))))) ?_
    refine kn hK4880 ?_
    clear hK4880 K4880
    refine rg0 hT ?_
    refine cn ho4062 (fun z4886 ho4062 => ?_) fun z4886 ho4062 => ?_
    obtain ⟨v4887, q4888, ho4062⟩ := obs ho4062
    refine WQ.drawL hT hM [(0, 0), (1, 0), (2, 0), (3, 0), (4, 1), (5, 0), (6, 1), (7, 2), (8, 2), (9, 0), (10, 0), (11, 2)] [11] (hp h n [some [(.agg [y4873, x4704, x4708, x4712, (.sl 2 (n + 8) 0 v4883.length v4883.length false)])], rw4705, rw4709, none, none, some [(.agg [(.int .i64 a4518.kind), (.int .i64 a4518.txn), (.int .i64 a4518.key), (.bool a4518.had), (.int .i64 a4518.old), (.bool a4518.has), (.int .i64 a4518.new), (.int .i64 a4518.back)])], some [(.agg [(.int .i64 a4518.kind), (.int .i64 a4518.txn), (.int .i64 a4518.key), (.bool a4518.had), (.int .i64 a4518.old), (.bool a4518.has), (.int .i64 a4518.new), (.int .i64 a4518.back)])], some ([(.agg [(.int .i64 a4518.txn), (.int .i64 a4518.key)])]), some (Option.getD rw4717 [] ++ [(.agg [(.int .i64 a4518.txn), (.int .i64 a4518.key)])])]) ?_ rfl ?_ fun _ => ?_
    kernel_rfl
    simp only [go_sem]
    refine sq (a5 F4879 (nown_rd h4707) (nown_len h4707) (nown_cells h4707) (a5 (nown_good h4707) (nown_rd h4711) (nown_len h4711) (nown_cells h4711) (a5 (nown_good h4711) (nown_rd h4715) (nown_len h4715) (nown_cells h4715) (a3 (nown_good h4715) (all2_length (snoc_all2 q4884 (nown_all h4719) (show HeldR (.agg [(.int .i64 a4518.txn), (.int .i64 a4518.key)]) (HeldD.mk a4518.txn a4518.key) from ⟨rfl, i4526, i4527⟩))) (own_take (snoc_all2 q4884 (nown_all h4719) (show HeldR (.agg [(.int .i64 a4518.txn), (.int .i64 a4518.key)]) (HeldD.mk a4518.txn a4518.key) from ⟨rfl, i4526, i4527⟩))))))) ?_
    refine ⟨2, rfl, app_nw1 (j := 3) h4715 (hp_get 3) rfl (of_decide_eq_true rfl) rfl ?_ q4888 (int64R i4526) ?_⟩
    exact sc (a5 F4879 (nown_rd h4707) (nown_len h4707) (nown_cells h4707) (a5 (nown_good h4707) (nown_rd h4711) (nown_len h4711) (nown_cells h4711) (a5 (nown_good h4711) (nown_rd h4715) (nown_len h4715) (nown_cells h4715) (a3 (nown_good h4715) (all2_length (snoc_all2 q4884 (nown_all h4719) (show HeldR (.agg [(.int .i64 a4518.txn), (.int .i64 a4518.key)]) (HeldD.mk a4518.txn a4518.key) from ⟨rfl, i4526, i4527⟩))) (own_take (snoc_all2 q4884 (nown_all h4719) (show HeldR (.agg [(.int .i64 a4518.txn), (.int .i64 a4518.key)]) (HeldD.mk a4518.txn a4518.key) from ⟨rfl, i4526, i4527⟩)))))))
    refine sk (a5 F4879 (nown_rd h4707) (nown_len h4707) (nown_cells h4707) (a5 (nown_good h4707) (nown_rd h4711) (nown_len h4711) (nown_cells h4711) (a5 (nown_good h4711) (all2_length (snoc_all2 q4888 (nown_all h4715) (int64R i4526))) (own_take (snoc_all2 q4888 (nown_all h4715) (int64R i4526))) (all2_length (snoc_all2 q4884 (nown_all h4719) (show HeldR (.agg [(.int .i64 a4518.txn), (.int .i64 a4518.key)]) (HeldD.mk a4518.txn a4518.key) from ⟨rfl, i4526, i4527⟩))) (a5 (own_take (snoc_all2 q4884 (nown_all h4719) (show HeldR (.agg [(.int .i64 a4518.txn), (.int .i64 a4518.key)]) (HeldD.mk a4518.txn a4518.key) from ⟨rfl, i4526, i4527⟩))) (nown_rd h4715) (nown_len h4715) (nown_cells h4715) (nown_good h4715))))) ?_
    refine ⟨[], rfl, _, _, _, .keep _ _ _ _ (fun _ _ h => h), ?_⟩
    try unfold sealK
    try simp only [go_sem, ↓reduceIte, reduceCtorEq, Nat.reduceEqDiff, Nat.reduceLT, Nat.reduceLeDiff, Nat.reduceAdd, Nat.reduceMul, Int.reduceLE, F15, F4879, nown_rd h4707, nown_len h4707, nown_cells h4707, nown_good h4707, nown_rd h4711, nown_len h4711, nown_cells h4711, nown_good h4711, all2_length (snoc_all2 q4888 (nown_all h4715) (int64R i4526)), own_take (snoc_all2 q4888 (nown_all h4715) (int64R i4526)), all2_length (snoc_all2 q4884 (nown_all h4719) (show HeldR (.agg [(.int .i64 a4518.txn), (.int .i64 a4518.key)]) (HeldD.mk a4518.txn a4518.key) from ⟨rfl, i4526, i4527⟩)), own_take (snoc_all2 q4884 (nown_all h4719) (show HeldR (.agg [(.int .i64 a4518.txn), (.int .i64 a4518.key)]) (HeldD.mk a4518.txn a4518.key) from ⟨rfl, i4526, i4527⟩))]
    refine j4499 _ _ _ x4704 rw4705 v4706 h4707 x4708 rw4709 v4710 h4711 (.sl 1 (n + 3) 0 v4887.length v4887.length false) (some (Option.getD rw4713 [] ++ [(.int .i64 a4518.txn)])) v4887 (nown_own (snoc_all2 q4888 (nown_all h4715) (int64R i4526)) (snoc_len q4888 (nown_all h4715) (int64R i4526))) (.sl 2 (n + 4) 0 v4883.length v4883.length false) (some (Option.getD rw4717 [] ++ [(.agg [(.int .i64 a4518.txn), (.int .i64 a4518.key)])])) v4883 (nown_own (snoc_all2 q4884 (nown_all h4719) (show HeldR (.agg [(.int .i64 a4518.txn), (.int .i64 a4518.key)]) (HeldD.mk a4518.txn a4518.key) from ⟨rfl, i4526, i4527⟩)) (snoc_len q4884 (nown_all h4719) (show HeldR (.agg [(.int .i64 a4518.txn), (.int .i64 a4518.key)]) (HeldD.mk a4518.txn a4518.key) from ⟨rfl, i4526, i4527⟩))) y4873 v4872 h4874 ?_ ho4062
    exact nm [0, 1, 2, 10, 8] [0, 3, 4] [x0, (.ep 5 (.sl 5 n 0 1 1 true) 0 0), (.int .i64 v4056)] (rc (.keep _ (slH_lt h0)) (rc (Rn.ptr (js := [0, 1, 2, 10, 8]) 0 0) (rc rki rn))) (RowsR.row 0 _ _ _ _ hp_get0 (rc (Rn.agg' (rc (.keep _ (slr_ltA _ _ _ h4874)) (rc (nown_rn h4707 rfl) (rc (nown_rn h4711 rfl) (rc (Rn.own (js := [0, 1, 2, 10, 8]) 10 3) (rc (Rn.own (js := [0, 1, 2, 10, 8]) 8 4) rn)))))) rn) (RowsR.opt 1 _ _ _ (.inr (hp_get 1)) (nown_rows h4707 int64_lt) (RowsR.opt 2 _ _ _ (.inr (hp_get 2)) (nown_rows h4711 int64_lt) (RowsR.row 10 _ _ _ _ (hp_get 10) (RnL.all2 (snoc_all2 q4888 (nown_all h4715) (int64R i4526)) int64_lt) (RowsR.row 8 _ _ _ _ (hp_get 8) (RnL.all2 (snoc_all2 q4884 (nown_all h4719) (show HeldR (.agg [(.int .i64 a4518.txn), (.int .i64 a4518.key)]) (HeldD.mk a4518.txn a4518.key) from ⟨rfl, i4526, i4527⟩)) tyHeld_140.lt) RowsR.nil)))))
    refine WQ.skip ?_
    refine sg ?_
    refine ⟨[], rfl, _, _, _, .keep _ _ _ _ (fun _ _ h => h), ?_⟩
    try unfold sealK
    try simp only [go_sem, ↓reduceIte, reduceCtorEq, Nat.reduceEqDiff, Nat.reduceLT, Nat.reduceLeDiff, Nat.reduceAdd, Nat.reduceMul, Int.reduceLE, F15, F4879, nown_rd h4707, nown_len h4707, nown_cells h4707, nown_good h4707, nown_rd h4711, nown_len h4711, nown_cells h4711, nown_good h4711, nown_rd h4715, nown_len h4715, nown_cells h4715, nown_good h4715, all2_length (snoc_all2 q4884 (nown_all h4719) (show HeldR (.agg [(.int .i64 a4518.txn), (.int .i64 a4518.key)]) (HeldD.mk a4518.txn a4518.key) from ⟨rfl, i4526, i4527⟩)), own_take (snoc_all2 q4884 (nown_all h4719) (show HeldR (.agg [(.int .i64 a4518.txn), (.int .i64 a4518.key)]) (HeldD.mk a4518.txn a4518.key) from ⟨rfl, i4526, i4527⟩))]
    refine j4499 _ _ _ x4704 rw4705 v4706 h4707 x4708 rw4709 v4710 h4711 x4712 rw4713 v4714 h4715 (.sl 2 (n + 4) 0 v4883.length v4883.length false) (some (Option.getD rw4717 [] ++ [(.agg [(.int .i64 a4518.txn), (.int .i64 a4518.key)])])) v4883 (nown_own (snoc_all2 q4884 (nown_all h4719) (show HeldR (.agg [(.int .i64 a4518.txn), (.int .i64 a4518.key)]) (HeldD.mk a4518.txn a4518.key) from ⟨rfl, i4526, i4527⟩)) (snoc_len q4884 (nown_all h4719) (show HeldR (.agg [(.int .i64 a4518.txn), (.int .i64 a4518.key)]) (HeldD.mk a4518.txn a4518.key) from ⟨rfl, i4526, i4527⟩))) y4873 v4872 h4874 ?_ ho4062
    exact nm [0, 1, 2, 3, 8] [0, 3, 4] [x0, (.ep 5 (.sl 5 n 0 1 1 true) 0 0), (.int .i64 v4056)] (rc (.keep _ (slH_lt h0)) (rc (Rn.ptr (js := [0, 1, 2, 3, 8]) 0 0) (rc rki rn))) (RowsR.row 0 _ _ _ _ hp_get0 (rc (Rn.agg' (rc (.keep _ (slr_ltA _ _ _ h4874)) (rc (nown_rn h4707 rfl) (rc (nown_rn h4711 rfl) (rc (nown_rn h4715 rfl) (rc (Rn.own (js := [0, 1, 2, 3, 8]) 8 4) rn)))))) rn) (RowsR.opt 1 _ _ _ (.inr (hp_get 1)) (nown_rows h4707 int64_lt) (RowsR.opt 2 _ _ _ (.inr (hp_get 2)) (nown_rows h4711 int64_lt) (RowsR.opt 3 _ _ _ (.inr (hp_get 3)) (nown_rows h4715 int64_lt) (RowsR.row 8 _ _ _ _ (hp_get 8) (RnL.all2 (snoc_all2 q4884 (nown_all h4719) (show HeldR (.agg [(.int .i64 a4518.txn), (.int .i64 a4518.key)]) (HeldD.mk a4518.txn a4518.key) from ⟨rfl, i4526, i4527⟩)) tyHeld_140.lt) RowsR.nil)))))
    refine WQ.skip ?_
    refine sg ?_
    refine kn hK4857 ?_
    clear hK4857 K4857
    refine WQ.seq_k fun K4889 hK4889 => ?_
    obtain ⟨v4892, q4893, ho4062⟩ := obs ho4062
    refine WQ.drawL hT hM [(0, 0), (1, 0), (2, 0), (3, 0), (4, 1), (5, 0), (6, 1), (7, 0), (8, 1), (9, 0), (10, 2), (11, 2), (12, 0), (13, 0), (14, 2)] [14] (hp h n [some [(.agg [y4850, x4704, x4708, x4712, x4716])], rw4705, rw4709, rw4713, none, some [(.agg [(.int .i64 a4518.kind), (.int .i64 a4518.txn), (.int .i64 a4518.key), (.bool a4518.had), (.int .i64 a4518.old), (.bool a4518.has), (.int .i64 a4518.new), (.int .i64 a4518.back)])], some [(.agg [(.int .i64 a4518.kind), (.int .i64 a4518.txn), (.int .i64 a4518.key), (.bool a4518.had), (.int .i64 a4518.old), (.bool a4518.has), (.int .i64 a4518.new), (.int .i64 a4518.back)])]]) ?_ rfl ?_ fun _ => ?_
    kernel_rfl
    simp only [go_sem]
    refine sq (a5 F4856 (nown_rd h4707) (nown_len h4707) (nown_cells h4707) (a5 (nown_good h4707) (nown_rd h4711) (nown_len h4711) (nown_cells h4711) (a5 (nown_good h4711) (nown_rd h4715) (nown_len h4715) (nown_cells h4715) (a5 (nown_good h4715) (nown_rd h4719) (nown_len h4719) (nown_cells h4719) (nown_good h4719))))) ?_
    refine ⟨140, rfl, app_nw1 (j := 4) h4719 (hp_get 4) rfl (of_decide_eq_true rfl) rfl ?_ q4893 (show HeldR (.agg [(.int .i64 a4518.txn), (.int .i64 a4518.key)]) (HeldD.mk a4518.txn a4518.key) from ⟨rfl, i4526, i4527⟩) ?_⟩
    exact sc (a5 F4856 (nown_rd h4707) (nown_len h4707) (nown_cells h4707) (a5 (nown_good h4707) (nown_rd h4711) (nown_len h4711) (nown_cells h4711) (a5 (nown_good h4711) (nown_rd h4715) (nown_len h4715) (nown_cells h4715) (a5 (nown_good h4715) (nown_rd h4719) (nown_len h4719) (nown_cells h4719) (nown_good h4719)))))
    refine sk (a5 F4856 (nown_rd h4707) (nown_len h4707) (nown_cells h4707) (a5 (nown_good h4707) (nown_rd h4711) (nown_len h4711) (nown_cells h4711) (a5 (nown_good h4711) (nown_rd h4715) (nown_len h4715) (nown_cells h4715) (a5 (nown_good h4715) (all2_length (snoc_all2 q4893 (nown_all h4719) (show HeldR (.agg [(.int .i64 a4518.txn), (.int .i64 a4518.key)]) (HeldD.mk a4518.txn a4518.key) from ⟨rfl, i4526, i4527⟩))) (own_take (snoc_all2 q4893 (nown_all h4719) (show HeldR (.agg [(.int .i64 a4518.txn), (.int .i64 a4518.key)]) (HeldD.mk a4518.txn a4518.key) from ⟨rfl, i4526, i4527⟩))) (nown_rd h4719) (a3 (nown_len h4719) (nown_cells h4719) (nown_good h4719)))))) ?_
    refine kn hK4889 ?_
    clear hK4889 K4889
    refine rg0 hT ?_
    refine cn ho4062 (fun z4895 ho4062 => ?_) fun z4895 ho4062 => ?_
    obtain ⟨v4896, q4897, ho4062⟩ := obs ho4062
    refine WQ.drawL hT hM [(0, 0), (1, 0), (2, 0), (3, 0), (4, 1), (5, 0), (6, 1), (7, 2), (8, 2), (9, 0), (10, 0), (11, 2)] [11] (hp h n [some [(.agg [y4850, x4704, x4708, x4712, (.sl 2 (n + 8) 0 v4892.length v4892.length false)])], rw4705, rw4709, none, none, some [(.agg [(.int .i64 a4518.kind), (.int .i64 a4518.txn), (.int .i64 a4518.key), (.bool a4518.had), (.int .i64 a4518.old), (.bool a4518.has), (.int .i64 a4518.new), (.int .i64 a4518.back)])], some [(.agg [(.int .i64 a4518.kind), (.int .i64 a4518.txn), (.int .i64 a4518.key), (.bool a4518.had), (.int .i64 a4518.old), (.bool a4518.has), (.int .i64 a4518.new), (.int .i64 a4518.back)])], some ([(.agg [(.int .i64 a4518.txn), (.int .i64 a4518.key)])]), some (Option.getD rw4717 [] ++ [(.agg [(.int .i64 a4518.txn), (.int .i64 a4518.key)])])]) ?_ rfl ?_ fun _ => ?_
    kernel_rfl
    simp only [go_sem]
    refine sq (a5 F4856 (nown_rd h4707) (nown_len h4707) (nown_cells h4707) (a5 (nown_good h4707) (nown_rd h4711) (nown_len h4711) (nown_cells h4711) (a5 (nown_good h4711) (nown_rd h4715) (nown_len h4715) (nown_cells h4715) (a3 (nown_good h4715) (all2_length (snoc_all2 q4893 (nown_all h4719) (show HeldR (.agg [(.int .i64 a4518.txn), (.int .i64 a4518.key)]) (HeldD.mk a4518.txn a4518.key) from ⟨rfl, i4526, i4527⟩))) (own_take (snoc_all2 q4893 (nown_all h4719) (show HeldR (.agg [(.int .i64 a4518.txn), (.int .i64 a4518.key)]) (HeldD.mk a4518.txn a4518.key) from ⟨rfl, i4526, i4527⟩))))))) ?_
    refine ⟨2, rfl, app_nw1 (j := 3) h4715 (hp_get 3) rfl (of_decide_eq_true rfl) rfl ?_ q4897 (int64R i4526) ?_⟩
    exact sc (a5 F4856 (nown_rd h4707) (nown_len h4707) (nown_cells h4707) (a5 (nown_good h4707) (nown_rd h4711) (nown_len h4711) (nown_cells h4711) (a5 (nown_good h4711) (nown_rd h4715) (nown_len h4715) (nown_cells h4715) (a3 (nown_good h4715) (all2_length (snoc_all2 q4893 (nown_all h4719) (show HeldR (.agg [(.int .i64 a4518.txn), (.int .i64 a4518.key)]) (HeldD.mk a4518.txn a4518.key) from ⟨rfl, i4526, i4527⟩))) (own_take (snoc_all2 q4893 (nown_all h4719) (show HeldR (.agg [(.int .i64 a4518.txn), (.int .i64 a4518.key)]) (HeldD.mk a4518.txn a4518.key) from ⟨rfl, i4526, i4527⟩)))))))
    refine sk (a5 F4856 (nown_rd h4707) (nown_len h4707) (nown_cells h4707) (a5 (nown_good h4707) (nown_rd h4711) (nown_len h4711) (nown_cells h4711) (a5 (nown_good h4711) (all2_length (snoc_all2 q4897 (nown_all h4715) (int64R i4526))) (own_take (snoc_all2 q4897 (nown_all h4715) (int64R i4526))) (all2_length (snoc_all2 q4893 (nown_all h4719) (show HeldR (.agg [(.int .i64 a4518.txn), (.int .i64 a4518.key)]) (HeldD.mk a4518.txn a4518.key) from ⟨rfl, i4526, i4527⟩))) (a5 (own_take (snoc_all2 q4893 (nown_all h4719) (show HeldR (.agg [(.int .i64 a4518.txn), (.int .i64 a4518.key)]) (HeldD.mk a4518.txn a4518.key) from ⟨rfl, i4526, i4527⟩))) (nown_rd h4715) (nown_len h4715) (nown_cells h4715) (nown_good h4715))))) ?_
    refine ⟨[], rfl, _, _, _, .keep _ _ _ _ (fun _ _ h => h), ?_⟩
    try unfold sealK
    try simp only [go_sem, ↓reduceIte, reduceCtorEq, Nat.reduceEqDiff, Nat.reduceLT, Nat.reduceLeDiff, Nat.reduceAdd, Nat.reduceMul, Int.reduceLE, F15, F4856, nown_rd h4707, nown_len h4707, nown_cells h4707, nown_good h4707, nown_rd h4711, nown_len h4711, nown_cells h4711, nown_good h4711, all2_length (snoc_all2 q4897 (nown_all h4715) (int64R i4526)), own_take (snoc_all2 q4897 (nown_all h4715) (int64R i4526)), all2_length (snoc_all2 q4893 (nown_all h4719) (show HeldR (.agg [(.int .i64 a4518.txn), (.int .i64 a4518.key)]) (HeldD.mk a4518.txn a4518.key) from ⟨rfl, i4526, i4527⟩)), own_take (snoc_all2 q4893 (nown_all h4719) (show HeldR (.agg [(.int .i64 a4518.txn), (.int .i64 a4518.key)]) (HeldD.mk a4518.txn a4518.key) from ⟨rfl, i4526, i4527⟩))]
    refine j4499 _ _ _ x4704 rw4705 v4706 h4707 x4708 rw4709 v4710 h4711 (.sl 1 (n + 3) 0 v4896.length v4896.length false) (some (Option.getD rw4713 [] ++ [(.int .i64 a4518.txn)])) v4896 (nown_own (snoc_all2 q4897 (nown_all h4715) (int64R i4526)) (snoc_len q4897 (nown_all h4715) (int64R i4526))) (.sl 2 (n + 4) 0 v4892.length v4892.length false) (some (Option.getD rw4717 [] ++ [(.agg [(.int .i64 a4518.txn), (.int .i64 a4518.key)])])) v4892 (nown_own (snoc_all2 q4893 (nown_all h4719) (show HeldR (.agg [(.int .i64 a4518.txn), (.int .i64 a4518.key)]) (HeldD.mk a4518.txn a4518.key) from ⟨rfl, i4526, i4527⟩)) (snoc_len q4893 (nown_all h4719) (show HeldR (.agg [(.int .i64 a4518.txn), (.int .i64 a4518.key)]) (HeldD.mk a4518.txn a4518.key) from ⟨rfl, i4526, i4527⟩))) y4850 v4849 h4851 ?_ ho4062
    exact nm [0, 1, 2, 10, 8] [0, 3, 4] [x0, (.ep 5 (.sl 5 n 0 1 1 true) 0 0), (.int .i64 v4056)] (rc (.keep _ (slH_lt h0)) (rc (Rn.ptr (js := [0, 1, 2, 10, 8]) 0 0) (rc rki rn))) (RowsR.row 0 _ _ _ _ hp_get0 (rc (Rn.agg' (rc (.keep _ (slr_ltA _ _ _ h4851)) (rc (nown_rn h4707 rfl) (rc (nown_rn h4711 rfl) (rc (Rn.own (js := [0, 1, 2, 10, 8]) 10 3) (rc (Rn.own (js := [0, 1, 2, 10, 8]) 8 4) rn)))))) rn) (RowsR.opt 1 _ _ _ (.inr (hp_get 1)) (nown_rows h4707 int64_lt) (RowsR.opt 2 _ _ _ (.inr (hp_get 2)) (nown_rows h4711 int64_lt) (RowsR.row 10 _ _ _ _ (hp_get 10) (RnL.all2 (snoc_all2 q4897 (nown_all h4715) (int64R i4526)) int64_lt) (RowsR.row 8 _ _ _ _ (hp_get 8) (RnL.all2 (snoc_all2 q4893 (nown_all h4719) (show HeldR (.agg [(.int .i64 a4518.txn), (.int .i64 a4518.key)]) (HeldD.mk a4518.txn a4518.key) from ⟨rfl, i4526, i4527⟩)) tyHeld_140.lt) RowsR.nil)))))
    refine WQ.skip ?_
    refine sg ?_
    refine ⟨[], rfl, _, _, _, .keep _ _ _ _ (fun _ _ h => h), ?_⟩
    try unfold sealK
    try simp only [go_sem, ↓reduceIte, reduceCtorEq, Nat.reduceEqDiff, Nat.reduceLT, Nat.reduceLeDiff, Nat.reduceAdd, Nat.reduceMul, Int.reduceLE, F15, F4856, nown_rd h4707, nown_len h4707, nown_cells h4707, nown_good h4707, nown_rd h4711, nown_len h4711, nown_cells h4711, nown_good h4711, nown_rd h4715, nown_len h4715, nown_cells h4715, nown_good h4715, all2_length (snoc_all2 q4893 (nown_all h4719) (show HeldR (.agg [(.int .i64 a4518.txn), (.int .i64 a4518.key)]) (HeldD.mk a4518.txn a4518.key) from ⟨rfl, i4526, i4527⟩)), own_take (snoc_all2 q4893 (nown_all h4719) (show HeldR (.agg [(.int .i64 a4518.txn), (.int .i64 a4518.key)]) (HeldD.mk a4518.txn a4518.key) from ⟨rfl, i4526, i4527⟩))]
    refine j4499 _ _ _ x4704 rw4705 v4706 h4707 x4708 rw4709 v4710 h4711 x4712 rw4713 v4714 h4715 (.sl 2 (n + 4) 0 v4892.length v4892.length false) (some (Option.getD rw4717 [] ++ [(.agg [(.int .i64 a4518.txn), (.int .i64 a4518.key)])])) v4892 (nown_own (snoc_all2 q4893 (nown_all h4719) (show HeldR (.agg [(.int .i64 a4518.txn), (.int .i64 a4518.key)]) (HeldD.mk a4518.txn a4518.key) from ⟨rfl, i4526, i4527⟩)) (snoc_len q4893 (nown_all h4719) (show HeldR (.agg [(.int .i64 a4518.txn), (.int .i64 a4518.key)]) (HeldD.mk a4518.txn a4518.key) from ⟨rfl, i4526, i4527⟩))) y4850 v4849 h4851 ?_ ho4062
    exact nm [0, 1, 2, 3, 8] [0, 3, 4] [x0, (.ep 5 (.sl 5 n 0 1 1 true) 0 0), (.int .i64 v4056)] (rc (.keep _ (slH_lt h0)) (rc (Rn.ptr (js := [0, 1, 2, 3, 8]) 0 0) (rc rki rn))) (RowsR.row 0 _ _ _ _ hp_get0 (rc (Rn.agg' (rc (.keep _ (slr_ltA _ _ _ h4851)) (rc (nown_rn h4707 rfl) (rc (nown_rn h4711 rfl) (rc (nown_rn h4715 rfl) (rc (Rn.own (js := [0, 1, 2, 3, 8]) 8 4) rn)))))) rn) (RowsR.opt 1 _ _ _ (.inr (hp_get 1)) (nown_rows h4707 int64_lt) (RowsR.opt 2 _ _ _ (.inr (hp_get 2)) (nown_rows h4711 int64_lt) (RowsR.opt 3 _ _ _ (.inr (hp_get 3)) (nown_rows h4715 int64_lt) (RowsR.row 8 _ _ _ _ (hp_get 8) (RnL.all2 (snoc_all2 q4893 (nown_all h4719) (show HeldR (.agg [(.int .i64 a4518.txn), (.int .i64 a4518.key)]) (HeldD.mk a4518.txn a4518.key) from ⟨rfl, i4526, i4527⟩)) tyHeld_140.lt) RowsR.nil)))))
    refine WQ.seq_k fun K4898 hK4898 => ?_
    refine rg0 hT ?_
    refine cn ho4062 (fun z4902 ho4062 => ?_) fun z4902 ho4062 => ?_
    refine WQ.skip ?_
    refine sg ?_
    refine kn hK4898 ?_
    clear hK4898 K4898
    refine cn ho4062 (fun z4903 ho4062 => ?_) fun z4903 ho4062 => ?_
    obtain ⟨v4904, q4905, ho4062⟩ := obs ho4062
    refine WQ.drawL hT hM [(0, 0), (1, 0), (2, 0), (3, 0), (4, 1), (5, 0), (6, 1), (7, 2), (8, 2), (9, 0), (10, 0), (11, 2)] [11] (hp h n [some [(.agg [x4053, x4704, x4708, x4712, x4716])], rw4705, none, rw4713, rw4717, some [(.agg [(.int .i64 a4518.kind), (.int .i64 a4518.txn), (.int .i64 a4518.key), (.bool a4518.had), (.int .i64 a4518.old), (.bool a4518.has), (.int .i64 a4518.new), (.int .i64 a4518.back)])], some [(.agg [(.int .i64 a4518.kind), (.int .i64 a4518.txn), (.int .i64 a4518.key), (.bool a4518.had), (.int .i64 a4518.old), (.bool a4518.has), (.int .i64 a4518.new), (.int .i64 a4518.back)])]]) ?_ rfl ?_ fun _ => ?_
    kernel_rfl
    simp only [go_sem]
    refine sq (a5 (nown_rd h4707) (nown_len h4707) (nown_cells h4707) (nown_good h4707) (a5 (nown_rd h4711) (nown_len h4711) (nown_cells h4711) (nown_good h4711) (a5 (nown_rd h4715) (nown_len h4715) (nown_cells h4715) (nown_good h4715) (a4 (nown_rd h4719) (nown_len h4719) (nown_cells h4719) (nown_good h4719))))) ?_
    refine ⟨2, rfl, app_nw1 (j := 2) h4711 (hp_get 2) rfl (of_decide_eq_true rfl) rfl ?_ q4905 (int64R i4526) ?_⟩
    exact sc (a5 (nown_rd h4707) (nown_len h4707) (nown_cells h4707) (nown_good h4707) (a5 (nown_rd h4711) (nown_len h4711) (nown_cells h4711) (nown_good h4711) (a5 (nown_rd h4715) (nown_len h4715) (nown_cells h4715) (nown_good h4715) (a4 (nown_rd h4719) (nown_len h4719) (nown_cells h4719) (nown_good h4719)))))
    refine sk (a5 (nown_rd h4707) (nown_len h4707) (nown_cells h4707) (nown_good h4707) (a5 (all2_length (snoc_all2 q4905 (nown_all h4711) (int64R i4526))) (own_take (snoc_all2 q4905 (nown_all h4711) (int64R i4526))) (nown_rd h4715) (nown_len h4715) (a5 (nown_cells h4715) (nown_good h4715) (nown_rd h4719) (nown_len h4719) (a5 (nown_cells h4719) (nown_good h4719) (nown_rd h4711) (nown_len h4711) (a2 (nown_cells h4711) (nown_good h4711)))))) ?_
    refine ⟨[], rfl, _, _, _, .keep _ _ _ _ (fun _ _ h => h), ?_⟩
    try unfold sealK
    try simp only [go_sem, ↓reduceIte, reduceCtorEq, Nat.reduceEqDiff, Nat.reduceLT, Nat.reduceLeDiff, Nat.reduceAdd, Nat.reduceMul, Int.reduceLE, F15, nown_rd h4707, nown_len h4707, nown_cells h4707, nown_good h4707, all2_length (snoc_all2 q4905 (nown_all h4711) (int64R i4526)), own_take (snoc_all2 q4905 (nown_all h4711) (int64R i4526)), nown_rd h4715, nown_len h4715, nown_cells h4715, nown_good h4715, nown_rd h4719, nown_len h4719, nown_cells h4719, nown_good h4719]
    refine j4499 _ _ _ x4704 rw4705 v4706 h4707 (.sl 1 (n + 2) 0 v4904.length v4904.length false) (some (Option.getD rw4709 [] ++ [(.int .i64 a4518.txn)])) v4904 (nown_own (snoc_all2 q4905 (nown_all h4711) (int64R i4526)) (snoc_len q4905 (nown_all h4711) (int64R i4526))) x4712 rw4713 v4714 h4715 x4716 rw4717 v4718 h4719 x4053 v4054 h4055 ?_ ho4062
    exact nm [0, 1, 8, 3, 4] [0, 3, 4] [x0, (.ep 5 (.sl 5 n 0 1 1 true) 0 0), (.int .i64 v4056)] (rc (.keep _ (slH_lt h0)) (rc (Rn.ptr (js := [0, 1, 8, 3, 4]) 0 0) (rc rki rn))) (RowsR.row 0 _ _ _ _ hp_get0 (rc (Rn.agg' (rc (.keep _ (slr_ltA _ _ _ h4055)) (rc (nown_rn h4707 rfl) (rc (Rn.own (js := [0, 1, 8, 3, 4]) 8 2) (rc (nown_rn h4715 rfl) (rc (nown_rn h4719 rfl) rn)))))) rn) (RowsR.opt 1 _ _ _ (.inr (hp_get 1)) (nown_rows h4707 int64_lt) (RowsR.row 8 _ _ _ _ (hp_get 8) (RnL.all2 (snoc_all2 q4905 (nown_all h4711) (int64R i4526)) int64_lt) (RowsR.opt 3 _ _ _ (.inr (hp_get 3)) (nown_rows h4715 int64_lt) (RowsR.opt 4 _ _ _ (.inr (hp_get 4)) (nown_rows h4719 tyHeld_140.lt) RowsR.nil)))))
    refine WQ.skip ?_
    refine sg ?_
    refine ⟨[], rfl, _, _, _, .keep _ _ _ _ (fun _ _ h => h), ?_⟩
    try unfold sealK
    try simp only [go_sem, ↓reduceIte, reduceCtorEq, Nat.reduceEqDiff, Nat.reduceLT, Nat.reduceLeDiff, Nat.reduceAdd, Nat.reduceMul, Int.reduceLE, F15, nown_rd h4707, nown_len h4707, nown_cells h4707, nown_good h4707, nown_rd h4711, nown_len h4711, nown_cells h4711, nown_good h4711, nown_rd h4715, nown_len h4715, nown_cells h4715, nown_good h4715, nown_rd h4719, nown_len h4719, nown_cells h4719, nown_good h4719]
    refine j4499 _ _ _ x4704 rw4705 v4706 h4707 x4708 rw4709 v4710 h4711 x4712 rw4713 v4714 h4715 x4716 rw4717 v4718 h4719 x4053 v4054 h4055 ?_ ho4062
    exact nm [0, 1, 2, 3, 4] [0, 3, 4] [x0, (.ep 5 (.sl 5 n 0 1 1 true) 0 0), (.int .i64 v4056)] (rc (.keep _ (slH_lt h0)) (rc (Rn.ptr (js := [0, 1, 2, 3, 4]) 0 0) (rc rki rn))) (RowsR.row 0 _ _ _ _ hp_get0 (rc (Rn.agg' (rc (.keep _ (slr_ltA _ _ _ h4055)) (rc (nown_rn h4707 rfl) (rc (nown_rn h4711 rfl) (rc (nown_rn h4715 rfl) (rc (nown_rn h4719 rfl) rn)))))) rn) (RowsR.opt 1 _ _ _ (.inr (hp_get 1)) (nown_rows h4707 int64_lt) (RowsR.opt 2 _ _ _ (.inr (hp_get 2)) (nown_rows h4711 int64_lt) (RowsR.opt 3 _ _ _ (.inr (hp_get 3)) (nown_rows h4715 int64_lt) (RowsR.opt 4 _ _ _ (.inr (hp_get 4)) (nown_rows h4719 tyHeld_140.lt) RowsR.nil)))))
    refine WQ.region hT rfl ?_
    refine sq0 ?_
    refine kn hK4898 ?_
    clear hK4898 K4898
    refine cn ho4062 (fun z4906 ho4062 => ?_) fun z4906 ho4062 => ?_
    obtain ⟨v4907, q4908, ho4062⟩ := obs ho4062
    refine WQ.drawL hT hM [(0, 0), (1, 0), (2, 0), (3, 0), (4, 1), (5, 0), (6, 1), (7, 2), (8, 2), (9, 0), (10, 0), (11, 2)] [11] (hp h n [some [(.agg [x4053, x4704, x4708, x4712, x4716])], rw4705, none, rw4713, rw4717, some [(.agg [(.int .i64 a4518.kind), (.int .i64 a4518.txn), (.int .i64 a4518.key), (.bool a4518.had), (.int .i64 a4518.old), (.bool a4518.has), (.int .i64 a4518.new), (.int .i64 a4518.back)])], some [(.agg [(.int .i64 a4518.kind), (.int .i64 a4518.txn), (.int .i64 a4518.key), (.bool a4518.had), (.int .i64 a4518.old), (.bool a4518.has), (.int .i64 a4518.new), (.int .i64 a4518.back)])]]) ?_ rfl ?_ fun _ => ?_
    kernel_rfl
    simp only [go_sem]
    refine sq (a5 (nown_rd h4707) (nown_len h4707) (nown_cells h4707) (nown_good h4707) (a5 (nown_rd h4711) (nown_len h4711) (nown_cells h4711) (nown_good h4711) (a5 (nown_rd h4715) (nown_len h4715) (nown_cells h4715) (nown_good h4715) (a4 (nown_rd h4719) (nown_len h4719) (nown_cells h4719) (nown_good h4719))))) ?_
    refine ⟨2, rfl, app_nw1 (j := 2) h4711 (hp_get 2) rfl (of_decide_eq_true rfl) rfl ?_ q4908 (int64R i4526) ?_⟩
    exact sc (a5 (nown_rd h4707) (nown_len h4707) (nown_cells h4707) (nown_good h4707) (a5 (nown_rd h4711) (nown_len h4711) (nown_cells h4711) (nown_good h4711) (a5 (nown_rd h4715) (nown_len h4715) (nown_cells h4715) (nown_good h4715) (a4 (nown_rd h4719) (nown_len h4719) (nown_cells h4719) (nown_good h4719)))))
    refine sk (a5 (nown_rd h4707) (nown_len h4707) (nown_cells h4707) (nown_good h4707) (a5 (all2_length (snoc_all2 q4908 (nown_all h4711) (int64R i4526))) (own_take (snoc_all2 q4908 (nown_all h4711) (int64R i4526))) (nown_rd h4715) (nown_len h4715) (a5 (nown_cells h4715) (nown_good h4715) (nown_rd h4719) (nown_len h4719) (a5 (nown_cells h4719) (nown_good h4719) (nown_rd h4711) (nown_len h4711) (a2 (nown_cells h4711) (nown_good h4711)))))) ?_
    refine ⟨[], rfl, _, _, _, .keep _ _ _ _ (fun _ _ h => h), ?_⟩
    try unfold sealK
    try simp only [go_sem, ↓reduceIte, reduceCtorEq, Nat.reduceEqDiff, Nat.reduceLT, Nat.reduceLeDiff, Nat.reduceAdd, Nat.reduceMul, Int.reduceLE, F15, nown_rd h4707, nown_len h4707, nown_cells h4707, nown_good h4707, all2_length (snoc_all2 q4908 (nown_all h4711) (int64R i4526)), own_take (snoc_all2 q4908 (nown_all h4711) (int64R i4526)), nown_rd h4715, nown_len h4715, nown_cells h4715, nown_good h4715, nown_rd h4719, nown_len h4719, nown_cells h4719, nown_good h4719]
    refine j4499 _ _ _ x4704 rw4705 v4706 h4707 (.sl 1 (n + 2) 0 v4907.length v4907.length false) (some (Option.getD rw4709 [] ++ [(.int .i64 a4518.txn)])) v4907 (nown_own (snoc_all2 q4908 (nown_all h4711) (int64R i4526)) (snoc_len q4908 (nown_all h4711) (int64R i4526))) x4712 rw4713 v4714 h4715 x4716 rw4717 v4718 h4719 x4053 v4054 h4055 ?_ ho4062
    exact nm [0, 1, 8, 3, 4] [0, 3, 4] [x0, (.ep 5 (.sl 5 n 0 1 1 true) 0 0), (.int .i64 v4056)] (rc (.keep _ (slH_lt h0)) (rc (Rn.ptr (js := [0, 1, 8, 3, 4]) 0 0) (rc rki rn))) (RowsR.row 0 _ _ _ _ hp_get0 (rc (Rn.agg' (rc (.keep _ (slr_ltA _ _ _ h4055)) (rc (nown_rn h4707 rfl) (rc (Rn.own (js := [0, 1, 8, 3, 4]) 8 2) (rc (nown_rn h4715 rfl) (rc (nown_rn h4719 rfl) rn)))))) rn) (RowsR.opt 1 _ _ _ (.inr (hp_get 1)) (nown_rows h4707 int64_lt) (RowsR.row 8 _ _ _ _ (hp_get 8) (RnL.all2 (snoc_all2 q4908 (nown_all h4711) (int64R i4526)) int64_lt) (RowsR.opt 3 _ _ _ (.inr (hp_get 3)) (nown_rows h4715 int64_lt) (RowsR.opt 4 _ _ _ (.inr (hp_get 4)) (nown_rows h4719 tyHeld_140.lt) RowsR.nil)))))
    refine WQ.skip ?_
    refine sg ?_
    refine ⟨[], rfl, _, _, _, .keep _ _ _ _ (fun _ _ h => h), ?_⟩
    try unfold sealK
    try simp only [go_sem, ↓reduceIte, reduceCtorEq, Nat.reduceEqDiff, Nat.reduceLT, Nat.reduceLeDiff, Nat.reduceAdd, Nat.reduceMul, Int.reduceLE, F15, nown_rd h4707, nown_len h4707, nown_cells h4707, nown_good h4707, nown_rd h4711, nown_len h4711, nown_cells h4711, nown_good h4711, nown_rd h4715, nown_len h4715, nown_cells h4715, nown_good h4715, nown_rd h4719, nown_len h4719, nown_cells h4719, nown_good h4719]
    refine j4499 _ _ _ x4704 rw4705 v4706 h4707 x4708 rw4709 v4710 h4711 x4712 rw4713 v4714 h4715 x4716 rw4717 v4718 h4719 x4053 v4054 h4055 ?_ ho4062
    exact nm [0, 1, 2, 3, 4] [0, 3, 4] [x0, (.ep 5 (.sl 5 n 0 1 1 true) 0 0), (.int .i64 v4056)] (rc (.keep _ (slH_lt h0)) (rc (Rn.ptr (js := [0, 1, 2, 3, 4]) 0 0) (rc rki rn))) (RowsR.row 0 _ _ _ _ hp_get0 (rc (Rn.agg' (rc (.keep _ (slr_ltA _ _ _ h4055)) (rc (nown_rn h4707 rfl) (rc (nown_rn h4711 rfl) (rc (nown_rn h4715 rfl) (rc (nown_rn h4719 rfl) rn)))))) rn) (RowsR.opt 1 _ _ _ (.inr (hp_get 1)) (nown_rows h4707 int64_lt) (RowsR.opt 2 _ _ _ (.inr (hp_get 2)) (nown_rows h4711 int64_lt) (RowsR.opt 3 _ _ _ (.inr (hp_get 3)) (nown_rows h4715 int64_lt) (RowsR.opt 4 _ _ _ (.inr (hp_get 4)) (nown_rows h4719 tyHeld_140.lt) RowsR.nil)))))
   clear hK4698
   rcases Bool.eq_false_or_eq_true (decide (a4518.kind = 2)) with z4909 | z4909
   replace ho4062 := ifT z4909 ho4062
   obtain ⟨v4911, q4910, ho4062⟩ := obs ho4062
   refine WQ.region hT rfl ?_
   refine sq (a5 (nown_rd h4640) (nown_len h4640) (nown_cells h4640) (nown_good h4640) (a5 (nown_rd h4644) (nown_len h4644) (nown_cells h4644) (nown_good h4644) (a5 (nown_rd h4648) (nown_len h4648) (nown_cells h4648) (nown_good h4648) (a5 (nown_rd h4652) (nown_len h4652) (nown_cells h4652) (nown_good h4652) (eqT z4909))))) ?_
   refine w_s_l13Held (⟨x4053, x4637, x4641, x4645, x4649, rfl, (SlR.toH h4055), (nown_H (j := 1) (m := 6) h4640 (hp_get 1) rfl), (nown_H (j := 2) (m := 6) h4644 (hp_get 2) rfl), (nown_H (j := 3) (m := 6) h4648 (hp_get 3) rfl), (nown_H (j := 4) (m := 6) h4652 (hp_get 4) rfl)⟩) (lt_row (j := 0) (m := 6) rfl) hp_get0 gh4524 q4910 (fun y4912 h4913 => ?_)
   obtain rfl := h4913
   refine sk (a5 (nown_rd h4640) (nown_len h4640) (nown_cells h4640) (nown_good h4640) (a5 (nown_rd h4644) (nown_len h4644) (nown_cells h4644) (nown_good h4644) (a5 (nown_rd h4648) (nown_len h4648) (nown_cells h4648) (nown_good h4648) (a5 (nown_rd h4652) (nown_len h4652) (nown_cells h4652) (nown_good h4652) (eqT z4909))))) ?_
   refine j4721 _ _ _ x4637 rw4638 v4639 h4640 x4641 rw4642 v4643 h4644 x4645 rw4646 v4647 h4648 x4649 rw4650 v4651 h4652 v4911 ?_ ho4062
   exact nm [0, 1, 2, 3, 4, 5] [0, 3, 4, 5, 53] [x0, (.ep 5 (.sl 5 n 0 1 1 true) 0 0), (.int .i64 v4056), (.ep 8 (.sl 8 (n + 5) 0 1 1 true) 0 0), (.bool v4911)] (rc (.keep _ (slH_lt h0)) (rc (Rn.ptr (js := [0, 1, 2, 3, 4, 5]) 0 0) (rc rki (rc (Rn.ptr (js := [0, 1, 2, 3, 4, 5]) 5 5) (rc rkb rn))))) (RowsR.row 0 _ _ _ _ hp_get0 (rc (Rn.agg' (rc (.keep _ (slr_ltA _ _ _ h4055)) (rc (nown_rn h4640 rfl) (rc (nown_rn h4644 rfl) (rc (nown_rn h4648 rfl) (rc (nown_rn h4652 rfl) rn)))))) rn) (RowsR.opt 1 _ _ _ (.inr (hp_get 1)) (nown_rows h4640 int64_lt) (RowsR.opt 2 _ _ _ (.inr (hp_get 2)) (nown_rows h4644 int64_lt) (RowsR.opt 3 _ _ _ (.inr (hp_get 3)) (nown_rows h4648 int64_lt) (RowsR.opt 4 _ _ _ (.inr (hp_get 4)) (nown_rows h4652 tyHeld_140.lt) (RowsR.row 5 _ _ _ _ (hp_get 5) (rc (.keep _ (tyRec_76.lt _ _ _ gh4524)) rn) RowsR.nil))))))
   replace ho4062 := ifF z4909 ho4062
   refine WQ.region hT rfl ?_
   refine sq (a5 (nown_rd h4640) (nown_len h4640) (nown_cells h4640) (nown_good h4640) (a5 (nown_rd h4644) (nown_len h4644) (nown_cells h4644) (nown_good h4644) (a5 (nown_rd h4648) (nown_len h4648) (nown_cells h4648) (nown_good h4648) (a5 (nown_rd h4652) (nown_len h4652) (nown_cells h4652) (nown_good h4652) (eqF z4909))))) ?_
   refine j4721 _ _ _ x4637 rw4638 v4639 h4640 x4641 rw4642 v4643 h4644 x4645 rw4646 v4647 h4648 x4649 rw4650 v4651 h4652 false ?_ ho4062
   exact nm [0, 1, 2, 3, 4, 5] [0, 3, 4, 5, 53] [x0, (.ep 5 (.sl 5 n 0 1 1 true) 0 0), (.int .i64 v4056), (.ep 8 (.sl 8 (n + 5) 0 1 1 true) 0 0), (.bool false)] (rc (.keep _ (slH_lt h0)) (rc (Rn.ptr (js := [0, 1, 2, 3, 4, 5]) 0 0) (rc rki (rc (Rn.ptr (js := [0, 1, 2, 3, 4, 5]) 5 5) (rc rkb rn))))) (RowsR.row 0 _ _ _ _ hp_get0 (rc (Rn.agg' (rc (.keep _ (slr_ltA _ _ _ h4055)) (rc (nown_rn h4640 rfl) (rc (nown_rn h4644 rfl) (rc (nown_rn h4648 rfl) (rc (nown_rn h4652 rfl) rn)))))) rn) (RowsR.opt 1 _ _ _ (.inr (hp_get 1)) (nown_rows h4640 int64_lt) (RowsR.opt 2 _ _ _ (.inr (hp_get 2)) (nown_rows h4644 int64_lt) (RowsR.opt 3 _ _ _ (.inr (hp_get 3)) (nown_rows h4648 int64_lt) (RowsR.opt 4 _ _ _ (.inr (hp_get 4)) (nown_rows h4652 tyHeld_140.lt) (RowsR.row 5 _ _ _ _ (hp_get 5) (rc (.keep _ (tyRec_76.lt _ _ _ gh4524)) rn) RowsR.nil))))))
  clear hK4631
  rcases Bool.eq_false_or_eq_true (v4589) with z4914 | z4914
  replace ho4062 := ifT z4914 ho4062
  obtain ⟨v4916, q4915, ho4062⟩ := obs ho4062
  refine WQ.region hT rfl ?_
  refine sq (a5 (nown_rd h4576) (nown_len h4576) (nown_cells h4576) (nown_good h4576) (a5 (nown_rd h4580) (nown_len h4580) (nown_cells h4580) (nown_good h4580) (a5 (nown_rd h4584) (nown_len h4584) (nown_cells h4584) (nown_good h4584) (a5 (nown_rd h4588) (nown_len h4588) (nown_cells h4588) (nown_good h4588) (eqT z4914))))) ?_
  refine w_s_l13Was (⟨x4053, x4573, x4577, x4581, x4585, rfl, (SlR.toH h4055), (nown_H (j := 1) (m := 6) h4576 (hp_get 1) rfl), (nown_H (j := 2) (m := 6) h4580 (hp_get 2) rfl), (nown_H (j := 3) (m := 6) h4584 (hp_get 3) rfl), (nown_H (j := 4) (m := 6) h4588 (hp_get 4) rfl)⟩) (lt_row (j := 0) (m := 6) rfl) hp_get0 gh4524 q4915 (fun y4917 h4918 => ?_)
  obtain rfl := h4918
  refine sk (a5 (nown_rd h4576) (nown_len h4576) (nown_cells h4576) (nown_good h4576) (a5 (nown_rd h4580) (nown_len h4580) (nown_cells h4580) (nown_good h4580) (a5 (nown_rd h4584) (nown_len h4584) (nown_cells h4584) (nown_good h4584) (a5 (nown_rd h4588) (nown_len h4588) (nown_cells h4588) (nown_good h4588) (eqT z4914))))) ?_
  refine j4654 _ _ _ x4573 rw4574 v4575 h4576 x4577 rw4578 v4579 h4580 x4581 rw4582 v4583 h4584 x4585 rw4586 v4587 h4588 (!v4916) ?_ ho4062
  exact nm [0, 1, 2, 3, 4, 5] [0, 3, 4, 5, 46] [x0, (.ep 5 (.sl 5 n 0 1 1 true) 0 0), (.int .i64 v4056), (.ep 8 (.sl 8 (n + 5) 0 1 1 true) 0 0), (.bool (!v4916))] (rc (.keep _ (slH_lt h0)) (rc (Rn.ptr (js := [0, 1, 2, 3, 4, 5]) 0 0) (rc rki (rc (Rn.ptr (js := [0, 1, 2, 3, 4, 5]) 5 5) (rc rkb rn))))) (RowsR.row 0 _ _ _ _ hp_get0 (rc (Rn.agg' (rc (.keep _ (slr_ltA _ _ _ h4055)) (rc (nown_rn h4576 rfl) (rc (nown_rn h4580 rfl) (rc (nown_rn h4584 rfl) (rc (nown_rn h4588 rfl) rn)))))) rn) (RowsR.opt 1 _ _ _ (.inr (hp_get 1)) (nown_rows h4576 int64_lt) (RowsR.opt 2 _ _ _ (.inr (hp_get 2)) (nown_rows h4580 int64_lt) (RowsR.opt 3 _ _ _ (.inr (hp_get 3)) (nown_rows h4584 int64_lt) (RowsR.opt 4 _ _ _ (.inr (hp_get 4)) (nown_rows h4588 tyHeld_140.lt) (RowsR.row 5 _ _ _ _ (hp_get 5) (rc (.keep _ (tyRec_76.lt _ _ _ gh4524)) rn) RowsR.nil))))))
  replace ho4062 := ifF z4914 ho4062
  refine WQ.region hT rfl ?_
  refine sq (a5 (nown_rd h4576) (nown_len h4576) (nown_cells h4576) (nown_good h4576) (a5 (nown_rd h4580) (nown_len h4580) (nown_cells h4580) (nown_good h4580) (a5 (nown_rd h4584) (nown_len h4584) (nown_cells h4584) (nown_good h4584) (a5 (nown_rd h4588) (nown_len h4588) (nown_cells h4588) (nown_good h4588) (eqF z4914))))) ?_
  refine j4654 _ _ _ x4573 rw4574 v4575 h4576 x4577 rw4578 v4579 h4580 x4581 rw4582 v4583 h4584 x4585 rw4586 v4587 h4588 false ?_ ho4062
  exact nm [0, 1, 2, 3, 4, 5] [0, 3, 4, 5, 46] [x0, (.ep 5 (.sl 5 n 0 1 1 true) 0 0), (.int .i64 v4056), (.ep 8 (.sl 8 (n + 5) 0 1 1 true) 0 0), (.bool false)] (rc (.keep _ (slH_lt h0)) (rc (Rn.ptr (js := [0, 1, 2, 3, 4, 5]) 0 0) (rc rki (rc (Rn.ptr (js := [0, 1, 2, 3, 4, 5]) 5 5) (rc rkb rn))))) (RowsR.row 0 _ _ _ _ hp_get0 (rc (Rn.agg' (rc (.keep _ (slr_ltA _ _ _ h4055)) (rc (nown_rn h4576 rfl) (rc (nown_rn h4580 rfl) (rc (nown_rn h4584 rfl) (rc (nown_rn h4588 rfl) rn)))))) rn) (RowsR.opt 1 _ _ _ (.inr (hp_get 1)) (nown_rows h4576 int64_lt) (RowsR.opt 2 _ _ _ (.inr (hp_get 2)) (nown_rows h4580 int64_lt) (RowsR.opt 3 _ _ _ (.inr (hp_get 3)) (nown_rows h4584 int64_lt) (RowsR.opt 4 _ _ _ (.inr (hp_get 4)) (nown_rows h4588 tyHeld_140.lt) (RowsR.row 5 _ _ _ _ (hp_get 5) (rc (.keep _ (tyRec_76.lt _ _ _ gh4524)) rn) RowsR.nil))))))
 clear hK4571
 rcases Bool.eq_false_or_eq_true (decide (a4518.kind = 2)) with z4919 | z4919
 replace ho4062 := ifT z4919 ho4062
 refine WQ.region hT rfl ?_
 refine sq (eqT z4919) ?_
 refine j4590 _ _ _ x4037 rw4038 v4039 h4040 x4041 rw4042 v4043 h4044 x4045 rw4046 v4047 h4048 x4049 rw4050 v4051 h4052 true ?_ ho4062
 exact nm [0, 1, 2, 3, 4, 5] [0, 3, 4, 5, 8] [x0, (.ep 5 (.sl 5 n 0 1 1 true) 0 0), (.int .i64 v4056), (.ep 8 (.sl 8 (n + 5) 0 1 1 true) 0 0), (.bool true)] (rc (.keep _ (slH_lt h0)) (rc (Rn.ptr (js := [0, 1, 2, 3, 4, 5]) 0 0) (rc rki (rc (Rn.ptr (js := [0, 1, 2, 3, 4, 5]) 5 5) (rc rkb rn))))) (RowsR.row 0 _ _ _ _ hp_get0 (rc (Rn.agg' (rc (.keep _ (slr_ltA _ _ _ h4055)) (rc (nown_rn h4040 rfl) (rc (nown_rn h4044 rfl) (rc (nown_rn h4048 rfl) (rc (nown_rn h4052 rfl) rn)))))) rn) (RowsR.opt 1 _ _ _ (.inr (hp_get 1)) (nown_rows h4040 int64_lt) (RowsR.opt 2 _ _ _ (.inr (hp_get 2)) (nown_rows h4044 int64_lt) (RowsR.opt 3 _ _ _ (.inr (hp_get 3)) (nown_rows h4048 int64_lt) (RowsR.opt 4 _ _ _ (.inr (hp_get 4)) (nown_rows h4052 tyHeld_140.lt) (RowsR.row 5 _ _ _ _ (hp_get 5) (rc (.keep _ (tyRec_76.lt _ _ _ gh4524)) rn) RowsR.nil))))))
 replace ho4062 := ifF z4919 ho4062
 refine WQ.region hT rfl ?_
 refine sq (eqF z4919) ?_
 refine j4590 _ _ _ x4037 rw4038 v4039 h4040 x4041 rw4042 v4043 h4044 x4045 rw4046 v4047 h4048 x4049 rw4050 v4051 h4052 (decide (a4518.kind = 5)) ?_ ho4062
 exact nm [0, 1, 2, 3, 4, 5] [0, 3, 4, 5, 8] [x0, (.ep 5 (.sl 5 n 0 1 1 true) 0 0), (.int .i64 v4056), (.ep 8 (.sl 8 (n + 5) 0 1 1 true) 0 0), (.bool (decide (a4518.kind = 5)))] (rc (.keep _ (slH_lt h0)) (rc (Rn.ptr (js := [0, 1, 2, 3, 4, 5]) 0 0) (rc rki (rc (Rn.ptr (js := [0, 1, 2, 3, 4, 5]) 5 5) (rc rkb rn))))) (RowsR.row 0 _ _ _ _ hp_get0 (rc (Rn.agg' (rc (.keep _ (slr_ltA _ _ _ h4055)) (rc (nown_rn h4040 rfl) (rc (nown_rn h4044 rfl) (rc (nown_rn h4048 rfl) (rc (nown_rn h4052 rfl) rn)))))) rn) (RowsR.opt 1 _ _ _ (.inr (hp_get 1)) (nown_rows h4040 int64_lt) (RowsR.opt 2 _ _ _ (.inr (hp_get 2)) (nown_rows h4044 int64_lt) (RowsR.opt 3 _ _ _ (.inr (hp_get 3)) (nown_rows h4048 int64_lt) (RowsR.opt 4 _ _ _ (.inr (hp_get 4)) (nown_rows h4052 tyHeld_140.lt) (RowsR.row 5 _ _ _ _ (hp_get 5) (rc (.keep _ (tyRec_76.lt _ _ _ gh4524)) rn) RowsR.nil))))))
 refine WQ.exit ?_
 refine sg ?_
 have e4920 := hf4061 _ (Option.some.inj ho4062).symm
 rw [← e4920] at hm
 refine j2465 _ _ _  ?_ hm
 exact nm [] [] [] rn RowsR.nil
end
end Go.Proofs.Ytcngfjmfgeckmaa
end
