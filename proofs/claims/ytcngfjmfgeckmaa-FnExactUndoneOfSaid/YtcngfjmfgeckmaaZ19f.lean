import Derived.Test.YtcngfjmfgeckmaaZ19e
set_option linter.unusedSimpArgs false
set_option linter.unusedVariables false
set_option linter.unusedSectionVars false
section
namespace Go.Proofs.Ytcngfjmfgeckmaa
open Go
set_option linter.unusedSimpArgs false
set_option linter.unusedVariables false
set_option maxRecDepth 20000
attribute [local irreducible] IntKind.wrap bitA
section
variable {h : Heap} {n : Nat} {K : AV → Heap → Nat → Prop}
def m_i_within_a1 (fu : Nat) (v14 : Bool) : Option Bool :=
  some v14
def m_i_within (fu : Nat) (v0 : Int) (v1 : Int) (v2 : Int) : Option Bool :=
  (if (decide (v1 ≤ v0)) = true then (m_i_within_a1 fu (decide (v0 ≤ v2))) else (m_i_within_a1 fu false))
set_option maxHeartbeats 2000000 in
theorem w_i_within {v0 : Int} (i0 : I64 v0) {v1 : Int} (i1 : I64 v1) {v2 : Int} (i2 : I64 v2) {fu : Nat} {r : Bool} (hm : m_i_within fu v0 v1 v2 = some r) (hk : ∀ y, BoolR y r → K y h n) : CA Try.prog 85 [(.int .i64 v0), (.int .i64 v1), (.int .i64 v2)] h n K := by
 refine CA.enterQ (N := 15) (rs := [.tmp 6]) hT Try.call85 Try.func85 rfl rfl (of_decide_eq_true rfl) rfl fun hlt => ?_
 unfold m_i_within at hm
 refine rg0 hT ?_
 refine WQ.seq_k fun K12 hK12 => ?_
 have j15 : ∀ (E' : Env) (h' : Heap) (n' : Nat) (v14 : Bool), Norm n h E' h' n' (envZ [6] [(.bool v14)]) (hp h n []) n → (m_i_within_a1 fu v14) = some r → K12 E' h' n' := by
  intro E17 H18 n19 v14 N16 hm
  refine hK12 _ _ _ _ _ _ N16 ?_
  clear N16 hK12 K12
  unfold m_i_within_a1 at hm
  exact rtB 6 hlt hk (a := v14) hm
 clear hK12
 rcases Bool.eq_false_or_eq_true (decide (v1 ≤ v0)) with z20 | z20
 replace hm := ifT z20 hm
 refine WQ.region hT rfl ?_
 refine sq (eqT z20) ?_
 refine j15 _ _ _ (decide (v0 ≤ v2)) ?_ hm
 exact nm [] [6] [(.bool (decide (v0 ≤ v2)))] (rc rkb rn) RowsR.nil
 replace hm := ifF z20 hm
 refine WQ.region hT rfl ?_
 refine sq (eqF z20) ?_
 refine j15 _ _ _ false ?_ hm
 exact nm [] [6] [(.bool false)] (rc rkb rn) RowsR.nil
def m_i_isTxn (fu : Nat) (v0 : Int) : Option Bool :=
  (Option.bind (m_i_within fu v0 1 999) fun v18 => some v18)
set_option maxHeartbeats 2000000 in
theorem w_i_isTxn {v0 : Int} (i0 : I64 v0) {fu : Nat} {r : Bool} (hm : m_i_isTxn fu v0 = some r) (hk : ∀ y, BoolR y r → K y h n) : CA Try.prog 98 [(.int .i64 v0)] h n K := by
 refine CA.enterQ (N := 5) (rs := [.tmp 2]) hT Try.call98 Try.func98 rfl rfl (of_decide_eq_true rfl) rfl fun hlt => ?_
 unfold m_i_isTxn at hm
 refine rg0 hT ?_
 obtain ⟨v18, q17, hm⟩ := obs hm
 refine WQ.sr hT rfl fun K12 hK12 => ?_
 refine sq0 ?_
 refine w_i_within i0 (i64c (a := 1) rfl) (i64c (a := 999) rfl) q17 (fun y19 h20 => ?_)
 obtain rfl := h20
 refine sk0 ?_
 refine kn hK12 ?_
 clear hK12 K12
 exact rtB 2 hlt hk (a := v18) hm
def m_i_isKey (fu : Nat) (v0 : Int) : Option Bool :=
  (Option.bind (m_i_within fu v0 0 31) fun v18 => some v18)
set_option maxHeartbeats 2000000 in
theorem w_i_isKey {v0 : Int} (i0 : I64 v0) {fu : Nat} {r : Bool} (hm : m_i_isKey fu v0 = some r) (hk : ∀ y, BoolR y r → K y h n) : CA Try.prog 99 [(.int .i64 v0)] h n K := by
 refine CA.enterQ (N := 5) (rs := [.tmp 2]) hT Try.call99 Try.func99 rfl rfl (of_decide_eq_true rfl) rfl fun hlt => ?_
 unfold m_i_isKey at hm
 refine rg0 hT ?_
 obtain ⟨v18, q17, hm⟩ := obs hm
 refine WQ.sr hT rfl fun K12 hK12 => ?_
 refine sq0 ?_
 refine w_i_within i0 (i64c (a := 0) rfl) (i64c (a := 31) rfl) q17 (fun y19 h20 => ?_)
 obtain rfl := h20
 refine sk0 ?_
 refine kn hK12 ?_
 clear hK12 K12
 exact rtB 2 hlt hk (a := v18) hm
def m_i_isValue (fu : Nat) (v0 : Int) : Option Bool :=
  (Option.bind (m_i_within fu v0 0 9999) fun v18 => some v18)
set_option maxHeartbeats 2000000 in
theorem w_i_isValue {v0 : Int} (i0 : I64 v0) {fu : Nat} {r : Bool} (hm : m_i_isValue fu v0 = some r) (hk : ∀ y, BoolR y r → K y h n) : CA Try.prog 100 [(.int .i64 v0)] h n K := by
 refine CA.enterQ (N := 5) (rs := [.tmp 2]) hT Try.call100 Try.func100 rfl rfl (of_decide_eq_true rfl) rfl fun hlt => ?_
 unfold m_i_isValue at hm
 refine rg0 hT ?_
 obtain ⟨v18, q17, hm⟩ := obs hm
 refine WQ.sr hT rfl fun K12 hK12 => ?_
 refine sq0 ?_
 refine w_i_within i0 (i64c (a := 0) rfl) (i64c (a := 9999) rfl) q17 (fun y19 h20 => ?_)
 obtain rfl := h20
 refine sk0 ?_
 refine kn hK12 ?_
 clear hK12 K12
 exact rtB 2 hlt hk (a := v18) hm
def m_i_Rec_turns_a1 (fu : Nat) (v20 : Bool) : Option Bool :=
  some v20
def m_i_Rec_turns (fu : Nat) (v0 : RecD) : Option Bool :=
  (if (decide (v0.kind = 2)) = true then (m_i_Rec_turns_a1 fu true) else (m_i_Rec_turns_a1 fu (decide (v0.kind = 5))))
set_option maxHeartbeats 2000000 in
theorem w_i_Rec_turns {x0 : AV} {v0 : RecD} (h0 : RecR x0 v0) {fu : Nat} {r : Bool} (hm : m_i_Rec_turns fu v0 = some r) (hk : ∀ y, BoolR y r → K y h n) : CA Try.prog 55 [x0] h n K := by
 refine CA.enterQ (N := 11) (rs := [.tmp 2]) hT Try.call55 Try.func55 rfl rfl (of_decide_eq_true rfl) rfl fun hlt => ?_
 unfold m_i_Rec_turns at hm
 have gh0 := h0
 obtain ⟨rfl, i11, i12, i13, i14, i15, i16⟩ := h0
 refine rg0 hT ?_
 refine WQ.seq_k fun K18 hK18 => ?_
 have j21 : ∀ (E' : Env) (h' : Heap) (n' : Nat) (v20 : Bool), Norm n h E' h' n' (envZ [2] [(.bool v20)]) (hp h n []) n → (m_i_Rec_turns_a1 fu v20) = some r → K18 E' h' n' := by
  intro E23 H24 n25 v20 N22 hm
  refine hK18 _ _ _ _ _ _ N22 ?_
  clear N22 hK18 K18
  unfold m_i_Rec_turns_a1 at hm
  exact rtB 2 hlt hk (a := v20) hm
 clear hK18
 rcases Bool.eq_false_or_eq_true (decide (v0.kind = 2)) with z26 | z26
 replace hm := ifT z26 hm
 refine WQ.region hT rfl ?_
 refine sq (eqT z26) ?_
 refine j21 _ _ _ true ?_ hm
 exact nm [] [2] [(.bool true)] (rc rkb rn) RowsR.nil
 replace hm := ifF z26 hm
 refine WQ.region hT rfl ?_
 refine sq (eqF z26) ?_
 refine j21 _ _ _ (decide (v0.kind = 5)) ?_ hm
 exact nm [] [2] [(.bool (decide (v0.kind = 5)))] (rc rkb rn) RowsR.nil
def m_i_RecFault_a1 (fu : Nat) (v278 : Bool) : Option Int :=
  (if v278 = true then some 1 else some 0)
def m_i_RecFault_a2 (fu : Nat) (v0 : RecD) (v315 : Bool) : Option Int :=
  (if v315 = true then (m_i_RecFault_a1 fu v315) else (m_i_RecFault_a1 fu (!((decide (v0.kind = 5)) == (decide (v0.back ≠ 0))))))
def m_i_RecFault_a3 (fu : Nat) (v0 : RecD) (v306 : Bool) : Option Int :=
  (if v306 = true then (m_i_RecFault_a1 fu v306) else (if (!v0.has) = true then (m_i_RecFault_a2 fu v0 (decide (v0.new ≠ 0))) else (m_i_RecFault_a2 fu v0 false)))
def m_i_RecFault_a4 (fu : Nat) (v0 : RecD) (v297 : Bool) : Option Int :=
  (if v297 = true then (m_i_RecFault_a1 fu v297) else (if (!v0.had) = true then (m_i_RecFault_a3 fu v0 (decide (v0.old ≠ 0))) else (m_i_RecFault_a3 fu v0 false)))
def m_i_RecFault_a5 (fu : Nat) (v0 : RecD) (v223 : Bool) : Option Int :=
  (if v223 = true then some 3 else (Option.bind (m_i_Rec_turns fu v0) fun v325 => (if (!v325) = true then (if (decide (v0.key ≠ 0)) = true then (m_i_RecFault_a4 fu v0 true) else (if v0.had = true then (m_i_RecFault_a4 fu v0 true) else (if (decide (v0.old ≠ 0)) = true then (m_i_RecFault_a4 fu v0 true) else (if v0.has = true then (m_i_RecFault_a4 fu v0 true) else (m_i_RecFault_a4 fu v0 (decide (v0.new ≠ 0))))))) else (m_i_RecFault_a4 fu v0 false))))
def m_i_RecFault_a6 (fu : Nat) (v0 : RecD) (v30 : Bool) : Option Int :=
  (Option.bind (m_i_within fu v0.kind 1 6) fun v334 => (if (!v334) = true then (m_i_RecFault_a5 fu v0 true) else (if (!v30) = true then (m_i_RecFault_a5 fu v0 true) else (Option.bind (m_i_isKey fu v0.key) fun v340 => (if (!v340) = true then (m_i_RecFault_a5 fu v0 true) else (Option.bind (m_i_isValue fu v0.old) fun v345 => (if (!v345) = true then (m_i_RecFault_a5 fu v0 true) else (Option.bind (m_i_isValue fu v0.new) fun v350 => (if (!v350) = true then (m_i_RecFault_a5 fu v0 true) else (Option.bind (m_i_within fu v0.back 0 1000) fun v355 => (m_i_RecFault_a5 fu v0 (!v355))))))))))))
def m_i_RecFault (fu : Nat) (v0 : RecD) : Option Int :=
  (Option.bind (m_i_isTxn fu v0.txn) fun v24 => (if (decide (v0.kind = 6)) = true then (m_i_RecFault_a6 fu v0 (decide (v0.txn = 0))) else (m_i_RecFault_a6 fu v0 v24)))
set_option maxHeartbeats 2000000 in
theorem w_i_RecFault {x0 : AV} {v0 : RecD} (h0 : RecR x0 v0) {fu : Nat} {r : Int} (hm : m_i_RecFault fu v0 = some r) (hk : ∀ y, Int64R y r → K y h n) : CA Try.prog 53 [x0] h n K := by
 refine CA.enterQ (N := 96) (rs := [.tmp 2]) hT Try.call53 Try.func53 rfl rfl (of_decide_eq_true rfl) rfl fun hlt => ?_
 unfold m_i_RecFault at hm
 have gh0 := h0
 obtain ⟨rfl, i11, i12, i13, i14, i15, i16⟩ := h0
 refine rg0 hT ?_
 obtain ⟨v24, q23, hm⟩ := obs hm
 refine WQ.sr hT rfl fun K18 hK18 => ?_
 refine sq0 ?_
 refine w_i_isTxn i12 q23 (fun y25 h26 => ?_)
 obtain rfl := h26
 refine sk0 ?_
 refine kn hK18 ?_
 clear hK18 K18
 refine WQ.seq_k fun K27 hK27 => ?_
 have j31 : ∀ (E' : Env) (h' : Heap) (n' : Nat) (v30 : Bool), Norm n h E' h' n' (envZ [1, 3] [(.ep 8 (.sl 8 n 0 1 1 true) 0 0), (.bool v30)]) (hp h n [some [(.agg [(.int .i64 v0.kind), (.int .i64 v0.txn), (.int .i64 v0.key), (.bool v0.had), (.int .i64 v0.old), (.bool v0.has), (.int .i64 v0.new), (.int .i64 v0.back)])]]) (n + 1) → (m_i_RecFault_a6 fu v0 v30) = some r → K27 E' h' n' := by
  intro E33 H34 n35 v30 N32 hm
  refine hK27 _ _ _ _ _ _ N32 ?_
  clear N32 hK27 K27
  unfold m_i_RecFault_a6 at hm
  refine WQ.seq_k fun K36 hK36 => ?_
  refine WQ.block ?_
  refine WQ.seq_k fun K197 hK197 => ?_
  have j224 : ∀ (E' : Env) (h' : Heap) (n' : Nat) (v223 : Bool), Norm n h E' h' n' (envZ [1, 13] [(.ep 8 (.sl 8 n 0 1 1 true) 0 0), (.bool v223)]) (hp h n [some [(.agg [(.int .i64 v0.kind), (.int .i64 v0.txn), (.int .i64 v0.key), (.bool v0.had), (.int .i64 v0.old), (.bool v0.has), (.int .i64 v0.new), (.int .i64 v0.back)])]]) (n + 1) → (m_i_RecFault_a5 fu v0 v223) = some r → K197 E' h' n' := by
   intro E226 H227 n228 v223 N225 hm
   refine hK197 _ _ _ _ _ _ N225 ?_
   clear N225 hK197 K197
   unfold m_i_RecFault_a5 at hm
   refine cn hm (fun z229 hm => ?_) fun z229 hm => ?_
   refine rg0 hT ?_
   exact rtI 2 hlt hk (a := 3) hm (i64c (a := 3) rfl)
   refine WQ.seq_k fun K231 hK231 => ?_
   have j279 : ∀ (E' : Env) (h' : Heap) (n' : Nat) (v278 : Bool), Norm n h E' h' n' (envZ [46] [(.bool v278)]) (hp h n []) n → (m_i_RecFault_a1 fu v278) = some r → K231 E' h' n' := by
    intro E281 H282 n283 v278 N280 hm
    refine hK231 _ _ _ _ _ _ N280 ?_
    clear N280 hK231 K231
    unfold m_i_RecFault_a1 at hm
    refine cn hm (fun z284 hm => ?_) fun z284 hm => ?_
    refine rg0 hT ?_
    exact rtI 2 hlt hk (a := 1) hm (i64c (a := 1) rfl)
    refine WQ.skip ?_
    refine sg ?_
    refine kn hK36 ?_
    clear hK36 K36
    refine rg0 hT ?_
    exact rtI 2 hlt hk (a := 0) hm (i64c (a := 0) rfl)
   clear hK231
   refine WQ.seq_k fun K287 hK287 => ?_
   have j298 : ∀ (E' : Env) (h' : Heap) (n' : Nat) (v297 : Bool), Norm n h E' h' n' (envZ [1, 46] [(.ep 8 (.sl 8 n 0 1 1 true) 0 0), (.bool v297)]) (hp h n [some [(.agg [(.int .i64 v0.kind), (.int .i64 v0.txn), (.int .i64 v0.key), (.bool v0.had), (.int .i64 v0.old), (.bool v0.has), (.int .i64 v0.new), (.int .i64 v0.back)])]]) (n + 1) → (m_i_RecFault_a4 fu v0 v297) = some r → K287 E' h' n' := by
    intro E300 H301 n302 v297 N299 hm
    refine hK287 _ _ _ _ _ _ N299 ?_
    clear N299 hK287 K287
    unfold m_i_RecFault_a4 at hm
    refine cn hm (fun z303 hm => ?_) fun z303 hm => ?_
    refine WQ.skip ?_
    refine sg ?_
    refine j279 _ _ _ v297 ?_ hm
    exact nm [] [46] [(.bool v297)] (rc rkb rn) RowsR.nil
    refine WQ.seq_k fun K304 hK304 => ?_
    have j307 : ∀ (E' : Env) (h' : Heap) (n' : Nat) (v306 : Bool), Norm n h E' h' n' (envZ [1, 46] [(.ep 8 (.sl 8 n 0 1 1 true) 0 0), (.bool v306)]) (hp h n [some [(.agg [(.int .i64 v0.kind), (.int .i64 v0.txn), (.int .i64 v0.key), (.bool v0.had), (.int .i64 v0.old), (.bool v0.has), (.int .i64 v0.new), (.int .i64 v0.back)])]]) (n + 1) → (m_i_RecFault_a3 fu v0 v306) = some r → K304 E' h' n' := by
     intro E309 H310 n311 v306 N308 hm
     refine hK304 _ _ _ _ _ _ N308 ?_
     clear N308 hK304 K304
     unfold m_i_RecFault_a3 at hm
     refine cn hm (fun z312 hm => ?_) fun z312 hm => ?_
     refine WQ.skip ?_
     refine sg ?_
     refine j279 _ _ _ v306 ?_ hm
     exact nm [] [46] [(.bool v306)] (rc rkb rn) RowsR.nil
     refine WQ.seq_k fun K313 hK313 => ?_
     have j316 : ∀ (E' : Env) (h' : Heap) (n' : Nat) (v315 : Bool), Norm n h E' h' n' (envZ [1, 46] [(.ep 8 (.sl 8 n 0 1 1 true) 0 0), (.bool v315)]) (hp h n [some [(.agg [(.int .i64 v0.kind), (.int .i64 v0.txn), (.int .i64 v0.key), (.bool v0.had), (.int .i64 v0.old), (.bool v0.has), (.int .i64 v0.new), (.int .i64 v0.back)])]]) (n + 1) → (m_i_RecFault_a2 fu v0 v315) = some r → K313 E' h' n' := by
      intro E318 H319 n320 v315 N317 hm
      refine hK313 _ _ _ _ _ _ N317 ?_
      clear N317 hK313 K313
      unfold m_i_RecFault_a2 at hm
      refine cn hm (fun z321 hm => ?_) fun z321 hm => ?_
      refine WQ.skip ?_
      refine sg ?_
      refine j279 _ _ _ v315 ?_ hm
      exact nm [] [46] [(.bool v315)] (rc rkb rn) RowsR.nil
      refine WQ.region hT rfl ?_
      refine sq0 ?_
      refine j279 _ _ _ (!((decide (v0.kind = 5)) == (decide (v0.back ≠ 0)))) ?_ hm
      exact nm [] [46] [(.bool (!((decide (v0.kind = 5)) == (decide (v0.back ≠ 0)))))] (rc rkb rn) RowsR.nil
     clear hK313
     rcases Bool.eq_false_or_eq_true (!v0.has) with z322 | z322
     replace hm := ifT z322 hm
     refine WQ.region hT rfl ?_
     refine sq (eqT z322) ?_
     refine j316 _ _ _ (decide (v0.new ≠ 0)) ?_ hm
     exact nm [0] [1, 46] [(.ep 8 (.sl 8 n 0 1 1 true) 0 0), (.bool (decide (v0.new ≠ 0)))] (rc (Rn.ptr (js := [0]) 0 0) (rc rkb rn)) (RowsR.row 0 _ _ _ _ hp_get0 (rc (.keep _ (tyRec_76.lt _ _ _ gh0)) rn) RowsR.nil)
     replace hm := ifF z322 hm
     refine WQ.region hT rfl ?_
     refine sq (eqF z322) ?_
     refine j316 _ _ _ false ?_ hm
     exact nm [0] [1, 46] [(.ep 8 (.sl 8 n 0 1 1 true) 0 0), (.bool false)] (rc (Rn.ptr (js := [0]) 0 0) (rc rkb rn)) (RowsR.row 0 _ _ _ _ hp_get0 (rc (.keep _ (tyRec_76.lt _ _ _ gh0)) rn) RowsR.nil)
    clear hK304
    rcases Bool.eq_false_or_eq_true (!v0.had) with z323 | z323
    replace hm := ifT z323 hm
    refine WQ.region hT rfl ?_
    refine sq (eqT z323) ?_
    refine j307 _ _ _ (decide (v0.old ≠ 0)) ?_ hm
    exact nm [0] [1, 46] [(.ep 8 (.sl 8 n 0 1 1 true) 0 0), (.bool (decide (v0.old ≠ 0)))] (rc (Rn.ptr (js := [0]) 0 0) (rc rkb rn)) (RowsR.row 0 _ _ _ _ hp_get0 (rc (.keep _ (tyRec_76.lt _ _ _ gh0)) rn) RowsR.nil)
    replace hm := ifF z323 hm
    refine WQ.region hT rfl ?_
    refine sq (eqF z323) ?_
    refine j307 _ _ _ false ?_ hm
    exact nm [0] [1, 46] [(.ep 8 (.sl 8 n 0 1 1 true) 0 0), (.bool false)] (rc (Rn.ptr (js := [0]) 0 0) (rc rkb rn)) (RowsR.row 0 _ _ _ _ hp_get0 (rc (.keep _ (tyRec_76.lt _ _ _ gh0)) rn) RowsR.nil)
   clear hK287
   obtain ⟨v325, q324, hm⟩ := obs hm
   rcases Bool.eq_false_or_eq_true (!v325) with z328 | z328
   replace hm := ifT z328 hm
   rcases Bool.eq_false_or_eq_true (decide (v0.key ≠ 0)) with z329 | z329
   replace hm := ifT z329 hm
   refine WQ.region hT rfl ?_
   refine sq0 ?_
   refine w_i_Rec_turns gh0 q324 (fun y326 h327 => ?_)
   obtain rfl := h327
   refine sk (a2 (eqT z328) (eqT z329)) ?_
   refine j298 _ _ _ true ?_ hm
   exact nm [0] [1, 46] [(.ep 8 (.sl 8 n 0 1 1 true) 0 0), (.bool true)] (rc (Rn.ptr (js := [0]) 0 0) (rc rkb rn)) (RowsR.row 0 _ _ _ _ hp_get0 (rc (.keep _ (tyRec_76.lt _ _ _ gh0)) rn) RowsR.nil)
   replace hm := ifF z329 hm
   rcases Bool.eq_false_or_eq_true (v0.had) with z330 | z330
   replace hm := ifT z330 hm
   refine WQ.region hT rfl ?_
   refine sq0 ?_
   refine w_i_Rec_turns gh0 q324 (fun y326 h327 => ?_)
   obtain rfl := h327
   refine sk (a3 (eqT z328) (eqF z329) (eqT z330)) ?_
   refine j298 _ _ _ true ?_ hm
   exact nm [0] [1, 46] [(.ep 8 (.sl 8 n 0 1 1 true) 0 0), (.bool true)] (rc (Rn.ptr (js := [0]) 0 0) (rc rkb rn)) (RowsR.row 0 _ _ _ _ hp_get0 (rc (.keep _ (tyRec_76.lt _ _ _ gh0)) rn) RowsR.nil)
   replace hm := ifF z330 hm
   rcases Bool.eq_false_or_eq_true (decide (v0.old ≠ 0)) with z331 | z331
   replace hm := ifT z331 hm
   refine WQ.region hT rfl ?_
   refine sq0 ?_
   refine w_i_Rec_turns gh0 q324 (fun y326 h327 => ?_)
   obtain rfl := h327
   refine sk (a4 (eqT z328) (eqF z329) (eqF z330) (eqT z331)) ?_
   refine j298 _ _ _ true ?_ hm
   exact nm [0] [1, 46] [(.ep 8 (.sl 8 n 0 1 1 true) 0 0), (.bool true)] (rc (Rn.ptr (js := [0]) 0 0) (rc rkb rn)) (RowsR.row 0 _ _ _ _ hp_get0 (rc (.keep _ (tyRec_76.lt _ _ _ gh0)) rn) RowsR.nil)
   replace hm := ifF z331 hm
   rcases Bool.eq_false_or_eq_true (v0.has) with z332 | z332
   replace hm := ifT z332 hm
   refine WQ.region hT rfl ?_
   refine sq0 ?_
   refine w_i_Rec_turns gh0 q324 (fun y326 h327 => ?_)
   obtain rfl := h327
   refine sk (a5 (eqT z328) (eqF z329) (eqF z330) (eqF z331) (eqT z332)) ?_
   refine j298 _ _ _ true ?_ hm
   exact nm [0] [1, 46] [(.ep 8 (.sl 8 n 0 1 1 true) 0 0), (.bool true)] (rc (Rn.ptr (js := [0]) 0 0) (rc rkb rn)) (RowsR.row 0 _ _ _ _ hp_get0 (rc (.keep _ (tyRec_76.lt _ _ _ gh0)) rn) RowsR.nil)
   replace hm := ifF z332 hm
   refine WQ.region hT rfl ?_
   refine sq0 ?_
   refine w_i_Rec_turns gh0 q324 (fun y326 h327 => ?_)
   obtain rfl := h327
   refine sk (a5 (eqT z328) (eqF z329) (eqF z330) (eqF z331) (eqF z332)) ?_
   refine j298 _ _ _ (decide (v0.new ≠ 0)) ?_ hm
   exact nm [0] [1, 46] [(.ep 8 (.sl 8 n 0 1 1 true) 0 0), (.bool (decide (v0.new ≠ 0)))] (rc (Rn.ptr (js := [0]) 0 0) (rc rkb rn)) (RowsR.row 0 _ _ _ _ hp_get0 (rc (.keep _ (tyRec_76.lt _ _ _ gh0)) rn) RowsR.nil)
   replace hm := ifF z328 hm
   refine WQ.region hT rfl ?_
   refine sq0 ?_
   refine w_i_Rec_turns gh0 q324 (fun y326 h327 => ?_)
   obtain rfl := h327
   refine sk (eqF z328) ?_
   refine j298 _ _ _ false ?_ hm
   exact nm [0] [1, 46] [(.ep 8 (.sl 8 n 0 1 1 true) 0 0), (.bool false)] (rc (Rn.ptr (js := [0]) 0 0) (rc rkb rn)) (RowsR.row 0 _ _ _ _ hp_get0 (rc (.keep _ (tyRec_76.lt _ _ _ gh0)) rn) RowsR.nil)
  clear hK197
  obtain ⟨v334, q333, hm⟩ := obs hm
  rcases Bool.eq_false_or_eq_true (!v334) with z337 | z337
  replace hm := ifT z337 hm
  refine WQ.region hT rfl ?_
  refine sq0 ?_
  refine w_i_within i11 (i64c (a := 1) rfl) (i64c (a := 6) rfl) q333 (fun y335 h336 => ?_)
  obtain rfl := h336
  refine sk (eqT z337) ?_
  refine j224 _ _ _ true ?_ hm
  exact nm [0] [1, 13] [(.ep 8 (.sl 8 n 0 1 1 true) 0 0), (.bool true)] (rc (Rn.ptr (js := [0]) 0 0) (rc rkb rn)) (RowsR.row 0 _ _ _ _ hp_get0 (rc (.keep _ (tyRec_76.lt _ _ _ gh0)) rn) RowsR.nil)
  replace hm := ifF z337 hm
  rcases Bool.eq_false_or_eq_true (!v30) with z338 | z338
  replace hm := ifT z338 hm
  refine WQ.region hT rfl ?_
  refine sq0 ?_
  refine w_i_within i11 (i64c (a := 1) rfl) (i64c (a := 6) rfl) q333 (fun y335 h336 => ?_)
  obtain rfl := h336
  refine sk (a2 (eqF z337) (eqT z338)) ?_
  refine j224 _ _ _ true ?_ hm
  exact nm [0] [1, 13] [(.ep 8 (.sl 8 n 0 1 1 true) 0 0), (.bool true)] (rc (Rn.ptr (js := [0]) 0 0) (rc rkb rn)) (RowsR.row 0 _ _ _ _ hp_get0 (rc (.keep _ (tyRec_76.lt _ _ _ gh0)) rn) RowsR.nil)
  replace hm := ifF z338 hm
  obtain ⟨v340, q339, hm⟩ := obs hm
  rcases Bool.eq_false_or_eq_true (!v340) with z343 | z343
  replace hm := ifT z343 hm
  refine WQ.region hT rfl ?_
  refine sq0 ?_
  refine w_i_within i11 (i64c (a := 1) rfl) (i64c (a := 6) rfl) q333 (fun y335 h336 => ?_)
  obtain rfl := h336
  refine sk (a2 (eqF z337) (eqF z338)) ?_
  refine w_i_isKey i13 q339 (fun y341 h342 => ?_)
  obtain rfl := h342
  refine sk (a3 (eqF z337) (eqF z338) (eqT z343)) ?_
  refine j224 _ _ _ true ?_ hm
  exact nm [0] [1, 13] [(.ep 8 (.sl 8 n 0 1 1 true) 0 0), (.bool true)] (rc (Rn.ptr (js := [0]) 0 0) (rc rkb rn)) (RowsR.row 0 _ _ _ _ hp_get0 (rc (.keep _ (tyRec_76.lt _ _ _ gh0)) rn) RowsR.nil)
  replace hm := ifF z343 hm
  obtain ⟨v345, q344, hm⟩ := obs hm
  rcases Bool.eq_false_or_eq_true (!v345) with z348 | z348
  replace hm := ifT z348 hm
  refine WQ.region hT rfl ?_
  refine sq0 ?_
  refine w_i_within i11 (i64c (a := 1) rfl) (i64c (a := 6) rfl) q333 (fun y335 h336 => ?_)
  obtain rfl := h336
  refine sk (a2 (eqF z337) (eqF z338)) ?_
  refine w_i_isKey i13 q339 (fun y341 h342 => ?_)
  obtain rfl := h342
  refine sk (a3 (eqF z337) (eqF z338) (eqF z343)) ?_
  refine w_i_isValue i14 q344 (fun y346 h347 => ?_)
  obtain rfl := h347
  refine sk (a4 (eqF z337) (eqF z338) (eqF z343) (eqT z348)) ?_
  refine j224 _ _ _ true ?_ hm
  exact nm [0] [1, 13] [(.ep 8 (.sl 8 n 0 1 1 true) 0 0), (.bool true)] (rc (Rn.ptr (js := [0]) 0 0) (rc rkb rn)) (RowsR.row 0 _ _ _ _ hp_get0 (rc (.keep _ (tyRec_76.lt _ _ _ gh0)) rn) RowsR.nil)
  replace hm := ifF z348 hm
  obtain ⟨v350, q349, hm⟩ := obs hm
  rcases Bool.eq_false_or_eq_true (!v350) with z353 | z353
  replace hm := ifT z353 hm
  refine WQ.region hT rfl ?_
  refine sq0 ?_
  refine w_i_within i11 (i64c (a := 1) rfl) (i64c (a := 6) rfl) q333 (fun y335 h336 => ?_)
  obtain rfl := h336
  refine sk (a2 (eqF z337) (eqF z338)) ?_
  refine w_i_isKey i13 q339 (fun y341 h342 => ?_)
  obtain rfl := h342
  refine sk (a3 (eqF z337) (eqF z338) (eqF z343)) ?_
  refine w_i_isValue i14 q344 (fun y346 h347 => ?_)
  obtain rfl := h347
  refine sk (a4 (eqF z337) (eqF z338) (eqF z343) (eqF z348)) ?_
  refine w_i_isValue i15 q349 (fun y351 h352 => ?_)
  obtain rfl := h352
  refine sk (a5 (eqF z337) (eqF z338) (eqF z343) (eqF z348) (eqT z353)) ?_
  refine j224 _ _ _ true ?_ hm
  exact nm [0] [1, 13] [(.ep 8 (.sl 8 n 0 1 1 true) 0 0), (.bool true)] (rc (Rn.ptr (js := [0]) 0 0) (rc rkb rn)) (RowsR.row 0 _ _ _ _ hp_get0 (rc (.keep _ (tyRec_76.lt _ _ _ gh0)) rn) RowsR.nil)
  replace hm := ifF z353 hm
  obtain ⟨v355, q354, hm⟩ := obs hm
  refine WQ.region hT rfl ?_
  refine sq0 ?_
  refine w_i_within i11 (i64c (a := 1) rfl) (i64c (a := 6) rfl) q333 (fun y335 h336 => ?_)
  obtain rfl := h336
  refine sk (a2 (eqF z337) (eqF z338)) ?_
  refine w_i_isKey i13 q339 (fun y341 h342 => ?_)
  obtain rfl := h342
  refine sk (a3 (eqF z337) (eqF z338) (eqF z343)) ?_
  refine w_i_isValue i14 q344 (fun y346 h347 => ?_)
  obtain rfl := h347
  refine sk (a4 (eqF z337) (eqF z338) (eqF z343) (eqF z348)) ?_
  refine w_i_isValue i15 q349 (fun y351 h352 => ?_)
  obtain rfl := h352
  refine sk (a5 (eqF z337) (eqF z338) (eqF z343) (eqF z348) (eqF z353)) ?_
  refine w_i_within i16 (i64c (a := 0) rfl) (i64c (a := 1000) rfl) q354 (fun y356 h357 => ?_)
  obtain rfl := h357
  refine sk (a5 (eqF z337) (eqF z338) (eqF z343) (eqF z348) (eqF z353)) ?_
  refine j224 _ _ _ (!v355) ?_ hm
  exact nm [0] [1, 13] [(.ep 8 (.sl 8 n 0 1 1 true) 0 0), (.bool (!v355))] (rc (Rn.ptr (js := [0]) 0 0) (rc rkb rn)) (RowsR.row 0 _ _ _ _ hp_get0 (rc (.keep _ (tyRec_76.lt _ _ _ gh0)) rn) RowsR.nil)
 clear hK27
 refine rg0 hT ?_
 refine cn hm (fun z359 hm => ?_) fun z359 hm => ?_
 refine WQ.region hT rfl ?_
 refine sq0 ?_
 refine j31 _ _ _ (decide (v0.txn = 0)) ?_ hm
 exact nm [0] [1, 3] [(.ep 8 (.sl 8 n 0 1 1 true) 0 0), (.bool (decide (v0.txn = 0)))] (rc (Rn.ptr (js := [0]) 0 0) (rc rkb rn)) (RowsR.row 0 _ _ _ _ hp_get0 (rc (.keep _ (tyRec_76.lt _ _ _ gh0)) rn) RowsR.nil)
 refine WQ.skip ?_
 refine sg ?_
 refine j31 _ _ _ v24 ?_ hm
 exact nm [0] [1, 3] [(.ep 8 (.sl 8 n 0 1 1 true) 0 0), (.bool v24)] (rc (Rn.ptr (js := [0]) 0 0) (rc rkb rn)) (RowsR.row 0 _ _ _ _ hp_get0 (rc (.keep _ (tyRec_76.lt _ _ _ gh0)) rn) RowsR.nil)
def m_s_l1In_a1 (fu : Nat) (v14 : Bool) : Option Bool :=
  some v14
def m_s_l1In (fu : Nat) (v0 : Int) (v1 : Int) (v2 : Int) : Option Bool :=
  (if (decide (v1 ≤ v0)) = true then (m_s_l1In_a1 fu (decide (v0 ≤ v2))) else (m_s_l1In_a1 fu false))
set_option maxHeartbeats 2000000 in
theorem w_s_l1In {v0 : Int} (i0 : I64 v0) {v1 : Int} (i1 : I64 v1) {v2 : Int} (i2 : I64 v2) {fu : Nat} {r : Bool} (hm : m_s_l1In fu v0 v1 v2 = some r) (hk : ∀ y, BoolR y r → K y h n) : CA Try.prog 77 [(.int .i64 v0), (.int .i64 v1), (.int .i64 v2)] h n K := by
 refine CA.enterQ (N := 15) (rs := [.tmp 6]) hT Try.call77 Try.func77 rfl rfl (of_decide_eq_true rfl) rfl fun hlt => ?_
 unfold m_s_l1In at hm
 refine rg0 hT ?_
 refine WQ.seq_k fun K12 hK12 => ?_
 have j15 : ∀ (E' : Env) (h' : Heap) (n' : Nat) (v14 : Bool), Norm n h E' h' n' (envZ [6] [(.bool v14)]) (hp h n []) n → (m_s_l1In_a1 fu v14) = some r → K12 E' h' n' := by
  intro E17 H18 n19 v14 N16 hm
  refine hK12 _ _ _ _ _ _ N16 ?_
  clear N16 hK12 K12
  unfold m_s_l1In_a1 at hm
  exact rtB 6 hlt hk (a := v14) hm
 clear hK12
 rcases Bool.eq_false_or_eq_true (decide (v1 ≤ v0)) with z20 | z20
 replace hm := ifT z20 hm
 refine WQ.region hT rfl ?_
 refine sq (eqT z20) ?_
 refine j15 _ _ _ (decide (v0 ≤ v2)) ?_ hm
 exact nm [] [6] [(.bool (decide (v0 ≤ v2)))] (rc rkb rn) RowsR.nil
 replace hm := ifF z20 hm
 refine WQ.region hT rfl ?_
 refine sq (eqF z20) ?_
 refine j15 _ _ _ false ?_ hm
 exact nm [] [6] [(.bool false)] (rc rkb rn) RowsR.nil
def m_s_l3Txn (fu : Nat) (v0 : Int) : Option Bool :=
  (Option.bind (m_s_l1In fu v0 1 999) fun v18 => some v18)
set_option maxHeartbeats 2000000 in
theorem w_s_l3Txn {v0 : Int} (i0 : I64 v0) {fu : Nat} {r : Bool} (hm : m_s_l3Txn fu v0 = some r) (hk : ∀ y, BoolR y r → K y h n) : CA Try.prog 127 [(.int .i64 v0)] h n K := by
 refine CA.enterQ (N := 5) (rs := [.tmp 2]) hT Try.call127 Try.func127 rfl rfl (of_decide_eq_true rfl) rfl fun hlt => ?_
 unfold m_s_l3Txn at hm
 refine rg0 hT ?_
 obtain ⟨v18, q17, hm⟩ := obs hm
 refine WQ.sr hT rfl fun K12 hK12 => ?_
 refine sq0 ?_
 refine w_s_l1In i0 (i64c (a := 1) rfl) (i64c (a := 999) rfl) q17 (fun y19 h20 => ?_)
 obtain rfl := h20
 refine sk0 ?_
 refine kn hK12 ?_
 clear hK12 K12
 exact rtB 2 hlt hk (a := v18) hm
def m_s_l1Key (fu : Nat) (v0 : Int) : Option Bool :=
  (Option.bind (m_s_l1In fu v0 0 31) fun v18 => some v18)
set_option maxHeartbeats 2000000 in
theorem w_s_l1Key {v0 : Int} (i0 : I64 v0) {fu : Nat} {r : Bool} (hm : m_s_l1Key fu v0 = some r) (hk : ∀ y, BoolR y r → K y h n) : CA Try.prog 128 [(.int .i64 v0)] h n K := by
 refine CA.enterQ (N := 5) (rs := [.tmp 2]) hT Try.call128 Try.func128 rfl rfl (of_decide_eq_true rfl) rfl fun hlt => ?_
 unfold m_s_l1Key at hm
 refine rg0 hT ?_
 obtain ⟨v18, q17, hm⟩ := obs hm
 refine WQ.sr hT rfl fun K12 hK12 => ?_
 refine sq0 ?_
 refine w_s_l1In i0 (i64c (a := 0) rfl) (i64c (a := 31) rfl) q17 (fun y19 h20 => ?_)
 obtain rfl := h20
 refine sk0 ?_
 refine kn hK12 ?_
 clear hK12 K12
 exact rtB 2 hlt hk (a := v18) hm
def m_s_l1Value (fu : Nat) (v0 : Int) : Option Bool :=
  (Option.bind (m_s_l1In fu v0 0 9999) fun v18 => some v18)
set_option maxHeartbeats 2000000 in
theorem w_s_l1Value {v0 : Int} (i0 : I64 v0) {fu : Nat} {r : Bool} (hm : m_s_l1Value fu v0 = some r) (hk : ∀ y, BoolR y r → K y h n) : CA Try.prog 129 [(.int .i64 v0)] h n K := by
 refine CA.enterQ (N := 5) (rs := [.tmp 2]) hT Try.call129 Try.func129 rfl rfl (of_decide_eq_true rfl) rfl fun hlt => ?_
 unfold m_s_l1Value at hm
 refine rg0 hT ?_
 obtain ⟨v18, q17, hm⟩ := obs hm
 refine WQ.sr hT rfl fun K12 hK12 => ?_
 refine sq0 ?_
 refine w_s_l1In i0 (i64c (a := 0) rfl) (i64c (a := 9999) rfl) q17 (fun y19 h20 => ?_)
 obtain rfl := h20
 refine sk0 ?_
 refine kn hK12 ?_
 clear hK12 K12
 exact rtB 2 hlt hk (a := v18) hm
def m_s_RecFault_a1 (fu : Nat) (v258 : Bool) : Option Int :=
  (if v258 = true then some 1 else some 0)
def m_s_RecFault_a2 (fu : Nat) (v0 : RecD) (v221 : Bool) : Option Int :=
  (if v221 = true then some 1 else (if (!v0.had) = true then (if (decide (v0.old ≠ 0)) = true then (m_s_RecFault_a1 fu true) else (if (!v0.has) = true then (if (decide (v0.new ≠ 0)) = true then (m_s_RecFault_a1 fu true) else (m_s_RecFault_a1 fu (!((decide (v0.kind = 5)) == (decide (v0.back ≠ 0)))))) else (m_s_RecFault_a1 fu (!((decide (v0.kind = 5)) == (decide (v0.back ≠ 0))))))) else (if (!v0.has) = true then (if (decide (v0.new ≠ 0)) = true then (m_s_RecFault_a1 fu true) else (m_s_RecFault_a1 fu (!((decide (v0.kind = 5)) == (decide (v0.back ≠ 0)))))) else (m_s_RecFault_a1 fu (!((decide (v0.kind = 5)) == (decide (v0.back ≠ 0))))))))
def m_s_RecFault_a3 (fu : Nat) (v0 : RecD) (v189 : Bool) : Option Int :=
  (if (!v189) = true then (if (decide (v0.key ≠ 0)) = true then (m_s_RecFault_a2 fu v0 true) else (if v0.had = true then (m_s_RecFault_a2 fu v0 true) else (if (decide (v0.old ≠ 0)) = true then (m_s_RecFault_a2 fu v0 true) else (if v0.has = true then (m_s_RecFault_a2 fu v0 true) else (m_s_RecFault_a2 fu v0 (decide (v0.new ≠ 0))))))) else (m_s_RecFault_a2 fu v0 false))
def m_s_RecFault_a4 (fu : Nat) (v0 : RecD) (v179 : Bool) : Option Int :=
  (if v179 = true then some 3 else (if (decide (v0.kind = 2)) = true then (m_s_RecFault_a3 fu v0 true) else (m_s_RecFault_a3 fu v0 (decide (v0.kind = 5)))))
def m_s_RecFault (fu : Nat) (v0 : RecD) : Option Int :=
  (Option.bind (m_s_l1In fu v0.kind 1 6) fun v280 => (if (!v280) = true then (m_s_RecFault_a4 fu v0 true) else (if (!((decide (v0.kind = 6)) == (decide (v0.txn = 0)))) = true then (m_s_RecFault_a4 fu v0 true) else (if (decide (v0.txn ≠ 0)) = true then (Option.bind (m_s_l3Txn fu v0.txn) fun v287 => (if (!v287) = true then (m_s_RecFault_a4 fu v0 true) else (Option.bind (m_s_l1Key fu v0.key) fun v292 => (if (!v292) = true then (m_s_RecFault_a4 fu v0 true) else (Option.bind (m_s_l1Value fu v0.old) fun v297 => (if (!v297) = true then (m_s_RecFault_a4 fu v0 true) else (Option.bind (m_s_l1Value fu v0.new) fun v302 => (if (!v302) = true then (m_s_RecFault_a4 fu v0 true) else (Option.bind (m_s_l1In fu v0.back 0 1000) fun v307 => (m_s_RecFault_a4 fu v0 (!v307))))))))))) else (Option.bind (m_s_l1Key fu v0.key) fun v311 => (if (!v311) = true then (m_s_RecFault_a4 fu v0 true) else (Option.bind (m_s_l1Value fu v0.old) fun v316 => (if (!v316) = true then (m_s_RecFault_a4 fu v0 true) else (Option.bind (m_s_l1Value fu v0.new) fun v321 => (if (!v321) = true then (m_s_RecFault_a4 fu v0 true) else (Option.bind (m_s_l1In fu v0.back 0 1000) fun v326 => (m_s_RecFault_a4 fu v0 (!v326)))))))))))))
set_option maxHeartbeats 2000000 in
theorem w_s_RecFault {x0 : AV} {v0 : RecD} (h0 : RecR x0 v0) {fu : Nat} {r : Int} (hm : m_s_RecFault fu v0 = some r) (hk : ∀ y, Int64R y r → K y h n) : CA Try.prog 92 [x0] h n K := by
 refine CA.enterQ (N := 112) (rs := [.tmp 2]) hT Try.call92 Try.func92 rfl rfl (of_decide_eq_true rfl) rfl fun hlt => ?_
 unfold m_s_RecFault at hm
 have gh0 := h0
 obtain ⟨rfl, i11, i12, i13, i14, i15, i16⟩ := h0
 refine rg0 hT ?_
 refine WQ.seq_k fun K18 hK18 => ?_
 refine WQ.seq_k fun K128 hK128 => ?_
 have j180 : ∀ (E' : Env) (h' : Heap) (n' : Nat) (v179 : Bool), Norm n h E' h' n' (envZ [1, 51] [(.ep 8 (.sl 8 n 0 1 1 true) 0 0), (.bool v179)]) (hp h n [some [(.agg [(.int .i64 v0.kind), (.int .i64 v0.txn), (.int .i64 v0.key), (.bool v0.had), (.int .i64 v0.old), (.bool v0.has), (.int .i64 v0.new), (.int .i64 v0.back)])]]) (n + 1) → (m_s_RecFault_a4 fu v0 v179) = some r → K128 E' h' n' := by
  intro E182 H183 n184 v179 N181 hm
  refine hK128 _ _ _ _ _ _ N181 ?_
  clear N181 hK128 K128
  unfold m_s_RecFault_a4 at hm
  refine cn hm (fun z185 hm => ?_) fun z185 hm => ?_
  refine rg0 hT ?_
  exact rtI 2 hlt hk (a := 3) hm (i64c (a := 3) rfl)
  refine WQ.skip ?_
  refine sg ?_
  refine kn hK18 ?_
  clear hK18 K18
  refine WQ.seq_k fun K187 hK187 => ?_
  have j190 : ∀ (E' : Env) (h' : Heap) (n' : Nat) (v189 : Bool), Norm n h E' h' n' (envZ [1, 3] [(.ep 8 (.sl 8 n 0 1 1 true) 0 0), (.bool v189)]) (hp h n [some [(.agg [(.int .i64 v0.kind), (.int .i64 v0.txn), (.int .i64 v0.key), (.bool v0.had), (.int .i64 v0.old), (.bool v0.has), (.int .i64 v0.new), (.int .i64 v0.back)])]]) (n + 1) → (m_s_RecFault_a3 fu v0 v189) = some r → K187 E' h' n' := by
   intro E192 H193 n194 v189 N191 hm
   refine hK187 _ _ _ _ _ _ N191 ?_
   clear N191 hK187 K187
   unfold m_s_RecFault_a3 at hm
   refine WQ.seq_k fun K195 hK195 => ?_
   refine WQ.seq_k fun K215 hK215 => ?_
   have j222 : ∀ (E' : Env) (h' : Heap) (n' : Nat) (v221 : Bool), Norm n h E' h' n' (envZ [1, 84] [(.ep 8 (.sl 8 n 0 1 1 true) 0 0), (.bool v221)]) (hp h n [some [(.agg [(.int .i64 v0.kind), (.int .i64 v0.txn), (.int .i64 v0.key), (.bool v0.had), (.int .i64 v0.old), (.bool v0.has), (.int .i64 v0.new), (.int .i64 v0.back)])]]) (n + 1) → (m_s_RecFault_a2 fu v0 v221) = some r → K215 E' h' n' := by
    intro E224 H225 n226 v221 N223 hm
    refine hK215 _ _ _ _ _ _ N223 ?_
    clear N223 hK215 K215
    unfold m_s_RecFault_a2 at hm
    refine cn hm (fun z227 hm => ?_) fun z227 hm => ?_
    refine rg0 hT ?_
    exact rtI 2 hlt hk (a := 1) hm (i64c (a := 1) rfl)
    refine WQ.skip ?_
    refine sg ?_
    refine kn hK195 ?_
    clear hK195 K195
    refine WQ.seq_k fun K229 hK229 => ?_
    refine WQ.seq_k fun K251 hK251 => ?_
    have j259 : ∀ (E' : Env) (h' : Heap) (n' : Nat) (v258 : Bool), Norm n h E' h' n' (envZ [111] [(.bool v258)]) (hp h n []) n → (m_s_RecFault_a1 fu v258) = some r → K251 E' h' n' := by
     intro E261 H262 n263 v258 N260 hm
     refine hK251 _ _ _ _ _ _ N260 ?_
     clear N260 hK251 K251
     unfold m_s_RecFault_a1 at hm
     refine cn hm (fun z264 hm => ?_) fun z264 hm => ?_
     refine rg0 hT ?_
     exact rtI 2 hlt hk (a := 1) hm (i64c (a := 1) rfl)
     refine WQ.skip ?_
     refine sg ?_
     refine kn hK229 ?_
     clear hK229 K229
     refine rg0 hT ?_
     exact rtI 2 hlt hk (a := 0) hm (i64c (a := 0) rfl)
    clear hK251
    rcases Bool.eq_false_or_eq_true (!v0.had) with z267 | z267
    replace hm := ifT z267 hm
    rcases Bool.eq_false_or_eq_true (decide (v0.old ≠ 0)) with z268 | z268
    replace hm := ifT z268 hm
    refine WQ.region hT rfl ?_
    refine sq (a2 (eqT z267) (eqT z268)) ?_
    refine j259 _ _ _ true ?_ hm
    exact nm [] [111] [(.bool true)] (rc rkb rn) RowsR.nil
    replace hm := ifF z268 hm
    rcases Bool.eq_false_or_eq_true (!v0.has) with z269 | z269
    replace hm := ifT z269 hm
    rcases Bool.eq_false_or_eq_true (decide (v0.new ≠ 0)) with z270 | z270
    replace hm := ifT z270 hm
    refine WQ.region hT rfl ?_
    refine sq (a4 (eqT z267) (eqF z268) (eqT z269) (eqT z270)) ?_
    refine j259 _ _ _ true ?_ hm
    exact nm [] [111] [(.bool true)] (rc rkb rn) RowsR.nil
    replace hm := ifF z270 hm
    refine WQ.region hT rfl ?_
    refine sq (a4 (eqT z267) (eqF z268) (eqT z269) (eqF z270)) ?_
    refine j259 _ _ _ (!((decide (v0.kind = 5)) == (decide (v0.back ≠ 0)))) ?_ hm
    exact nm [] [111] [(.bool (!((decide (v0.kind = 5)) == (decide (v0.back ≠ 0)))))] (rc rkb rn) RowsR.nil
    replace hm := ifF z269 hm
    refine WQ.region hT rfl ?_
    refine sq (a3 (eqT z267) (eqF z268) (eqF z269)) ?_
    refine j259 _ _ _ (!((decide (v0.kind = 5)) == (decide (v0.back ≠ 0)))) ?_ hm
    exact nm [] [111] [(.bool (!((decide (v0.kind = 5)) == (decide (v0.back ≠ 0)))))] (rc rkb rn) RowsR.nil
    replace hm := ifF z267 hm
    rcases Bool.eq_false_or_eq_true (!v0.has) with z271 | z271
    replace hm := ifT z271 hm
    rcases Bool.eq_false_or_eq_true (decide (v0.new ≠ 0)) with z272 | z272
    replace hm := ifT z272 hm
    refine WQ.region hT rfl ?_
    refine sq (a3 (eqF z267) (eqT z271) (eqT z272)) ?_
    refine j259 _ _ _ true ?_ hm
    exact nm [] [111] [(.bool true)] (rc rkb rn) RowsR.nil
    replace hm := ifF z272 hm
    refine WQ.region hT rfl ?_
    refine sq (a3 (eqF z267) (eqT z271) (eqF z272)) ?_
    refine j259 _ _ _ (!((decide (v0.kind = 5)) == (decide (v0.back ≠ 0)))) ?_ hm
    exact nm [] [111] [(.bool (!((decide (v0.kind = 5)) == (decide (v0.back ≠ 0)))))] (rc rkb rn) RowsR.nil
    replace hm := ifF z271 hm
    refine WQ.region hT rfl ?_
    refine sq (a2 (eqF z267) (eqF z271)) ?_
    refine j259 _ _ _ (!((decide (v0.kind = 5)) == (decide (v0.back ≠ 0)))) ?_ hm
    exact nm [] [111] [(.bool (!((decide (v0.kind = 5)) == (decide (v0.back ≠ 0)))))] (rc rkb rn) RowsR.nil
   clear hK215
   rcases Bool.eq_false_or_eq_true (!v189) with z273 | z273
   replace hm := ifT z273 hm
   rcases Bool.eq_false_or_eq_true (decide (v0.key ≠ 0)) with z274 | z274
   replace hm := ifT z274 hm
   refine WQ.region hT rfl ?_
   refine sq (a2 (eqT z273) (eqT z274)) ?_
   refine j222 _ _ _ true ?_ hm
   exact nm [0] [1, 84] [(.ep 8 (.sl 8 n 0 1 1 true) 0 0), (.bool true)] (rc (Rn.ptr (js := [0]) 0 0) (rc rkb rn)) (RowsR.row 0 _ _ _ _ hp_get0 (rc (.keep _ (tyRec_76.lt _ _ _ gh0)) rn) RowsR.nil)
   replace hm := ifF z274 hm
   rcases Bool.eq_false_or_eq_true (v0.had) with z275 | z275
   replace hm := ifT z275 hm
   refine WQ.region hT rfl ?_
   refine sq (a3 (eqT z273) (eqF z274) (eqT z275)) ?_
   refine j222 _ _ _ true ?_ hm
   exact nm [0] [1, 84] [(.ep 8 (.sl 8 n 0 1 1 true) 0 0), (.bool true)] (rc (Rn.ptr (js := [0]) 0 0) (rc rkb rn)) (RowsR.row 0 _ _ _ _ hp_get0 (rc (.keep _ (tyRec_76.lt _ _ _ gh0)) rn) RowsR.nil)
   replace hm := ifF z275 hm
   rcases Bool.eq_false_or_eq_true (decide (v0.old ≠ 0)) with z276 | z276
   replace hm := ifT z276 hm
   refine WQ.region hT rfl ?_
   refine sq (a4 (eqT z273) (eqF z274) (eqF z275) (eqT z276)) ?_
   refine j222 _ _ _ true ?_ hm
   exact nm [0] [1, 84] [(.ep 8 (.sl 8 n 0 1 1 true) 0 0), (.bool true)] (rc (Rn.ptr (js := [0]) 0 0) (rc rkb rn)) (RowsR.row 0 _ _ _ _ hp_get0 (rc (.keep _ (tyRec_76.lt _ _ _ gh0)) rn) RowsR.nil)
   replace hm := ifF z276 hm
   rcases Bool.eq_false_or_eq_true (v0.has) with z277 | z277
   replace hm := ifT z277 hm
   refine WQ.region hT rfl ?_
   refine sq (a5 (eqT z273) (eqF z274) (eqF z275) (eqF z276) (eqT z277)) ?_
   refine j222 _ _ _ true ?_ hm
   exact nm [0] [1, 84] [(.ep 8 (.sl 8 n 0 1 1 true) 0 0), (.bool true)] (rc (Rn.ptr (js := [0]) 0 0) (rc rkb rn)) (RowsR.row 0 _ _ _ _ hp_get0 (rc (.keep _ (tyRec_76.lt _ _ _ gh0)) rn) RowsR.nil)
   replace hm := ifF z277 hm
   refine WQ.region hT rfl ?_
   refine sq (a5 (eqT z273) (eqF z274) (eqF z275) (eqF z276) (eqF z277)) ?_
   refine j222 _ _ _ (decide (v0.new ≠ 0)) ?_ hm
   exact nm [0] [1, 84] [(.ep 8 (.sl 8 n 0 1 1 true) 0 0), (.bool (decide (v0.new ≠ 0)))] (rc (Rn.ptr (js := [0]) 0 0) (rc rkb rn)) (RowsR.row 0 _ _ _ _ hp_get0 (rc (.keep _ (tyRec_76.lt _ _ _ gh0)) rn) RowsR.nil)
   replace hm := ifF z273 hm
   refine WQ.region hT rfl ?_
   refine sq (eqF z273) ?_
   refine j222 _ _ _ false ?_ hm
   exact nm [0] [1, 84] [(.ep 8 (.sl 8 n 0 1 1 true) 0 0), (.bool false)] (rc (Rn.ptr (js := [0]) 0 0) (rc rkb rn)) (RowsR.row 0 _ _ _ _ hp_get0 (rc (.keep _ (tyRec_76.lt _ _ _ gh0)) rn) RowsR.nil)
  clear hK187
  rcases Bool.eq_false_or_eq_true (decide (v0.kind = 2)) with z278 | z278
  replace hm := ifT z278 hm
  refine WQ.region hT rfl ?_
  refine sq (eqT z278) ?_
  refine j190 _ _ _ true ?_ hm
  exact nm [0] [1, 3] [(.ep 8 (.sl 8 n 0 1 1 true) 0 0), (.bool true)] (rc (Rn.ptr (js := [0]) 0 0) (rc rkb rn)) (RowsR.row 0 _ _ _ _ hp_get0 (rc (.keep _ (tyRec_76.lt _ _ _ gh0)) rn) RowsR.nil)
  replace hm := ifF z278 hm
  refine WQ.region hT rfl ?_
  refine sq (eqF z278) ?_
  refine j190 _ _ _ (decide (v0.kind = 5)) ?_ hm
  exact nm [0] [1, 3] [(.ep 8 (.sl 8 n 0 1 1 true) 0 0), (.bool (decide (v0.kind = 5)))] (rc (Rn.ptr (js := [0]) 0 0) (rc rkb rn)) (RowsR.row 0 _ _ _ _ hp_get0 (rc (.keep _ (tyRec_76.lt _ _ _ gh0)) rn) RowsR.nil)
 clear hK128
 obtain ⟨v280, q279, hm⟩ := obs hm
 rcases Bool.eq_false_or_eq_true (!v280) with z283 | z283
 replace hm := ifT z283 hm
 refine WQ.region hT rfl ?_
 refine sq0 ?_
 refine w_s_l1In i11 (i64c (a := 1) rfl) (i64c (a := 6) rfl) q279 (fun y281 h282 => ?_)
 obtain rfl := h282
 refine sk (eqT z283) ?_
 refine j180 _ _ _ true ?_ hm
 exact nm [0] [1, 51] [(.ep 8 (.sl 8 n 0 1 1 true) 0 0), (.bool true)] (rc (Rn.ptr (js := [0]) 0 0) (rc rkb rn)) (RowsR.row 0 _ _ _ _ hp_get0 (rc (.keep _ (tyRec_76.lt _ _ _ gh0)) rn) RowsR.nil)
 replace hm := ifF z283 hm
 rcases Bool.eq_false_or_eq_true (!((decide (v0.kind = 6)) == (decide (v0.txn = 0)))) with z284 | z284
 replace hm := ifT z284 hm
 refine WQ.region hT rfl ?_
 refine sq0 ?_
 refine w_s_l1In i11 (i64c (a := 1) rfl) (i64c (a := 6) rfl) q279 (fun y281 h282 => ?_)
 obtain rfl := h282
 refine sk (a2 (eqF z283) (eqT z284)) ?_
 refine j180 _ _ _ true ?_ hm
 exact nm [0] [1, 51] [(.ep 8 (.sl 8 n 0 1 1 true) 0 0), (.bool true)] (rc (Rn.ptr (js := [0]) 0 0) (rc rkb rn)) (RowsR.row 0 _ _ _ _ hp_get0 (rc (.keep _ (tyRec_76.lt _ _ _ gh0)) rn) RowsR.nil)
 replace hm := ifF z284 hm
 rcases Bool.eq_false_or_eq_true (decide (v0.txn ≠ 0)) with z285 | z285
 replace hm := ifT z285 hm
 obtain ⟨v287, q286, hm⟩ := obs hm
 rcases Bool.eq_false_or_eq_true (!v287) with z290 | z290
 replace hm := ifT z290 hm
 refine WQ.region hT rfl ?_
 refine sq0 ?_
 refine w_s_l1In i11 (i64c (a := 1) rfl) (i64c (a := 6) rfl) q279 (fun y281 h282 => ?_)
 obtain rfl := h282
 refine sk (a3 (eqF z283) (eqF z284) (eqT z285)) ?_
 refine w_s_l3Txn i12 q286 (fun y288 h289 => ?_)
 obtain rfl := h289
 refine sk (a4 (eqF z283) (eqF z284) (eqT z285) (eqT z290)) ?_
 refine j180 _ _ _ true ?_ hm
 exact nm [0] [1, 51] [(.ep 8 (.sl 8 n 0 1 1 true) 0 0), (.bool true)] (rc (Rn.ptr (js := [0]) 0 0) (rc rkb rn)) (RowsR.row 0 _ _ _ _ hp_get0 (rc (.keep _ (tyRec_76.lt _ _ _ gh0)) rn) RowsR.nil)
 replace hm := ifF z290 hm
 obtain ⟨v292, q291, hm⟩ := obs hm
 rcases Bool.eq_false_or_eq_true (!v292) with z295 | z295
 replace hm := ifT z295 hm
 refine WQ.region hT rfl ?_
 refine sq0 ?_
 refine w_s_l1In i11 (i64c (a := 1) rfl) (i64c (a := 6) rfl) q279 (fun y281 h282 => ?_)
 obtain rfl := h282
 refine sk (a3 (eqF z283) (eqF z284) (eqT z285)) ?_
 refine w_s_l3Txn i12 q286 (fun y288 h289 => ?_)
 obtain rfl := h289
 refine sk (a4 (eqF z283) (eqF z284) (eqT z285) (eqF z290)) ?_
 refine w_s_l1Key i13 q291 (fun y293 h294 => ?_)
 obtain rfl := h294
 refine sk (a5 (eqF z283) (eqF z284) (eqT z285) (eqF z290) (eqT z295)) ?_
 refine j180 _ _ _ true ?_ hm
 exact nm [0] [1, 51] [(.ep 8 (.sl 8 n 0 1 1 true) 0 0), (.bool true)] (rc (Rn.ptr (js := [0]) 0 0) (rc rkb rn)) (RowsR.row 0 _ _ _ _ hp_get0 (rc (.keep _ (tyRec_76.lt _ _ _ gh0)) rn) RowsR.nil)
 replace hm := ifF z295 hm
 obtain ⟨v297, q296, hm⟩ := obs hm
 rcases Bool.eq_false_or_eq_true (!v297) with z300 | z300
 replace hm := ifT z300 hm
 refine WQ.region hT rfl ?_
 refine sq0 ?_
 refine w_s_l1In i11 (i64c (a := 1) rfl) (i64c (a := 6) rfl) q279 (fun y281 h282 => ?_)
 obtain rfl := h282
 refine sk (a3 (eqF z283) (eqF z284) (eqT z285)) ?_
 refine w_s_l3Txn i12 q286 (fun y288 h289 => ?_)
 obtain rfl := h289
 refine sk (a4 (eqF z283) (eqF z284) (eqT z285) (eqF z290)) ?_
 refine w_s_l1Key i13 q291 (fun y293 h294 => ?_)
 obtain rfl := h294
 refine sk (a5 (eqF z283) (eqF z284) (eqT z285) (eqF z290) (eqF z295)) ?_
 refine w_s_l1Value i14 q296 (fun y298 h299 => ?_)
 obtain rfl := h299
 refine sk (a5 (eqF z283) (eqF z284) (eqT z285) (eqF z290) (a2 (eqF z295) (eqT z300))) ?_
 refine j180 _ _ _ true ?_ hm
 exact nm [0] [1, 51] [(.ep 8 (.sl 8 n 0 1 1 true) 0 0), (.bool true)] (rc (Rn.ptr (js := [0]) 0 0) (rc rkb rn)) (RowsR.row 0 _ _ _ _ hp_get0 (rc (.keep _ (tyRec_76.lt _ _ _ gh0)) rn) RowsR.nil)
 replace hm := ifF z300 hm
 obtain ⟨v302, q301, hm⟩ := obs hm
 rcases Bool.eq_false_or_eq_true (!v302) with z305 | z305
 replace hm := ifT z305 hm
 refine WQ.region hT rfl ?_
 refine sq0 ?_
 refine w_s_l1In i11 (i64c (a := 1) rfl) (i64c (a := 6) rfl) q279 (fun y281 h282 => ?_)
 obtain rfl := h282
 refine sk (a3 (eqF z283) (eqF z284) (eqT z285)) ?_
 refine w_s_l3Txn i12 q286 (fun y288 h289 => ?_)
 obtain rfl := h289
 refine sk (a4 (eqF z283) (eqF z284) (eqT z285) (eqF z290)) ?_
 refine w_s_l1Key i13 q291 (fun y293 h294 => ?_)
 obtain rfl := h294
 refine sk (a5 (eqF z283) (eqF z284) (eqT z285) (eqF z290) (eqF z295)) ?_
 refine w_s_l1Value i14 q296 (fun y298 h299 => ?_)
 obtain rfl := h299
 refine sk (a5 (eqF z283) (eqF z284) (eqT z285) (eqF z290) (a2 (eqF z295) (eqF z300))) ?_
 refine w_s_l1Value i15 q301 (fun y303 h304 => ?_)
 obtain rfl := h304
 refine sk (a5 (eqF z283) (eqF z284) (eqT z285) (eqF z290) (a3 (eqF z295) (eqF z300) (eqT z305))) ?_
 refine j180 _ _ _ true ?_ hm
 exact nm [0] [1, 51] [(.ep 8 (.sl 8 n 0 1 1 true) 0 0), (.bool true)] (rc (Rn.ptr (js := [0]) 0 0) (rc rkb rn)) (RowsR.row 0 _ _ _ _ hp_get0 (rc (.keep _ (tyRec_76.lt _ _ _ gh0)) rn) RowsR.nil)
 replace hm := ifF z305 hm
 obtain ⟨v307, q306, hm⟩ := obs hm
 refine WQ.region hT rfl ?_
 refine sq0 ?_
 refine w_s_l1In i11 (i64c (a := 1) rfl) (i64c (a := 6) rfl) q279 (fun y281 h282 => ?_)
 obtain rfl := h282
 refine sk (a3 (eqF z283) (eqF z284) (eqT z285)) ?_
 refine w_s_l3Txn i12 q286 (fun y288 h289 => ?_)
 obtain rfl := h289
 refine sk (a4 (eqF z283) (eqF z284) (eqT z285) (eqF z290)) ?_
 refine w_s_l1Key i13 q291 (fun y293 h294 => ?_)
 obtain rfl := h294
 refine sk (a5 (eqF z283) (eqF z284) (eqT z285) (eqF z290) (eqF z295)) ?_
 refine w_s_l1Value i14 q296 (fun y298 h299 => ?_)
 obtain rfl := h299
 refine sk (a5 (eqF z283) (eqF z284) (eqT z285) (eqF z290) (a2 (eqF z295) (eqF z300))) ?_
 refine w_s_l1Value i15 q301 (fun y303 h304 => ?_)
 obtain rfl := h304
 refine sk (a5 (eqF z283) (eqF z284) (eqT z285) (eqF z290) (a3 (eqF z295) (eqF z300) (eqF z305))) ?_
 refine w_s_l1In i16 (i64c (a := 0) rfl) (i64c (a := 1000) rfl) q306 (fun y308 h309 => ?_)
 obtain rfl := h309
 refine sk (a5 (eqF z283) (eqF z284) (eqT z285) (eqF z290) (a3 (eqF z295) (eqF z300) (eqF z305))) ?_
 refine j180 _ _ _ (!v307) ?_ hm
 exact nm [0] [1, 51] [(.ep 8 (.sl 8 n 0 1 1 true) 0 0), (.bool (!v307))] (rc (Rn.ptr (js := [0]) 0 0) (rc rkb rn)) (RowsR.row 0 _ _ _ _ hp_get0 (rc (.keep _ (tyRec_76.lt _ _ _ gh0)) rn) RowsR.nil)
 replace hm := ifF z285 hm
 obtain ⟨v311, q310, hm⟩ := obs hm
 rcases Bool.eq_false_or_eq_true (!v311) with z314 | z314
 replace hm := ifT z314 hm
 refine WQ.region hT rfl ?_
 refine sq0 ?_
 refine w_s_l1In i11 (i64c (a := 1) rfl) (i64c (a := 6) rfl) q279 (fun y281 h282 => ?_)
 obtain rfl := h282
 refine sk (a3 (eqF z283) (eqF z284) (eqF z285)) ?_
 refine w_s_l1Key i13 q310 (fun y312 h313 => ?_)
 obtain rfl := h313
 refine sk (a4 (eqF z283) (eqF z284) (eqF z285) (eqT z314)) ?_
 refine j180 _ _ _ true ?_ hm
 exact nm [0] [1, 51] [(.ep 8 (.sl 8 n 0 1 1 true) 0 0), (.bool true)] (rc (Rn.ptr (js := [0]) 0 0) (rc rkb rn)) (RowsR.row 0 _ _ _ _ hp_get0 (rc (.keep _ (tyRec_76.lt _ _ _ gh0)) rn) RowsR.nil)
 replace hm := ifF z314 hm
 obtain ⟨v316, q315, hm⟩ := obs hm
 rcases Bool.eq_false_or_eq_true (!v316) with z319 | z319
 replace hm := ifT z319 hm
 refine WQ.region hT rfl ?_
 refine sq0 ?_
 refine w_s_l1In i11 (i64c (a := 1) rfl) (i64c (a := 6) rfl) q279 (fun y281 h282 => ?_)
 obtain rfl := h282
 refine sk (a3 (eqF z283) (eqF z284) (eqF z285)) ?_
 refine w_s_l1Key i13 q310 (fun y312 h313 => ?_)
 obtain rfl := h313
 refine sk (a4 (eqF z283) (eqF z284) (eqF z285) (eqF z314)) ?_
 refine w_s_l1Value i14 q315 (fun y317 h318 => ?_)
 obtain rfl := h318
 refine sk (a5 (eqF z283) (eqF z284) (eqF z285) (eqF z314) (eqT z319)) ?_
 refine j180 _ _ _ true ?_ hm
 exact nm [0] [1, 51] [(.ep 8 (.sl 8 n 0 1 1 true) 0 0), (.bool true)] (rc (Rn.ptr (js := [0]) 0 0) (rc rkb rn)) (RowsR.row 0 _ _ _ _ hp_get0 (rc (.keep _ (tyRec_76.lt _ _ _ gh0)) rn) RowsR.nil)
 replace hm := ifF z319 hm
 obtain ⟨v321, q320, hm⟩ := obs hm
 rcases Bool.eq_false_or_eq_true (!v321) with z324 | z324
 replace hm := ifT z324 hm
 refine WQ.region hT rfl ?_
 refine sq0 ?_
 refine w_s_l1In i11 (i64c (a := 1) rfl) (i64c (a := 6) rfl) q279 (fun y281 h282 => ?_)
 obtain rfl := h282
 refine sk (a3 (eqF z283) (eqF z284) (eqF z285)) ?_
 refine w_s_l1Key i13 q310 (fun y312 h313 => ?_)
 obtain rfl := h313
 refine sk (a4 (eqF z283) (eqF z284) (eqF z285) (eqF z314)) ?_
 refine w_s_l1Value i14 q315 (fun y317 h318 => ?_)
 obtain rfl := h318
 refine sk (a5 (eqF z283) (eqF z284) (eqF z285) (eqF z314) (eqF z319)) ?_
 refine w_s_l1Value i15 q320 (fun y322 h323 => ?_)
 obtain rfl := h323
 refine sk (a5 (eqF z283) (eqF z284) (eqF z285) (eqF z314) (a2 (eqF z319) (eqT z324))) ?_
 refine j180 _ _ _ true ?_ hm
 exact nm [0] [1, 51] [(.ep 8 (.sl 8 n 0 1 1 true) 0 0), (.bool true)] (rc (Rn.ptr (js := [0]) 0 0) (rc rkb rn)) (RowsR.row 0 _ _ _ _ hp_get0 (rc (.keep _ (tyRec_76.lt _ _ _ gh0)) rn) RowsR.nil)
 replace hm := ifF z324 hm
 obtain ⟨v326, q325, hm⟩ := obs hm
 refine WQ.region hT rfl ?_
 refine sq0 ?_
 refine w_s_l1In i11 (i64c (a := 1) rfl) (i64c (a := 6) rfl) q279 (fun y281 h282 => ?_)
 obtain rfl := h282
 refine sk (a3 (eqF z283) (eqF z284) (eqF z285)) ?_
 refine w_s_l1Key i13 q310 (fun y312 h313 => ?_)
 obtain rfl := h313
 refine sk (a4 (eqF z283) (eqF z284) (eqF z285) (eqF z314)) ?_
 refine w_s_l1Value i14 q315 (fun y317 h318 => ?_)
 obtain rfl := h318
 refine sk (a5 (eqF z283) (eqF z284) (eqF z285) (eqF z314) (eqF z319)) ?_
 refine w_s_l1Value i15 q320 (fun y322 h323 => ?_)
 obtain rfl := h323
 refine sk (a5 (eqF z283) (eqF z284) (eqF z285) (eqF z314) (a2 (eqF z319) (eqF z324))) ?_
 refine w_s_l1In i16 (i64c (a := 0) rfl) (i64c (a := 1000) rfl) q325 (fun y327 h328 => ?_)
 obtain rfl := h328
 refine sk (a5 (eqF z283) (eqF z284) (eqF z285) (eqF z314) (a2 (eqF z319) (eqF z324))) ?_
 refine j180 _ _ _ (!v326) ?_ hm
 exact nm [0] [1, 51] [(.ep 8 (.sl 8 n 0 1 1 true) 0 0), (.bool (!v326))] (rc (Rn.ptr (js := [0]) 0 0) (rc rkb rn)) (RowsR.row 0 _ _ _ _ hp_get0 (rc (.keep _ (tyRec_76.lt _ _ _ gh0)) rn) RowsR.nil)
end
end Go.Proofs.Ytcngfjmfgeckmaa
end
namespace Go.Proofs.Ytcngfjmfgeckmaa
open Go
def within (x lo hi : Int) : Bool := decide (lo ≤ x) && decide (x ≤ hi)
def RecD.turns (r : RecD) : Bool := decide (r.kind = 2) || decide (r.kind = 5)
def RecD.bad1 (r : RecD) : Bool := ((((!within r.kind 1 6 || !(if r.kind = 6 then decide (r.txn = 0) else within r.txn 1 999)) || !within r.key 0 31) || !within r.old 0 9999) || !within r.new 0 9999) || !within r.back 0 1000
def RecD.bad2 (r : RecD) : Bool := !r.turns && ((((decide (r.key ≠ 0) || r.had) || decide (r.old ≠ 0)) || r.has) || decide (r.new ≠ 0))
def RecD.bad3 (r : RecD) : Bool := ((!r.had && decide (r.old ≠ 0)) || (!r.has && decide (r.new ≠ 0))) || !(decide (r.kind = 5) == decide (r.back ≠ 0))
def recFault (r : RecD) : Int := if r.bad1 = true then 3 else if r.bad2 = true then 1 else if r.bad3 = true then 1 else 0
theorem bad1_spec (r : RecD) : r.bad1 = (((((((!within r.kind 1 6) || !(decide (r.kind = 6) == decide (r.txn = 0))) || (decide (r.txn ≠ 0) && !within r.txn 1 999)) || !within r.key 0 31) || !within r.old 0 9999) || !within r.new 0 9999) || !within r.back 0 1000) := by
  unfold RecD.bad1
  have : ((!within r.kind 1 6) || !(if r.kind = 6 then decide (r.txn = 0) else within r.txn 1 999)) = (((!within r.kind 1 6) || !(decide (r.kind = 6) == decide (r.txn = 0))) || (decide (r.txn ≠ 0) && !within r.txn 1 999)) := by
    by_cases h1 : r.kind = 6 <;> by_cases h2 : r.txn = 0 <;> simp [h1, h2, within]
  rw [this]
section
variable {fu : Nat}
theorem m_i_within_eq {x lo hi : Int} : m_i_within fu x lo hi = some (within x lo hi) := by
  unfold m_i_within m_i_within_a1 within; cases decide (lo ≤ x) <;> rfl
theorem m_s_l1In_eq {x lo hi : Int} : m_s_l1In fu x lo hi = some (within x lo hi) := by
  unfold m_s_l1In m_s_l1In_a1 within; cases decide (lo ≤ x) <;> rfl
theorem m_i_isTxn_eq {x : Int} : m_i_isTxn fu x = some (within x 1 999) := by unfold m_i_isTxn; rw [m_i_within_eq]; rfl
theorem m_i_isKey_eq {x : Int} : m_i_isKey fu x = some (within x 0 31) := by unfold m_i_isKey; rw [m_i_within_eq]; rfl
theorem m_i_isValue_eq {x : Int} : m_i_isValue fu x = some (within x 0 9999) := by unfold m_i_isValue; rw [m_i_within_eq]; rfl
theorem m_s_l3Txn_eq {x : Int} : m_s_l3Txn fu x = some (within x 1 999) := by unfold m_s_l3Txn; rw [m_s_l1In_eq]; rfl
theorem m_s_l1Key_eq {x : Int} : m_s_l1Key fu x = some (within x 0 31) := by unfold m_s_l1Key; rw [m_s_l1In_eq]; rfl
theorem m_s_l1Value_eq {x : Int} : m_s_l1Value fu x = some (within x 0 9999) := by unfold m_s_l1Value; rw [m_s_l1In_eq]; rfl
theorem m_i_Rec_turns_eq {r : RecD} : m_i_Rec_turns fu r = some r.turns := by
  unfold m_i_Rec_turns m_i_Rec_turns_a1 RecD.turns; cases decide (r.kind = 2) <;> rfl
theorem m_i_RecFault_eq {r : RecD} : m_i_RecFault fu r = some (recFault r) := by
  have e5 : ∀ b, m_i_RecFault_a5 fu r b = some (if b = true then 3 else if r.bad2 = true then 1 else if r.bad3 = true then 1 else 0) := fun b => by
    unfold m_i_RecFault_a5 m_i_RecFault_a4 m_i_RecFault_a3 m_i_RecFault_a2 m_i_RecFault_a1 RecD.bad2 RecD.bad3
    rw [m_i_Rec_turns_eq, Option.bind_some]
    cases b
    · cases r.turns <;> cases decide (r.key ≠ 0) <;> cases r.had <;> cases decide (r.old ≠ 0) <;> cases r.has <;> cases decide (r.new ≠ 0) <;> cases (decide (r.kind = 5) == decide (r.back ≠ 0)) <;> rfl
    · rfl
  have e6 : ∀ b, m_i_RecFault_a6 fu r b = some (if (((((!within r.kind 1 6 || !b) || !within r.key 0 31) || !within r.old 0 9999) || !within r.new 0 9999) || !within r.back 0 1000) = true then 3 else if r.bad2 = true then 1 else if r.bad3 = true then 1 else 0) := fun b => by
    unfold m_i_RecFault_a6
    rw [m_i_within_eq, Option.bind_some, m_i_isKey_eq, Option.bind_some, m_i_isValue_eq, Option.bind_some, m_i_isValue_eq, Option.bind_some, m_i_within_eq, Option.bind_some]
    rw [e5, e5]
    cases within r.kind 1 6 <;> cases b <;> cases within r.key 0 31 <;> cases within r.old 0 9999 <;> cases within r.new 0 9999 <;> cases within r.back 0 1000 <;> rfl
  unfold m_i_RecFault recFault RecD.bad1
  rw [m_i_isTxn_eq, Option.bind_some, e6, e6]
  by_cases h6 : r.kind = 6
  · rw [if_pos (decide_eq_true h6), if_pos h6]
  · rw [if_neg (by simp [h6]), if_neg h6]
theorem m_s_RecFault_eq {r : RecD} : m_s_RecFault fu r = some (recFault r) := by
  have e3 : ∀ b, m_s_RecFault_a3 fu r b = some (if (!b && ((((decide (r.key ≠ 0) || r.had) || decide (r.old ≠ 0)) || r.has) || decide (r.new ≠ 0))) = true then 1 else if r.bad3 = true then 1 else 0) := fun b => by
    unfold m_s_RecFault_a3 m_s_RecFault_a2 m_s_RecFault_a1 RecD.bad3
    cases b <;> cases decide (r.key ≠ 0) <;> cases r.had <;> cases decide (r.old ≠ 0) <;> cases r.has <;> cases decide (r.new ≠ 0) <;> cases (decide (r.kind = 5) == decide (r.back ≠ 0)) <;> rfl
  have e4 : ∀ b, m_s_RecFault_a4 fu r b = some (if b = true then 3 else if r.bad2 = true then 1 else if r.bad3 = true then 1 else 0) := fun b => by
    unfold m_s_RecFault_a4 RecD.bad2 RecD.turns
    rw [e3, e3]
    cases b
    · cases decide (r.kind = 2) <;> rfl
    · rfl
  unfold m_s_RecFault recFault
  rw [bad1_spec, m_s_l1In_eq, m_s_l3Txn_eq, m_s_l1Key_eq, m_s_l1Value_eq, m_s_l1Value_eq, m_s_l1In_eq]
  simp only [Option.bind_some]
  rw [e4, e4]
  cases within r.kind 1 6 <;> cases (decide (r.kind = 6) == decide (r.txn = 0)) <;> cases decide (r.txn ≠ 0) <;> cases within r.txn 1 999 <;> cases within r.key 0 31 <;> cases within r.old 0 9999 <;> cases within r.new 0 9999 <;> cases within r.back 0 1000 <;> rfl
end
section
variable {h : Heap} {n : Nat} {K : AV → Heap → Nat → Prop}
theorem c55 {e : AV} {r : RecD} (hr : RecR e r) (hk : K (.bool r.turns) h n) : CA Try.prog 55 [e] h n K := w_i_Rec_turns hr (fu := 0) m_i_Rec_turns_eq fun y hy => by obtain rfl := hy; exact hk
theorem c92 {e : AV} {r : RecD} (hr : RecR e r) (hk : K (.int .i64 (recFault r)) h n) : CA Try.prog 92 [e] h n K := w_s_RecFault hr (fu := 0) m_s_RecFault_eq fun y hy => by obtain ⟨rfl, _⟩ := hy; exact hk
theorem c53 {e : AV} {r : RecD} (hr : RecR e r) (hk : K (.int .i64 (recFault r)) h n) : CA Try.prog 53 [e] h n K := w_i_RecFault hr (fu := 0) m_i_RecFault_eq fun y hy => by obtain ⟨rfl, _⟩ := hy; exact hk
end
end Go.Proofs.Ytcngfjmfgeckmaa
namespace Go.Proofs.Ytcngfjmfgeckmaa
open Go
section
variable {h : Heap} {n : Nat} {K : AV → Heap → Nat → Prop}
def has (l : List Int) (v : Int) : Bool := l.any fun a => decide (a = v)
theorem all2_drop {α β : Type} {Q : α → β → Prop} {a : List α} {b : List β} (h : All2 Q a b) (i : Nat) : All2 Q (a.drop i) (b.drop i) := by
  induction h generalizing i with
  | nil => simp; exact .nil
  | cons h1 h2 ih => cases i with | zero => exact .cons h1 h2 | succ i => simpa using ih i
theorem all2_take {α β : Type} {Q : α → β → Prop} {a : List α} {b : List β} (h : All2 Q a b) (i : Nat) : All2 Q (a.take i) (b.take i) := by
  induction h generalizing i with
  | nil => simp; exact .nil
  | cons h1 h2 ih => cases i with | zero => exact .nil | succ i => simpa using All2.cons h1 (ih i)
end
end Go.Proofs.Ytcngfjmfgeckmaa
namespace Go.Proofs.Ytcngfjmfgeckmaa
open Go
section
variable {h : Heap} {n : Nat} {K : AV → Heap → Nat → Prop}
def undoes (txn m : Int) (r : RecD) : Bool := (decide (r.kind = 5) && decide (r.txn = txn)) && decide (r.back = m)
def chainG (txn : Int) : Nat → List RecD → List Int
  | _, [] => []
  | k, r :: rest => chainG txn (k + 1) rest ++ (if ((decide (r.kind = 2) && decide (r.txn = txn)) && !rest.any (undoes txn ((k : Int) + 1))) = true then [(k : Int) + 1] else [])
theorem chainG_len (txn : Int) : ∀ (l : List RecD) (k : Nat), (chainG txn k l).length ≤ l.length
  | [], _ => Nat.le_refl _
  | r :: rest, k => by
    have := chainG_len txn rest (k + 1)
    unfold chainG
    split <;> simp <;> omega
theorem chainG_mem (txn : Int) : ∀ (l : List RecD) (k : Nat) (a : Int), a ∈ chainG txn k l → ∃ i r, l[i]? = some r ∧ a = ((k + i : Nat) : Int) + 1 ∧ r.kind = 2 ∧ r.txn = txn
  | [], _, a, h => by cases h
  | r :: rest, k, a, h => by
    unfold chainG at h
    rcases List.mem_append.1 h with h | h
    · obtain ⟨i, x, h1, h2, h3⟩ := chainG_mem txn rest (k + 1) a h
      exact ⟨i + 1, x, by simpa using h1, by rw [h2]; congr 1; omega, h3⟩
    · split at h
      · rename_i hc
        simp only [Bool.and_eq_true, decide_eq_true_eq] at hc
        exact ⟨0, r, rfl, by rw [List.mem_singleton.1 h]; rfl, hc.1⟩
      · cases h
theorem chainG_bd {txn : Int} {l : List RecD} {k : Nat} {a : Int} (h : a ∈ chainG txn k l) : 1 ≤ a ∧ a ≤ k + l.length := by
  obtain ⟨i, r, h1, h2, _⟩ := chainG_mem txn l k a h
  have := (List.getElem?_eq_some_iff.1 h1).1
  omega
theorem chainG_step {txn : Int} {l : List RecD} {j : Nat} {r : RecD} (hr : l[j]? = some r) :
    chainG txn j (l.drop j) = chainG txn (j + 1) (l.drop (j + 1)) ++ (if ((decide (r.kind = 2) && decide (r.txn = txn)) && !(l.drop (j + 1)).any (undoes txn ((j : Int) + 1))) = true then [(j : Int) + 1] else []) := by
  have : l.drop j = r :: l.drop (j + 1) := by
    obtain ⟨hj, rfl⟩ := List.getElem?_eq_some_iff.1 hr
    exact List.drop_eq_getElem_cons hj
  rw [this, chainG]
def goneG (txn : Int) : List RecD → List Int
  | [] => []
  | r :: rest => goneG txn rest ++ (if (decide (r.txn = txn) && decide (r.kind = 5)) = true then [r.back] else [])
theorem goneG_len (txn : Int) : ∀ l : List RecD, (goneG txn l).length ≤ l.length
  | [] => Nat.le_refl _
  | r :: rest => by have := goneG_len txn rest; unfold goneG; split <;> simp <;> omega
theorem goneG_has (txn m : Int) : ∀ l : List RecD, has (goneG txn l) m = l.any (undoes txn m)
  | [] => rfl
  | r :: rest => by
    have ih := goneG_has txn m rest
    unfold goneG
    unfold has at ih ⊢
    rw [List.any_append, ih, List.any_cons, Bool.or_comm]
    congr 1
    unfold undoes
    by_cases h1 : r.txn = txn <;> by_cases h2 : r.kind = 5 <;> simp [h1, h2]
theorem goneG_step {txn : Int} {l : List RecD} {j : Nat} {r : RecD} (hr : l[j]? = some r) :
    goneG txn (l.drop j) = goneG txn (l.drop (j + 1)) ++ (if (decide (r.txn = txn) && decide (r.kind = 5)) = true then [r.back] else []) := by
  have : l.drop j = r :: l.drop (j + 1) := by
    obtain ⟨hj, rfl⟩ := List.getElem?_eq_some_iff.1 hr
    exact List.drop_eq_getElem_cons hj
  rw [this, goneG]
end
end Go.Proofs.Ytcngfjmfgeckmaa
namespace Go.Proofs.Ytcngfjmfgeckmaa
open Go
section
variable {P : Program} {α : Type} {sz : Nat} {R : AV → α → Prop} {h : Heap} {n : Nat} {K : AV → Heap → Nat → Prop} {A : AV} {rw' : Option (List AV)} {l : List α}
theorem nown_up {m : Nat} (hA : NOwn (n + m) 0 sz R A rw' l) : NOwn n m sz R A rw' l := hA
theorem nown_mv {j : Nat} (i : Nat) (hA : NOwn n j sz R A rw' l) : ∃ A', NOwn n i sz R A' rw' l ∧ ∀ (js : List Nat) (H : Heap), js[i]? = some j → Rn n H (jsel n js) A A' := by
  rcases hA with ⟨rfl, rfl, rfl⟩ | ⟨es, rfl, rfl, ha, hm⟩
  · exact ⟨.nils, nown_nil rfl, fun js H _ => .keep _ .nils⟩
  · exact ⟨_, nown_own ha hm, fun js H hj => Rn.own j i hj⟩
theorem nown_lt (hA : NOwn n 0 sz R A rw' l) : A.Lt (n + 1) := by
  rcases hA with ⟨rfl, _, _⟩ | ⟨es, rfl, _, _, _⟩
  · exact .nils
  · exact .sl _ _ _ _ _ _ (Nat.lt_succ_self _)
theorem appN_nil {bytes : Nat} {l l2 r : List α} (hq : appL bytes l l2 = some r) (hl : l = []) (hz : l2 = []) : r = [] := by
  subst hl; subst hz
  unfold appL at hq
  split at hq
  · exact (Option.some.inj hq).symm
  · cases hq
theorem app_nlN {T : TE} {el : TypeId} {bytes : Nat} {H : Heap} {m : Nat} {y : AV} {es2 : List AV} {l2 r : List α} (hsz : sz = (T el).sz) (hpos : 0 < sz) (hby : bytes = (T el).bytes) (hy : rdSl H sz y = some es2) (hq : appL bytes l l2 = some r) (hl : l = []) (h2 : All2 R es2 l2) (hz : l2 = [])
    (hk : K .nils H m) : appendP T el .nils y H m K := by
  subst hby; subst hsz
  obtain ⟨g1, g2, g3⟩ := app_ok hq (all2_of_nil hl) h2
  refine ⟨es2, hy, hpos, by simpa using g1, by simpa using g2, ?_⟩
  rw [if_pos (all2_nil hz h2)]
  exact hk
theorem app_nlC {T : TE} {el : TypeId} {bytes : Nat} {H : Heap} {m : Nat} {y : AV} {es2 : List AV} {l2 r : List α} (hsz : sz = (T el).sz) (hpos : 0 < sz) (hby : bytes = (T el).bytes) (hy : rdSl H sz y = some es2) (hq : appL bytes l l2 = some r) (hl : l = []) (h2 : All2 R es2 l2) (hz : l2 ≠ [])
    (hk : K (.sl sz m 0 r.length r.length false) (H.upd m ([] ++ es2)) (m + 1)) : appendP T el .nils y H m K := by
  subst hby; subst hsz
  obtain ⟨g1, g2, g3⟩ := app_ok hq (all2_of_nil hl) h2
  have hr := all2_length g3
  refine ⟨es2, hy, hpos, by simpa using g1, by simpa using g2, ?_⟩
  rw [if_neg (fun h => hz (by subst h; cases h2; rfl))]
  rw [← hr] at hk
  simpa using hk
theorem hkN {r m : List α} (hk : ∀ A rw, NOwn n 0 sz R A rw r → K A (hp h n [rw]) (n + 1)) (hm : some m = some r) (hA : NOwn n 0 sz R A rw' m) : K A (hp h n [rw']) (n + 1) := by
  cases hm; exact hk _ _ hA
theorem nown_conv {K2 : AV → Prop} (hlt : ∀ id b, h id = some b → id < n) (hR : ∀ e a n, R e a → e.Lt n) (hA : NOwn n 0 sz R A rw' l) (G : AV → AV) (hG : ∀ H u u', Frz n H u u' → Frz n H (G u) (G u')) (hk : ∀ y, SlR sz R y l → K (G y) h n) :
    ∃ r2 h2 n2, Conv n h (G A) (hp h n [rw']) (n + 1) r2 h2 n2 ∧ K r2 h2 n2 := by
  have left : Left n h (hp h n [rw']) h := ⟨fun id b hb => ⟨hlt id b hb, by rw [hp_low (hlt id b hb)]; exact hb⟩, fun id b hb => .inl hb⟩
  rcases hA with ⟨rfl, rfl, rfl⟩ | ⟨es, rfl, rfl, ha, hm⟩
  · exact ret_f left (hG _ _ _ (.keep _ .nils)) (hk _ slr_nil)
  · have hl := all2_length ha
    refine ret_f left (hG _ _ _ (Frz.sl sz (n + 0) 0 l.length l.length false es es (Nat.le_refl _) hp_get0 (by omega) hl (fun i e e' h1 h2 => ?_))) (hk _ (own_fro ha hm hR))
    have : e = e' := by simpa using (by simpa using h1 : es[i]? = some e).symm.trans h2
    subst this
    obtain ⟨y, _, hy⟩ := all2_get ha i _ h2
    exact .keep _ (hR _ _ _ hy)
theorem CA.ofN {f : FuncId} {args : List AV} (hg : Goes P f) (hR : ∀ e a n, R e a → e.Lt n) (hc : ∀ K : AV → Heap → Nat → Prop, (∀ A rw, NOwn n 0 sz R A rw l → K A (hp h n [rw]) (n + 1)) → CA P f args h n K) (hk : ∀ y, SlR sz R y l → K y h n) : CA P f args h n K :=
  CA.lt hg fun hlt => CA.conv (hc _ fun A rw hA => nown_conv (K2 := fun _ => True) hlt hR hA (fun u => u) (fun _ _ _ q => q) hk)
theorem CA.ofN1 {Pc : Prop} {f : FuncId} {args : List AV} {c : AV} (hcl : ∀ m, c.Lt m) (hg : Goes P f) (hR : ∀ e a n, R e a → e.Lt n) (hc : ∀ K : AV → Heap → Nat → Prop, (Pc → ∀ A rw, NOwn n 0 sz R A rw l → K (.agg [c, A]) (hp h n [rw]) (n + 1)) → CA P f args h n K) (hk : Pc → ∀ y, SlR sz R y l → K (.agg [c, y]) h n) : CA P f args h n K :=
  CA.lt hg fun hlt => CA.conv (hc _ fun hp A rw hA => nown_conv (K2 := fun _ => True) hlt hR hA (fun u => .agg [c, u]) (fun _ u u' q => .agg _ _ rfl fun i x x' h1 h2 => by
    match i with
    | 0 => simp at h1 h2; subst h1; subst h2; exact .keep _ (hcl _)
    | 1 => simp at h1 h2; subst h1; subst h2; exact q
    | i + 2 => simp at h1) (hk hp))
theorem PostR.cut {c : Cfg} {v : Value} {w' : World} {r : AV} {h' h'' : Heap} {n' n2 : Nat} (hp : PostR c h n v w' r h' n') (hc : HR c h) (hfc : Fresh c n) (h2 : n ≤ n2) (h3 : n2 ≤ n') (hr : r.Lt n2)
    (hs : ∀ id b, h'' id = some b → h' id = some b ∧ id < n2 ∧ (n ≤ id → ∀ (i : Nat) (e : AV) (j : Nat) (u : AV), b[i]? = some e → e.cells[j]? = some u → u.Lt n2) ∧ (id < n → h id = some b)) : PostR c h n v w' r h'' n2 := by
  obtain ⟨c', rfl, e, hh, hfr, hv, hn⟩ := hp
  let f : Nat → Option (Nat × Nat × Nat) := fun id => if id < n2 then c'.ι id else none
  have hi : ∀ id x, id < n2 → c'.ι id = some x → f id = some x := fun id x h1 h2 => by simp only [f]; rw [if_pos h1]; exact h2
  have fi : ∀ id x, f id = some x → id < n2 ∧ c'.ι id = some x := fun id x hx => by
    simp only [f] at hx
    split at hx
    · exact ⟨by assumption, hx⟩
    · cases hx
  refine ⟨⟨f, c'.Fz, c'.w⟩, rfl, ⟨e.os, e.tape, e.output, e.size, fun id x hx => ?_, fun id x hx => ?_, e.fz, e.shape, e.frame, fun id blk x h1 h2 => ?_, e.fzb⟩, ⟨fun id blk hb => ?_, fun i j bi bj x y h1 h2 h3 h4 h5 => ?_, hh.fzlt⟩, fun id hid => ?_, hv.relabel hr rfl (fun _ q => q) (fun id x q1 q2 => hi id x q1 q2), h2⟩
  · refine hi id x ?_ (e.ι id x hx)
    rcases Nat.lt_or_ge id n with h1 | h1
    · omega
    · rw [hfc id h1] at hx; cases hx
  · obtain ⟨h1, h2⟩ := fi id x hx
    rcases e.dom id x h2 with h3 | h3
    · exact .inl h3
    · exact .inr ⟨h3.1, h1⟩
  · exact e.own id blk x (hs id blk h1).1 (fi id x h2).2
  · obtain ⟨g1, g2, g3, g4⟩ := hs id blk hb
    obtain ⟨bb, base, sz, arr, E, hB⟩ := hh.blk id blk g1
    refine ⟨bb, base, sz, arr, E, hi id _ g2 hB.ι, hB.heap, hB.nfz, hB.size, hB.one, fun i x j u q1 q2 => ?_⟩
    obtain ⟨y, q3, q4⟩ := hB.cell i x j u q1 q2
    refine ⟨y, q3, q4.relabel (n := n2) ?_ rfl (fun _ q => q) (fun id x q1 q2 => hi id x q1 q2)⟩
    rcases Nat.lt_or_ge id n with hlt | hge
    · obtain ⟨bb0, base0, sz0, arr0, E0, hB0⟩ := hc.blk id blk (g4 hlt)
      obtain ⟨y0, _, q6⟩ := hB0.cell i x j u q1 q2
      exact (q6.lt hfc).mono h2
    · exact g3 hge i x j u q1 q2
  · exact hh.inj i j bi bj x y (hs i bi h1).1 (hs j bj h2).1 (fi i x h3).2 (fi j y h4).2 h5
  · show f id = none
    simp only [f]
    rw [if_neg (by omega)]
theorem CA.cut {f : FuncId} {args : List AV} (hg : Goes P f) (hR : ∀ e a n, R e a → e.Lt n)
    (hc : CA P f args h n fun r h' n' => ∃ G A rw l x, NOwn n 0 sz R A rw l ∧ r = G ∧ r.Lt (n + 1) ∧ h' = hp h n [rw, x] ∧ n' = n + 2 ∧ K r (hp h n [rw]) (n + 1)) : CA P f args h n K := by
  refine ⟨hg, fun c vals hh hf hs hv => Calls.mono (hc.2 c vals hh hf hs hv) fun e w' he => ?_⟩
  obtain ⟨v, r, h', n', rfl, hp0, G, A, rw', l, x, hA, rfl, hr, rfl, rfl, hK⟩ := he
  refine ⟨v, _, _, _, rfl, hp0.cut hh hf (Nat.le_succ n) (by omega) hr (fun id b hb => ?_), hK⟩
  by_cases hid : id < n
  · rw [hp_low hid] at hb ⊢
    exact ⟨hb, by omega, fun h => by omega, fun _ => hb⟩
  · have hb0 := hb
    unfold hp at hb
    rw [if_neg hid] at hb
    have hk : id = n := by
      cases hk : id - n with
      | zero => omega
      | succ k => rw [hk] at hb; simp at hb
    subst hk
    simp at hb
    refine ⟨by unfold hp; simp [hb], by omega, fun _ i e j u h1 h2 => ?_, fun h => by omega⟩
    rcases hA with ⟨rfl, rfl, rfl⟩ | ⟨es, rfl, rfl, ha, hm⟩
    · cases hb
    · obtain rfl := Option.some.inj hb
      obtain ⟨y, _, hy⟩ := all2_get ha i _ h1
      have hl := hR _ _ (id + 1) hy
      cases e with
      | agg cs => cases hl with | agg _ hl => exact hl j u h2
      | _ => cases j with
        | zero => simp [AV.cells] at h2; subst h2; exact hl
        | succ j => simp [AV.cells] at h2
theorem tree_atoms {H : Heap} (hat : ∀ e a, R e a → Tree H e e []) : ∀ {es : List AV} {l : List α}, All2 R es l → TreeL H es es []
  | _, _, .nil => .nil
  | _, _, .cons h1 h2 => TreeL.cons _ _ _ _ [] [] (hat _ _ h1) (tree_atoms hat h2) (fun i hi => by cases hi)
theorem nown_tree (hR : ∀ e a n, R e a → e.Lt n) (hat : ∀ H e a, R e a → Tree H e e []) (hlt : h.below n) (hA : NOwn n 0 sz R A rw' l) : ∃ A' I, Tree (hp h n [rw']) A A' I ∧ SlR sz R A' l ∧ (∀ i, i ∈ I → n ≤ i ∧ i < n + 1) ∧ ∀ id, n ≤ id → id ∉ I → hp h n [rw'] id = none := by
  rcases hA with ⟨rfl, rfl, rfl⟩ | ⟨es, rfl, rfl, ha, hm⟩
  · refine ⟨.nils, [], .atom _ .nils .nils, slr_nil, (fun i hi => by cases hi), fun id hid _ => ?_⟩
    unfold hp; rw [if_neg (by omega)]
    cases hk : id - n with
    | zero => rfl
    | succ k => rfl
  · have hl := all2_length ha
    refine ⟨.ro sz false es, [n + 0], ?_, own_fro ha hm hR, (fun i hi => by simp at hi; omega), fun id hid hni => ?_⟩
    · rw [← hl]; exact Tree.sl sz (n + 0) false es es [] hp_get0 (tree_atoms (hat _) ha) (by simp)
    · unfold hp; rw [if_neg (by omega)]
      cases hk : id - n with
      | zero => exact absurd (by simp; omega) hni
      | succ k => rfl
theorem CA.ownN1 {Pc : Prop} {β : Type} {U : AV → β → Prop} {b : β} {f : FuncId} {args : List AV} {c : AV} (hcl : c.Lt 0) (hcn : NoRo c) (hg : Goes P f) (hR : ∀ e a n, R e a → e.Lt n) (hat : ∀ H e a, R e a → Tree H e e []) (hc : ∀ K : AV → Heap → Nat → Prop, (Pc → ∀ A rw, NOwn n 0 sz R A rw l → K (.agg [c, A]) (hp h n [rw]) (n + 1)) → CA P f args h n K)
    (hU : Pc → ∀ y, SlR sz R y l → U (.agg [c, y]) b) (hk : ∀ r h' n', OwnRes U h n r b h' n' → K r h' n') : CA P f args h n K :=
  CA.lt hg fun hlt => hc K fun hp A rw hA => by
    obtain ⟨A', I, h1, h2, h3, h4⟩ := nown_tree hR hat hlt hA
    refine hk _ _ _ ⟨⟨.agg [c, A'], I, ?_, hU hp _ h2, h3, h4⟩, fun id hid => hp_low hid, by omega⟩
    have := Tree.agg [c, A] [c, A'] ([] ++ (I ++ [])) (.cons _ _ _ _ [] _ (.atom c hcl hcn) (.cons _ _ _ _ I [] h1 .nil (fun i _ hi => by cases hi)) (fun i hi => by cases hi))
    simpa using this
end
end Go.Proofs.Ytcngfjmfgeckmaa
namespace Go.Proofs.Ytcngfjmfgeckmaa
open Go
structure IntResultD where
  code : Int
  value : Int
  deriving DecidableEq
def IntResultR (e : AV) (a : IntResultD) : Prop := e = .agg [.int .i64 a.code, .int .i64 a.value] ∧ I64 a.code ∧ I64 a.value
theorem intResult_lt (e : AV) (a : IntResultD) (n : Nat) (h : IntResultR e a) : e.Lt n := by
  obtain ⟨rfl, _, _⟩ := h
  rw [lt_agg]; intro u hu
  simp only [List.mem_cons, List.not_mem_nil, or_false] at hu
  rcases hu with rfl | rfl
  · exact .int _ _
  · exact .int _ _
structure SimD where
  cells : List CellD
  begun : List Int
  ended : List Int
  undid : List Int
  held : List HeldD
def SimR (e : AV) (a : SimD) : Prop := ∃ x0 x1 x2 x3 x4, e = .agg [x0, x1, x2, x3, x4] ∧ SlR 2 CellR x0 a.cells ∧ SlR 1 Int64R x1 a.begun ∧ SlR 1 Int64R x2 a.ended ∧ SlR 1 Int64R x3 a.undid ∧ SlR 2 HeldR x4 a.held
theorem sim_lt (e : AV) (a : SimD) (n : Nat) (h : SimR e a) : e.Lt n := by
  obtain ⟨x0, x1, x2, x3, x4, rfl, h0, h1, h2, h3, h4⟩ := h
  rw [lt_agg]; intro u hu
  simp only [List.mem_cons, List.not_mem_nil, or_false] at hu
  rcases hu with rfl | rfl | rfl | rfl | rfl
  · exact slr_lt h0 n
  · exact slr_lt h1 n
  · exact slr_lt h2 n
  · exact slr_lt h3 n
  · exact slr_lt h4 n
def SimRH (h : Heap) (n : Nat) (e : AV) (a : SimD) : Prop := ∃ x0 x1 x2 x3 x4, e = .agg [x0, x1, x2, x3, x4] ∧ SlH h n 2 CellR x0 a.cells ∧ SlH h n 1 Int64R x1 a.begun ∧ SlH h n 1 Int64R x2 a.ended ∧ SlH h n 1 Int64R x3 a.undid ∧ SlH h n 2 HeldR x4 a.held
theorem SimRH.up {h : Heap} {n : Nat} {rows : List (Option (List AV))} {e : AV} {a : SimD} (he : SimRH h n e a) (m : Nat) : SimRH (hp h n rows) (n + m) e a := by
  obtain ⟨x0, x1, x2, x3, x4, rfl, h0, h1, h2, h3, h4⟩ := he
  exact ⟨x0, x1, x2, x3, x4, rfl, h0.up m, h1.up m, h2.up m, h3.up m, h4.up m⟩
theorem recFault_rng (r : RecD) : I64 (recFault r) := by
  unfold recFault
  repeat' split
  all_goals decide
end Go.Proofs.Ytcngfjmfgeckmaa
namespace Go.Proofs.Ytcngfjmfgeckmaa
open Go
section
variable {P : Program} {T : TE} {c : Cfg} {h : Heap} {n : Nat} {K : AV → Heap → Nat → Prop}
theorem CA.wide {f : FuncId} {sz id off len lo : Nat} {ex : Bool} {rest : List AV} {K : AV → Heap → Nat → Prop} (hg : Goes P f) (hc : ∀ cap, lo ≤ cap → cap ≤ maxLen → CA P f (.sl sz id off len cap true :: rest) h n K) : CA P f (.sl sz id off len lo ex :: rest) h n K := by
  refine ⟨hg, fun c vals hh hf hs hv => ?_⟩
  have h0 : 0 < vals.size := by rw [hs]; exact Nat.succ_pos _
  have hv0 := hv 0 _ _ rfl (Array.getElem?_eq_getElem h0)
  generalize hq : vals[0] = v0 at hv0
  cases hv0 with
  | sl _ _ _ _ _ _ b base cap hι hlen hlo hex hmax hroom ad had =>
    refine (hc cap hlo hmax).2 c vals hh hf hs fun i u v h1 h2 => ?_
    cases i with
    | succ i => exact hv (i + 1) u v h1 h2
    | zero =>
      obtain rfl := Option.some.inj h1
      rw [Array.getElem?_eq_getElem h0, hq] at h2
      obtain rfl := Option.some.inj h2
      exact .sl _ _ _ _ _ _ b base cap hι (Nat.le_trans hlen hlo) (Nat.le_refl _) (fun _ => rfl) hmax hroom ad had
theorem PostR.rename {v : Value} {w' : World} {sz id len lo n' : Nat} {ex : Bool} {h' : Heap} {b : List AV} (hp : PostR c h n v w' (.sl sz id 0 len lo ex) h' n') (hb : h' id = some b) : PostR c h n v w' (.sl sz n' 0 len lo ex) ((h'.del id).upd n' b) (n' + 1) := by
  obtain ⟨c', rfl, e, hh, hfr, hv, hn⟩ := hp
  obtain ⟨f, hf⟩ : ∃ f : Nat → Option (Nat × Nat × Nat), f = fun x => if x = n' then c'.ι id else c'.ι x := ⟨_, rfl⟩
  have fn' : f n' = c'.ι id := by rw [hf]; exact if_pos rfl
  have fo : ∀ x, x ≠ n' → f x = c'.ι x := fun x hx => by rw [hf]; exact if_neg hx
  have get : ∀ j b2, ((h'.del id).upd n' b) j = some b2 → (j = n' ∧ b2 = b) ∨ (j ≠ n' ∧ j ≠ id ∧ h' j = some b2) := fun j b2 hq => by
    by_cases hj : j = n'
    · subst hj; rw [Heap.upd_same] at hq; exact .inl ⟨rfl, (Option.some.inj hq).symm⟩
    · rw [Heap.upd_ne _ _ hj] at hq
      unfold Heap.del at hq
      split at hq
      · cases hq
      · exact .inr ⟨hj, by assumption, hq⟩
  have e2 : Ext c' h' (fun x => x = n') ⟨f, c'.Fz, c'.w⟩ ((h'.del id).upd n' b) := by
    refine ⟨rfl, rfl, rfl, Nat.le_refl _, fun j x hx => ?_, fun j x hx => ?_, fun _ hq => hq, fun _ arr _ _ hq => ⟨arr, hq, rfl⟩, fun _ _ _ => rfl, fun j blk x h1 h2 => ?_, fun _ hq => .inl hq⟩
    · have hj : j ≠ n' := fun hq => by subst hq; rw [hfr j (Nat.le_refl _)] at hx; cases hx
      exact (fo j hj).trans hx
    · by_cases hj : j = n'
      · exact .inr hj
      · exact .inl ((fo j hj).symm.trans hx)
    · rcases get j blk h1 with ⟨rfl, rfl⟩ | ⟨g1, g2, g3⟩
      · exact .inr ⟨id, blk, x, hb, fn'.symm.trans h2, rfl⟩
      · exact .inr ⟨j, blk, x, g3, (fo j g1).symm.trans h2, rfl⟩
  refine ⟨⟨f, c'.Fz, c'.w⟩, rfl, e.trans e2 (fun i hi => ⟨hi.1, by omega⟩) (fun i hi => ⟨by omega, by omega⟩), ⟨fun j blk hj => ?_, fun j1 j2 b1 b2 x y h1 h2 h3 h4 h5 => ?_, hh.fzlt⟩, fun j hj => ?_, ?_, by omega⟩
  · rcases get j blk hj with ⟨rfl, rfl⟩ | ⟨g1, g2, g3⟩
    · obtain ⟨bb, base, sz0, arr, E, hB⟩ := hh.blk id blk hb
      exact ⟨bb, base, sz0, arr, E, fn'.trans hB.ι, hB.heap, hB.nfz, hB.size, hB.one, fun i x j u q1 q2 => by
        obtain ⟨v, r1, r2⟩ := hB.cell i x j u q1 q2
        exact ⟨v, r1, r2.mono e2 hh⟩⟩
    · obtain ⟨bb, base, sz0, arr, E, hB⟩ := hh.blk j blk g3
      exact ⟨bb, base, sz0, arr, E, (fo j g1).trans hB.ι, hB.heap, hB.nfz, hB.size, hB.one, fun i x j u q1 q2 => by
        obtain ⟨v, r1, r2⟩ := hB.cell i x j u q1 q2
        exact ⟨v, r1, r2.mono e2 hh⟩⟩
  · rcases get j1 b1 h1 with ⟨p1, p2⟩ | ⟨g1, g2, g3⟩
    · rcases get j2 b2 h2 with ⟨q1, q2⟩ | ⟨q1, q2, q3⟩
      · omega
      · subst p1
        exact absurd (hh.inj id j2 b b2 x y hb q3 (fn'.symm.trans h3) ((fo j2 q1).symm.trans h4) h5).symm q2
    · rcases get j2 b2 h2 with ⟨q1, q2⟩ | ⟨q1, q2, q3⟩
      · subst q1
        exact absurd (hh.inj j1 id b1 b x y g3 hb ((fo j1 g1).symm.trans h3) (fn'.symm.trans h4) h5) g2
      · exact hh.inj j1 j2 b1 b2 x y g3 q3 ((fo j1 g1).symm.trans h3) ((fo j2 q1).symm.trans h4) h5
  · exact (fo j (by omega)).trans (hfr j (by omega))
  · cases hv with
    | sl _ _ _ _ _ _ bb base cap hι hlen hlo hex hmax hroom ad had => exact VR.sl (c := ⟨f, c'.Fz, c'.w⟩) sz n' 0 len lo ex bb base cap (fn'.trans hι) hlen hlo hex hmax hroom ad had
theorem CA.rename {f : FuncId} {args : List AV} {K : AV → Heap → Nat → Prop} (hc : CA P f args h n fun r h' n' => K r h' n' ∨ ∃ sz id len lo ex b, r = .sl sz id 0 len lo ex ∧ h' id = some b ∧ K (.sl sz n' 0 len lo ex) ((h'.del id).upd n' b) (n' + 1)) : CA P f args h n K := by
  refine ⟨hc.1, fun c vals hh hf hs hv => Calls.mono (hc.2 c vals hh hf hs hv) fun e w' he => ?_⟩
  obtain ⟨v, r, h', n', rfl, hp, hq⟩ := he
  rcases hq with hK | ⟨sz, id, len, lo, ex, b, rfl, hb, hK⟩
  · exact ⟨v, _, _, _, rfl, hp, hK⟩
  · exact ⟨v, _, _, _, rfl, hp.rename hb, hK⟩
end
end Go.Proofs.Ytcngfjmfgeckmaa
section
namespace Go.Proofs.Ytcngfjmfgeckmaa
open Go
set_option linter.unusedSimpArgs false
set_option linter.unusedVariables false
set_option maxRecDepth 20000
attribute [local irreducible] IntKind.wrap bitA
section
variable {h : Heap} {n : Nat} {K : AV → Heap → Nat → Prop}
theorem op_slice_sl {T : TE} {e : Operand → AV} {t el : TypeId} {x : Operand} {lo hi mx : Option Operand} {sz id off len lo' : Nat} {ex : Bool} (i j m : Nat) (hx : e x = .sl sz id off len lo' ex) (ht : (T t).ty = .slice el) (hsz : sz = (T el).sz) (hp : 0 < sz)
    (hmx : mx.isSome = true → hi.isSome = true) (h1 : bnd (lo.map e) 0 i) (h2 : bnd (hi.map e) len j) (h3 : bnd (mx.map e) lo' m) (hij : i ≤ j) (hjm : j ≤ m) (hm : m ≤ lo') (hk : K (.sl sz id (off + i) (j - i) (m - i) (if mx.isSome then true else ex)) h n) :
    opP T (.slice t x lo hi mx) e h n K := by
  unfold opP
  simp only [hx]
  exact ⟨el, ht, hsz ▸ hp, hmx, hsz, i, j, m, h1, h2, h3, hij, hjm, hm, by simpa using hk⟩
theorem op_slice_nils {T : TE} {e : Operand → AV} {t el : TypeId} {x : Operand} {lo hi mx : Option Operand} (hx : e x = .nils) (ht : (T t).ty = .slice el) (hp : 0 < (T el).sz)
    (hmx : mx.isSome = true → hi.isSome = true) (h1 : bnd (lo.map e) 0 0) (h2 : bnd (hi.map e) 0 0) (h3 : bnd (mx.map e) 0 0) (hk : K .nils h n) :
    opP T (.slice t x lo hi mx) e h n K := by
  unfold opP
  simp only [hx]
  exact ⟨el, ht, hp, hmx, h1, h2, h3, hk⟩
theorem rdSl_part {h : Heap} {sz sz' id off len lo : Nat} {ex : Bool} {b r : List AV} (hs : sz = sz') (hb : h id = some b) (hle : off + len ≤ b.length) (hr : (b.drop off).take len = r) : rdSl h sz (.sl sz' id off len lo ex) = some r := by
  subst hs
  rw [rdSl_sl, hb, ← hr]
  exact if_pos hle
theorem c110 {id len i j : Nat} {ex : Bool} {es : List AV} (hid : id < n) (hb : h id = some es) (hlen : es.length = len) (hij : i ≤ j) (hj : j ≤ len) (hm : len * 16 ≤ 140737488355328)
    (hk : K (.sl 2 id 0 (i + (len - j)) (i + (len - j)) false) (h.upd id (es.take i ++ es.drop j)) n) : CA Try.prog 110 [.sl 2 id 0 len len ex, .int .i64 i, .int .i64 j] h n K := by
  refine CA.trim (CA.conv (CA.enter (N := 33) (rs := [.tmp 6]) hT Try.call110 Try.func110 rfl rfl (by simp) rfl fun hlt => ?_))
  have htl : List.take len es = es := List.take_of_length_le (Nat.le_of_eq hlen)
  refine WP.seq_k fun K0 hK0 => ?_
  refine WP.region hT rfl ?_
  simp only [go_sem, ↓reduceIte, reduceCtorEq, Nat.reduceEqDiff, Nat.reduceLT, Nat.reduceLeDiff, Nat.reduceAdd, Nat.reduceMul, Int.reduceLE]
  refine hK0 _ _ _ ?_
  clear hK0 K0
  refine WP.seq_k fun K1 hK1 => ?_
  refine WP.region hT rfl ?_
  simp only [go_sem, ↓reduceIte, reduceCtorEq, Nat.reduceEqDiff, Nat.reduceLT, Nat.reduceLeDiff, Nat.reduceAdd, Nat.reduceMul, Int.reduceLE, hb, htl, hlen]
  refine op_slice_sl i j len rfl rfl rfl (by decide) (fun _ => rfl) ⟨Int.natCast_nonneg _, rfl⟩ ⟨Int.natCast_nonneg _, rfl⟩ ⟨Int.natCast_nonneg _, rfl⟩ hij hj (Nat.le_refl _) ?_
  unfold sealK
  simp only [go_sem, ↓reduceIte, reduceCtorEq, Nat.reduceEqDiff, Nat.reduceLT, Nat.reduceLeDiff, Nat.reduceAdd, Nat.reduceMul, Int.reduceLE]
  refine hK1 _ _ _ ?_
  clear hK1 K1
  refine WP.seq_k fun K2 hK2 => ?_
  refine WP.seq_k fun K3 hK3 => ?_
  refine WP.region hT rfl ?_
  simp only [go_sem, ↓reduceIte, reduceCtorEq, Nat.reduceEqDiff, Nat.reduceLT, Nat.reduceLeDiff, Nat.reduceAdd, Nat.reduceMul, Int.reduceLE]
  refine hK3 _ _ _ ?_
  clear hK3 K3
  refine WP.cond (t := decide ((i : Int) = j)) (by kernel_rfl) (fun hc0 => ?_) (fun hc0 => ?_)
  · have hij2 : i = j := Int.ofNat.inj (of_decide_eq_true hc0)
    subst hij2
    refine WP.seq_k fun K4 hK4 => ?_
    refine WP.region hT rfl ?_
    simp only [go_sem, ↓reduceIte, reduceCtorEq, Nat.reduceEqDiff, Nat.reduceLT, Nat.reduceLeDiff, Nat.reduceAdd, Nat.reduceMul, Int.reduceLE]
    refine hK4 _ _ _ ?_
    clear hK4 K4
    refine WP.ret ?_
    refine ⟨_, rfl, _, _, _, .keep _ _ _ _ (fun _ _ h => h), 2, id, len, len, ex, es, rfl, hb, Nat.le_of_eq hlen.symm, ?_⟩
    have e1 : i + (len - i) = len := by omega
    rw [e1, List.take_append_drop] at hk
    rw [List.take_of_length_le (Nat.le_of_eq hlen)]
    exact hk
  have hne : i ≠ j := fun hq => of_decide_eq_false hc0 (congrArg Int.ofNat hq)
  refine WP.skip ?_
  simp only [go_sem, ↓reduceIte, reduceCtorEq, Nat.reduceEqDiff, Nat.reduceLT, Nat.reduceLeDiff, Nat.reduceAdd, Nat.reduceMul, Int.reduceLE]
  refine hK2 _ _ _ ?_
  clear hK2 K2
  refine WP.seq_k fun K5 hK5 => ?_
  refine WP.region hT rfl ?_
  simp only [go_sem, ↓reduceIte, reduceCtorEq, Nat.reduceEqDiff, Nat.reduceLT, Nat.reduceLeDiff, Nat.reduceAdd, Nat.reduceMul, Int.reduceLE, hb, htl, hlen]
  refine hK5 _ _ _ ?_
  clear hK5 K5
  refine WP.seq_k fun K6 hK6 => ?_
  refine WP.drawL hT hM [(0, 0), (1, 0), (2, 0), (3, 0), (4, 0), (5, 0), (6, 2), (7, 0)] [6] Heap.emp (by kernel_rfl) rfl (Heap.Sub.emp _) fun _ => ?_
  simp only [go_sem, ↓reduceIte, reduceCtorEq, Nat.reduceEqDiff, Nat.reduceLT, Nat.reduceLeDiff, Nat.reduceAdd, Nat.reduceMul, Int.reduceLE]
  refine op_slice_sl 0 i len rfl rfl rfl (by decide) (fun hq => by cases hq) rfl ⟨Int.natCast_nonneg _, rfl⟩ rfl (Nat.zero_le _) (Nat.le_trans hij hj) (Nat.le_refl _) ?_
  unfold sealK
  simp only [go_sem, ↓reduceIte, reduceCtorEq, Nat.reduceEqDiff, Nat.reduceLT, Nat.reduceLeDiff, Nat.reduceAdd, Nat.reduceMul, Int.reduceLE]
  refine op_slice_sl j len len rfl rfl rfl (by decide) (fun hq => by cases hq) ⟨Int.natCast_nonneg _, rfl⟩ rfl rfl hj (Nat.le_refl _) (Nat.le_refl _) ?_
  unfold sealK
  simp only [go_sem, ↓reduceIte, reduceCtorEq, Nat.reduceEqDiff, Nat.reduceLT, Nat.reduceLeDiff, Nat.reduceAdd, Nat.reduceMul, Int.reduceLE]
  have hd : List.take (len - j) (es.drop j) = es.drop j := List.take_of_length_le (by rw [List.length_drop, hlen]; exact Nat.le_refl _)
  have hdl : (es.drop j).length = len - j := by rw [List.length_drop, hlen]
  refine ⟨123, rfl, es.drop j, rdSl_part rfl hb (by omega) hd, by decide, rfl, ?_, ?_, es, hb, ?_, ?_⟩
  · rw [hdl]; show (i - 0 + (len - j)) * 16 ≤ _; omega
  · rw [hdl]; omega
  · omega
  rw [if_pos (by rw [hdl]; omega), hdl]
  unfold sealK
  simp only [go_sem, ↓reduceIte, reduceCtorEq, Nat.reduceEqDiff, Nat.reduceLT, Nat.reduceLeDiff, Nat.reduceAdd, Nat.reduceMul, Int.reduceLE, Nat.sub_zero, Nat.zero_add]
  refine hK6 _ _ _ ?_
  clear hK6 K6
  obtain ⟨k, hk0⟩ : ∃ k, k = i + (len - j) := ⟨_, rfl⟩
  obtain ⟨B, hB0⟩ : ∃ B, B = es.take i ++ es.drop j ++ es.drop (i + (len - j)) := ⟨_, rfl⟩
  rw [← hB0, ← hk0]
  have hBl : B.length = len := by rw [hB0]; simp only [List.length_append, List.length_take, List.length_drop, hlen]; omega
  have hkl : k ≤ len := by omega
  have hb2 : (h.upd id B) id = some B := Heap.upd_same _ _ _
  have hBk : (B.take k).length = k := by rw [List.length_take, hBl]; omega
  refine WP.seq_k fun K7 hK7 => ?_
  refine WP.region hT rfl ?_
  simp only [go_sem, ↓reduceIte, reduceCtorEq, Nat.reduceEqDiff, Nat.reduceLT, Nat.reduceLeDiff, Nat.reduceAdd, Nat.reduceMul, Int.reduceLE, rdSl_part rfl hb2 (show 0 + k ≤ B.length from by omega) (show List.take k (List.drop 0 B) = List.take k B from rfl), hBk]
  refine op_slice_sl k len len rfl rfl rfl (by decide) (fun hq => by cases hq) ⟨Int.natCast_nonneg _, rfl⟩ ⟨Int.natCast_nonneg _, rfl⟩ rfl hkl (Nat.le_refl _) (Nat.le_refl _) ?_
  unfold sealK
  simp only [go_sem, ↓reduceIte, reduceCtorEq, Nat.reduceEqDiff, Nat.reduceLT, Nat.reduceLeDiff, Nat.reduceAdd, Nat.reduceMul, Int.reduceLE]
  refine ⟨123, rfl, by decide, rfl, B, hb2, by omega, ?_⟩
  unfold sealK
  simp only [go_sem, ↓reduceIte, reduceCtorEq, Nat.reduceEqDiff, Nat.reduceLT, Nat.reduceLeDiff, Nat.reduceAdd, Nat.reduceMul, Int.reduceLE]
  refine hK7 _ _ _ ?_
  clear hK7 K7
  refine WP.seq_k fun K8 hK8 => ?_
  refine WP.region hT rfl ?_
  simp only [go_sem, ↓reduceIte, reduceCtorEq, Nat.reduceEqDiff, Nat.reduceLT, Nat.reduceLeDiff, Nat.reduceAdd, Nat.reduceMul, Int.reduceLE]
  refine hK8 _ _ _ ?_
  clear hK8 K8
  refine WP.ret ?_
  have hfin : ∀ z : AV, List.take k (List.take k B ++ List.replicate (len - k) z ++ List.drop (k + (len - k)) B) = es.take i ++ es.drop j := fun z => by
    rw [List.append_assoc, List.take_left' hBk, hB0, List.take_left' (by simp only [List.length_append, List.length_take, List.length_drop, hlen]; omega)]
  refine ⟨_, rfl, _, _, _, .keep _ _ _ _ (fun _ _ h => h), 2, id, k, len, _, _, rfl, Heap.upd_same _ _ _, ?_, ?_⟩
  · simp only [List.length_append, hBk]; omega
  rw [hfin, Heap.upd_upd, Heap.upd_upd, hk0]
  exact hk
def insA (es : List AV) (i : Nat) (v : AV) : List AV := es.take i ++ [v] ++ es.drop i
theorem delUpd_sub {h : Heap} {id n : Nat} (b : List AV) : ∀ j c, ((h.del id).upd n b) j = some c → (h.upd n b) j = some c := fun j c hq => by
  unfold Heap.upd at hq ⊢
  split
  · rename_i hj; rw [if_pos hj] at hq; exact hq
  · rename_i hj
    rw [if_neg hj] at hq
    unfold Heap.del at hq
    split at hq
    · cases hq
    · exact hq
theorem del_upd_same {h : Heap} {id : Nat} (b : List AV) : (h.upd id b).del id = h.del id := by
  funext x
  unfold Heap.del Heap.upd
  split
  · rfl
  · rename_i hx; rfl
theorem c109i {id id2 len cap i : Nat} {es : List AV} {v : AV} {ex2 : Bool} (hid : id < n) (hid2 : id2 < n) (hne : id2 ≠ id) (hb : h id = some es) (hl : es.length = len) (hlen : len ≤ cap) (hcm : cap ≤ maxLen) (hb2 : h id2 = some [v]) (hlt2 : i < len) (hm : (len + 1) * 16 ≤ 140737488355328)
    (hkI : K (.sl 2 id 0 (len + 1) (len + 1) false) (h.upd id (insA es i v)) n) (hkG : K (.sl 2 n 0 (len + 1) (len + 1) false) ((h.del id).upd n (insA es i v)) (n + 1)) :
    CA Try.prog 109 [.sl 2 id 0 len cap true, .int .i64 i, .sl 2 id2 0 1 1 ex2] h n K := by
  have hi : i ≤ len := Nat.le_of_lt hlt2
  have hw1 : IntKind.i64.wrap ((len : Int) + ((1 : Nat) : Int)) = ((len + 1 : Nat) : Int) := wrap_in (by omega) (by omega)
  refine CA.trim (CA.conv (CA.enter (N := 95) (rs := [.tmp 6]) hT Try.call109 Try.func109 rfl rfl (by simp) rfl fun hlt => ?_))
  refine WP.seq_k fun K0 hK0 => ?_
  refine WP.region hT rfl ?_
  simp only [go_sem, ↓reduceIte, reduceCtorEq, Nat.reduceEqDiff, Nat.reduceLT, Nat.reduceLeDiff, Nat.reduceAdd, Nat.reduceMul, Int.reduceLE]
  refine hK0 _ _ _ ?_
  clear hK0 K0
  refine WP.seq_k fun K1 hK1 => ?_
  refine WP.region hT rfl ?_
  simp only [go_sem, ↓reduceIte, reduceCtorEq, Nat.reduceEqDiff, Nat.reduceLT, Nat.reduceLeDiff, Nat.reduceAdd, Nat.reduceMul, Int.reduceLE]
  refine op_slice_sl i len cap rfl rfl rfl (by decide) (fun hq => by cases hq) ⟨Int.natCast_nonneg _, rfl⟩ rfl rfl hi hlen (Nat.le_refl _) ?_
  unfold sealK
  simp only [go_sem, ↓reduceIte, reduceCtorEq, Nat.reduceEqDiff, Nat.reduceLT, Nat.reduceLeDiff, Nat.reduceAdd, Nat.reduceMul, Int.reduceLE]
  refine hK1 _ _ _ ?_
  clear hK1 K1
  have hr0 : rdSl h 2 (.sl 2 id 0 len cap true) = some es := rdSl_part rfl hb (by omega) (List.take_of_length_le (Nat.le_of_eq hl))
  have hr2 : rdSl h 2 (.sl 2 id2 0 1 1 ex2) = some [v] := rdSl_part rfl hb2 (Nat.le_refl 1) rfl
  refine WP.seq_k fun K2 hK2 => ?_
  refine WP.region hT rfl ?_
  simp only [go_sem, ↓reduceIte, reduceCtorEq, Nat.reduceEqDiff, Nat.reduceLT, Nat.reduceLeDiff, Nat.reduceAdd, Nat.reduceMul, Int.reduceLE, hr2]
  refine hK2 _ _ _ ?_
  clear hK2 K2
  refine WP.seq_k fun K3 hK3 => ?_
  refine WP.seq_k fun K4 hK4 => ?_
  refine WP.region hT rfl ?_
  simp only [go_sem, ↓reduceIte, reduceCtorEq, Nat.reduceEqDiff, Nat.reduceLT, Nat.reduceLeDiff, Nat.reduceAdd, Nat.reduceMul, Int.reduceLE]
  refine hK4 _ _ _ ?_
  clear hK4 K4
  refine WP.cond (t := false) (by kernel_rfl) (fun hc0 => nomatch hc0) (fun hc0 => ?_)
  refine WP.skip ?_
  simp only [go_sem, ↓reduceIte, reduceCtorEq, Nat.reduceEqDiff, Nat.reduceLT, Nat.reduceLeDiff, Nat.reduceAdd, Nat.reduceMul, Int.reduceLE]
  refine hK3 _ _ _ ?_
  clear hK3 K3
  refine WP.seq_k fun K6 hK6 => ?_
  refine WP.region hT rfl ?_
  simp only [go_sem, ↓reduceIte, reduceCtorEq, Nat.reduceEqDiff, Nat.reduceLT, Nat.reduceLeDiff, Nat.reduceAdd, Nat.reduceMul, Int.reduceLE, hr0, hl]
  refine hK6 _ _ _ ?_
  clear hK6 K6
  refine WP.seq_k fun K7 hK7 => ?_
  refine WP.seq_k fun K8 hK8 => ?_
  refine WP.region hT rfl ?_
  simp only [go_sem, ↓reduceIte, reduceCtorEq, Nat.reduceEqDiff, Nat.reduceLT, Nat.reduceLeDiff, Nat.reduceAdd, Nat.reduceMul, Int.reduceLE]
  refine hK8 _ _ _ ?_
  clear hK8 K8
  refine WP.cond (t := decide ((i : Int) = len)) (by kernel_rfl) (fun hc1 => absurd (Int.ofNat.inj (of_decide_eq_true hc1)) (Nat.ne_of_lt hlt2)) (fun hc1 => ?_)
  refine WP.skip ?_
  simp only [go_sem, ↓reduceIte, reduceCtorEq, Nat.reduceEqDiff, Nat.reduceLT, Nat.reduceLeDiff, Nat.reduceAdd, Nat.reduceMul, Int.reduceLE]
  refine hK7 _ _ _ ?_
  clear hK7 K7
  refine WP.seq_k fun K10 hK10 => ?_
  refine WP.seq_k fun K11 hK11 => ?_
  refine WP.region hT rfl ?_
  simp only [go_sem, ↓reduceIte, reduceCtorEq, Nat.reduceEqDiff, Nat.reduceLT, Nat.reduceLeDiff, Nat.reduceAdd, Nat.reduceMul, Int.reduceLE, hw1]
  refine ⟨123, rfl, rfl, ?_⟩
  unfold sealK
  simp only [go_sem, ↓reduceIte, reduceCtorEq, Nat.reduceEqDiff, Nat.reduceLT, Nat.reduceLeDiff, Nat.reduceAdd, Nat.reduceMul, Int.reduceLE, hw1]
  refine hK11 _ _ _ ?_
  clear hK11 K11
  refine WP.cond (t := decide ((cap : Int) < ((len + 1 : Nat) : Int))) (by kernel_rfl) (fun hc2 => ?_) (fun hc2 => ?_)
  · have hcl : cap < len + 1 := Int.ofNat_lt.1 (of_decide_eq_true hc2)
    have hw2 : IntKind.i64.wrap (((len + 1 : Nat) : Int) - i) = ((len + 1 - i : Nat) : Int) := by rw [wrap_in (by omega) (by omega)]; omega
    refine WP.seq_k fun K12 hK12 => ?_
    refine WP.hatchK hT 8 rfl rfl rfl (opx_growZ hT rfl) ?_
    simp only [go_sem, ↓reduceIte, reduceCtorEq, Nat.reduceEqDiff, Nat.reduceLT, Nat.reduceLeDiff, Nat.reduceAdd, Nat.reduceMul, Int.reduceLE, hw1]
    refine op_slice_sl 0 i cap rfl rfl rfl (by decide) (fun hq => by cases hq) rfl ⟨Int.natCast_nonneg _, rfl⟩ rfl (Nat.zero_le _) (by omega) (Nat.le_refl _) ?_
    unfold sealK
    simp only [go_sem, ↓reduceIte, reduceCtorEq, Nat.reduceEqDiff, Nat.reduceLT, Nat.reduceLeDiff, Nat.reduceAdd, Nat.reduceMul, Int.reduceLE, hw1, hw2, Nat.sub_zero]
    unfold hatchX
    have hti : (es.take i).length = i := by rw [List.length_take, hl]; omega
    refine ⟨.i64, len + 1 - i, rfl, ?_⟩
    unfold growZ
    refine ⟨123, es.take i, cap, rfl, ⟨.i64, rfl⟩, by decide, rdSl_part rfl hb (by omega) rfl, rfl, ?_, ?_, ?_, fun cap2 hge hle => ?_⟩
    · rw [hti]; omega
    · rw [hti]; show (i + (len + 1 - i)) * 16 ≤ _; omega
    · rw [hti]; omega
    rw [hti] at hge ⊢
    rw [show i + (len + 1 - i) = len + 1 from by omega] at hge ⊢
    obtain ⟨B, hB0⟩ : ∃ B, B = es.take i ++ List.replicate (len + 1 - i) (AV.agg [.int .i64 0, .int .i64 0]) ++ List.replicate (cap2 - (len + 1)) (AV.agg [.int .i64 0, .int .i64 0]) := ⟨_, rfl⟩
    have hBl : B.length = cap2 := by rw [hB0]; simp only [List.length_append, hti, List.length_replicate]; omega
    have hBi : B.take i = es.take i := by rw [hB0, List.append_assoc, List.take_left' hti]
    unfold hatchY
    simp only [go_sem, ↓reduceIte, reduceCtorEq, Nat.reduceEqDiff, Nat.reduceLT, Nat.reduceLeDiff, Nat.reduceAdd, Nat.reduceMul, Int.reduceLE, ← hB0]
    refine hK12 _ _ _ ?_
    clear hK12 K12
    have hbn : (h.upd n B) n = some B := Heap.upd_same _ _ _
    refine WP.seq_k fun K13 hK13 => ?_
    refine WP.region hT rfl ?_
    simp only [go_sem, ↓reduceIte, reduceCtorEq, Nat.reduceEqDiff, Nat.reduceLT, Nat.reduceLeDiff, Nat.reduceAdd, Nat.reduceMul, Int.reduceLE]
    have hv : List.take (len + 1 - i) [v] = [v] := List.take_of_length_le (show 1 ≤ len + 1 - i from by omega)
    have hb2n : ∀ C, (h.upd n C) id2 = some [v] := fun C => (Heap.upd_lt h C hid2).trans hb2
    have hbC : ∀ C, (h.upd n C) id = some es := fun C => (Heap.upd_lt h C hid).trans hb
    refine op_slice_sl i (len + 1) cap2 rfl rfl rfl (by decide) (fun hq => by cases hq) ⟨Int.natCast_nonneg _, rfl⟩ rfl rfl (by omega) hge (Nat.le_refl _) ?_
    unfold sealK
    simp only [go_sem, ↓reduceIte, reduceCtorEq, Nat.reduceEqDiff, Nat.reduceLT, Nat.reduceLeDiff, Nat.reduceAdd, Nat.reduceMul, Int.reduceLE]
    refine .inl ⟨123, rfl, [v], rdSl_part rfl (hb2n B) (Nat.le_refl 1) rfl, by decide, rfl, B, hbn, by omega, ?_⟩
    obtain ⟨B1, hB1⟩ : ∃ B1, B1 = List.take i B ++ [v] ++ List.drop (i + 1) B := ⟨_, rfl⟩
    have hBi1 : (B.take i).length = i := by rw [hBi, hti]
    have hB1l : B1.length = cap2 := by rw [hB1]; simp only [List.length_append, hBi1, List.length_cons, List.length_nil, List.length_drop]; omega
    have hB1i : B1.take (i + 1) = es.take i ++ [v] := by rw [hB1, List.take_left' (by simp only [List.length_append, hBi1, List.length_cons, List.length_nil]), hBi]
    unfold sealK
    simp only [go_sem, ↓reduceIte, reduceCtorEq, Nat.reduceEqDiff, Nat.reduceLT, Nat.reduceLeDiff, Nat.reduceAdd, Nat.reduceMul, Int.reduceLE, hv, ← hB1, Heap.upd_upd]
    refine hK13 _ _ _ ?_
    clear hK13 K13
    refine WP.seq_k fun K14 hK14 => ?_
    refine WP.drawL hT hM [(0, 0), (1, 0), (2, 0), (3, 0), (4, 0), (5, 0), (6, 0), (7, 0), (8, 2)] [8] Heap.emp (by kernel_rfl) rfl (Heap.Sub.emp _) fun _ => ?_
    have hw3 : IntKind.i64.wrap ((i : Int) + ((1 : Nat) : Int)) = ((i + 1 : Nat) : Int) := wrap_in (by omega) (by omega)
    simp only [go_sem, ↓reduceIte, reduceCtorEq, Nat.reduceEqDiff, Nat.reduceLT, Nat.reduceLeDiff, Nat.reduceAdd, Nat.reduceMul, Int.reduceLE, hw3]
    refine op_slice_sl (i + 1) (len + 1) cap2 rfl rfl rfl (by decide) (fun hq => by cases hq) ⟨Int.natCast_nonneg _, rfl⟩ rfl rfl (by omega) hge (Nat.le_refl _) ?_
    unfold sealK
    simp only [go_sem, ↓reduceIte, reduceCtorEq, Nat.reduceEqDiff, Nat.reduceLT, Nat.reduceLeDiff, Nat.reduceAdd, Nat.reduceMul, Int.reduceLE]
    refine op_slice_sl i len cap rfl rfl rfl (by decide) (fun hq => by cases hq) ⟨Int.natCast_nonneg _, rfl⟩ rfl rfl (by omega) hlen (Nat.le_refl _) ?_
    unfold sealK
    simp only [go_sem, ↓reduceIte, reduceCtorEq, Nat.reduceEqDiff, Nat.reduceLT, Nat.reduceLeDiff, Nat.reduceAdd, Nat.reduceMul, Int.reduceLE]
    refine .inl ⟨123, rfl, es.drop i, rdSl_part rfl (hbC B1) (by omega) (List.take_of_length_le (by rw [List.length_drop, hl]; exact Nat.le_refl _)), by decide, rfl, B1, Heap.upd_same _ _ _, by omega, ?_⟩
    unfold sealK
    simp only [go_sem, ↓reduceIte, reduceCtorEq, Nat.reduceEqDiff, Nat.reduceLT, Nat.reduceLeDiff, Nat.reduceAdd, Nat.reduceMul, Int.reduceLE, Heap.upd_upd]
    refine hK14 _ _ _ ?_
    clear hK14 K14
    refine WP.seq_k fun K15 hK15 => ?_
    refine WP.region hT rfl ?_
    simp only [go_sem, ↓reduceIte, reduceCtorEq, Nat.reduceEqDiff, Nat.reduceLT, Nat.reduceLeDiff, Nat.reduceAdd, Nat.reduceMul, Int.reduceLE]
    refine hK15 _ _ _ ?_
    clear hK15 K15
    refine WP.ret ?_
    have hdl : List.take (len + 1 - (i + 1)) (es.drop i) = es.drop i := List.take_of_length_le (by rw [List.length_drop, hl]; omega)
    refine ⟨_, rfl, _, (h.del id).upd n _, _, .keep _ _ _ _ (delUpd_sub _), 2, n, len + 1, cap2, true, _, rfl, Heap.upd_same _ _ _, ?_, ?_⟩
    · simp only [List.length_append, List.length_take, List.length_drop, hB1l, hl]; omega
    rw [Heap.upd_upd, hB1i, hdl, List.take_left' (by simp only [List.length_append, hti, List.length_cons, List.length_nil, List.length_drop, hl]; omega)]
    exact hkG
  have hcl : len + 1 ≤ cap := by
    have : ¬ (cap : Int) < ((len + 1 : Nat) : Int) := of_decide_eq_false hc2
    omega
  refine WP.skip ?_
  simp only [go_sem, ↓reduceIte, reduceCtorEq, Nat.reduceEqDiff, Nat.reduceLT, Nat.reduceLeDiff, Nat.reduceAdd, Nat.reduceMul, Int.reduceLE]
  refine hK10 _ _ _ ?_
  clear hK10 K10
  refine WP.seq_k fun K16 hK16 => ?_
  refine WP.region hT rfl ?_
  simp only [go_sem, ↓reduceIte, reduceCtorEq, Nat.reduceEqDiff, Nat.reduceLT, Nat.reduceLeDiff, Nat.reduceAdd, Nat.reduceMul, Int.reduceLE, hw1]
  refine op_slice_sl 0 (len + 1) cap rfl rfl rfl (by decide) (fun hq => by cases hq) rfl ⟨Int.natCast_nonneg _, rfl⟩ rfl (Nat.zero_le _) hcl (Nat.le_refl _) ?_
  unfold sealK
  simp only [go_sem, ↓reduceIte, reduceCtorEq, Nat.reduceEqDiff, Nat.reduceLT, Nat.reduceLeDiff, Nat.reduceAdd, Nat.reduceMul, Int.reduceLE, Nat.sub_zero]
  refine hK16 _ _ _ ?_
  clear hK16 K16
  have hw3 : IntKind.i64.wrap ((i : Int) + ((1 : Nat) : Int)) = ((i + 1 : Nat) : Int) := wrap_in (by omega) (by omega)
  refine WP.seq_k fun K17 hK17 => ?_
  refine WP.seq_k fun K18 hK18 => ?_
  refine WP.hatchK hT 6 rfl rfl rfl (opx_overlaps hT rfl rfl rfl Try.func137 rfl rfl rfl rfl rfl (by decide)) ?_
  simp only [go_sem, ↓reduceIte, reduceCtorEq, Nat.reduceEqDiff, Nat.reduceLT, Nat.reduceLeDiff, Nat.reduceAdd, Nat.reduceMul, Int.reduceLE, hw3]
  refine op_slice_sl (i + 1) (len + 1) cap rfl rfl rfl (by decide) (fun hq => by cases hq) ⟨Int.natCast_nonneg _, rfl⟩ rfl rfl (by omega) hcl (Nat.le_refl _) ?_
  unfold sealK
  simp only [go_sem, ↓reduceIte, reduceCtorEq, Nat.reduceEqDiff, Nat.reduceLT, Nat.reduceLeDiff, Nat.reduceAdd, Nat.reduceMul, Int.reduceLE]
  unfold hatchX
  refine ⟨2, id2, 0, 1, 1, ex2, 2, id, i + 1, len + 1 - (i + 1), cap - (i + 1), true, [v], es, rfl, ?_, hb2, hb, hne, by decide, by omega, by decide, ?_⟩
  · kernel_rfl
  unfold hatchY
  simp only [go_sem, ↓reduceIte, reduceCtorEq, Nat.reduceEqDiff, Nat.reduceLT, Nat.reduceLeDiff, Nat.reduceAdd, Nat.reduceMul, Int.reduceLE]
  refine hK18 _ _ _ ?_
  clear hK18 K18
  refine WP.cond (t := true) (by kernel_rfl) (fun hc3 => ?_) (fun hc3 => nomatch hc3)
  refine WP.seq_k fun K19 hK19 => ?_
  refine WP.drawL hT hM [(0, 0), (1, 0), (2, 0), (3, 0), (4, 0), (5, 0), (6, 0), (7, 0), (8, 2)] [8] Heap.emp (by kernel_rfl) rfl (Heap.Sub.emp _) fun _ => ?_
  simp only [go_sem, ↓reduceIte, reduceCtorEq, Nat.reduceEqDiff, Nat.reduceLT, Nat.reduceLeDiff, Nat.reduceAdd, Nat.reduceMul, Int.reduceLE, hw3]
  refine op_slice_sl (i + 1) (len + 1) cap rfl rfl rfl (by decide) (fun hq => by cases hq) ⟨Int.natCast_nonneg _, rfl⟩ rfl rfl (by omega) hcl (Nat.le_refl _) ?_
  unfold sealK
  simp only [go_sem, ↓reduceIte, reduceCtorEq, Nat.reduceEqDiff, Nat.reduceLT, Nat.reduceLeDiff, Nat.reduceAdd, Nat.reduceMul, Int.reduceLE]
  refine op_slice_sl i (len + 1) cap rfl rfl rfl (by decide) (fun hq => by cases hq) ⟨Int.natCast_nonneg _, rfl⟩ rfl rfl (by omega) hcl (Nat.le_refl _) ?_
  unfold sealK
  simp only [go_sem, ↓reduceIte, reduceCtorEq, Nat.reduceEqDiff, Nat.reduceLT, Nat.reduceLeDiff, Nat.reduceAdd, Nat.reduceMul, Int.reduceLE]
  have hdr : (es.drop i).length = len - i := by rw [List.length_drop, hl]
  have hti : (es.take i).length = i := by rw [List.length_take, hl]; omega
  have hmin : min (len + 1 - i) (len + 1 - (i + 1)) = len - i := by omega
  have hdt : List.take (len - i) (es.drop i) = es.drop i := List.take_of_length_le (Nat.le_of_eq hdr)
  have hdn : List.drop (i + 1 + (len - i)) es = [] := List.drop_of_length_le (by omega)
  obtain ⟨b1, hb1⟩ : ∃ b1, b1 = List.take (i + 1) es ++ es.drop i := ⟨_, rfl⟩
  have hb1l : b1.length = len + 1 := by rw [hb1]; simp only [List.length_append, List.length_take, List.length_drop, hl]; omega
  refine .inr ⟨123, id, i + 1, len + 1 - (i + 1), cap - (i + 1), true, id, i, len + 1 - i, cap - i, true, es, es, rfl, by decide, by kernel_rfl, by kernel_rfl, hb, by omega, hb, by omega, ?_⟩
  rw [hmin, hdt, hdn, List.append_nil, ← hb1]
  unfold sealK
  simp only [go_sem, ↓reduceIte, reduceCtorEq, Nat.reduceEqDiff, Nat.reduceLT, Nat.reduceLeDiff, Nat.reduceAdd, Nat.reduceMul, Int.reduceLE]
  refine hK19 _ _ _ ?_
  clear hK19 K19
  refine WP.seq_k fun K20 hK20 => ?_
  refine WP.region hT rfl ?_
  simp only [go_sem, ↓reduceIte, reduceCtorEq, Nat.reduceEqDiff, Nat.reduceLT, Nat.reduceLeDiff, Nat.reduceAdd, Nat.reduceMul, Int.reduceLE]
  refine op_slice_sl i (len + 1) cap rfl rfl rfl (by decide) (fun hq => by cases hq) ⟨Int.natCast_nonneg _, rfl⟩ rfl rfl (by omega) hcl (Nat.le_refl _) ?_
  unfold sealK
  simp only [go_sem, ↓reduceIte, reduceCtorEq, Nat.reduceEqDiff, Nat.reduceLT, Nat.reduceLeDiff, Nat.reduceAdd, Nat.reduceMul, Int.reduceLE]
  have hv : List.take (len + 1 - i) [v] = [v] := List.take_of_length_le (show 1 ≤ len + 1 - i from by omega)
  refine .inl ⟨123, rfl, [v], rdSl_part rfl ((Heap.upd_ne h b1 hne).trans hb2) (Nat.le_refl 1) rfl, by decide, rfl, b1, Heap.upd_same _ _ _, by omega, ?_⟩
  unfold sealK
  simp only [go_sem, ↓reduceIte, reduceCtorEq, Nat.reduceEqDiff, Nat.reduceLT, Nat.reduceLeDiff, Nat.reduceAdd, Nat.reduceMul, Int.reduceLE, hv, Heap.upd_upd]
  refine hK20 _ _ _ ?_
  clear hK20 K20
  refine WP.seq_k fun K21 hK21 => ?_
  refine WP.region hT rfl ?_
  simp only [go_sem, ↓reduceIte, reduceCtorEq, Nat.reduceEqDiff, Nat.reduceLT, Nat.reduceLeDiff, Nat.reduceAdd, Nat.reduceMul, Int.reduceLE]
  refine hK21 _ _ _ ?_
  clear hK21 K21
  refine WP.ret ?_
  have h1 : b1.take i = es.take i := by rw [hb1, List.take_append_of_le_length (by rw [List.length_take, hl]; omega), List.take_take, Nat.min_eq_left (Nat.le_succ i)]
  have h2 : b1.drop (i + 1) = es.drop i := by rw [hb1, List.drop_left' (by rw [List.length_take, hl]; omega)]
  have h3 : List.take i b1 ++ [v] ++ List.drop (i + 1) b1 = insA es i v := by rw [h1, h2]; rfl
  have h4 : (insA es i v).length = len + 1 := by unfold insA; simp only [List.length_append, hti, hdr, List.length_cons, List.length_nil]; omega
  refine ⟨_, rfl, _, _, _, .keep _ _ _ _ (fun _ _ h => h), 2, id, len + 1, cap, true, _, rfl, Heap.upd_same _ _ _, ?_, ?_⟩
  · simp only [List.length_append, List.length_take, List.length_drop, hb1l, List.length_cons, List.length_nil]; omega
  rw [Heap.upd_upd, List.take_of_length_le (by simp only [List.length_append, List.length_take, List.length_drop, hb1l, List.length_cons, List.length_nil]; omega)]
  rw [← h3] at hkI
  exact hkI
theorem c109e {id id2 len : Nat} {es : List AV} {v : AV} {ex ex2 : Bool} (hid : id < n) (hid2 : id2 < n) (hne : id2 ≠ id) (hb : h id = some es) (hl : es.length = len) (hb2 : h id2 = some [v]) (hm : (len + 1) * 16 ≤ 140737488355328)
    (hk : K (.sl 2 n 0 (len + 1) (len + 1) false) ((h.del id).upd n (es ++ [v])) (n + 1)) : CA Try.prog 109 [.sl 2 id 0 len len ex, .int .i64 len, .sl 2 id2 0 1 1 ex2] h n K := by
  have hw1 : IntKind.i64.wrap ((len : Int) + ((1 : Nat) : Int)) = ((len + 1 : Nat) : Int) := wrap_in (by omega) (by omega)
  refine CA.conv (CA.enter (N := 95) (rs := [.tmp 6]) hT Try.call109 Try.func109 rfl rfl (by simp) rfl fun hlt => ?_)
  refine WP.seq_k fun K0 hK0 => ?_
  refine WP.region hT rfl ?_
  simp only [go_sem, ↓reduceIte, reduceCtorEq, Nat.reduceEqDiff, Nat.reduceLT, Nat.reduceLeDiff, Nat.reduceAdd, Nat.reduceMul, Int.reduceLE]
  refine hK0 _ _ _ ?_
  clear hK0 K0
  refine WP.seq_k fun K1 hK1 => ?_
  refine WP.region hT rfl ?_
  simp only [go_sem, ↓reduceIte, reduceCtorEq, Nat.reduceEqDiff, Nat.reduceLT, Nat.reduceLeDiff, Nat.reduceAdd, Nat.reduceMul, Int.reduceLE]
  refine op_slice_sl len len len rfl rfl rfl (by decide) (fun hq => by cases hq) ⟨Int.natCast_nonneg _, rfl⟩ rfl rfl (Nat.le_refl _) (Nat.le_refl _) (Nat.le_refl _) ?_
  unfold sealK
  simp only [go_sem, ↓reduceIte, reduceCtorEq, Nat.reduceEqDiff, Nat.reduceLT, Nat.reduceLeDiff, Nat.reduceAdd, Nat.reduceMul, Int.reduceLE]
  refine hK1 _ _ _ ?_
  clear hK1 K1
  have hr0 : rdSl h 2 (.sl 2 id 0 len len ex) = some es := rdSl_part rfl hb (by omega) (List.take_of_length_le (Nat.le_of_eq hl))
  have hr2 : rdSl h 2 (.sl 2 id2 0 1 1 ex2) = some [v] := rdSl_part rfl hb2 (Nat.le_refl 1) rfl
  refine WP.seq_k fun K2 hK2 => ?_
  refine WP.region hT rfl ?_
  simp only [go_sem, ↓reduceIte, reduceCtorEq, Nat.reduceEqDiff, Nat.reduceLT, Nat.reduceLeDiff, Nat.reduceAdd, Nat.reduceMul, Int.reduceLE, hr2]
  refine hK2 _ _ _ ?_
  clear hK2 K2
  refine WP.seq_k fun K3 hK3 => ?_
  refine WP.seq_k fun K4 hK4 => ?_
  refine WP.region hT rfl ?_
  simp only [go_sem, ↓reduceIte, reduceCtorEq, Nat.reduceEqDiff, Nat.reduceLT, Nat.reduceLeDiff, Nat.reduceAdd, Nat.reduceMul, Int.reduceLE]
  refine hK4 _ _ _ ?_
  clear hK4 K4
  refine WP.cond (t := false) (by kernel_rfl) (fun hc0 => nomatch hc0) (fun hc0 => ?_)
  refine WP.skip ?_
  simp only [go_sem, ↓reduceIte, reduceCtorEq, Nat.reduceEqDiff, Nat.reduceLT, Nat.reduceLeDiff, Nat.reduceAdd, Nat.reduceMul, Int.reduceLE]
  refine hK3 _ _ _ ?_
  clear hK3 K3
  refine WP.seq_k fun K6 hK6 => ?_
  refine WP.region hT rfl ?_
  simp only [go_sem, ↓reduceIte, reduceCtorEq, Nat.reduceEqDiff, Nat.reduceLT, Nat.reduceLeDiff, Nat.reduceAdd, Nat.reduceMul, Int.reduceLE, hr0, hl]
  refine hK6 _ _ _ ?_
  clear hK6 K6
  refine WP.seq_k fun K7 hK7 => ?_
  refine WP.seq_k fun K8 hK8 => ?_
  refine WP.region hT rfl ?_
  simp only [go_sem, ↓reduceIte, reduceCtorEq, Nat.reduceEqDiff, Nat.reduceLT, Nat.reduceLeDiff, Nat.reduceAdd, Nat.reduceMul, Int.reduceLE]
  refine hK8 _ _ _ ?_
  clear hK8 K8
  refine WP.cond (t := true) (by kernel_rfl) (fun hc1 => ?_) (fun hc1 => nomatch hc1)
  refine WP.seq_k fun K9 hK9 => ?_
  refine WP.region hT rfl ?_
  simp only [go_sem, ↓reduceIte, reduceCtorEq, Nat.reduceEqDiff, Nat.reduceLT, Nat.reduceLeDiff, Nat.reduceAdd, Nat.reduceMul, Int.reduceLE]
  refine ⟨123, rfl, [v], hr2, by decide, rfl, by show (len + 1) * 16 ≤ _; exact hm, by show len + 1 ≤ _; omega, es, hb, by omega, ?_⟩
  have hte : List.take len (List.drop 0 es) = es := List.take_of_length_le (Nat.le_of_eq hl)
  rw [if_neg (show ¬ len + [v].length ≤ len from Nat.not_succ_le_self _), hte]
  have fin : ∀ H : Heap, (∀ j b, ((h.del id).upd n (es ++ [v])) j = some b → H j = some b) → ∃ r2 h2 n2, Conv n h (.sl 2 n 0 (len + 1) (len + 1) false) H (n + 1) r2 h2 n2 ∧ K r2 h2 n2 := fun H hH => ⟨_, _, _, .keep _ _ _ _ hH, hk⟩
  cases ex with
  | true =>
    rw [if_pos rfl]
    unfold sealK
    simp only [go_sem, ↓reduceIte, reduceCtorEq, Nat.reduceEqDiff, Nat.reduceLT, Nat.reduceLeDiff, Nat.reduceAdd, Nat.reduceMul, Int.reduceLE]
    refine hK9 _ _ _ ?_
    clear hK9 K9
    refine WP.ret ?_
    exact ⟨_, rfl, fin _ (delUpd_sub _)⟩
  | false =>
    rw [if_neg (by decide)]
    unfold sealK
    simp only [go_sem, ↓reduceIte, reduceCtorEq, Nat.reduceEqDiff, Nat.reduceLT, Nat.reduceLeDiff, Nat.reduceAdd, Nat.reduceMul, Int.reduceLE]
    refine hK9 _ _ _ ?_
    clear hK9 K9
    refine WP.ret ?_
    exact ⟨_, rfl, fin _ (fun _ _ h => h)⟩
theorem c109n {id2 : Nat} {v : AV} {ex2 : Bool} (hid2 : id2 < n) (hb2 : h id2 = some [v]) (hk : K (.sl 2 n 0 1 1 false) (h.upd n [v]) (n + 1)) : CA Try.prog 109 [.nils, .int .i64 0, .sl 2 id2 0 1 1 ex2] h n K := by
  refine CA.conv (CA.enter (N := 95) (rs := [.tmp 6]) hT Try.call109 Try.func109 rfl rfl (by simp) rfl fun hlt => ?_)
  refine WP.seq_k fun K0 hK0 => ?_
  refine WP.region hT rfl ?_
  simp only [go_sem, ↓reduceIte, reduceCtorEq, Nat.reduceEqDiff, Nat.reduceLT, Nat.reduceLeDiff, Nat.reduceAdd, Nat.reduceMul, Int.reduceLE]
  refine hK0 _ _ _ ?_
  clear hK0 K0
  refine WP.seq_k fun K1 hK1 => ?_
  refine WP.region hT rfl ?_
  simp only [go_sem, ↓reduceIte, reduceCtorEq, Nat.reduceEqDiff, Nat.reduceLT, Nat.reduceLeDiff, Nat.reduceAdd, Nat.reduceMul, Int.reduceLE]
  refine op_slice_nils rfl rfl (by decide) (fun hq => by cases hq) ⟨Int.le_refl _, rfl⟩ rfl rfl ?_
  unfold sealK
  simp only [go_sem, ↓reduceIte, reduceCtorEq, Nat.reduceEqDiff, Nat.reduceLT, Nat.reduceLeDiff, Nat.reduceAdd, Nat.reduceMul, Int.reduceLE]
  refine hK1 _ _ _ ?_
  clear hK1 K1
  have hr2 : rdSl h 2 (.sl 2 id2 0 1 1 ex2) = some [v] := rdSl_part rfl hb2 (Nat.le_refl 1) rfl
  refine WP.seq_k fun K2 hK2 => ?_
  refine WP.region hT rfl ?_
  simp only [go_sem, ↓reduceIte, reduceCtorEq, Nat.reduceEqDiff, Nat.reduceLT, Nat.reduceLeDiff, Nat.reduceAdd, Nat.reduceMul, Int.reduceLE, hr2]
  refine hK2 _ _ _ ?_
  clear hK2 K2
  refine WP.seq_k fun K3 hK3 => ?_
  refine WP.seq_k fun K4 hK4 => ?_
  refine WP.region hT rfl ?_
  simp only [go_sem, ↓reduceIte, reduceCtorEq, Nat.reduceEqDiff, Nat.reduceLT, Nat.reduceLeDiff, Nat.reduceAdd, Nat.reduceMul, Int.reduceLE]
  refine hK4 _ _ _ ?_
  clear hK4 K4
  refine WP.cond (t := false) (by kernel_rfl) (fun hc0 => nomatch hc0) (fun hc0 => ?_)
  refine WP.skip ?_
  simp only [go_sem, ↓reduceIte, reduceCtorEq, Nat.reduceEqDiff, Nat.reduceLT, Nat.reduceLeDiff, Nat.reduceAdd, Nat.reduceMul, Int.reduceLE]
  refine hK3 _ _ _ ?_
  clear hK3 K3
  refine WP.seq_k fun K6 hK6 => ?_
  refine WP.region hT rfl ?_
  simp only [go_sem, ↓reduceIte, reduceCtorEq, Nat.reduceEqDiff, Nat.reduceLT, Nat.reduceLeDiff, Nat.reduceAdd, Nat.reduceMul, Int.reduceLE]
  refine hK6 _ _ _ ?_
  clear hK6 K6
  refine WP.seq_k fun K7 hK7 => ?_
  refine WP.seq_k fun K8 hK8 => ?_
  refine WP.region hT rfl ?_
  simp only [go_sem, ↓reduceIte, reduceCtorEq, Nat.reduceEqDiff, Nat.reduceLT, Nat.reduceLeDiff, Nat.reduceAdd, Nat.reduceMul, Int.reduceLE]
  refine hK8 _ _ _ ?_
  clear hK8 K8
  refine WP.cond (t := true) (by kernel_rfl) (fun hc1 => ?_) (fun hc1 => nomatch hc1)
  refine WP.seq_k fun K9 hK9 => ?_
  refine WP.region hT rfl ?_
  simp only [go_sem, ↓reduceIte, reduceCtorEq, Nat.reduceEqDiff, Nat.reduceLT, Nat.reduceLeDiff, Nat.reduceAdd, Nat.reduceMul, Int.reduceLE]
  refine ⟨123, rfl, [v], hr2, by decide, (show 1 * 16 ≤ 140737488355328 from by decide), (show 1 ≤ 140737488355328 from by decide), ?_⟩
  rw [if_neg (by intro hq; cases hq)]
  unfold sealK
  simp only [go_sem, ↓reduceIte, reduceCtorEq, Nat.reduceEqDiff, Nat.reduceLT, Nat.reduceLeDiff, Nat.reduceAdd, Nat.reduceMul, Int.reduceLE]
  refine hK9 _ _ _ ?_
  clear hK9 K9
  refine WP.ret ?_
  exact ⟨_, rfl, _, _, _, .keep _ _ _ _ (fun _ _ h => h), hk⟩
theorem c109 {id id2 len i : Nat} {es : List AV} {v : AV} {ex ex2 : Bool} (hid : id < n) (hid2 : id2 < n) (hne : id2 ≠ id) (hb : h id = some es) (hl : es.length = len) (hb2 : h id2 = some [v]) (hi : i ≤ len) (hm : (len + 1) * 16 ≤ 140737488355328)
    (hk : K (.sl 2 n 0 (len + 1) (len + 1) false) ((h.del id).upd n (insA es i v)) (n + 1)) : CA Try.prog 109 [.sl 2 id 0 len len ex, .int .i64 i, .sl 2 id2 0 1 1 ex2] h n K := by
  by_cases hil : i = len
  · subst hil
    rw [show insA es i v = es ++ [v] from by unfold insA; rw [← hl, List.take_length, List.drop_length, List.append_nil]] at hk
    exact c109e hid hid2 hne hb hl hb2 hm hk
  · refine CA.wide Try.call109 fun cap hc1 hc2 => CA.rename (c109i hid hid2 hne hb hl hc1 hc2 hb2 (by omega) hm (.inr ⟨2, id, len + 1, len + 1, false, _, rfl, Heap.upd_same _ _ _, ?_⟩) (.inl hk))
    rw [del_upd_same]
    exact hk
def insL {α : Type} (bytes : Nat) (l : List α) (i : Int) (c : α) : Option (List α) := if 0 ≤ i ∧ i ≤ l.length ∧ (l.length + 1) * bytes ≤ 140737488355328 ∧ l.length + 1 ≤ 140737488355328 then some (l.take i.toNat ++ [c] ++ l.drop i.toNat) else none
def delL {α : Type} (bytes : Nat) (l : List α) (i j : Int) : Option (List α) := if 0 ≤ i ∧ i ≤ j ∧ j ≤ l.length ∧ l.length * bytes ≤ 140737488355328 ∧ l.length ≤ 140737488355328 then some (l.take i.toNat ++ l.drop j.toNat) else none
theorem insL_ok {α : Type} {R : AV → α → Prop} {bytes : Nat} {es : List AV} {v : AV} {l r : List α} {i : Int} {c : α} (hq : insL bytes l i c = some r) (ha : All2 R es l) (hv : R v c) :
    0 ≤ i ∧ i.toNat ≤ es.length ∧ (es.length + 1) * bytes ≤ 140737488355328 ∧ es.length + 1 ≤ 140737488355328 ∧ All2 R (insA es i.toNat v) r ∧ r.length = es.length + 1 ∧ (insA es i.toNat v).length = es.length + 1 := by
  unfold insL at hq
  split at hq
  · rename_i hc
    have hr := Option.some.inj hq
    have hl := all2_length ha
    have a2 : All2 R (insA es i.toNat v) r := by rw [← hr]; exact all2_app (all2_app (all2_take ha _) (.cons hv .nil)) (all2_drop ha _)
    have e1 : (insA es i.toNat v).length = es.length + 1 := by unfold insA; simp only [List.length_append, List.length_take, List.length_drop, List.length_cons, List.length_nil]; omega
    exact ⟨hc.1, by omega, by rw [hl]; exact hc.2.2.1, by rw [hl]; exact hc.2.2.2, a2, by rw [← all2_length a2, e1], e1⟩
  · cases hq
theorem delL_ok {α : Type} {R : AV → α → Prop} {bytes : Nat} {es : List AV} {l r : List α} {i j : Int} (hq : delL bytes l i j = some r) (ha : All2 R es l) :
    0 ≤ i ∧ i ≤ j ∧ j.toNat ≤ es.length ∧ es.length * bytes ≤ 140737488355328 ∧ All2 R (es.take i.toNat ++ es.drop j.toNat) r ∧ r.length = i.toNat + (es.length - j.toNat) ∧ (es.take i.toNat ++ es.drop j.toNat).length ≤ 140737488355328 := by
  unfold delL at hq
  split at hq
  · rename_i hc
    have hr := Option.some.inj hq
    have hl := all2_length ha
    have a2 : All2 R (es.take i.toNat ++ es.drop j.toNat) r := by rw [← hr]; exact all2_app (all2_take ha _) (all2_drop ha _)
    have e1 : (es.take i.toNat ++ es.drop j.toNat).length = i.toNat + (es.length - j.toNat) := by simp only [List.length_append, List.length_take, List.length_drop]; omega
    exact ⟨hc.1, hc.2.1, by omega, by rw [hl]; exact hc.2.2.2.1, a2, by rw [← all2_length a2, e1], by rw [e1]; omega⟩
  · cases hq
theorem d109 {id id2 len : Nat} {at_ : Int} {es : List AV} {v : AV} {ex ex2 : Bool} {l r : List CellD} {c : CellD} (hq : insL 16 l at_ c = some r) (ha : All2 CellR es l) (hv : CellR v c) (hid : id < n) (hid2 : id2 < n) (hne : id2 ≠ id) (hb : h id = some es) (hl : es.length = len) (hb2 : h id2 = some [v])
    (hk : ∀ es', All2 CellR es' r → es'.length ≤ 140737488355328 → K (.sl 2 n 0 r.length r.length false) ((h.del id).upd n es') (n + 1)) : CA Try.prog 109 [.sl 2 id 0 len len ex, .int .i64 at_, .sl 2 id2 0 1 1 ex2] h n K := by
  obtain ⟨h0, h1, h2, h3, h4, h5, h6⟩ := insL_ok hq ha hv
  subst hl
  have hk2 := hk _ h4 (by rw [h6]; exact h3)
  rw [h5] at hk2
  have := c109 (ex := ex) (ex2 := ex2) hid hid2 hne hb rfl hb2 h1 h2 hk2
  rw [Int.toNat_of_nonneg h0] at this
  exact this
theorem d109n {id2 : Nat} {at_ : Int} {v : AV} {ex2 : Bool} {r : List CellD} {c : CellD} (hq : insL 16 [] at_ c = some r) (hv : CellR v c) (hid2 : id2 < n) (hb2 : h id2 = some [v])
    (hk : ∀ es', All2 CellR es' r → es'.length ≤ 140737488355328 → K (.sl 2 n 0 r.length r.length false) (h.upd n es') (n + 1)) : CA Try.prog 109 [.nils, .int .i64 at_, .sl 2 id2 0 1 1 ex2] h n K := by
  obtain ⟨h0, h1, h2, h3, h4, h5, h6⟩ := insL_ok hq .nil hv
  have hz : at_ = 0 := by have : at_.toNat ≤ 0 := h1; omega
  subst hz
  have hk2 := hk _ h4 (by rw [h6]; exact h3)
  rw [h5] at hk2
  exact c109n hid2 hb2 hk2
theorem d110 {id len : Nat} {i j : Int} {es : List AV} {ex : Bool} {l r : List CellD} (hq : delL 16 l i j = some r) (ha : All2 CellR es l) (hid : id < n) (hb : h id = some es) (hl : es.length = len)
    (hk : ∀ es', All2 CellR es' r → es'.length ≤ 140737488355328 → K (.sl 2 id 0 r.length r.length false) (h.upd id es') n) : CA Try.prog 110 [.sl 2 id 0 len len ex, .int .i64 i, .int .i64 j] h n K := by
  obtain ⟨h0, h1, h2, h3, h4, h5, h6⟩ := delL_ok hq ha
  subst hl
  have hk2 := hk _ h4 h6
  rw [h5] at hk2
  have := c110 (ex := ex) hid hb rfl (show i.toNat ≤ j.toNat from by omega) h2 h3 hk2
  rw [Int.toNat_of_nonneg h0, Int.toNat_of_nonneg (Int.le_trans h0 h1)] at this
  exact this
theorem delL_nil {α : Type} {bytes : Nat} {i : Int} {r : List α} (hq : delL bytes ([] : List α) i (IntKind.i64.wrap (i + 1)) = some r) (hi : I64 i) : False := by
  unfold delL at hq
  split at hq
  · rename_i hc
    obtain ⟨a, b, c, _⟩ := hc
    have hz : i = 0 := by simp only [List.length_nil] at c; omega
    subst hz
    have c2 : IntKind.i64.wrap (0 + 1) ≤ 0 := c
    rw [wrap_in (m := 0 + 1) (by decide) (by decide)] at c2
    omega
  · cases hq
theorem delL_nilE {α : Type} {bytes : Nat} {i : Int} {l r : List α} (hz : l = []) (hq : delL bytes l i (IntKind.i64.wrap (i + 1)) = some r) (hi : I64 i) : False := by
  subst hz; exact delL_nil hq hi
theorem insL_nilE {α : Type} {bytes : Nat} {i : Int} {c : α} {l r : List α} (hz : l = []) (hq : insL bytes l i c = some r) : insL bytes [] i c = some r := by
  subst hz; exact hq
theorem at_nilE {α : Type} {i : Int} {l : List α} {a : α} (hq : atL l i = some a) (hz : l = []) : False := by
  subst hz; unfold atL at hq; split at hq
  · simp at hq
  · cases hq
theorem row_ne {n : Nat} (i j : Nat) (h : Nat.beq i j = false) : n + i ≠ n + j := fun hq => by
  have : i = j := by omega
  subst this
  rw [Nat.beq_refl] at h
  cases h
end
end Go.Proofs.Ytcngfjmfgeckmaa
end
