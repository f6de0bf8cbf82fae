/- The code of the small logic: states, the steps of a region, the rules of code. Own work. -/
import Derived.Test.YtplkjfnjdekgpaaLtOpsL
import Derived.Orders
import Derived.Tactics
namespace Go.Proofs.Ytplkjfnjdekgpaa
open Go

abbrev Env := Nat → AV
def Env.get (E : Env) (t : Nat) : AV := E t
def Env.put (E : Env) (d : Option Tmp) (v : AV) : Env :=
  match d with
  | some d => fun t => if d = t then v else E t
  | none => E

def ev (E : Env) : Operand → AV
  | .tmp t => E.get t
  | .const v => ofVal v
  | .func f => .fn f []
  | .global _ => .undef

def Fresh (c : Cfg) (n : Nat) : Prop := ∀ id, n ≤ id → c.ι id = none

/-- What a call has come to. -/
def PostR (c : Cfg) (h : Heap) (n : Nat) (v : Value) (w' : World) (r : AV) (h' : Heap) (n' : Nat) : Prop :=
  ∃ c', c'.w = w' ∧ Ext c h (fun id => n ≤ id ∧ id < n') c' h' ∧ HR c' h' ∧ Fresh c' n' ∧ VR c' r v ∧ n ≤ n'

/-- A call of f enters f. -/
def Goes (P : Program) (f : FuncId) : Prop := ∀ (args : Array Value) (w : World), (callFunc f args).run P w = .ok (.enter f args) w

def CA (P : Program) (f : FuncId) (args : List AV) (h : Heap) (n : Nat) (K : AV → Heap → Nat → Prop) : Prop :=
  Goes P f ∧ ∀ (c : Cfg) (vals : Array Value), HR c h → Fresh c n → vals.size = args.length → (∀ (i : Nat) (u : AV) (v : Value), args[i]? = some u → vals[i]? = some v → VR c u v) →
    Calls P f vals c.w (fun e w' => ∃ v r h' n', e = .returned v ∧ PostR c h n v w' r h' n' ∧ K r h' n')

def callA (P : Program) (T : TE) (o : Oper) (E : Env) (h : Heap) (n : Nat) (K : AV → Heap → Nat → Prop) : Prop :=
  match o.op with
  | .call c => match c.callee with
    | .value f => match ev E f with
      | .fn g cap => CA P g (c.args.toList.map (ev E) ++ cap) h n K
      | _ => False
    | _ => opP T o.op (ev E) h n K
  | op => opP T op (ev E) h n K

/-- What a guard says, where the state knows it. -/
def yieldA (ops : List Oper) (E : Env) (j : Nat) : Option (Option Bool) :=
  match (ops[j]?).bind (·.dst) with
  | none => some none
  | some d => match E.get d with
    | .bool b => some (some b)
    | .undef => none
    | .fn .. => none
    | _ => some none

def stepA (P : Program) (T : TE) (ops : List Oper) (o : Oper) (E : Env) (h : Heap) (n : Nat) (K : Env → Heap → Nat → Prop) : Prop :=
  match o.guard with
  | none => callA P T o E h n (fun r h' n' => K (E.put o.dst r) h' n')
  | some (j, want) => match yieldA ops E j with
    | some y => if y = some want then callA P T o E h n (fun r h' n' => K (E.put o.dst r) h' n') else K (E.put o.dst (.tup [])) h n
    | none => False

def opsA (P : Program) (T : TE) (ops : List Oper) : List Oper → Env → Heap → Nat → (Env → Heap → Nat → Prop) → Prop
  | [], E, h, n, K => K E h n
  | o :: rest, E, h, n, K => stepA P T ops o E h n (fun E' h' n' => opsA P T ops rest E' h' n' K)

structure Base where
  c : Cfg
  h : Heap
  n : Nat

def SR (b : Base) (N : Nat) (E : Env) (h : Heap) (n : Nat) (a : Act) (w : World) : Prop :=
  ∃ c, c.w = w ∧ Ext b.c b.h (fun id => b.n ≤ id ∧ id < n) c h ∧ HR c h ∧ Fresh c n ∧ b.n ≤ n ∧ HR b.c b.h ∧ a.defers = [] ∧ a.tmps.size = N ∧ ∀ t, VR c (E.get t) (a.tmps.getD t undef)

def WP (P : Program) (N : Nat) (code : Code) (Q : Exit → Env → Heap → Nat → Prop) (E : Env) (h : Heap) (n : Nat) : Prop :=
  ∀ b a w, SR b N E h n a w → code.wp P (fun e a' w' => ∃ E' h' n', SR b N E' h' n' a' w' ∧ Q e E' h' n') a w

/-- The temporaries that operations fill lie in the frame. -/
def dstIn (N : Nat) (o : Oper) : Bool := match o.dst with | some d => decide (d < N) | none => true

section
variable {P : Program} {T : TE} {c : Cfg} {h : Heap} {n : Nat}

theorem ofVal_ok (c : Cfg) (v : Value) : VR c (ofVal v) v := by
  unfold ofVal
  split
  · exact .bool _
  · exact .int _ _
  · exact .str _
  · exact .nils
  · exact .nilp
  · exact .nilf
  · exact .fn _ _ _ rfl (fun i u v h => by simp at h)
  · exact .undef _

theorem Env.get_put (E : Env) (d : Option Tmp) (v : AV) (t : Nat) : (E.put d v).get t = if d = some t then v else E.get t := by
  cases d with
  | none => simp [Env.put]
  | some d => simp [Env.put, Env.get]

theorem SR.fill {N : Nat} {E : Env} {a : Act} {c c' : Cfg} {h : Heap} {fr : Nat → Prop} {h' : Heap} (e1 : Ext c h fr c' h') (hh : HR c h) (hN : a.tmps.size = N) (ht : ∀ t, VR c (E.get t) (a.tmps.getD t undef)) {v : Value} {r : AV} {d : Option Tmp}
    (hd : ∀ t, d = some t → t < N) (hv : VR c' r v) : ∀ t, VR c' ((E.put d r).get t) ((a.put d v).tmps.getD t undef) := fun t => by
  rw [Env.get_put]
  split
  · rename_i hdt
    have htN := hd t hdt
    subst hdt
    simp only [Act.put, Array.getD_eq_getD_getElem?, Array.getElem?_setIfInBounds, if_true, hN, htN]
    exact hv
  · rename_i hdt
    have hE : (a.put d v).tmps.getD t undef = a.tmps.getD t undef := by
      cases d with
      | none => rfl
      | some d =>
        have hne : d ≠ t := fun hq => hdt (by rw [hq])
        simp [Act.put, Array.getElem?_setIfInBounds_ne hne]
    rw [hE]
    exact (ht t).mono e1 hh

theorem SR.put {b : Base} {N : Nat} {E : Env} {h : Heap} {n : Nat} {a : Act} {w : World} {c c' : Cfg} {h' : Heap} {n' : Nat} {v : Value} {r : AV} {d : Option Tmp}
    (e0 : Ext b.c b.h (fun id => b.n ≤ id ∧ id < n) c h) (hh : HR c h) (hb : HR b.c b.h) (hn : b.n ≤ n) (hd : a.defers = []) (hN : a.tmps.size = N) (ht : ∀ t, VR c (E.get t) (a.tmps.getD t undef)) (hdN : ∀ t, d = some t → t < N)
    (e1 : Ext c h (fun id => n ≤ id ∧ id < n') c' h') (hh' : HR c' h') (hf' : Fresh c' n') (hv : VR c' r v) (hn' : n ≤ n') (hw : c'.w = w) : SR b N (E.put d r) h' n' (a.put d v) w := by
  refine ⟨c', hw, e0.trans e1 (fun i hi => ⟨hi.1, by omega⟩) (fun i hi => ⟨by omega, hi.2⟩), hh', hf', by omega, hb, ?_, ?_, SR.fill e1 hh hN ht hdN hv⟩
  · cases d <;> exact hd
  · cases d <;> simp [Act.put, hN]

theorem SR.eval {E : Env} {a : Act} {c : Cfg} (ht : ∀ t, VR c (E.get t) (a.tmps.getD t undef)) (x : Operand) : VR c (ev E x) (a.eval x) := by
  cases x with
  | tmp t => exact ht t
  | const v => exact ofVal_ok c v
  | func f => exact .fn _ _ _ rfl (fun i u v h => by simp at h)
  | global g => exact .undef _

/-- One operation, whose guard lets it be carried out. -/
theorem callA_sound (hT : TEOk P T) {o : Oper} {b : Base} {N : Nat} {E : Env} {a : Act} {w : World} {K : Env → Heap → Nat → Prop} {next : Act → World → Prop} {Q : Exit → Act → World → Prop} (hdN : ∀ t, o.dst = some t → t < N)
    (hs : SR b N E h n a w) (hc : callA P T o E h n (fun r h' n' => K (E.put o.dst r) h' n')) (hK : ∀ E' h' n' a' w', SR b N E' h' n' a' w' → K E' h' n' → next a' w') : o.wp P a w next Q := by
  obtain ⟨c, rfl, e0, hh, hf, hn, hb, hd, hN, ht⟩ := hs
  have base : opP T o.op (ev E) h n (fun r h' n' => K (E.put o.dst r) h' n') → o.wp P a c.w next Q := fun ho => by
    obtain ⟨nx, c', r, h', n', v, q1, q2, q3, q4, q5, q6, q7, q8⟩ := opP_sound hT hh hf (fun x => SR.eval ht x) o ho
    have hfin := hK _ _ _ _ _ (SR.put (d := o.dst) e0 hh hb hn hd hN ht hdN q3 q4 q5 q6 q7 rfl) q8
    unfold Oper.wp
    rw [q1]
    rcases q2 with rfl | ⟨rfl, rfl⟩
    · exact hfin
    · exact hfin
  unfold callA at hc
  split at hc
  · rename_i cl hop
    split at hc
    · rename_i f hcal
      split at hc
      · rename_i g cap hg
        have hv := SR.eval ht f
        rw [hg] at hv
        obtain ⟨vf, hvf⟩ : ∃ v, v = a.eval f := ⟨_, rfl⟩
        rw [← hvf] at hv
        cases hv with
        | fn _ _ vs hsz hvs =>
          obtain ⟨hgo, hcall⟩ := hc
          have hrun : (execOp a.eval o).run P c.w = .ok (.enter g (cl.args.map a.eval ++ vs)) c.w := by
            simp [execOp, hop, resolve, hcal, ← hvf, Deferred.ofValue, invoke, hgo _ _]
          unfold Oper.wp
          rw [hrun]
          refine Calls.mono (hcall c _ hh hf (by simp [hsz]) (fun i u v hu hv => ?_)) (fun e w'' he => ?_)
          · rcases Nat.lt_or_ge i cl.args.size with hlt | hge
            · rw [List.getElem?_append_left (by simpa using hlt), List.getElem?_map] at hu
              rw [Array.getElem?_append_left (by simpa using hlt), Array.getElem?_map] at hv
              rw [Array.getElem?_eq_getElem hlt] at hv
              rw [Array.getElem?_toList, Array.getElem?_eq_getElem hlt] at hu
              obtain rfl := Option.some.inj hv
              obtain rfl := Option.some.inj hu
              exact SR.eval ht _
            · rw [List.getElem?_append_right (by simpa using hge)] at hu
              rw [Array.getElem?_append_right (by simpa using hge)] at hv
              refine hvs _ u v (by simpa using hu) (by simpa using hv)
          · obtain ⟨v, r, h', n', rfl, ⟨c', hw, q3, q4, q5, q6, q7⟩, q8⟩ := he
            exact hK _ _ _ _ _ (SR.put (d := o.dst) e0 hh hb hn hd hN ht hdN q3 q4 q5 q6 q7 hw) q8
      · exact hc.elim
    · exact base hc
  · exact base hc

end
end Go.Proofs.Ytplkjfnjdekgpaa
