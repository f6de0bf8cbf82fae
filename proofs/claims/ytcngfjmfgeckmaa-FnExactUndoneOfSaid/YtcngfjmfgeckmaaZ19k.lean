import Derived.ProofKit
import Derived.Deep.Slices
import Derived.Test.YtcngfjmfgeckmaaZ19j
set_option linter.unusedSimpArgs false
set_option linter.unusedVariables false
set_option linter.unusedSectionVars false
section
namespace Go.Proofs.Ytcngfjmfgeckmaa
open Go
section
variable {h : Heap} {n : Nat} {K : AV → Heap → Nat → Prop}
set_option maxHeartbeats 1000000 in
theorem c8 {x : AV} {l : List RecD} (hx : RecSR x l) (hk : K (.bool true) h n) : CA Try.prog 8 [x] h n K := by
  refine CA.conv (CA.enter (N := 69) (rs := [.tmp 2]) hT Try.call8 Try.func8 rfl rfl (by simp) rfl fun hlt => ?_)
  refine WP.seq_k fun K1 hK1 => WP.region hT rfl ?_
  refine q_S ?_
  refine hK1 _ _ _ ?_
  clear hK1 K1
  refine WP.seq_k fun K1 hK1 => WP.region hT rfl ?_
  refine q_S ?_
  refine hK1 _ _ _ ?_
  clear hK1 K1
  refine WP.seq_k fun K1 hK1 => WP.region hT rfl ?_
  refine q_S ?_
  refine c14 hx (by omega) (by omega) (hK1 _ _ _ ?_)
  clear hK1 K1
  refine WP.seq_k fun K3 hK3 => ?_
  refine WP.seq_k fun K1 hK1 => WP.region hT rfl ?_
  refine q_S ?_
  refine hK1 _ _ _ ?_
  clear hK1 K1
  refine WP.cond (by simp only [ev, Env.get_put_some, ↓reduceIte]; rfl) (fun hc => ?_) (fun hc => ?_)
  · refine WP.seq_k fun K1 hK1 => WP.region hT rfl ?_
    refine q_S ?_
    refine hK1 _ _ _ ?_
    clear hK1 K1
    refine WP.ret ?_
    refine qr_S ?_
    exact ⟨_, rfl, ret_p (Left.refl hlt) (.bool _) hk⟩
  refine WP.skip (hK3 _ _ _ ?_)
  clear hK3 K3
  obtain ⟨b1, b2⟩ := left_nonneg (by omega) (of_decide_eq_false hc)
  have hl : sizRecS l ≤ 1048576 := by omega
  have hsm : wsIntsResult (undoP l) ≤ 2097152 := undoP_small l
  have hs0 : wtRecS l ≤ 8388608 := by
    unfold wtRecS wtRec
    rw [map_const_sum]
    unfold sizRecS sizL at hl
    omega
  refine WP.seq_k fun K1 hK1 => WP.region hT rfl ?_
  refine Q_S ?_
  refine c16 hx hl fun r1 hr1 => ?_
  refine w_S ?_
  refine s_undo hr1 fun w0 hw0 => ?_
  obtain ⟨A0, rfl, hA00, hA0⟩ := id hw0
  refine w_S ?_
  refine hK1 _ _ _ ?_
  clear hK1 K1
  refine WP.seq_k fun K1 hK1 => WP.region hT rfl ?_
  refine Q_S ?_
  refine c16o hx hl fun x0 h2 n2 o2 => ?_
  refine w_S ?_
  refine hK1 _ _ _ ?_
  clear hK1 K1
  have l2 := o2.le
  have bw2 : h2 n = some [.agg [.int .i64 (undoP l).code, A0]] := by rw [o2.below n (by omega), Heap.upd_same]
  obtain ⟨x0', I0, t0, u0, i0⟩ := o2.frz0
  refine WP.seq_k fun K1 hK1 => WP.region hT rfl ?_
  refine Q_S ?_
  refine CA.lendOwn (args' := [x0']) Try.call33 rfl (frzL1 (.inr t0.frz00)) (fun K hk => i_undoO u0 hk) fun g0 h4 n4 o4 => ?_
  have l4 := o4.le
  have bw4 : h4 n = some [.agg [.int .i64 (undoP l).code, A0]] := by rw [o4.below n (by omega)]; exact bw2
  obtain ⟨g0', I2, t2, u2, i2⟩ := o4.frz0
  have t0 : Tree h4 x0 x0' I0 := t0.keep fun i hi => o4.below i (by have := i0 i hi; omega)
  obtain ⟨Ag', rfl, hAg0, hAg⟩ := id u2
  obtain ⟨gs, rfl, hgl⟩ := t2.aggE
  have gl3 : gs.length = 2 := by have := hgl.length; simpa using this.symm
  obtain ⟨ga, gb, rfl⟩ := len2 gl3
  refine w_S ?_
  refine hK1 _ _ _ ?_
  clear hK1 K1
  generalize hh5 : h4.upd n4 [.agg [ga, gb]] = h5
  have fr5 : ∀ id, id < n4 → h5 id = h4 id := fun id hid => by rw [← hh5, Heap.upd_ne _ _ (by omega)]
  have bg5 : h5 n4 = some [.agg [ga, gb]] := by rw [← hh5, Heap.upd_same]
  have bw5 : h5 n = some [.agg [.int .i64 (undoP l).code, A0]] := by rw [fr5 n (by omega)]; exact bw4
  have t0 : Tree h5 x0 x0' I0 := t0.keep fun i hi => fr5 i (by have := i0 i hi; omega)
  have t2 : Tree h5 (.agg [ga, gb]) (.agg [.int .i64 (undoP l).code, Ag']) I2 := t2.keep fun i hi => fr5 i (by have := i2 i hi; omega)
  clear hh5
  refine WP.seq_k fun K3 hK3 => ?_
  refine WP.seq_k fun K1 hK1 => WP.region hT rfl ?_
  refine Q_fS (And.intro bg5 bw5) ?_
  refine CA.lend (args' := [.agg [.int .i64 (undoP l).code, Ag'], .agg [.int .i64 (undoP l).code, A0]]) Try.call21 rfl (frzL2 (.inr t2.frz00) (.inl rfl)) (.bool _) (fun K hk => c21 u2 hw0 hk) ?_
  refine w_S ?_
  refine hK1 _ _ _ ?_
  clear hK1 K1
  refine WP.cond (by simp only [ev, Env.get_put_some, ↓reduceIte]; rfl) (fun hc => ?_) (fun hc => ?_)
  · simp at hc
  refine WP.skip (hK3 _ _ _ ?_)
  clear hK3 K3
  refine WP.seq_k fun K3 hK3 => ?_
  refine WP.seq_k fun K1 hK1 => WP.region hT rfl ?_
  refine Q_S ?_
  refine c16 hx hl fun r3 hr3 => ?_
  refine w_S ?_
  refine CA.lend (args' := [x0', r3]) Try.call18 rfl (frzL2 (.inr t0.frz00) (.inl rfl)) (.bool _) (fun K hk => c18 u0 hr3 hk) ?_
  refine w_S ?_
  refine hK1 _ _ _ ?_
  clear hK1 K1
  refine WP.cond (by simp only [ev, Env.get_put_some, ↓reduceIte]; rfl) (fun hc => ?_) (fun hc => ?_)
  · simp at hc
  refine WP.skip (hK3 _ _ _ ?_)
  clear hK3 K3
  refine WP.seq_k fun K1 hK1 => WP.region hT rfl ?_
  refine q_S ?_
  refine hK1 _ _ _ ?_
  clear hK1 K1
  refine WP.seq_k fun K1 hK1 => WP.region hT rfl ?_
  refine Q_S ?_
  refine m22 u0 _ _ _ x0 I0 1 t0 (by omega) (by omega) fun x0'' h6 n6 l6 t0'' fr6 _ => ?_
  refine w_S ?_
  refine hK1 _ _ _ ?_
  clear hK1 K1
  have bw6 : h6 n = some [.agg [.int .i64 (undoP l).code, A0]] := by rw [fr6 n (fun hm => by have := i0 n hm; omega)]; exact bw5
  have bg6 : h6 n4 = some [.agg [ga, gb]] := by rw [fr6 n4 (fun hm => by have := i0 n4 hm; omega)]; exact bg5
  have t2 : Tree h6 (.agg [ga, gb]) (.agg [.int .i64 (undoP l).code, Ag']) I2 := t2.keep fun i hi => fr6 i (fun hm => by have := i0 i hm; have := i2 i hi; omega)
  have hneg : decide ((1 : Int) + (wtRecS l : Nat) < 0) = false := decide_eq_false (by omega)
  refine WP.seq_k fun K3 hK3 => ?_
  refine WP.seq_k fun K1 hK1 => WP.region hT rfl ?_
  refine Q_fS (And.intro hneg (And.intro bg6 bw6)) ?_
  refine CA.lend (args' := [.agg [.int .i64 (undoP l).code, Ag'], .agg [.int .i64 (undoP l).code, A0]]) Try.call21 rfl (frzL2 (.inr t2.frz00) (.inl rfl)) (.bool _) (fun K hk => c21 u2 hw0 hk) ?_
  refine w_fS hneg ?_
  refine hK1 _ _ _ ?_
  clear hK1 K1
  refine WP.cond (by simp only [ev, Env.get_put_some, ↓reduceIte]; rfl) (fun hc => ?_) (fun hc => ?_)
  · simp at hc
  refine WP.skip (hK3 _ _ _ ?_)
  clear hK3 K3
  refine WP.seq_k fun K1 hK1 => WP.region hT rfl ?_
  refine q_S ?_
  refine hK1 _ _ _ ?_
  clear hK1 K1
  refine WP.seq_k fun K1 hK1 => WP.region hT rfl ?_
  refine Q_fS bg6 ?_
  refine m23 u2 _ _ _ _ I2 1 t2 (by omega) (by omega) fun g'' h8 n8 l8 t2'' fr8 hHg => ?_
  refine w_S ?_
  refine hK1 _ _ _ ?_
  clear hK1 K1
  have bw8 : h8 n = some [.agg [.int .i64 (undoP l).code, A0]] := by rw [fr8 n (fun hm => by have := i2 n hm; omega)]; exact bw6
  have bg8 : h8 n4 = some [.agg [ga, gb]] := by rw [fr8 n4 (fun hm => by have := i2 n4 hm; omega)]; exact bg6
  have hh : HeldBy Try.prog 24 g'' (wsIntsResult (undoP l)) 1 := h24 (by omega) (by omega) hHg
  have hneg2 : decide ((1 : Int) + (wsIntsResult (undoP l) : Nat) < 0) = false := decide_eq_false (by omega)
  refine WP.seq_k fun K1 hK1 => WP.region hT rfl ?_
  refine q_S ?_
  refine hK1 _ _ _ ?_
  clear hK1 K1
  refine WP.seq_k fun K1 hK1 => WP.region hT rfl ?_
  refine Q_fS bg8 ?_
  refine CA.lend (args' := [g'', .int .i64 1]) Try.call24 rfl (frzL2 (.inr t2''.frz00) (.inl rfl)) (.int _ _) (fun K hk => hh _ _ _ hk) ?_
  refine w_S ?_
  refine hK1 _ _ _ ?_
  clear hK1 K1
  refine WP.seq_k fun K3 hK3 => ?_
  refine WP.seq_k fun K1 hK1 => WP.region hT rfl ?_
  refine q_S ?_
  refine hK1 _ _ _ ?_
  clear hK1 K1
  refine WP.cond (by simp only [ev, Env.get_put_some, ↓reduceIte]; rfl) (fun hc => ?_) (fun hc => ?_)
  · rw [hneg2] at hc; cases hc
  refine WP.skip (hK3 _ _ _ ?_)
  clear hK3 K3
  refine WP.seq_k fun K3 hK3 => ?_
  refine WP.seq_k fun K1 hK1 => WP.region hT rfl ?_
  refine q_S ?_
  refine hK1 _ _ _ ?_
  clear hK1 K1
  refine WP.cond (by simp only [ev, Env.get_put_some, ↓reduceIte]; rfl) (fun hc => ?_) (fun hc => ?_)
  · simp at hc
  refine WP.skip (hK3 _ _ _ ?_)
  clear hK3 K3
  refine WP.seq_k fun K1 hK1 => WP.region hT rfl ?_
  refine Q_S ?_
  refine c16 hx hl fun r5 hr5 => ?_
  refine w_S ?_
  refine CA.ofOwn Try.call33 (fun K hk => i_undoO hr5 hk) fun h0 hh0 => ?_
  obtain ⟨A1, rfl, hA10, hA1⟩ := id hh0
  have f8 : (n = n8) = False := eq_false (by omega)
  have f9 : (n4 = n8) = False := eq_false (by omega)
  refine w_S ?_
  refine hK1 _ _ _ ?_
  clear hK1 K1
  refine WP.seq_k fun K3 hK3 => ?_
  refine WP.seq_k fun K1 hK1 => WP.region hT rfl ?_
  refine Q_fS (And.intro bw8 f8) ?_
  refine c21 hh0 hw0 ?_
  refine w_S ?_
  refine hK1 _ _ _ ?_
  clear hK1 K1
  refine WP.cond (by simp only [ev, Env.get_put_some, ↓reduceIte]; rfl) (fun hc => ?_) (fun hc => ?_)
  · simp at hc
  refine WP.skip (hK3 _ _ _ ?_)
  clear hK3 K3
  refine WP.seq_k fun K1 hK1 => WP.region hT rfl ?_
  refine q_S ?_
  refine hK1 _ _ _ ?_
  clear hK1 K1
  generalize hh9 : h8.upd n8 [.agg [.int .i64 (undoP l).code, A1]] = h9
  have t2'' : Tree h9 (.agg [ga, gb]) g'' I2 := t2''.keep fun i hi => by rw [← hh9, Heap.upd_ne _ _ (by have := i2 i hi; omega)]
  have fr9 : ∀ id, id < n8 → h9 id = h8 id := fun id hid => by rw [← hh9, Heap.upd_ne _ _ (by omega)]
  have bg9 : h9 n4 = some [.agg [ga, gb]] := by rw [← hh9, Heap.upd_ne _ _ (by omega)]; exact bg8
  clear hh9
  refine WP.seq_k fun K1 hK1 => WP.region hT rfl ?_
  refine Q_fS bg9 ?_
  refine CA.lend (args' := [g'', .int .i64 1]) Try.call24 rfl (frzL2 (.inr t2''.frz00) (.inl rfl)) (.int _ _) (fun K hk => hh _ _ _ hk) ?_
  refine w_S ?_
  refine hK1 _ _ _ ?_
  clear hK1 K1
  refine WP.seq_k fun K3 hK3 => ?_
  refine WP.seq_k fun K1 hK1 => WP.region hT rfl ?_
  refine q_S ?_
  refine hK1 _ _ _ ?_
  clear hK1 K1
  refine WP.cond (by simp only [ev, Env.get_put_some, ↓reduceIte]; rfl) (fun hc => ?_) (fun hc => ?_)
  · rw [hneg2] at hc; cases hc
  refine WP.skip (hK3 _ _ _ ?_)
  clear hK3 K3
  refine WP.seq_k fun K3 hK3 => ?_
  refine WP.seq_k fun K1 hK1 => WP.region hT rfl ?_
  refine q_S ?_
  refine hK1 _ _ _ ?_
  clear hK1 K1
  refine WP.cond (by simp only [ev, Env.get_put_some, ↓reduceIte]; rfl) (fun hc => ?_) (fun hc => ?_)
  · simp at hc
  refine WP.skip (hK3 _ _ _ ?_)
  clear hK3 K3
  refine WP.seq_k fun K1 hK1 => WP.region hT rfl ?_
  refine q_S ?_
  refine hK1 _ _ _ ?_
  clear hK1 K1
  refine WP.ret ?_
  refine qr_S ?_
  refine ⟨_, rfl, ret_p ⟨fun id b hb => ⟨hlt id b hb, ?_⟩, fun id b hb => .inl hb⟩ (.bool _) hk⟩
  have hid := hlt id b hb
  rw [fr9 id (by omega), fr8 id (fun hm => by have := i2 id hm; omega), fr6 id (fun hm => by have := i0 id hm; omega), fr5 id (by omega), o4.below id (by omega), o2.below id (by omega), Heap.upd_ne _ _ (by omega)]
  exact hb
end
end Go.Proofs.Ytcngfjmfgeckmaa
end
namespace Go.Proofs.Ytcngfjmfgeckmaa
open Go Go.ChangeShapes Go.WideShapes Go.ChangeAt Go.RowKit Go.Deep
def startCfg (W : World) : Cfg := ⟨fun _ => none, fun b => b < W.heap.size, W⟩
theorem start_hr (W : World) : HR (startCfg W) Heap.emp := ⟨fun id b hb => (by cases hb), fun i j bi bj x y h1 => (by cases h1), fun b hb => hb⟩
theorem start_fresh (W : World) : Fresh (startCfg W) 0 := fun _ _ => rfl
theorem below_of_ext {W : World} {c' : Cfg} {h' : Heap} {fr : Nat → Prop} (e : Ext (startCfg W) Heap.emp fr c' h') : Below W.heap.size W c'.w :=
  ⟨e.os, e.tape, e.output, e.size, fun k hk => e.frame k hk fun id blk x hb => (by cases hb)⟩
theorem law_calls {P : Program} {f : FuncId} {us : List AV} {vals : Array Value} {W : World} (hs : vals.size = us.length) (hv : ∀ (i : Nat) (u : AV) (v : Value), us[i]? = some u → vals[i]? = some v → VR (startCfg W) u v)
    (hc : CA P f us Heap.emp 0 (fun r _ _ => r = .bool true)) : Calls P f vals W (fun e w' => e = .returned (.bool true) ∧ Below W.heap.size W w') :=
  Calls.mono (hc.2 (startCfg W) vals (start_hr W) (start_fresh W) hs hv) fun e w' ⟨v, r, h', n', h1, ⟨c', h2, h3, h4, h5, h6, h7⟩, h8⟩ => by
    subst h1 h2 h8
    cases h6
    exact ⟨rfl, below_of_ext h3⟩
section
variable {H : Type} {enc : TypeId × Value → H} {P : Program} {W : World} {base : Nat} {spare : Nat → Bool} {held : Bool} {α : Type}
def Opn (enc : TypeId × Value → H) (P : Program) (W : World) (base : Nat) (spare : Nat → Bool) (held : Bool) (t : TypeId) (sz : Nat) (R : AV → α → Prop) : Prop :=
  ∀ (fuel : Nat) (cs : List Value) (x : DataW H × List MemPlace), DataW.trod enc P W base spare held fuel t cs = some x →
    ∃ u a, R u a ∧ u.cells.length = sz ∧ cs.length = sz ∧ (∀ x, x ∈ u.cells → x.one = true) ∧ ∀ (j : Nat) (u' : AV) (v : Value), u.cells[j]? = some u' → cs[j]? = some v → VR (startCfg W) u' v
theorem opn_one {t : TypeId} {R : AV → α → Prop} (h : ∀ (fuel : Nat) (cs : List Value) (x : DataW H × List MemPlace), DataW.trod enc P W base spare held fuel t cs = some x → ∃ u a v, R u a ∧ u.one = true ∧ cs = [v] ∧ VR (startCfg W) u v) : Opn enc P W base spare held t 1 R :=
  fun fuel cs x hx => by
    obtain ⟨u, a, v, h1, h2, rfl, h3⟩ := h fuel cs x hx
    have hc : u.cells = [u] := by cases u <;> first | rfl | (cases h2)
    refine ⟨u, a, h1, by rw [hc]; rfl, rfl, fun x hx => by rw [hc] at hx; rw [List.mem_singleton.1 hx]; exact h2, fun j u' v' hj hv => ?_⟩
    rw [hc] at hj
    cases j with
    | zero => simp only [List.getElem?_cons_zero, Option.some.injEq] at hj hv; subst hj; subst hv; exact h3
    | succ j => simp at hj
theorem opn_int {t : TypeId} {k : IntKind} (ht : P.underlying t = some (.int k)) : Opn enc P W base spare held t 1 (fun e a => e = .int k a ∧ (Lit.int k a).wf = true) :=
  opn_one fun fuel cs x hx => by
    obtain ⟨n, h1, _, h2⟩ := DataW.trod_int ht hx
    exact ⟨.int k n, n, .int k n, ⟨rfl, h2⟩, rfl, h1, .int _ _⟩
theorem opn_bool {t : TypeId} (ht : P.underlying t = some .bool) : Opn enc P W base spare held t 1 (fun e (a : Bool) => e = .bool a) :=
  opn_one fun fuel cs x hx => by
    obtain ⟨b, h1, _⟩ := DataW.trod_bool ht hx
    exact ⟨.bool b, b, .bool b, rfl, rfl, h1, .bool _⟩
theorem opn_mono {t : TypeId} {sz : Nat} {β : Type} {R : AV → α → Prop} {R' : AV → β → Prop} (h : Opn enc P W base spare held t sz R) (hr : ∀ u a, R u a → ∃ b, R' u b) : Opn enc P W base spare held t sz R' :=
  fun fuel cs x hx => by
    obtain ⟨u, a, h1, h2⟩ := h fuel cs x hx
    obtain ⟨b, hb⟩ := hr u a h1
    exact ⟨u, b, hb, h2⟩
theorem lists_of {β : Type} {Q : Nat → α → β → Prop} : ∀ (len : Nat), (∀ i, i < len → ∃ u a, Q i u a) → ∃ (es : List α) (l : List β), es.length = len ∧ l.length = len ∧ ∀ (i : Nat) u a, es[i]? = some u → l[i]? = some a → Q i u a
  | 0, _ => ⟨[], [], rfl, rfl, fun i u a h => by simp at h⟩
  | len + 1, h => by
    obtain ⟨es, l, h1, h2, h3⟩ := lists_of len (fun i hi => h i (by omega))
    obtain ⟨u, a, hq⟩ := h len (by omega)
    refine ⟨es ++ [u], l ++ [a], by simp [h1], by simp [h2], fun i u' a' hu ha => ?_⟩
    rcases Nat.lt_trichotomy i len with hlt | rfl | hgt
    · rw [List.getElem?_append_left (by omega)] at hu ha
      exact h3 i u' a' hu ha
    · rw [List.getElem?_append_right (by omega), h1, Nat.sub_self] at hu
      rw [List.getElem?_append_right (by omega), h2, Nat.sub_self] at ha
      simp only [List.getElem?_cons_zero, Option.some.injEq] at hu ha
      subst hu; subst ha; exact hq
    · rw [List.getElem?_eq_none (by simp; omega)] at hu; cases hu
theorem all2_of {β : Type} {Q : α → β → Prop} : ∀ (es : List α) (l : List β), es.length = l.length → (∀ (i : Nat) u a, es[i]? = some u → l[i]? = some a → Q u a) → All2 Q es l
  | [], [], _, _ => .nil
  | u :: es, a :: l, hl, h => .cons (h 0 u a rfl rfl) (all2_of es l (by simpa using hl) fun i u a h1 h2 => h (i + 1) u a (by simpa using h1) (by simpa using h2))
  | [], _ :: _, hl, _ => by simp at hl
  | _ :: _, [], hl, _ => by simp at hl
theorem opn_slice {t e : TypeId} {sz : Nat} {R : AV → α → Prop} (ht : P.underlying t = some (.slice e)) (hsz : P.cellsOf e = sz) (hpos : 0 < sz) (he : Opn enc P W base spare held e sz R) (hlt : ∀ u a n, R u a → u.Lt n) : Opn enc P W base spare held t 1 (SlR sz R) :=
  opn_one fun fuel cs x hx => by
    rcases open_slice ht hx with ⟨h1, _⟩ | ⟨a, len, cap, m, n, D, Pl, h1, hb, hl, hm, hmm, _, hel⟩
    · exact ⟨.nils, [], .slice none 0 0, ⟨[], rfl, .nil, Nat.zero_le _, fun n => .nils, rfl⟩, rfl, h1, .nils⟩
    · have hlm : len ≤ m := by rw [hmm]; split <;> omega
      obtain ⟨es, l, e1, e2, e3⟩ := lists_of (α := AV) (β := α) (Q := fun i u b => R u b ∧ u.cells.length = sz ∧ (∀ x, x ∈ u.cells → x.one = true) ∧ ∀ (j : Nat) (u' : AV), u.cells[j]? = some u' → ∃ v, W.cell? (a.add (i * sz + j)) = some v ∧ VR (startCfg W) u' v) len (fun i hi => by
        obtain ⟨cs', c1, c2⟩ := hel i (by omega)
        obtain ⟨u, b, k1, k2, k3, k4, k5⟩ := he n cs' _ c2
        refine ⟨u, b, k1, k2, k4, fun j u' hj => ?_⟩
        have hjl : j < cs'.length := by rw [k3, ← k2]; exact (List.getElem?_eq_some_iff.1 hj).1
        refine ⟨cs'[j], ?_, k5 j u' _ hj (List.getElem?_eq_getElem hjl)⟩
        rw [hsz] at c1
        obtain ⟨_, hlen, hat⟩ := World.cells?_some c1
        have := hat j (by omega)
        rw [add_add] at this
        rw [this]
        simp [hjl])
      have hall : All2 R es l := all2_of es l (by omega) fun i u b h1 h2 => (e3 i u b h1 h2).1
      have lget : ∀ (i : Nat) u, es[i]? = some u → ∃ b, l[i]? = some b := fun i u hu => by
        obtain ⟨b, hb, _⟩ := all2_get hall i u hu
        exact ⟨b, hb⟩
      refine ⟨.ro sz false es, l, .slice (some a) len cap, .mk_ro hall (by omega) hlt, rfl, h1, ?_⟩
      subst e1
      refine .ro sz false es a cap (fun i j => (W.cell? (a.add (i * sz + j))).getD Go.undef) hl hm (fun hq => by cases hq) (fun hne => ?_) (fun i u hu => ?_) (fun i u j u' hu hj => ?_) (fun i u j u' hu hj => ?_) (fun i u j u' hu hj => ?_)
      · have hl0 : 0 < es.length := by cases es with | nil => exact absurd rfl hne | cons => simp
        have hu := List.getElem?_eq_getElem hl0
        obtain ⟨b, hb⟩ := lget 0 _ hu
        have k := e3 0 _ b hu hb
        have hj : 0 < (es[0]'hl0).cells.length := by rw [k.2.1]; exact hpos
        obtain ⟨v, q1, _⟩ := k.2.2.2 0 _ (List.getElem?_eq_getElem hj)
        have := World.block_lt_of_cell? W _ q1
        rw [add_block] at this
        exact this
      · obtain ⟨b, hb⟩ := lget i u hu; exact (e3 i u b hu hb).2.1
      · obtain ⟨b, hb⟩ := lget i u hu; exact (e3 i u b hu hb).2.2.1 u' (List.mem_of_getElem? hj)
      · obtain ⟨b, hb⟩ := lget i u hu
        obtain ⟨v, q1, q2⟩ := (e3 i u b hu hb).2.2.2 j u' hj
        show W.cell? _ = _
        rw [q1]; rfl
      · obtain ⟨b, hb⟩ := lget i u hu
        obtain ⟨v, q1, q2⟩ := (e3 i u b hu hb).2.2.2 j u' hj
        simp only [q1, Option.getD_some]; exact q2
theorem SlR.one {sz : Nat} {R : AV → α → Prop} {u : AV} {l : List α} (h : SlR sz R u l) : u.one = true := by
  obtain ⟨_, _, _, _, _, h⟩ := h; exact h
structure Fld where
  t : TypeId
  sz : Nat
  q : AV → Prop
def layout : List Fld → Nat → List (Nat × TypeId)
  | [], _ => []
  | f :: r, o => (o, f.t) :: layout r (o + f.sz)
def total : List Fld → Nat
  | [] => 0
  | f :: r => f.sz + total r
def OpnQ (enc : TypeId × Value → H) (P : Program) (W : World) (base : Nat) (spare : Nat → Bool) (held : Bool) (f : Fld) : Prop := P.cellsOf f.t = f.sz ∧ Opn enc P W base spare held f.t f.sz (fun u (_ : Unit) => f.q u)
theorem fields_open {cs : List Value} {n : Nat} : ∀ (qs : List Fld) (fs : List Field) (o : Nat), (fs.map fun f => (f.offset, f.type)) = layout qs o → (∀ f, f ∈ qs → OpnQ enc P W base spare held f) →
    (∀ f, f ∈ fs → ∃ y, DataW.trod enc P W base spare held n f.type ((cs.drop f.offset).take (P.cellsOf f.type)) = some y) → cs.length = o + total qs →
    ∃ us : List AV, All2 (fun f u => f.q u ∧ u.cells.length = f.sz) qs us ∧ (us.flatMap AV.cells).length = total qs ∧ (∀ x, x ∈ us.flatMap AV.cells → x.one = true) ∧
      ∀ (j : Nat) (u' : AV) (v : Value), (us.flatMap AV.cells)[j]? = some u' → (cs.drop o)[j]? = some v → VR (startCfg W) u' v
  | [], fs, o, hl, _, _, _ => ⟨[], .nil, rfl, fun x hx => by simp at hx, fun j u' v h => by simp at h⟩
  | f :: qs, fs, o, hl, hq, ht, hc => by
    cases fs with
    | nil => simp [layout] at hl
    | cons g fs =>
      simp only [List.map_cons, layout, List.cons.injEq, Prod.mk.injEq] at hl
      obtain ⟨⟨g1, g2⟩, hl⟩ := hl
      obtain ⟨us, a1, a2, a3, a4⟩ := fields_open qs fs (o + f.sz) hl (fun f hf => hq f (by simp [hf])) (fun f hf => ht f (by simp [hf])) (by simp only [total] at hc; omega)
      obtain ⟨hsz, ho⟩ := hq f (by simp)
      obtain ⟨y, hy⟩ := ht g (by simp)
      rw [g1, g2, hsz] at hy
      obtain ⟨u, _, k1, k2, k3, k4, k5⟩ := ho n _ y hy
      refine ⟨u :: us, .cons ⟨k1, k2⟩ a1, by simp only [List.flatMap_cons, List.length_append, a2, k2, total], fun x hx => ?_, fun j u' v hj hv => ?_⟩
      · simp only [List.flatMap_cons, List.mem_append] at hx
        rcases hx with hx | hx
        · exact k4 x hx
        · exact a3 x hx
      · rw [List.flatMap_cons] at hj
        by_cases hlt : j < f.sz
        · rw [List.getElem?_append_left (by omega)] at hj
          refine k5 j u' v hj ?_
          rw [List.getElem?_take, if_pos hlt]; exact hv
        · rw [List.getElem?_append_right (by omega), k2] at hj
          refine a4 (j - f.sz) u' v hj ?_
          rw [List.getElem?_drop] at hv ⊢
          rw [← hv]; congr 1; omega
theorem opn_struct {t : TypeId} {F : Array Field} {R : AV → α → Prop} (qs : List Fld) (ht : P.underlying t = some (.struct F)) (hl : (F.toList.map fun f => (f.offset, f.type)) = layout qs 0) (hc : P.cellsOf t = total qs) (hq : ∀ f, f ∈ qs → OpnQ enc P W base spare held f)
    (hR : ∀ us : List AV, All2 (fun f u => f.q u ∧ u.cells.length = f.sz) qs us → ∃ a, R (.agg (us.flatMap AV.cells)) a) : Opn enc P W base spare held t (total qs) R := fun fuel cs x hx => by
  obtain ⟨xs, n, _, _, h3, h4, h5⟩ := DataW.trod_struct ht hx
  obtain ⟨us, a1, a2, a3, a4⟩ := fields_open (enc := enc) (base := base) (spare := spare) (held := held) (cs := cs) (n := n) qs F.toList 0 hl hq (fun f hf => by
    obtain ⟨i, hi⟩ := List.mem_iff_getElem?.1 hf
    have hi' : F[i]? = some f := by simpa using hi
    have hlt : i < xs.length := by rw [h4]; exact (Array.getElem?_eq_some_iff.1 hi').1
    exact ⟨xs[i], by rw [h5 i f hi', List.getElem?_eq_getElem hlt]⟩) (by rw [h3, hc]; omega)
  obtain ⟨a, ha⟩ := hR us a1
  exact ⟨_, a, ha, a2, by rw [h3, hc], a3, fun j u' v hj hv => a4 j u' v hj (by simpa using hv)⟩
def intF (t : TypeId) (k : IntKind) : Fld := ⟨t, 1, fun e => ∃ a, e = .int k a ∧ (Lit.int k a).wf = true⟩
theorem opnQ_int {t : TypeId} {k : IntKind} (ht : P.underlying t = some (.int k)) (hc : P.cellsOf t = 1) : OpnQ enc P W base spare held (intF t k) :=
  ⟨hc, opn_mono (opn_int ht) fun _ a h => ⟨(), a, h⟩⟩
theorem param_one {t : TypeId} {R : AV → α → Prop} (ho : Opn enc P W base spare held t 1 R) (hone : ∀ u a, R u a → u.one = true) {v : Value} {d : DataW H} {ps : List MemPlace} (hc : v.cells.toList = [v]) (hd : DataW.Trod enc P W base spare held t v d ps) :
    ∃ u a, R u a ∧ VR (startCfg W) u v := by
  obtain ⟨fuel, hf⟩ := hd
  obtain ⟨u, a, h1, h2, h3, h4, h5⟩ := ho fuel _ _ hf
  have hu := hone u a h1
  have hcu : u.cells = [u] := by cases u <;> first | rfl | (cases hu)
  exact ⟨u, a, h1, h5 0 u v (by rw [hcu]; rfl) (by rw [hc]; rfl)⟩
end
end Go.Proofs.Ytcngfjmfgeckmaa
namespace Go.Proofs.Ytcngfjmfgeckmaa
open Go Go.ChangeShapes Go.WideShapes Go.ChangeAt Go.RowKit Go.Deep
theorem ownKnob_2 : ownKnob Try.prog.godebug = none := by kernel_rfl
theorem laidOut_2 : laidOutB Try.prog = true := by kernel_rfl
theorem i64_of_wf {a : Int} (h : (Lit.int .i64 a).wf = true) : I64 a := by
  have h1 : IntKind.i64.min = -9223372036854775808 := by rfl
  have h2 : IntKind.i64.max = 9223372036854775807 := by rfl
  simp only [Lit.wf, h1, h2, Bool.and_eq_true, decide_eq_true_eq] at h
  unfold I64
  omega
section
variable {H : Type} {enc : TypeId × Value → H} {W : World} {base : Nat} {spare : Nat → Bool} {held : Bool}
def boolF (t : TypeId) : Fld := ⟨t, 1, fun e => ∃ a, e = .bool a⟩
theorem opnQ_bool {P : Program} {t : TypeId} (ht : P.underlying t = some .bool) (hc : P.cellsOf t = 1) : OpnQ enc P W base spare held (boolF t) := ⟨hc, opn_mono (opn_bool ht) fun _ a h => ⟨(), a, h⟩⟩
theorem opn_78 : Opn enc Try.prog W base spare held 78 8 RecR := by
  refine opn_struct [intF 2 .i64, intF 2 .i64, intF 2 .i64, boolF 4, intF 2 .i64, boolF 4, intF 2 .i64, intF 2 .i64] Try.underlying78 rfl (by kernel_rfl) (fun f hf => ?_) (fun us hus => ?_)
  · simp only [List.mem_cons, List.not_mem_nil, or_false] at hf
    rcases hf with rfl | rfl | rfl | rfl | rfl | rfl | rfl | rfl
    · exact opnQ_int Try.underlying2 (by kernel_rfl)
    · exact opnQ_int Try.underlying2 (by kernel_rfl)
    · exact opnQ_int Try.underlying2 (by kernel_rfl)
    · exact opnQ_bool Try.underlying4 (by kernel_rfl)
    · exact opnQ_int Try.underlying2 (by kernel_rfl)
    · exact opnQ_bool Try.underlying4 (by kernel_rfl)
    · exact opnQ_int Try.underlying2 (by kernel_rfl)
    · exact opnQ_int Try.underlying2 (by kernel_rfl)
  · cases hus with
    | cons h1 t1 => cases t1 with
      | cons h2 t2 => cases t2 with
        | cons h3 t3 => cases t3 with
          | cons h4 t4 => cases t4 with
            | cons h5 t5 => cases t5 with
              | cons h6 t6 => cases t6 with
                | cons h7 t7 => cases t7 with
                  | cons h8 t8 =>
                    cases t8
                    obtain ⟨⟨a1, rfl, w1⟩, _⟩ := h1
                    obtain ⟨⟨a2, rfl, w2⟩, _⟩ := h2
                    obtain ⟨⟨a3, rfl, w3⟩, _⟩ := h3
                    obtain ⟨⟨a4, rfl⟩, _⟩ := h4
                    obtain ⟨⟨a5, rfl, w5⟩, _⟩ := h5
                    obtain ⟨⟨a6, rfl⟩, _⟩ := h6
                    obtain ⟨⟨a7, rfl, w7⟩, _⟩ := h7
                    obtain ⟨⟨a8, rfl, w8⟩, _⟩ := h8
                    exact ⟨⟨a1, a2, a3, a4, a5, a6, a7, a8⟩, rfl, i64_of_wf w1, i64_of_wf w2, i64_of_wf w3, i64_of_wf w5, i64_of_wf w7, i64_of_wf w8⟩
theorem opn_33 : Opn enc Try.prog W base spare held 33 1 RecSR := opn_slice Try.underlying33 (by kernel_rfl) (by omega) opn_78 tyRec_78.lt
end
end Go.Proofs.Ytcngfjmfgeckmaa
