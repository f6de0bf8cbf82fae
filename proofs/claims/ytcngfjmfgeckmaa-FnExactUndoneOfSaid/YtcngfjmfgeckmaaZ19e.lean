import Derived.Lib.Overlaps
import Derived.Test.YtcngfjmfgeckmaaZ19d
set_option linter.unusedSimpArgs false
set_option linter.unusedVariables false
set_option linter.unusedSectionVars false
namespace Go.Proofs.Ytcngfjmfgeckmaa
open Go
section
variable {P : Program} {T : TE} {N : Nat} {E : Env} {h : Heap} {n : Nat}
def OpX (P : Program) (o : Oper) (X : Env → Heap → Nat → (AV → Heap → Nat → Prop) → Prop) : Prop :=
  ∀ (E : Env) (c : Cfg) (h : Heap) (n : Nat) (K : AV → Heap → Nat → Prop) (a : Act), HR c h → Fresh c n → (∀ t, VR c (E.get t) (a.tmps.getD t undef)) → X E h n K → OpOk P c h n (execOp a.eval o) K
theorem opsA_sound_k (hT : TEOk P T) {ops : Array Oper} {b : Base} {Q : Exit → Act → World → Prop} {rest : List Oper} :
    ∀ (l : List Oper) {E : Env} {h : Heap} {n : Nat} {a : Act} {w : World} {K : Env → Heap → Nat → Prop}, (∀ E' h' n' a' w', SR b N E' h' n' a' w' → K E' h' n' → wpList P ops Q rest a' w') → l.all (dstIn N) = true → SR b N E h n a w → opsA P T ops.toList l E h n K → wpList P ops Q (l ++ rest) a w
  | [], _, _, _, _, _, _, hK, _, hs, hc => hK _ _ _ _ _ hs hc
  | o :: l, E, h, n, a, w, K, hK, hd, hs, hc => by
    simp only [List.all_cons, Bool.and_eq_true] at hd
    refine wpList_step fun K' hK' => ?_
    exact stepA_sound hT hd.1 hs hc (fun E' h' n' a' w' hs' hc' => hK' _ _ (opsA_sound_k hT l hK hd.2 hs' hc'))
theorem WP.hatch (hT : TEOk P T) {id : Nat} {l : List Oper} {Q : Exit → Env → Heap → Nat → Prop} (pre post : List Oper) (o : Oper) (hl : l = pre ++ o :: post) (hd : l.all (dstIn N) = true) (hg : o.guard = none)
    {X : Env → Heap → Nat → (AV → Heap → Nat → Prop) → Prop} (hX : OpX P o X)
    (hc : opsA P T l pre E h n (fun E1 h1 n1 => X E1 h1 n1 (fun r h2 n2 => opsA P T l post (E1.put o.dst r) h2 n2 (Q .normal)))) : WP P N (.region id l.toArray false) Q E h n := fun b a w hs => by
  refine wp_region_lit ?_
  have hd2 := hd
  rw [hl] at hd2
  simp only [List.all_append, List.all_cons, Bool.and_eq_true] at hd2
  have key : wpList P l.toArray (fun e a' w' => ∃ E' h' n', SR b N E' h' n' a' w' ∧ Q e E' h' n') (pre ++ o :: post) a w := by
    refine opsA_sound_k (ops := l.toArray) hT pre (fun E1 h1 n1 a1 w1 hs1 hx => ?_) hd2.1 hs hc
    obtain ⟨c, rfl, e0, hh, hf, hn, hb, hdf, hN, ht⟩ := hs1
    obtain ⟨nx, c', r, h', n', v, q1, q2, q3, q4, q5, q6, q7, q8⟩ := hX E1 c h1 n1 _ a1 hh hf ht hx
    have hdN : ∀ t, o.dst = some t → t < N := fun t ht => by have := hd2.2.1; unfold dstIn at this; rw [ht] at this; simpa using this
    have hfin := opsA_sound (ops := l.toArray) (Q := fun e a' w' => ∃ E' h' n', SR b N E' h' n' a' w' ∧ Q e E' h' n') hT (fun E' h' n' _ _ q1 q2 => ⟨E', h', n', q1, q2⟩) post hd2.2.2 (SR.put (d := o.dst) e0 hh hb hn hdf hN ht hdN q3 q4 q5 q6 q7 rfl) q8
    refine wpList_step fun K' hK' => ?_
    have hw : Region.wanted o (yielded l.toArray a1.tmps) = true := by unfold Region.wanted; rw [hg]
    rw [if_pos hw]
    unfold Oper.wp
    rw [q1]
    rcases q2 with rfl | ⟨rfl, rfl⟩
    · exact hK' _ _ hfin
    · exact hK' _ _ hfin
  rw [hl] at key ⊢
  exact key
def hatchY (P : Program) (T : TE) (l : List Oper) (k : Nat) (Q : Env → Heap → Nat → Prop) (E : Env) (h : Heap) (n : Nat) : Prop := opsA P T l (l.drop (k + 1)) E h n Q
def hatchX (P : Program) (T : TE) (l : List Oper) (k : Nat) (d : Option Tmp) (X : Env → Heap → Nat → (AV → Heap → Nat → Prop) → Prop) (Q : Env → Heap → Nat → Prop) (E : Env) (h : Heap) (n : Nat) : Prop := X E h n (fun r h2 n2 => hatchY P T l k Q (E.put d r) h2 n2)
theorem WP.hatchK (hT : TEOk P T) {id : Nat} {l : List Oper} {Q : Exit → Env → Heap → Nat → Prop} (k : Nat) {o : Oper} (ho : l[k]? = some o) (hd : l.all (dstIn N) = true) (hg : o.guard = none)
    {X : Env → Heap → Nat → (AV → Heap → Nat → Prop) → Prop} (hX : OpX P o X)
    (hc : opsA P T l (l.take k) E h n (hatchX P T l k o.dst X (Q .normal))) : WP P N (.region id l.toArray false) Q E h n :=
  WP.hatch hT (l.take k) (l.drop (k + 1)) o (by
    obtain ⟨hk, rfl⟩ := List.getElem?_eq_some_iff.1 ho
    rw [← List.drop_eq_getElem_cons hk, List.take_append_drop]) hd hg hX hc
def capOf : AV → Option Nat
  | .nils => some 0
  | .ro _ true l => some l.length
  | .sl _ _ _ _ lo true => some lo
  | _ => none
theorem capOf_ok {c : Cfg} {x : AV} {b : Option Addr} {len cap k : Nat} (hx : VR c x (.slice b len cap)) (hk : capOf x = some k) : cap = k := by
  cases hx with
  | nils => simpa [capOf] using hk
  | ro sz ex l a cap f hcap hmax hex => cases ex with | true => rw [hex rfl]; simpa [capOf] using hk | false => simp [capOf] at hk
  | sl sz id off len lo ex b base cap hι hlen hlo hex => cases ex with | true => rw [hex rfl]; simpa [capOf] using hk | false => simp [capOf] at hk
  | undef => simp [capOf] at hk
def growZ (T : TE) (t t' : TypeId) (x : AV) (m : Nat) (h : Heap) (n : Nat) (K : AV → Heap → Nat → Prop) : Prop :=
  ∃ e xs k, (T t).ty = .slice e ∧ (∃ k', (T t').ty = .int k') ∧ 0 < (T e).sz ∧ rdSl h (T e).sz x = some xs ∧ capOf x = some k ∧ k < xs.length + m ∧ (xs.length + m) * (T e).bytes ≤ 140737488355328 ∧ xs.length + m ≤ 140737488355328 ∧
    ∀ cap, xs.length + m ≤ cap → cap ≤ maxLen → K (.sl (T e).sz n 0 (xs.length + m) cap true) (h.upd n (xs ++ List.replicate m (T e).zero ++ List.replicate (cap - (xs.length + m)) (T e).zero)) (n + 1)
section
variable {c : Cfg} {K : AV → Heap → Nat → Prop}
theorem zc_made {z : Value} {m sz : Nat} (hz : z.cells.size = sz) : Builtin.zeroCells z.cells m = madeCells z.cells (m * sz) := by simp [Builtin.zeroCells, madeCells, hz]
theorem three_rel {xs ys zs : List AV} {olds news : List Value} {rest : Array Value} {sz : Nat} (lo : olds.length = xs.length * sz) (ln : news.length = ys.length * sz)
    (ro : ∀ (i : Nat) (e : AV) (j : Nat) (u : AV), xs[i]? = some e → e.cells[j]? = some u → ∃ x, olds[i * sz + j]? = some x ∧ VR c u x) (rn : ∀ (i : Nat) (e : AV) (j : Nat) (u : AV), ys[i]? = some e → e.cells[j]? = some u → ∃ x, news[i * sz + j]? = some x ∧ VR c u x)
    (rz : ∀ (i : Nat) (e : AV) (j : Nat) (u : AV), zs[i]? = some e → e.cells[j]? = some u → ∃ x, rest[i * sz + j]? = some x ∧ VR c u x) :
    ∀ (i : Nat) (e : AV) (j : Nat) (u : AV), (xs ++ ys ++ zs)[i]? = some e → e.cells[j]? = some u → ∃ x, (olds.toArray ++ news.toArray ++ rest)[i * sz + j]? = some x ∧ VR c u x := by
  have h1 := grown_rel (c := c) (sz := sz) #[] lo ro rn
  have h2 := grown_rel (c := c) (xs := xs ++ ys) (ys := zs) (olds := olds ++ news) (news := rest.toList) (sz := sz) #[] (by simp [lo, ln, Nat.add_mul]) (fun i e j u a b => by
    obtain ⟨x, q1, q2⟩ := h1 i e j u a b
    exact ⟨x, by simpa using q1, q2⟩) (fun i e j u a b => by
    obtain ⟨x, q1, q2⟩ := rz i e j u a b
    exact ⟨x, by simpa using q1, q2⟩)
  intro i e j u a b
  obtain ⟨x, q1, q2⟩ := h2 i e j u a b
  exact ⟨x, by simpa using q1, q2⟩
theorem growZ_ok (hT : TEOk P T) (hh : HR c h) (hf : ∀ id, n ≤ id → c.ι id = none) {t t' ty : TypeId} {x : AV} {vx : Value} {m : Nat} {k0 : IntKind} (hx : VR c x vx) (ha : growZ T t t' x m h n K)
    {s : Sem Next} (hs : ∀ v w', (Builtin.append_ #[t, t'] ty #[vx, .int k0 m]).run P c.w = .ok v w' → s.run P c.w = .ok (.value v) w') : OpOk P c h n s K := by
  obtain ⟨e, xs, k, ht, ⟨k', ht'⟩, hpos, hrx, hk, hlt, hby, h63, hK⟩ := ha
  obtain ⟨olds, base, cap0, rfl, _, _, lo, _, ho, ro, sx, ox⟩ := rd_cells (P := P) hh hx hpos hrx
  obtain rfl := capOf_ok hx hk
  obtain ⟨i, z, hi, i1, i2, i3, i4, i5, i6⟩ := hT.info e hpos
  have hzs : z.cells.size = (T e).sz := by rw [(VR.cells (i4 c) i6).1, i5]
  have hml : xs.length + m ≤ maxLen := by unfold maxLen; omega
  have hfit := growslice_fits hlt hby
  have hnn : ¬ (xs.length + m ≤ cap0) := by omega
  have hwr : IntKind.i64.wrap (m : Int) = m := by simp [IntKind.wrap, IntKind.bits, IntKind.signed]; omega
  have hneg : ¬ ((m : Int) < 0) := by omega
  have hmx : max (m : Int) 0 = m := by omega
  have hbm : ¬ (281474976710656 < (m : Int) * ((T e).bytes : Int)) := by
    have := Nat.mul_le_mul_right (T e).bytes (show m ≤ xs.length + m by omega)
    have h2 : ((m * (T e).bytes : Nat) : Int) = (m : Int) * ((T e).bytes : Int) := by simp
    rw [← h2]; omega
  have h63' : ¬ (9223372036854775807 < ((xs.length : Int) + (m : Int))) := by omega
  have h48' : ¬ (281474976710656 < Builtin.nextslicecap (xs.length + m) cap0 * (T e).bytes) := by omega
  have h1 := ho c.w.drew (fun a => by simp)
  have hm0 : m * (T e).sz = 0 → Builtin.zeroCells z.cells m = #[] := fun hq => by rw [zc_made hzs, hq]; simp [madeCells]
  have hrun : (Builtin.append_ #[t, t'] ty #[.slice base xs.length cap0, .int k0 m]).run P c.w = .ok (.slice (some ⟨c.w.heap.size, 0, none⟩) (xs.length + m) (grownCap c.w (xs.length + m) cap0 e))
      (c.w.drew.alloc (.cells (olds.toArray ++ (Builtin.zeroCells z.cells m).toList.toArray ++ Builtin.zeroCells z.cells (grownCap c.w (xs.length + m) cap0 e - (xs.length + m))) e)) := by
    by_cases hq : m * (T e).sz = 0
    · simp [Builtin.append_, run_underlying (hT.tslice t e ht), run_underlying (hT.tint t' k' ht'), asInt, asIntOf, hmx, sizeOf, typeInfo, zeroValue, hi, i1, i2, i3, Builtin.lenOf, hnn, hwr, hneg, hbm, h63', h48', Question.forced, h1, hq, hm0 hq, newRow, grownCap]
    · simp [Builtin.append_, run_underlying (hT.tslice t e ht), run_underlying (hT.tint t' k' ht'), asInt, asIntOf, hmx, sizeOf, typeInfo, zeroValue, hi, i1, i2, i3, Builtin.lenOf, hnn, hwr, hneg, hbm, h63', h48', Question.forced, h1, hq, newRow, grownCap]
  have hge := grownCap_ge c.w (xs.length + m) cap0 e
  have hle := grownCap_le_maxLen c.w (xs.length + m) cap0 e hml
  generalize grownCap c.w (xs.length + m) cap0 e = cap at hrun hge hle
  obtain ⟨r1, r2, r3⟩ := zero_cells_rel (c := c) (m := cap - (xs.length + m)) (i4 c) i6 i5 hpos
  obtain ⟨s1, s2, s3⟩ := zero_cells_rel (c := c) (m := m) (i4 c) i6 i5 hpos
  rw [← zc_made hzs] at r3 s3
  have ln : (Builtin.zeroCells z.cells m).toList.length = (List.replicate m (T e).zero).length * (T e).sz := by simp [size_zeroCells, hzs]
  refine row_ok hh hf (w' := c.w.drew.alloc _) (arr := olds.toArray ++ (Builtin.zeroCells z.cells m).toList.toArray ++ Builtin.zeroCells z.cells (cap - (xs.length + m))) (E := e) rfl rfl rfl rfl (two_size (two_size sx s1) r1) (two_one (two_one ox s2) r2)
    (three_rel lo ln ro (fun i e j u a b => by
      obtain ⟨x, q1, q2⟩ := s3 i e j u a b
      exact ⟨x, by simpa using q1, q2⟩) r3)
    hge (Nat.le_refl _) (fun _ => rfl) hle ?_ (hs _ _ hrun) (hK cap hge hle)
  simp only [Array.size_append, List.size_toArray, lo, ln, size_zeroCells, hzs, List.length_replicate]
  rw [← Nat.add_mul, ← Nat.add_mul]
  exact Nat.mul_le_mul_right _ (by omega)
end
theorem opx_growZ (hT : TEOk P T) {o : Oper} {t t' : TypeId} {x y : Operand} (ho : o.op = .call { callee := .builtin .append, args := #[x, y], argTypes := #[t, t'] }) :
    OpX P o (fun E h n K => ∃ k m, ev E y = .int k (m : Nat) ∧ growZ T t t' (ev E x) m h n K) := fun E c h n K a hh hf ht hx => by
  obtain ⟨k, m, hy, hx⟩ := hx
  have hv := SR.eval ht y
  rw [hy] at hv
  obtain ⟨v, hv'⟩ : ∃ v, v = a.eval y := ⟨_, rfl⟩
  rw [← hv'] at hv
  cases hv
  refine growZ_ok (k0 := k) (ty := o.type) hT hh hf (SR.eval ht x) hx (fun v w' hr => ?_)
  simp [execOp, ho, resolve, invoke, builtin, ← hv', hr]
theorem opx_overlaps (hT : TEOk P T) {o : Oper} {g : FuncId} {fn : Func} {cl : Call} {x y : Operand} {tS tR e : TypeId} (ho : o.op = .call cl) (hcl : cl.callee = .value (.func g)) (hca : cl.args = #[x, y]) (hf : P.funcs[g]? = some fn) (hname : (fn.name == "runtime.NumGoroutine") = false) (hb : fn.body.isNone = true) (hn : Extern.findNext fn = none)
    (he : Extern.find fn = some (Extern.SlicesOverlaps.overlaps #[tS, tS] #[tR])) (ht : (T tS).ty = .slice e) (hpos : 0 < (T e).sz) :
    OpX P o (fun E h n K => ∃ sz id off len lo ex sz' id' off' len' lo' ex' b b', ev E x = .sl sz id off len lo ex ∧ ev E y = .sl sz' id' off' len' lo' ex' ∧ h id = some b ∧ h id' = some b' ∧ id ≠ id' ∧ 0 < len ∧ 0 < len' ∧ 0 < sz' ∧ K (.bool false) h n) := fun E c h n K a hh hfr htm hx => by
  obtain ⟨sz, id, off, len, lo, ex, sz', id', off', len', lo', ex', b, b', hx, hy, hb1, hb2, hne, hl1, hl2, hs2, hK⟩ := hx
  have hv := SR.eval htm x
  have hu := SR.eval htm y
  rw [hx] at hv
  rw [hy] at hu
  obtain ⟨v, hv'⟩ : ∃ v, v = a.eval x := ⟨_, rfl⟩
  obtain ⟨u, hu'⟩ : ∃ u, u = a.eval y := ⟨_, rfl⟩
  rw [← hv'] at hv
  rw [← hu'] at hu
  refine OpOk.pure hh hfr (v := .bool false) ?_ (.bool _) hK
  cases hv with
  | sl _ _ _ _ _ _ bb base cap hι hlen hlo hex hmax hroom ad had =>
    cases hu with
    | sl _ _ _ _ _ _ bb' base' cap' hι' hlen' hlo' hex' hmax' hroom' ad' had' =>
      obtain ⟨b1, ba1, s1, ar1, E1, hB1⟩ := hh.blk id b hb1
      obtain ⟨b2, ba2, s2, ar2, E2, hB2⟩ := hh.blk id' b' hb2
      have i1 := hB1.ι
      rw [hι] at i1
      obtain ⟨rfl, rfl, rfl⟩ : bb = b1 ∧ base = ba1 ∧ sz = s1 := by simpa using i1
      have i2 := hB2.ι
      rw [hι'] at i2
      obtain ⟨rfl, rfl, rfl⟩ : bb' = b2 ∧ base' = ba2 ∧ sz' = s2 := by simpa using i2
      have hbne : bb ≠ bb' := fun hq => hne (hh.inj id id' b b' _ _ hb1 hb2 hι hι' hq)
      rw [had (by omega), had' (by omega)] at *
      have hk2 : ar2.size ≠ 0 := by
        obtain ⟨arr, EE, fr, q1, q2⟩ := hroom'
        rw [hB2.heap] at q1
        obtain ⟨rfl, rfl, rfl⟩ := Obj.cells.inj (Option.some.inj q1)
        have : 1 * sz' ≤ (off' + cap') * sz' := Nat.mul_le_mul_right _ (by omega)
        omega
      have hov := Lib.run_overlaps_apart (P := P) c.w tS tR e (hT.tslice tS e ht) (T e).sz (fun w => sizeOf_run hT hpos w) ⟨bb, base + off * sz, none⟩ ⟨bb', base' + off' * sz', none⟩ len cap len' cap' hbne E1 E2 ar1.size ar2.size
        (by simp [World.shape?, hB1.heap]) (by simp [World.shape?, hB2.heap]) hk2 (by simp [World.frozen?, hB1.heap]) (by simp [World.frozen?, hB1.heap])
      have hcf := run_callFunc_extern hf hname hb hn he #[.slice (some ⟨bb, base + off * sz, none⟩) len cap, .slice (some ⟨bb', base' + off' * sz', none⟩) len' cap'] c.w
      rw [hov] at hcf
      simp only [Result.andThen_ok] at hcf
      have hex0 : ∀ ρ : Operand → Value, ρ (.func g) = .func (.func g) #[] #[] → (execOp ρ o).run P c.w = (callFunc g #[ρ x, ρ y]).run P c.w := fun ρ hρ => by
        simp [execOp, ho, resolve, hcl, hρ, Deferred.ofValue, invoke, hca]
      rw [hex0 a.eval rfl, ← hv', ← hu', hcf]
theorem CA.trim {f : FuncId} {args : List AV} {K : AV → Heap → Nat → Prop} (hc : CA P f args h n fun r h' n' => ∃ sz id len lo ex b, r = .sl sz id 0 len lo ex ∧ h' id = some b ∧ len ≤ b.length ∧ K (.sl sz id 0 len len false) (h'.upd id (b.take len)) n') : CA P f args h n K := by
  refine ⟨hc.1, fun c vals hh hf hs hv => Calls.mono (hc.2 c vals hh hf hs hv) fun e w' he => ?_⟩
  obtain ⟨v, r, h', n', rfl, ⟨c', rfl, e0, hh', hf', hr, hn'⟩, sz, id, len, lo, ex, b, rfl, hb, hle, hK⟩ := he
  have get : ∀ id2 b2, (h'.upd id (b.take len)) id2 = some b2 → ∃ b3, h' id2 = some b3 ∧ ∃ k, b2 = b3.take k := fun id2 b2 hq => by
    by_cases hid : id2 = id
    · subst hid
      rw [Heap.upd_same] at hq
      exact ⟨b, hb, len, (Option.some.inj hq).symm⟩
    · rw [Heap.upd_ne _ _ hid] at hq
      exact ⟨b2, hq, b2.length, by simp⟩
  refine ⟨v, _, _, n', rfl, ⟨c', rfl, ⟨e0.os, e0.tape, e0.output, e0.size, e0.ι, e0.dom, e0.fz, e0.shape, e0.frame, fun i blk x h1 h2 => ?_, e0.fzb⟩, ⟨fun i blk hi => ?_, fun i j bi bj x y h1 h2 h3 h4 h5 => ?_, hh'.fzlt⟩, hf', ?_, hn'⟩, hK⟩
  · obtain ⟨b3, h3, _⟩ := get i blk h1
    exact e0.own i b3 x h3 h2
  · obtain ⟨b3, h3, k, rfl⟩ := get i blk hi
    obtain ⟨bb, base, sz0, arr, E, hB⟩ := hh'.blk i b3 h3
    have sub : ∀ (i : Nat) (e : AV), (b3.take k)[i]? = some e → b3[i]? = some e := fun i e hq => by
      rw [List.getElem?_take] at hq
      split at hq
      · exact hq
      · cases hq
    exact ⟨bb, base, sz0, arr, E, hB.ι, hB.heap, hB.nfz, fun i e q => hB.size i e (sub i e q), fun i e j u q => hB.one i e j u (sub i e q), fun i e j u q => hB.cell i e j u (sub i e q)⟩
  · obtain ⟨b3, g3, _⟩ := get i bi h1
    obtain ⟨b4, g4, _⟩ := get j bj h2
    exact hh'.inj i j b3 b4 x y g3 g4 h3 h4 h5
  · cases hr with
    | sl _ _ _ _ _ _ bb base cap hι hlen hlo hex hmax hroom a ha => exact .sl _ _ _ _ _ _ bb base cap hι (Nat.le_refl _) (by omega) (fun hq => by cases hq) hmax hroom a ha
end
end Go.Proofs.Ytcngfjmfgeckmaa
namespace Go.Proofs.Ytcngfjmfgeckmaa
open Go
theorem q_S {G G' : Prop} (g : G') (hc : G' → G := by intro h; simp only [↓planL, ↓opsA, List.contains_nil, List.contains_cons, Bool.or_false, Bool.false_or, ↓stepA, ↓e_len1, ↓e_append1, ↓e_min1, ↓e_max1, ↓callA, List.toList_toArray, Int.toNat_natCast, List.map_cons, List.map_nil, ev, Env.get_put_some, Env.put_none, Env.get_envOf, ↓e_move, ↓e_assign, ↓e_alloc, ↓e_box, ↓e_binOp, ↓e_unOp, ↓e_nilCheck, ↓e_pick, ↓e_load, ↓e_store, ↓e_fieldAddr, ↓e_field, ↓e_indexAddr, ↓e_index, ↓e_extract, ↓e_convert, ↓e_makeSlice, ↓e_build, ↓e_buildSlice, ↓e_makeFunc, b_add, b_sub, b_mul, b_eql, b_neq, b_lss, b_leq, b_gtr, b_geq, b_and, b_or, b_quo, b_rem, b_shl, b_shr, b_seql, b_sneq, b_beql, b_bneq, u_not, u_neg, rdSl_ro, rdSl_nils, rdSl_sl, setPart_agg, setPart_bool, setPart_int, setPart_str, setPart_nils, setPart_ro, setPart_sl, ofVal, ↓thenA, ↓blockA, Heap.upd_get, Heap.upd_upd, Heap.upd_sort, Nat.add_lt_add_iff_left, Nat.lt_add_right_iff_pos, Nat.pos_of_neZero, good_bool, good_int, good_str, good_nils, good_ro, good_sl, good_ep, good_nilp, good_nilf, good_fn, good_agg, AV.cells_bool, AV.cells_int, AV.cells_str, AV.cells_nils, AV.cells_ro, AV.cells_sl, AV.cells_ep, AV.cells_nilp, AV.cells_nilf, AV.cells_fn, AV.cells_agg, reduceIte, Nat.reduceEqDiff, Nat.reduceLT, Nat.reduceLeDiff, Nat.reduceAdd, Nat.add_assoc, true_and, and_true, List.getElem?_cons_zero, List.getElem?_cons_succ, Option.getD_some, List.length_cons, List.length_nil, List.set_cons_zero, List.set_cons_succ, Nat.zero_add, Nat.add_zero, List.drop_zero, List.take_succ_cons, List.take_zero, List.drop_succ_cons, List.drop_nil, List.cons_append, List.nil_append, List.append_nil, Nat.add_eq, Nat.left_eq_add, Nat.add_eq_left, List.getElem?_nil, Nat.zero_lt_succ, decide_true, decide_false, Option.bind_some, Option.map_some, Nat.one_ne_zero, Nat.lt_add_one, ↓reduceIte, Nat.le_refl, Nat.add_left_cancel_iff, T_1, T_2, T_3, T_4, T_5, T_6, T_9, T_10, T_11, T_12, T_21, T_22, T_23, T_24, T_25, T_26, T_27, T_28, T_29, T_30, T_31, T_32, T_33, T_34, T_35, T_36, T_37, T_38, T_39, T_40, T_42, T_43, T_44, T_45, T_46, T_47, T_48, T_49, T_50, T_51, T_52, T_53, T_54, T_55, T_56, T_57, T_58, T_59, T_60, T_61, T_62, T_64, T_65, T_66, T_67, T_68, T_69, T_70, T_71, T_72, T_73, T_74, T_76, T_77, T_78, T_79, T_80, T_81, T_82, T_83, T_84, T_85, T_86, T_87, T_88, T_89, T_90, T_91, T_92, T_93, T_95, T_96, T_97, T_98, T_99, T_100, T_101, T_102, T_103, T_104, T_105, T_106, T_107, T_108, T_109, T_111, T_112, T_113, T_114, T_115, T_116, T_118, T_119, T_120, T_121, T_123, T_125, T_126, T_127, T_128, T_129, T_130, T_131, T_132, T_133, T_134, T_135, T_136, T_137, T_138, T_140, T_141, T_142, T_143, T_144, T_145, T_146, T_147, T_148, T_149, T_150, T_151, T_152, T_153, T_155, T_156, T_157, T_158, T_159, T_160, T_161, T_162, T_163, T_164, T_165, T_166, T_167, T_168, T_170, T_173, T_174, T_180, T_181, T_182, T_183, T_185, T_186, cellOk, pt_1, pt_10, pt_100, pt_101, pt_102, pt_103, pt_104, pt_105, pt_106, pt_107, pt_108, pt_109, pt_11, pt_111, pt_112, pt_113, pt_114, pt_115, pt_116, pt_118, pt_119, pt_12, pt_120, pt_121, pt_123, pt_125, pt_126, pt_127, pt_128, pt_129, pt_130, pt_131, pt_132, pt_133, pt_134, pt_135, pt_136, pt_137, pt_138, pt_140, pt_141, pt_142, pt_143, pt_144, pt_145, pt_146, pt_147, pt_148, pt_149, pt_150, pt_151, pt_152, pt_153, pt_155, pt_156, pt_157, pt_158, pt_159, pt_160, pt_161, pt_162, pt_163, pt_164, pt_165, pt_166, pt_167, pt_168, pt_170, pt_173, pt_174, pt_180, pt_181, pt_182, pt_183, pt_185, pt_186, pt_2, pt_21, pt_22, pt_23, pt_24, pt_25, pt_26, pt_27, pt_28, pt_29, pt_3, pt_30, pt_31, pt_32, pt_33, pt_34, pt_35, pt_36, pt_37, pt_38, pt_39, pt_4, pt_40, pt_42, pt_43, pt_44, pt_45, pt_46, pt_47, pt_48, pt_49, pt_5, pt_50, pt_51, pt_52, pt_53, pt_54, pt_55, pt_56, pt_57, pt_58, pt_59, pt_6, pt_60, pt_61, pt_62, pt_64, pt_65, pt_66, pt_67, pt_68, pt_69, pt_70, pt_71, pt_72, pt_73, pt_74, pt_76, pt_77, pt_78, pt_79, pt_80, pt_81, pt_82, pt_83, pt_84, pt_85, pt_86, pt_87, pt_88, pt_89, pt_9, pt_90, pt_91, pt_92, pt_93, pt_95, pt_96, pt_97, pt_98, pt_99]; exact h) : G := hc g
theorem q_fS {Fs G G' : Prop} (F : Fs) (g : G') (hc : Fs → G' → G := by intro F h; simp only [↓planL, ↓opsA, List.contains_nil, List.contains_cons, Bool.or_false, Bool.false_or, ↓stepA, ↓e_len1, ↓e_append1, ↓e_min1, ↓e_max1, ↓callA, List.toList_toArray, Int.toNat_natCast, List.map_cons, List.map_nil, ev, Env.get_put_some, Env.put_none, Env.get_envOf, ↓e_move, ↓e_assign, ↓e_alloc, ↓e_box, ↓e_binOp, ↓e_unOp, ↓e_nilCheck, ↓e_pick, ↓e_load, ↓e_store, ↓e_fieldAddr, ↓e_field, ↓e_indexAddr, ↓e_index, ↓e_extract, ↓e_convert, ↓e_makeSlice, ↓e_build, ↓e_buildSlice, ↓e_makeFunc, b_add, b_sub, b_mul, b_eql, b_neq, b_lss, b_leq, b_gtr, b_geq, b_and, b_or, b_quo, b_rem, b_shl, b_shr, b_seql, b_sneq, b_beql, b_bneq, u_not, u_neg, rdSl_ro, rdSl_nils, rdSl_sl, setPart_agg, setPart_bool, setPart_int, setPart_str, setPart_nils, setPart_ro, setPart_sl, ofVal, ↓thenA, ↓blockA, Heap.upd_get, Heap.upd_upd, Heap.upd_sort, Nat.add_lt_add_iff_left, Nat.lt_add_right_iff_pos, Nat.pos_of_neZero, good_bool, good_int, good_str, good_nils, good_ro, good_sl, good_ep, good_nilp, good_nilf, good_fn, good_agg, AV.cells_bool, AV.cells_int, AV.cells_str, AV.cells_nils, AV.cells_ro, AV.cells_sl, AV.cells_ep, AV.cells_nilp, AV.cells_nilf, AV.cells_fn, AV.cells_agg, reduceIte, Nat.reduceEqDiff, Nat.reduceLT, Nat.reduceLeDiff, Nat.reduceAdd, Nat.add_assoc, true_and, and_true, List.getElem?_cons_zero, List.getElem?_cons_succ, Option.getD_some, List.length_cons, List.length_nil, List.set_cons_zero, List.set_cons_succ, Nat.zero_add, Nat.add_zero, List.drop_zero, List.take_succ_cons, List.take_zero, List.drop_succ_cons, List.drop_nil, List.cons_append, List.nil_append, List.append_nil, Nat.add_eq, Nat.left_eq_add, Nat.add_eq_left, List.getElem?_nil, Nat.zero_lt_succ, decide_true, decide_false, Option.bind_some, Option.map_some, Nat.one_ne_zero, Nat.lt_add_one, ↓reduceIte, Nat.le_refl, Nat.add_left_cancel_iff, T_1, T_2, T_3, T_4, T_5, T_6, T_9, T_10, T_11, T_12, T_21, T_22, T_23, T_24, T_25, T_26, T_27, T_28, T_29, T_30, T_31, T_32, T_33, T_34, T_35, T_36, T_37, T_38, T_39, T_40, T_42, T_43, T_44, T_45, T_46, T_47, T_48, T_49, T_50, T_51, T_52, T_53, T_54, T_55, T_56, T_57, T_58, T_59, T_60, T_61, T_62, T_64, T_65, T_66, T_67, T_68, T_69, T_70, T_71, T_72, T_73, T_74, T_76, T_77, T_78, T_79, T_80, T_81, T_82, T_83, T_84, T_85, T_86, T_87, T_88, T_89, T_90, T_91, T_92, T_93, T_95, T_96, T_97, T_98, T_99, T_100, T_101, T_102, T_103, T_104, T_105, T_106, T_107, T_108, T_109, T_111, T_112, T_113, T_114, T_115, T_116, T_118, T_119, T_120, T_121, T_123, T_125, T_126, T_127, T_128, T_129, T_130, T_131, T_132, T_133, T_134, T_135, T_136, T_137, T_138, T_140, T_141, T_142, T_143, T_144, T_145, T_146, T_147, T_148, T_149, T_150, T_151, T_152, T_153, T_155, T_156, T_157, T_158, T_159, T_160, T_161, T_162, T_163, T_164, T_165, T_166, T_167, T_168, T_170, T_173, T_174, T_180, T_181, T_182, T_183, T_185, T_186, cellOk, pt_1, pt_10, pt_100, pt_101, pt_102, pt_103, pt_104, pt_105, pt_106, pt_107, pt_108, pt_109, pt_11, pt_111, pt_112, pt_113, pt_114, pt_115, pt_116, pt_118, pt_119, pt_12, pt_120, pt_121, pt_123, pt_125, pt_126, pt_127, pt_128, pt_129, pt_130, pt_131, pt_132, pt_133, pt_134, pt_135, pt_136, pt_137, pt_138, pt_140, pt_141, pt_142, pt_143, pt_144, pt_145, pt_146, pt_147, pt_148, pt_149, pt_150, pt_151, pt_152, pt_153, pt_155, pt_156, pt_157, pt_158, pt_159, pt_160, pt_161, pt_162, pt_163, pt_164, pt_165, pt_166, pt_167, pt_168, pt_170, pt_173, pt_174, pt_180, pt_181, pt_182, pt_183, pt_185, pt_186, pt_2, pt_21, pt_22, pt_23, pt_24, pt_25, pt_26, pt_27, pt_28, pt_29, pt_3, pt_30, pt_31, pt_32, pt_33, pt_34, pt_35, pt_36, pt_37, pt_38, pt_39, pt_4, pt_40, pt_42, pt_43, pt_44, pt_45, pt_46, pt_47, pt_48, pt_49, pt_5, pt_50, pt_51, pt_52, pt_53, pt_54, pt_55, pt_56, pt_57, pt_58, pt_59, pt_6, pt_60, pt_61, pt_62, pt_64, pt_65, pt_66, pt_67, pt_68, pt_69, pt_70, pt_71, pt_72, pt_73, pt_74, pt_76, pt_77, pt_78, pt_79, pt_80, pt_81, pt_82, pt_83, pt_84, pt_85, pt_86, pt_87, pt_88, pt_89, pt_9, pt_90, pt_91, pt_92, pt_93, pt_95, pt_96, pt_97, pt_98, pt_99, F]; exact h) : G := hc F g
theorem qr_S {G G' : Prop} (g : G') (hc : G' → G := by intro h; simp only [↓planL, ↓opsA, List.contains_nil, List.contains_cons, Bool.or_false, Bool.false_or, ↓stepA, ↓e_len1, ↓e_append1, ↓e_min1, ↓e_max1, ↓callA, List.toList_toArray, Int.toNat_natCast, List.map_cons, List.map_nil, ev, Env.get_put_some, Env.put_none, Env.get_envOf, ↓e_move, ↓e_assign, ↓e_alloc, ↓e_box, ↓e_binOp, ↓e_unOp, ↓e_nilCheck, ↓e_pick, ↓e_load, ↓e_store, ↓e_fieldAddr, ↓e_field, ↓e_indexAddr, ↓e_index, ↓e_extract, ↓e_convert, ↓e_makeSlice, ↓e_build, ↓e_buildSlice, ↓e_makeFunc, b_add, b_sub, b_mul, b_eql, b_neq, b_lss, b_leq, b_gtr, b_geq, b_and, b_or, b_quo, b_rem, b_shl, b_shr, b_seql, b_sneq, b_beql, b_bneq, u_not, u_neg, rdSl_ro, rdSl_nils, rdSl_sl, setPart_agg, setPart_bool, setPart_int, setPart_str, setPart_nils, setPart_ro, setPart_sl, ofVal, ↓thenA, ↓blockA, Heap.upd_get, Heap.upd_upd, Heap.upd_sort, Nat.add_lt_add_iff_left, Nat.lt_add_right_iff_pos, Nat.pos_of_neZero, good_bool, good_int, good_str, good_nils, good_ro, good_sl, good_ep, good_nilp, good_nilf, good_fn, good_agg, AV.cells_bool, AV.cells_int, AV.cells_str, AV.cells_nils, AV.cells_ro, AV.cells_sl, AV.cells_ep, AV.cells_nilp, AV.cells_nilf, AV.cells_fn, AV.cells_agg, reduceIte, Nat.reduceEqDiff, Nat.reduceLT, Nat.reduceLeDiff, Nat.reduceAdd, Nat.add_assoc, true_and, and_true, List.getElem?_cons_zero, List.getElem?_cons_succ, Option.getD_some, List.length_cons, List.length_nil, List.set_cons_zero, List.set_cons_succ, Nat.zero_add, Nat.add_zero, List.drop_zero, List.take_succ_cons, List.take_zero, List.drop_succ_cons, List.drop_nil, List.cons_append, List.nil_append, List.append_nil, Nat.add_eq, Nat.left_eq_add, Nat.add_eq_left, List.getElem?_nil, Nat.zero_lt_succ, decide_true, decide_false, Option.bind_some, Option.map_some, Nat.one_ne_zero, Nat.lt_add_one, ↓reduceIte, Nat.le_refl, Nat.add_left_cancel_iff, T_1, T_2, T_3, T_4, T_5, T_6, T_9, T_10, T_11, T_12, T_21, T_22, T_23, T_24, T_25, T_26, T_27, T_28, T_29, T_30, T_31, T_32, T_33, T_34, T_35, T_36, T_37, T_38, T_39, T_40, T_42, T_43, T_44, T_45, T_46, T_47, T_48, T_49, T_50, T_51, T_52, T_53, T_54, T_55, T_56, T_57, T_58, T_59, T_60, T_61, T_62, T_64, T_65, T_66, T_67, T_68, T_69, T_70, T_71, T_72, T_73, T_74, T_76, T_77, T_78, T_79, T_80, T_81, T_82, T_83, T_84, T_85, T_86, T_87, T_88, T_89, T_90, T_91, T_92, T_93, T_95, T_96, T_97, T_98, T_99, T_100, T_101, T_102, T_103, T_104, T_105, T_106, T_107, T_108, T_109, T_111, T_112, T_113, T_114, T_115, T_116, T_118, T_119, T_120, T_121, T_123, T_125, T_126, T_127, T_128, T_129, T_130, T_131, T_132, T_133, T_134, T_135, T_136, T_137, T_138, T_140, T_141, T_142, T_143, T_144, T_145, T_146, T_147, T_148, T_149, T_150, T_151, T_152, T_153, T_155, T_156, T_157, T_158, T_159, T_160, T_161, T_162, T_163, T_164, T_165, T_166, T_167, T_168, T_170, T_173, T_174, T_180, T_181, T_182, T_183, T_185, T_186, cellOk, pt_1, pt_10, pt_100, pt_101, pt_102, pt_103, pt_104, pt_105, pt_106, pt_107, pt_108, pt_109, pt_11, pt_111, pt_112, pt_113, pt_114, pt_115, pt_116, pt_118, pt_119, pt_12, pt_120, pt_121, pt_123, pt_125, pt_126, pt_127, pt_128, pt_129, pt_130, pt_131, pt_132, pt_133, pt_134, pt_135, pt_136, pt_137, pt_138, pt_140, pt_141, pt_142, pt_143, pt_144, pt_145, pt_146, pt_147, pt_148, pt_149, pt_150, pt_151, pt_152, pt_153, pt_155, pt_156, pt_157, pt_158, pt_159, pt_160, pt_161, pt_162, pt_163, pt_164, pt_165, pt_166, pt_167, pt_168, pt_170, pt_173, pt_174, pt_180, pt_181, pt_182, pt_183, pt_185, pt_186, pt_2, pt_21, pt_22, pt_23, pt_24, pt_25, pt_26, pt_27, pt_28, pt_29, pt_3, pt_30, pt_31, pt_32, pt_33, pt_34, pt_35, pt_36, pt_37, pt_38, pt_39, pt_4, pt_40, pt_42, pt_43, pt_44, pt_45, pt_46, pt_47, pt_48, pt_49, pt_5, pt_50, pt_51, pt_52, pt_53, pt_54, pt_55, pt_56, pt_57, pt_58, pt_59, pt_6, pt_60, pt_61, pt_62, pt_64, pt_65, pt_66, pt_67, pt_68, pt_69, pt_70, pt_71, pt_72, pt_73, pt_74, pt_76, pt_77, pt_78, pt_79, pt_80, pt_81, pt_82, pt_83, pt_84, pt_85, pt_86, pt_87, pt_88, pt_89, pt_9, pt_90, pt_91, pt_92, pt_93, pt_95, pt_96, pt_97, pt_98, pt_99, retA, resA]; exact h) : G := hc g
theorem Q_S {G G' : Prop} (g : G') (hc : G' → G := by intro h; simp only [↓planL_nil, ↓planL_cons, ↓opsA_nil, ↓opsA_cons, isCallV, yieldA, List.getElem?_cons_succ, Option.some.injEq, Bool.false_eq_true, Bool.true_eq_false, reduceCtorEq, List.contains_nil, List.contains_cons, Bool.or_false, Bool.false_or, ↓stepA, ↓e_len1, ↓e_append1, ↓e_min1, ↓e_max1, ↓callA, List.toList_toArray, Int.toNat_natCast, List.map_cons, List.map_nil, ev, Env.get_put_some, Env.put_none, Env.get_envOf, ↓e_move, ↓e_assign, ↓e_alloc, ↓e_box, ↓e_binOp, ↓e_unOp, ↓e_nilCheck, ↓e_pick, ↓e_load, ↓e_store, ↓e_fieldAddr, ↓e_field, ↓e_indexAddr, ↓e_index, ↓e_extract, ↓e_convert, ↓e_makeSlice, ↓e_build, ↓e_buildSlice, ↓e_makeFunc, b_add, b_sub, b_mul, b_eql, b_neq, b_lss, b_leq, b_gtr, b_geq, b_and, b_or, b_quo, b_rem, b_shl, b_shr, b_seql, b_sneq, b_beql, b_bneq, u_not, u_neg, rdSl_ro, rdSl_nils, rdSl_sl, setPart_agg, setPart_bool, setPart_int, setPart_str, setPart_nils, setPart_ro, setPart_sl, ofVal, ↓thenA, ↓blockA, Heap.upd_get, Heap.upd_upd, Heap.upd_sort, Nat.add_lt_add_iff_left, Nat.lt_add_right_iff_pos, Nat.pos_of_neZero, good_bool, good_int, good_str, good_nils, good_ro, good_sl, good_ep, good_nilp, good_nilf, good_fn, good_agg, AV.cells_bool, AV.cells_int, AV.cells_str, AV.cells_nils, AV.cells_ro, AV.cells_sl, AV.cells_ep, AV.cells_nilp, AV.cells_nilf, AV.cells_fn, AV.cells_agg, reduceIte, Nat.reduceEqDiff, Nat.reduceLT, Nat.reduceLeDiff, Nat.reduceAdd, Nat.add_assoc, true_and, and_true, List.getElem?_cons_zero, List.getElem?_cons_succ, Option.getD_some, List.length_cons, List.length_nil, List.set_cons_zero, List.set_cons_succ, Nat.zero_add, Nat.add_zero, List.drop_zero, List.take_succ_cons, List.take_zero, List.drop_succ_cons, List.drop_nil, List.cons_append, List.nil_append, List.append_nil, Nat.add_eq, Nat.left_eq_add, Nat.add_eq_left, List.getElem?_nil, Nat.zero_lt_succ, decide_true, decide_false, Option.bind_some, Option.map_some, Nat.one_ne_zero, Nat.lt_add_one, ↓reduceIte, Nat.le_refl, Nat.add_left_cancel_iff, T_1, T_2, T_3, T_4, T_5, T_6, T_9, T_10, T_11, T_12, T_21, T_22, T_23, T_24, T_25, T_26, T_27, T_28, T_29, T_30, T_31, T_32, T_33, T_34, T_35, T_36, T_37, T_38, T_39, T_40, T_42, T_43, T_44, T_45, T_46, T_47, T_48, T_49, T_50, T_51, T_52, T_53, T_54, T_55, T_56, T_57, T_58, T_59, T_60, T_61, T_62, T_64, T_65, T_66, T_67, T_68, T_69, T_70, T_71, T_72, T_73, T_74, T_76, T_77, T_78, T_79, T_80, T_81, T_82, T_83, T_84, T_85, T_86, T_87, T_88, T_89, T_90, T_91, T_92, T_93, T_95, T_96, T_97, T_98, T_99, T_100, T_101, T_102, T_103, T_104, T_105, T_106, T_107, T_108, T_109, T_111, T_112, T_113, T_114, T_115, T_116, T_118, T_119, T_120, T_121, T_123, T_125, T_126, T_127, T_128, T_129, T_130, T_131, T_132, T_133, T_134, T_135, T_136, T_137, T_138, T_140, T_141, T_142, T_143, T_144, T_145, T_146, T_147, T_148, T_149, T_150, T_151, T_152, T_153, T_155, T_156, T_157, T_158, T_159, T_160, T_161, T_162, T_163, T_164, T_165, T_166, T_167, T_168, T_170, T_173, T_174, T_180, T_181, T_182, T_183, T_185, T_186, cellOk, pt_1, pt_10, pt_100, pt_101, pt_102, pt_103, pt_104, pt_105, pt_106, pt_107, pt_108, pt_109, pt_11, pt_111, pt_112, pt_113, pt_114, pt_115, pt_116, pt_118, pt_119, pt_12, pt_120, pt_121, pt_123, pt_125, pt_126, pt_127, pt_128, pt_129, pt_130, pt_131, pt_132, pt_133, pt_134, pt_135, pt_136, pt_137, pt_138, pt_140, pt_141, pt_142, pt_143, pt_144, pt_145, pt_146, pt_147, pt_148, pt_149, pt_150, pt_151, pt_152, pt_153, pt_155, pt_156, pt_157, pt_158, pt_159, pt_160, pt_161, pt_162, pt_163, pt_164, pt_165, pt_166, pt_167, pt_168, pt_170, pt_173, pt_174, pt_180, pt_181, pt_182, pt_183, pt_185, pt_186, pt_2, pt_21, pt_22, pt_23, pt_24, pt_25, pt_26, pt_27, pt_28, pt_29, pt_3, pt_30, pt_31, pt_32, pt_33, pt_34, pt_35, pt_36, pt_37, pt_38, pt_39, pt_4, pt_40, pt_42, pt_43, pt_44, pt_45, pt_46, pt_47, pt_48, pt_49, pt_5, pt_50, pt_51, pt_52, pt_53, pt_54, pt_55, pt_56, pt_57, pt_58, pt_59, pt_6, pt_60, pt_61, pt_62, pt_64, pt_65, pt_66, pt_67, pt_68, pt_69, pt_70, pt_71, pt_72, pt_73, pt_74, pt_76, pt_77, pt_78, pt_79, pt_80, pt_81, pt_82, pt_83, pt_84, pt_85, pt_86, pt_87, pt_88, pt_89, pt_9, pt_90, pt_91, pt_92, pt_93, pt_95, pt_96, pt_97, pt_98, pt_99]; exact h) : G := hc g
theorem Q_fS {Fs G G' : Prop} (F : Fs) (g : G') (hc : Fs → G' → G := by intro F h; simp only [↓planL_nil, ↓planL_cons, ↓opsA_nil, ↓opsA_cons, isCallV, yieldA, List.getElem?_cons_succ, Option.some.injEq, Bool.false_eq_true, Bool.true_eq_false, reduceCtorEq, List.contains_nil, List.contains_cons, Bool.or_false, Bool.false_or, ↓stepA, ↓e_len1, ↓e_append1, ↓e_min1, ↓e_max1, ↓callA, List.toList_toArray, Int.toNat_natCast, List.map_cons, List.map_nil, ev, Env.get_put_some, Env.put_none, Env.get_envOf, ↓e_move, ↓e_assign, ↓e_alloc, ↓e_box, ↓e_binOp, ↓e_unOp, ↓e_nilCheck, ↓e_pick, ↓e_load, ↓e_store, ↓e_fieldAddr, ↓e_field, ↓e_indexAddr, ↓e_index, ↓e_extract, ↓e_convert, ↓e_makeSlice, ↓e_build, ↓e_buildSlice, ↓e_makeFunc, b_add, b_sub, b_mul, b_eql, b_neq, b_lss, b_leq, b_gtr, b_geq, b_and, b_or, b_quo, b_rem, b_shl, b_shr, b_seql, b_sneq, b_beql, b_bneq, u_not, u_neg, rdSl_ro, rdSl_nils, rdSl_sl, setPart_agg, setPart_bool, setPart_int, setPart_str, setPart_nils, setPart_ro, setPart_sl, ofVal, ↓thenA, ↓blockA, Heap.upd_get, Heap.upd_upd, Heap.upd_sort, Nat.add_lt_add_iff_left, Nat.lt_add_right_iff_pos, Nat.pos_of_neZero, good_bool, good_int, good_str, good_nils, good_ro, good_sl, good_ep, good_nilp, good_nilf, good_fn, good_agg, AV.cells_bool, AV.cells_int, AV.cells_str, AV.cells_nils, AV.cells_ro, AV.cells_sl, AV.cells_ep, AV.cells_nilp, AV.cells_nilf, AV.cells_fn, AV.cells_agg, reduceIte, Nat.reduceEqDiff, Nat.reduceLT, Nat.reduceLeDiff, Nat.reduceAdd, Nat.add_assoc, true_and, and_true, List.getElem?_cons_zero, List.getElem?_cons_succ, Option.getD_some, List.length_cons, List.length_nil, List.set_cons_zero, List.set_cons_succ, Nat.zero_add, Nat.add_zero, List.drop_zero, List.take_succ_cons, List.take_zero, List.drop_succ_cons, List.drop_nil, List.cons_append, List.nil_append, List.append_nil, Nat.add_eq, Nat.left_eq_add, Nat.add_eq_left, List.getElem?_nil, Nat.zero_lt_succ, decide_true, decide_false, Option.bind_some, Option.map_some, Nat.one_ne_zero, Nat.lt_add_one, ↓reduceIte, Nat.le_refl, Nat.add_left_cancel_iff, T_1, T_2, T_3, T_4, T_5, T_6, T_9, T_10, T_11, T_12, T_21, T_22, T_23, T_24, T_25, T_26, T_27, T_28, T_29, T_30, T_31, T_32, T_33, T_34, T_35, T_36, T_37, T_38, T_39, T_40, T_42, T_43, T_44, T_45, T_46, T_47, T_48, T_49, T_50, T_51, T_52, T_53, T_54, T_55, T_56, T_57, T_58, T_59, T_60, T_61, T_62, T_64, T_65, T_66, T_67, T_68, T_69, T_70, T_71, T_72, T_73, T_74, T_76, T_77, T_78, T_79, T_80, T_81, T_82, T_83, T_84, T_85, T_86, T_87, T_88, T_89, T_90, T_91, T_92, T_93, T_95, T_96, T_97, T_98, T_99, T_100, T_101, T_102, T_103, T_104, T_105, T_106, T_107, T_108, T_109, T_111, T_112, T_113, T_114, T_115, T_116, T_118, T_119, T_120, T_121, T_123, T_125, T_126, T_127, T_128, T_129, T_130, T_131, T_132, T_133, T_134, T_135, T_136, T_137, T_138, T_140, T_141, T_142, T_143, T_144, T_145, T_146, T_147, T_148, T_149, T_150, T_151, T_152, T_153, T_155, T_156, T_157, T_158, T_159, T_160, T_161, T_162, T_163, T_164, T_165, T_166, T_167, T_168, T_170, T_173, T_174, T_180, T_181, T_182, T_183, T_185, T_186, cellOk, pt_1, pt_10, pt_100, pt_101, pt_102, pt_103, pt_104, pt_105, pt_106, pt_107, pt_108, pt_109, pt_11, pt_111, pt_112, pt_113, pt_114, pt_115, pt_116, pt_118, pt_119, pt_12, pt_120, pt_121, pt_123, pt_125, pt_126, pt_127, pt_128, pt_129, pt_130, pt_131, pt_132, pt_133, pt_134, pt_135, pt_136, pt_137, pt_138, pt_140, pt_141, pt_142, pt_143, pt_144, pt_145, pt_146, pt_147, pt_148, pt_149, pt_150, pt_151, pt_152, pt_153, pt_155, pt_156, pt_157, pt_158, pt_159, pt_160, pt_161, pt_162, pt_163, pt_164, pt_165, pt_166, pt_167, pt_168, pt_170, pt_173, pt_174, pt_180, pt_181, pt_182, pt_183, pt_185, pt_186, pt_2, pt_21, pt_22, pt_23, pt_24, pt_25, pt_26, pt_27, pt_28, pt_29, pt_3, pt_30, pt_31, pt_32, pt_33, pt_34, pt_35, pt_36, pt_37, pt_38, pt_39, pt_4, pt_40, pt_42, pt_43, pt_44, pt_45, pt_46, pt_47, pt_48, pt_49, pt_5, pt_50, pt_51, pt_52, pt_53, pt_54, pt_55, pt_56, pt_57, pt_58, pt_59, pt_6, pt_60, pt_61, pt_62, pt_64, pt_65, pt_66, pt_67, pt_68, pt_69, pt_70, pt_71, pt_72, pt_73, pt_74, pt_76, pt_77, pt_78, pt_79, pt_80, pt_81, pt_82, pt_83, pt_84, pt_85, pt_86, pt_87, pt_88, pt_89, pt_9, pt_90, pt_91, pt_92, pt_93, pt_95, pt_96, pt_97, pt_98, pt_99, F]; exact h) : G := hc F g
theorem w_S {G G' : Prop} (g : G') (hc : G' → G := by intro h; unfold opsW; simp only [↓planL_nil, ↓planL_cons, ↓opsA_nil, ↓opsA_cons, isCallV, yieldA, List.getElem?_cons_succ, Option.some.injEq, Bool.false_eq_true, Bool.true_eq_false, reduceCtorEq, List.contains_nil, List.contains_cons, Bool.or_false, Bool.false_or, ↓stepA, ↓e_len1, ↓e_append1, ↓e_min1, ↓e_max1, ↓callA, List.toList_toArray, Int.toNat_natCast, List.map_cons, List.map_nil, ev, Env.get_put_some, Env.put_none, Env.get_envOf, ↓e_move, ↓e_assign, ↓e_alloc, ↓e_box, ↓e_binOp, ↓e_unOp, ↓e_nilCheck, ↓e_pick, ↓e_load, ↓e_store, ↓e_fieldAddr, ↓e_field, ↓e_indexAddr, ↓e_index, ↓e_extract, ↓e_convert, ↓e_makeSlice, ↓e_build, ↓e_buildSlice, ↓e_makeFunc, b_add, b_sub, b_mul, b_eql, b_neq, b_lss, b_leq, b_gtr, b_geq, b_and, b_or, b_quo, b_rem, b_shl, b_shr, b_seql, b_sneq, b_beql, b_bneq, u_not, u_neg, rdSl_ro, rdSl_nils, rdSl_sl, setPart_agg, setPart_bool, setPart_int, setPart_str, setPart_nils, setPart_ro, setPart_sl, ofVal, ↓thenA, ↓blockA, Heap.upd_get, Heap.upd_upd, Heap.upd_sort, Nat.add_lt_add_iff_left, Nat.lt_add_right_iff_pos, Nat.pos_of_neZero, good_bool, good_int, good_str, good_nils, good_ro, good_sl, good_ep, good_nilp, good_nilf, good_fn, good_agg, AV.cells_bool, AV.cells_int, AV.cells_str, AV.cells_nils, AV.cells_ro, AV.cells_sl, AV.cells_ep, AV.cells_nilp, AV.cells_nilf, AV.cells_fn, AV.cells_agg, reduceIte, Nat.reduceEqDiff, Nat.reduceLT, Nat.reduceLeDiff, Nat.reduceAdd, Nat.add_assoc, true_and, and_true, List.getElem?_cons_zero, List.getElem?_cons_succ, Option.getD_some, List.length_cons, List.length_nil, List.set_cons_zero, List.set_cons_succ, Nat.zero_add, Nat.add_zero, List.drop_zero, List.take_succ_cons, List.take_zero, List.drop_succ_cons, List.drop_nil, List.cons_append, List.nil_append, List.append_nil, Nat.add_eq, Nat.left_eq_add, Nat.add_eq_left, List.getElem?_nil, Nat.zero_lt_succ, decide_true, decide_false, Option.bind_some, Option.map_some, Nat.one_ne_zero, Nat.lt_add_one, ↓reduceIte, Nat.le_refl, Nat.add_left_cancel_iff, T_1, T_2, T_3, T_4, T_5, T_6, T_9, T_10, T_11, T_12, T_21, T_22, T_23, T_24, T_25, T_26, T_27, T_28, T_29, T_30, T_31, T_32, T_33, T_34, T_35, T_36, T_37, T_38, T_39, T_40, T_42, T_43, T_44, T_45, T_46, T_47, T_48, T_49, T_50, T_51, T_52, T_53, T_54, T_55, T_56, T_57, T_58, T_59, T_60, T_61, T_62, T_64, T_65, T_66, T_67, T_68, T_69, T_70, T_71, T_72, T_73, T_74, T_76, T_77, T_78, T_79, T_80, T_81, T_82, T_83, T_84, T_85, T_86, T_87, T_88, T_89, T_90, T_91, T_92, T_93, T_95, T_96, T_97, T_98, T_99, T_100, T_101, T_102, T_103, T_104, T_105, T_106, T_107, T_108, T_109, T_111, T_112, T_113, T_114, T_115, T_116, T_118, T_119, T_120, T_121, T_123, T_125, T_126, T_127, T_128, T_129, T_130, T_131, T_132, T_133, T_134, T_135, T_136, T_137, T_138, T_140, T_141, T_142, T_143, T_144, T_145, T_146, T_147, T_148, T_149, T_150, T_151, T_152, T_153, T_155, T_156, T_157, T_158, T_159, T_160, T_161, T_162, T_163, T_164, T_165, T_166, T_167, T_168, T_170, T_173, T_174, T_180, T_181, T_182, T_183, T_185, T_186, cellOk, pt_1, pt_10, pt_100, pt_101, pt_102, pt_103, pt_104, pt_105, pt_106, pt_107, pt_108, pt_109, pt_11, pt_111, pt_112, pt_113, pt_114, pt_115, pt_116, pt_118, pt_119, pt_12, pt_120, pt_121, pt_123, pt_125, pt_126, pt_127, pt_128, pt_129, pt_130, pt_131, pt_132, pt_133, pt_134, pt_135, pt_136, pt_137, pt_138, pt_140, pt_141, pt_142, pt_143, pt_144, pt_145, pt_146, pt_147, pt_148, pt_149, pt_150, pt_151, pt_152, pt_153, pt_155, pt_156, pt_157, pt_158, pt_159, pt_160, pt_161, pt_162, pt_163, pt_164, pt_165, pt_166, pt_167, pt_168, pt_170, pt_173, pt_174, pt_180, pt_181, pt_182, pt_183, pt_185, pt_186, pt_2, pt_21, pt_22, pt_23, pt_24, pt_25, pt_26, pt_27, pt_28, pt_29, pt_3, pt_30, pt_31, pt_32, pt_33, pt_34, pt_35, pt_36, pt_37, pt_38, pt_39, pt_4, pt_40, pt_42, pt_43, pt_44, pt_45, pt_46, pt_47, pt_48, pt_49, pt_5, pt_50, pt_51, pt_52, pt_53, pt_54, pt_55, pt_56, pt_57, pt_58, pt_59, pt_6, pt_60, pt_61, pt_62, pt_64, pt_65, pt_66, pt_67, pt_68, pt_69, pt_70, pt_71, pt_72, pt_73, pt_74, pt_76, pt_77, pt_78, pt_79, pt_80, pt_81, pt_82, pt_83, pt_84, pt_85, pt_86, pt_87, pt_88, pt_89, pt_9, pt_90, pt_91, pt_92, pt_93, pt_95, pt_96, pt_97, pt_98, pt_99]; exact h) : G := hc g
theorem w_fS {Fs G G' : Prop} (F : Fs) (g : G') (hc : Fs → G' → G := by intro F h; unfold opsW; simp only [↓planL_nil, ↓planL_cons, ↓opsA_nil, ↓opsA_cons, isCallV, yieldA, List.getElem?_cons_succ, Option.some.injEq, Bool.false_eq_true, Bool.true_eq_false, reduceCtorEq, List.contains_nil, List.contains_cons, Bool.or_false, Bool.false_or, ↓stepA, ↓e_len1, ↓e_append1, ↓e_min1, ↓e_max1, ↓callA, List.toList_toArray, Int.toNat_natCast, List.map_cons, List.map_nil, ev, Env.get_put_some, Env.put_none, Env.get_envOf, ↓e_move, ↓e_assign, ↓e_alloc, ↓e_box, ↓e_binOp, ↓e_unOp, ↓e_nilCheck, ↓e_pick, ↓e_load, ↓e_store, ↓e_fieldAddr, ↓e_field, ↓e_indexAddr, ↓e_index, ↓e_extract, ↓e_convert, ↓e_makeSlice, ↓e_build, ↓e_buildSlice, ↓e_makeFunc, b_add, b_sub, b_mul, b_eql, b_neq, b_lss, b_leq, b_gtr, b_geq, b_and, b_or, b_quo, b_rem, b_shl, b_shr, b_seql, b_sneq, b_beql, b_bneq, u_not, u_neg, rdSl_ro, rdSl_nils, rdSl_sl, setPart_agg, setPart_bool, setPart_int, setPart_str, setPart_nils, setPart_ro, setPart_sl, ofVal, ↓thenA, ↓blockA, Heap.upd_get, Heap.upd_upd, Heap.upd_sort, Nat.add_lt_add_iff_left, Nat.lt_add_right_iff_pos, Nat.pos_of_neZero, good_bool, good_int, good_str, good_nils, good_ro, good_sl, good_ep, good_nilp, good_nilf, good_fn, good_agg, AV.cells_bool, AV.cells_int, AV.cells_str, AV.cells_nils, AV.cells_ro, AV.cells_sl, AV.cells_ep, AV.cells_nilp, AV.cells_nilf, AV.cells_fn, AV.cells_agg, reduceIte, Nat.reduceEqDiff, Nat.reduceLT, Nat.reduceLeDiff, Nat.reduceAdd, Nat.add_assoc, true_and, and_true, List.getElem?_cons_zero, List.getElem?_cons_succ, Option.getD_some, List.length_cons, List.length_nil, List.set_cons_zero, List.set_cons_succ, Nat.zero_add, Nat.add_zero, List.drop_zero, List.take_succ_cons, List.take_zero, List.drop_succ_cons, List.drop_nil, List.cons_append, List.nil_append, List.append_nil, Nat.add_eq, Nat.left_eq_add, Nat.add_eq_left, List.getElem?_nil, Nat.zero_lt_succ, decide_true, decide_false, Option.bind_some, Option.map_some, Nat.one_ne_zero, Nat.lt_add_one, ↓reduceIte, Nat.le_refl, Nat.add_left_cancel_iff, T_1, T_2, T_3, T_4, T_5, T_6, T_9, T_10, T_11, T_12, T_21, T_22, T_23, T_24, T_25, T_26, T_27, T_28, T_29, T_30, T_31, T_32, T_33, T_34, T_35, T_36, T_37, T_38, T_39, T_40, T_42, T_43, T_44, T_45, T_46, T_47, T_48, T_49, T_50, T_51, T_52, T_53, T_54, T_55, T_56, T_57, T_58, T_59, T_60, T_61, T_62, T_64, T_65, T_66, T_67, T_68, T_69, T_70, T_71, T_72, T_73, T_74, T_76, T_77, T_78, T_79, T_80, T_81, T_82, T_83, T_84, T_85, T_86, T_87, T_88, T_89, T_90, T_91, T_92, T_93, T_95, T_96, T_97, T_98, T_99, T_100, T_101, T_102, T_103, T_104, T_105, T_106, T_107, T_108, T_109, T_111, T_112, T_113, T_114, T_115, T_116, T_118, T_119, T_120, T_121, T_123, T_125, T_126, T_127, T_128, T_129, T_130, T_131, T_132, T_133, T_134, T_135, T_136, T_137, T_138, T_140, T_141, T_142, T_143, T_144, T_145, T_146, T_147, T_148, T_149, T_150, T_151, T_152, T_153, T_155, T_156, T_157, T_158, T_159, T_160, T_161, T_162, T_163, T_164, T_165, T_166, T_167, T_168, T_170, T_173, T_174, T_180, T_181, T_182, T_183, T_185, T_186, cellOk, pt_1, pt_10, pt_100, pt_101, pt_102, pt_103, pt_104, pt_105, pt_106, pt_107, pt_108, pt_109, pt_11, pt_111, pt_112, pt_113, pt_114, pt_115, pt_116, pt_118, pt_119, pt_12, pt_120, pt_121, pt_123, pt_125, pt_126, pt_127, pt_128, pt_129, pt_130, pt_131, pt_132, pt_133, pt_134, pt_135, pt_136, pt_137, pt_138, pt_140, pt_141, pt_142, pt_143, pt_144, pt_145, pt_146, pt_147, pt_148, pt_149, pt_150, pt_151, pt_152, pt_153, pt_155, pt_156, pt_157, pt_158, pt_159, pt_160, pt_161, pt_162, pt_163, pt_164, pt_165, pt_166, pt_167, pt_168, pt_170, pt_173, pt_174, pt_180, pt_181, pt_182, pt_183, pt_185, pt_186, pt_2, pt_21, pt_22, pt_23, pt_24, pt_25, pt_26, pt_27, pt_28, pt_29, pt_3, pt_30, pt_31, pt_32, pt_33, pt_34, pt_35, pt_36, pt_37, pt_38, pt_39, pt_4, pt_40, pt_42, pt_43, pt_44, pt_45, pt_46, pt_47, pt_48, pt_49, pt_5, pt_50, pt_51, pt_52, pt_53, pt_54, pt_55, pt_56, pt_57, pt_58, pt_59, pt_6, pt_60, pt_61, pt_62, pt_64, pt_65, pt_66, pt_67, pt_68, pt_69, pt_70, pt_71, pt_72, pt_73, pt_74, pt_76, pt_77, pt_78, pt_79, pt_80, pt_81, pt_82, pt_83, pt_84, pt_85, pt_86, pt_87, pt_88, pt_89, pt_9, pt_90, pt_91, pt_92, pt_93, pt_95, pt_96, pt_97, pt_98, pt_99, F]; exact h) : G := hc F g
theorem tyInt_2 : TyR T 2 Int64R := tyR_int rfl rfl rfl
def wtInt (_ : Int) : Nat := 1
theorem sizL_mem {α : Type} {f : α → Nat} {l : List α} {a : α} (ha : a ∈ l) : f a ≤ sizL f l := by
  have : f a ≤ (l.map f).sum := by
    induction l with
    | nil => cases ha
    | cons b l ih =>
      simp only [List.map_cons, List.sum_cons]
      rcases List.mem_cons.1 ha with rfl | ha
      · omega
      · have := ih ha; omega
  unfold sizL; omega
theorem left_nonneg {s : Nat} {k : Int} (h0 : 0 ≤ k) (h : ¬ left s k < 0) : (s : Int) ≤ k ∧ left s k = k - s := by
  unfold left at h ⊢
  split
  · exact ⟨by assumption, rfl⟩
  · rename_i hq; rw [if_neg hq] at h; omega
structure RecD where
  kind : Int
  txn : Int
  key : Int
  had : Bool
  old : Int
  has : Bool
  new : Int
  back : Int
  deriving DecidableEq
def RecR (e : AV) (a : RecD) : Prop := e = .agg [.int .i64 a.kind, .int .i64 a.txn, .int .i64 a.key, .bool a.had, .int .i64 a.old, .bool a.has, .int .i64 a.new, .int .i64 a.back] ∧ I64 a.kind ∧ I64 a.txn ∧ I64 a.key ∧ I64 a.old ∧ I64 a.new ∧ I64 a.back
theorem tyRec_78 : TyR T 78 RecR where
  pos := by decide
  cell := rfl
  zlen := rfl
  part e a h := by obtain ⟨rfl, _, _, _, _, _, _⟩ := h; rfl
  len e a h := by obtain ⟨rfl, _, _, _, _, _, _⟩ := h; rfl
  good e a h := by obtain ⟨rfl, _, _, _, _, _, _⟩ := h; rfl
  lt e a n h := by
    obtain ⟨rfl, h0, h1, h2, h3, h4, h5⟩ := h
    rw [lt_agg]; intro u hu
    simp only [List.mem_cons, List.not_mem_nil, or_false] at hu
    rcases hu with rfl | rfl | rfl | rfl | rfl | rfl | rfl | rfl
    · exact .int _ _
    · exact .int _ _
    · exact .int _ _
    · exact .bool _
    · exact .int _ _
    · exact .bool _
    · exact .int _ _
    · exact .int _ _
  setz e a h := by obtain ⟨rfl, _, _, _, _, _, _⟩ := h; rfl
theorem tyRec_76 : TyR T 76 RecR where
  pos := by decide
  cell := rfl
  zlen := rfl
  part e a h := by obtain ⟨rfl, _, _, _, _, _, _⟩ := h; rfl
  len e a h := by obtain ⟨rfl, _, _, _, _, _, _⟩ := h; rfl
  good e a h := by obtain ⟨rfl, _, _, _, _, _, _⟩ := h; rfl
  lt e a n h := by
    obtain ⟨rfl, h0, h1, h2, h3, h4, h5⟩ := h
    rw [lt_agg]; intro u hu
    simp only [List.mem_cons, List.not_mem_nil, or_false] at hu
    rcases hu with rfl | rfl | rfl | rfl | rfl | rfl | rfl | rfl
    · exact .int _ _
    · exact .int _ _
    · exact .int _ _
    · exact .bool _
    · exact .int _ _
    · exact .bool _
    · exact .int _ _
    · exact .int _ _
  setz e a h := by obtain ⟨rfl, _, _, _, _, _, _⟩ := h; rfl
theorem toRec_76 : TyO T 76 RecR := TyO.struct rfl rfl (fun _ _ => rfl) (fun r b h => by obtain ⟨rfl, _, _, _, _, _, _⟩ := h; exact ⟨_, rfl, rfl⟩)
def sizRec (_ : RecD) : Nat := 0
def wtRec (_ : RecD) : Nat := 8
def RecSR : AV → List RecD → Prop := SlR 8 RecR
def sizRecS (l : List RecD) : Nat := sizL sizRec l
def wtRecS (l : List RecD) : Nat := (l.map wtRec).sum
structure CellD where
  key : Int
  value : Int
  deriving DecidableEq
def CellR (e : AV) (a : CellD) : Prop := e = .agg [.int .i64 a.key, .int .i64 a.value] ∧ I64 a.key ∧ I64 a.value
theorem tyCell_123 : TyR T 123 CellR where
  pos := by decide
  cell := rfl
  zlen := rfl
  part e a h := by obtain ⟨rfl, _, _⟩ := h; rfl
  len e a h := by obtain ⟨rfl, _, _⟩ := h; rfl
  good e a h := by obtain ⟨rfl, _, _⟩ := h; rfl
  lt e a n h := by
    obtain ⟨rfl, h0, h1⟩ := h
    rw [lt_agg]; intro u hu
    simp only [List.mem_cons, List.not_mem_nil, or_false] at hu
    rcases hu with rfl | rfl
    · exact .int _ _
    · exact .int _ _
  setz e a h := by obtain ⟨rfl, _, _⟩ := h; rfl
structure HeldD where
  txn : Int
  key : Int
  deriving DecidableEq
def HeldR (e : AV) (a : HeldD) : Prop := e = .agg [.int .i64 a.txn, .int .i64 a.key] ∧ I64 a.txn ∧ I64 a.key
theorem tyHeld_140 : TyR T 140 HeldR where
  pos := by decide
  cell := rfl
  zlen := rfl
  part e a h := by obtain ⟨rfl, _, _⟩ := h; rfl
  len e a h := by obtain ⟨rfl, _, _⟩ := h; rfl
  good e a h := by obtain ⟨rfl, _, _⟩ := h; rfl
  lt e a n h := by
    obtain ⟨rfl, h0, h1⟩ := h
    rw [lt_agg]; intro u hu
    simp only [List.mem_cons, List.not_mem_nil, or_false] at hu
    rcases hu with rfl | rfl
    · exact .int _ _
    · exact .int _ _
  setz e a h := by obtain ⟨rfl, _, _⟩ := h; rfl
section
variable {h : Heap} {n : Nat} {K : AV → Heap → Nat → Prop}
theorem c52o {x : AV} {a : RecD} (hx : RecR x a) (hl : sizRec a ≤ 1048576) (hk : ∀ r h' n', OwnRes RecR h n r a h' n' → K r h' n') : CA Try.prog 52 [x] h n K := by
  obtain ⟨rfl, h0, h1, h2, h3, h4, h5⟩ := hx
  refine CA.conv (CA.enter (N := 29) (rs := [.cell 2 76]) hT Try.call52 Try.func52 rfl rfl (by simp) rfl fun hlt => ?_)
  refine WP.seq_k fun K1 hK1 => WP.region hT rfl ?_
  refine q_S ?_
  refine hK1 _ _ _ ?_
  clear hK1 K1
  refine WP.seq_k fun K1 hK1 => WP.region hT rfl ?_
  refine q_S ?_
  refine hK1 _ _ _ ?_
  clear hK1 K1
  refine WP.seq_k fun K1 hK1 => WP.region hT rfl ?_
  refine q_S ?_
  refine hK1 _ _ _ ?_
  clear hK1 K1
  refine WP.seq_k fun K1 hK1 => WP.region hT rfl ?_
  refine q_S ?_
  refine hK1 _ _ _ ?_
  clear hK1 K1
  refine WP.seq_k fun K1 hK1 => WP.region hT rfl ?_
  refine q_S ?_
  refine hK1 _ _ _ ?_
  clear hK1 K1
  refine WP.seq_k fun K1 hK1 => WP.region hT rfl ?_
  refine q_S ?_
  refine hK1 _ _ _ ?_
  clear hK1 K1
  refine WP.seq_k fun K1 hK1 => WP.region hT rfl ?_
  refine q_S ?_
  refine hK1 _ _ _ ?_
  clear hK1 K1
  refine WP.seq_k fun K1 hK1 => WP.region hT rfl ?_
  refine q_S ?_
  refine hK1 _ _ _ ?_
  clear hK1 K1
  refine WP.seq_k fun K1 hK1 => WP.region hT rfl ?_
  refine q_S ?_
  refine hK1 _ _ _ ?_
  clear hK1 K1
  refine WP.seq_k fun K1 hK1 => WP.region hT rfl ?_
  refine q_S ?_
  refine hK1 _ _ _ ?_
  clear hK1 K1
  refine WP.seq_k fun K1 hK1 => WP.region hT rfl ?_
  refine q_S ?_
  refine hK1 _ _ _ ?_
  refine WP.ret ?_
  refine ret_cell (sz := 8) (id := n + 1) (v := .agg [.int .i64 a.kind, .int .i64 a.txn, .int .i64 a.key, .bool a.had, .int .i64 a.old, .bool a.has, .int .i64 a.new, .int .i64 a.back]) rfl (by simp [Heap.upd_get]) rfl rfl ?_
  refine own_done hlt (.agg _ _ _ (TreeL.cons _ _ _ _ [] _ (Tree.ofPlain1 rfl) (TreeL.cons _ _ _ _ [] _ (Tree.ofPlain1 rfl) (TreeL.cons _ _ _ _ [] _ (Tree.ofPlain1 rfl) (TreeL.cons _ _ _ _ [] _ (Tree.ofPlain1 rfl) (TreeL.cons _ _ _ _ [] _ (Tree.ofPlain1 rfl) (TreeL.cons _ _ _ _ [] _ (Tree.ofPlain1 rfl) (TreeL.cons _ _ _ _ [] _ (Tree.ofPlain1 rfl) (TreeL.cons _ _ _ _ [] _ (Tree.ofPlain1 rfl) TreeL.nil (fun i hi => by cases hi)) (fun i hi => by cases hi)) (fun i hi => by cases hi)) (fun i hi => by cases hi)) (fun i hi => by cases hi)) (fun i hi => by cases hi)) (fun i hi => by cases hi)) (fun i hi => by cases hi))) ⟨rfl, h0, h1, h2, h3, h4, h5⟩ (fun i hi => ?_) (fun id hid => ?_) (by omega) hk
  · simp at hi
  · simp only [Heap.upd_get]; repeat rw [if_neg (by omega)]
theorem c58 {x y : AV} {a b : RecD} (hx : RecR x a) (hy : RecR y b) (hk : K (.bool (decide (a = b))) h n) : CA Try.prog 58 [x, y] h n K := by
  obtain ⟨rfl, h0, h1, h2, h3, h4, h5⟩ := hx
  obtain ⟨rfl, j0, j1, j2, j3, j4, j5⟩ := hy
  have hd : decide (a = b) = (decide (a.kind = b.kind) && (decide (a.txn = b.txn) && (decide (a.key = b.key) && (decide (a.had = b.had) && (decide (a.old = b.old) && (decide (a.has = b.has) && (decide (a.new = b.new) && decide (a.back = b.back)))))))) := by cases a; cases b; simp [RecD.mk.injEq]
  rw [hd] at hk
  refine CA.conv (CA.enter (N := 45) (rs := [.tmp 4]) hT Try.call58 Try.func58 rfl rfl (by simp) rfl fun hlt => ?_)
  refine WP.seq_k fun K1 hK1 => WP.region hT rfl ?_
  refine q_S ?_
  refine hK1 _ _ _ ?_
  clear hK1 K1
  refine WP.seq_k fun K3 hK3 => ?_
  refine WP.seq_k fun K1 hK1 => WP.region hT rfl ?_
  refine q_S ?_
  refine hK1 _ _ _ ?_
  clear hK1 K1
  refine WP.cond (by simp only [ev, Env.get_put_some, ↓reduceIte]; rfl) (fun hc => ?_) (fun hc => ?_)
  · refine WP.seq_k fun K1 hK1 => WP.region hT rfl ?_
    refine q_S ?_
    refine hK1 _ _ _ ?_
    clear hK1 K1
    refine WP.ret ?_
    refine qr_S ?_
    refine ⟨_, rfl, ret_p (Left.upd (by omega) (Left.upd (Nat.le_refl _) (Left.refl hlt))) (.bool _) ?_⟩
    have hne : a.kind ≠ b.kind := by simpa using hc
    simpa [resV, hne] using hk
  have he0 : a.kind = b.kind := by simpa using hc
  refine WP.skip (hK3 _ _ _ ?_)
  clear hK3 K3 hc
  refine WP.seq_k fun K3 hK3 => ?_
  refine WP.seq_k fun K1 hK1 => WP.region hT rfl ?_
  refine q_S ?_
  refine hK1 _ _ _ ?_
  clear hK1 K1
  refine WP.cond (by simp only [ev, Env.get_put_some, ↓reduceIte]; rfl) (fun hc => ?_) (fun hc => ?_)
  · refine WP.seq_k fun K1 hK1 => WP.region hT rfl ?_
    refine q_S ?_
    refine hK1 _ _ _ ?_
    clear hK1 K1
    refine WP.ret ?_
    refine qr_S ?_
    refine ⟨_, rfl, ret_p (Left.upd (by omega) (Left.upd (Nat.le_refl _) (Left.refl hlt))) (.bool _) ?_⟩
    have hne : a.txn ≠ b.txn := by simpa using hc
    simpa [resV, hne] using hk
  have he1 : a.txn = b.txn := by simpa using hc
  refine WP.skip (hK3 _ _ _ ?_)
  clear hK3 K3 hc
  refine WP.seq_k fun K3 hK3 => ?_
  refine WP.seq_k fun K1 hK1 => WP.region hT rfl ?_
  refine q_S ?_
  refine hK1 _ _ _ ?_
  clear hK1 K1
  refine WP.cond (by simp only [ev, Env.get_put_some, ↓reduceIte]; rfl) (fun hc => ?_) (fun hc => ?_)
  · refine WP.seq_k fun K1 hK1 => WP.region hT rfl ?_
    refine q_S ?_
    refine hK1 _ _ _ ?_
    clear hK1 K1
    refine WP.ret ?_
    refine qr_S ?_
    refine ⟨_, rfl, ret_p (Left.upd (by omega) (Left.upd (Nat.le_refl _) (Left.refl hlt))) (.bool _) ?_⟩
    have hne : a.key ≠ b.key := by simpa using hc
    simpa [resV, hne] using hk
  have he2 : a.key = b.key := by simpa using hc
  refine WP.skip (hK3 _ _ _ ?_)
  clear hK3 K3 hc
  refine WP.seq_k fun K3 hK3 => ?_
  refine WP.seq_k fun K1 hK1 => WP.region hT rfl ?_
  refine q_S ?_
  refine hK1 _ _ _ ?_
  clear hK1 K1
  refine WP.cond (by simp only [ev, Env.get_put_some, ↓reduceIte]; rfl) (fun hc => ?_) (fun hc => ?_)
  · refine WP.seq_k fun K1 hK1 => WP.region hT rfl ?_
    refine q_S ?_
    refine hK1 _ _ _ ?_
    clear hK1 K1
    refine WP.ret ?_
    refine qr_S ?_
    refine ⟨_, rfl, ret_p (Left.upd (by omega) (Left.upd (Nat.le_refl _) (Left.refl hlt))) (.bool _) ?_⟩
    have hne : a.had ≠ b.had := by simpa using hc
    simpa [resV, hne] using hk
  have he3 : a.had = b.had := by simpa using hc
  refine WP.skip (hK3 _ _ _ ?_)
  clear hK3 K3 hc
  refine WP.seq_k fun K3 hK3 => ?_
  refine WP.seq_k fun K1 hK1 => WP.region hT rfl ?_
  refine q_S ?_
  refine hK1 _ _ _ ?_
  clear hK1 K1
  refine WP.cond (by simp only [ev, Env.get_put_some, ↓reduceIte]; rfl) (fun hc => ?_) (fun hc => ?_)
  · refine WP.seq_k fun K1 hK1 => WP.region hT rfl ?_
    refine q_S ?_
    refine hK1 _ _ _ ?_
    clear hK1 K1
    refine WP.ret ?_
    refine qr_S ?_
    refine ⟨_, rfl, ret_p (Left.upd (by omega) (Left.upd (Nat.le_refl _) (Left.refl hlt))) (.bool _) ?_⟩
    have hne : a.old ≠ b.old := by simpa using hc
    simpa [resV, hne] using hk
  have he4 : a.old = b.old := by simpa using hc
  refine WP.skip (hK3 _ _ _ ?_)
  clear hK3 K3 hc
  refine WP.seq_k fun K3 hK3 => ?_
  refine WP.seq_k fun K1 hK1 => WP.region hT rfl ?_
  refine q_S ?_
  refine hK1 _ _ _ ?_
  clear hK1 K1
  refine WP.cond (by simp only [ev, Env.get_put_some, ↓reduceIte]; rfl) (fun hc => ?_) (fun hc => ?_)
  · refine WP.seq_k fun K1 hK1 => WP.region hT rfl ?_
    refine q_S ?_
    refine hK1 _ _ _ ?_
    clear hK1 K1
    refine WP.ret ?_
    refine qr_S ?_
    refine ⟨_, rfl, ret_p (Left.upd (by omega) (Left.upd (Nat.le_refl _) (Left.refl hlt))) (.bool _) ?_⟩
    have hne : a.has ≠ b.has := by simpa using hc
    simpa [resV, hne] using hk
  have he5 : a.has = b.has := by simpa using hc
  refine WP.skip (hK3 _ _ _ ?_)
  clear hK3 K3 hc
  refine WP.seq_k fun K3 hK3 => ?_
  refine WP.seq_k fun K1 hK1 => WP.region hT rfl ?_
  refine q_S ?_
  refine hK1 _ _ _ ?_
  clear hK1 K1
  refine WP.cond (by simp only [ev, Env.get_put_some, ↓reduceIte]; rfl) (fun hc => ?_) (fun hc => ?_)
  · refine WP.seq_k fun K1 hK1 => WP.region hT rfl ?_
    refine q_S ?_
    refine hK1 _ _ _ ?_
    clear hK1 K1
    refine WP.ret ?_
    refine qr_S ?_
    refine ⟨_, rfl, ret_p (Left.upd (by omega) (Left.upd (Nat.le_refl _) (Left.refl hlt))) (.bool _) ?_⟩
    have hne : a.new ≠ b.new := by simpa using hc
    simpa [resV, hne] using hk
  have he6 : a.new = b.new := by simpa using hc
  refine WP.skip (hK3 _ _ _ ?_)
  clear hK3 K3 hc
  refine WP.seq_k fun K3 hK3 => ?_
  refine WP.seq_k fun K1 hK1 => WP.region hT rfl ?_
  refine q_S ?_
  refine hK1 _ _ _ ?_
  clear hK1 K1
  refine WP.cond (by simp only [ev, Env.get_put_some, ↓reduceIte]; rfl) (fun hc => ?_) (fun hc => ?_)
  · refine WP.seq_k fun K1 hK1 => WP.region hT rfl ?_
    refine q_S ?_
    refine hK1 _ _ _ ?_
    clear hK1 K1
    refine WP.ret ?_
    refine qr_S ?_
    refine ⟨_, rfl, ret_p (Left.upd (by omega) (Left.upd (Nat.le_refl _) (Left.refl hlt))) (.bool _) ?_⟩
    have hne : a.back ≠ b.back := by simpa using hc
    simpa [resV, hne] using hk
  have he7 : a.back = b.back := by simpa using hc
  refine WP.skip (hK3 _ _ _ ?_)
  clear hK3 K3 hc
  refine WP.seq_k fun K1 hK1 => WP.region hT rfl ?_
  refine q_S ?_
  refine hK1 _ _ _ ?_
  clear hK1 K1
  refine WP.ret ?_
  refine qr_S ?_
  refine ⟨_, rfl, ret_p (Left.upd (by omega) (Left.upd (Nat.le_refl _) (Left.refl hlt))) (.bool _) ?_⟩
  simpa [resV, he0, he1, he2, he3, he4, he5, he6, he7] using hk
theorem c14 {x : AV} {l : List RecD} (hx : RecSR x l) {k : Int} (h0 : 0 ≤ k) (h1 : k ≤ 4611686018427387904) (hk : K (.int .i64 (left (sizRecS l) k)) h n) : CA Try.prog 14 [x, .int .i64 k] h n K :=
  szS0_gen hT Try.call14 Try.func14 rfl rfl rfl rfl (sz := 8) rfl hx h0 h1 hk
theorem c16o {x : AV} {l : List RecD} (hx : RecSR x l) (hl : sizRecS l ≤ 1048576) (hk : ∀ r h' n', OwnRes RecSR h n r l h' n' → K r h' n') : CA Try.prog 16 [x] h n K :=
  toS_own_gen (φ := id) hT Try.call16 Try.func16 rfl rfl rfl rfl rfl tyRec_78 toRec_76 (by decide) rfl tyRec_76.lt (by decide) hx (by unfold sizRecS sizL at hl; omega) (fun h n K e a ha hR hk => c52o hR (by have := sizL_mem (f := sizRec) ha; unfold sizRecS at hl; omega) hk) (by rw [List.map_id]; exact hk)
theorem c16 {x : AV} {l : List RecD} (hx : RecSR x l) (hl : sizRecS l ≤ 1048576) (hk : ∀ r, RecSR r l → K r h n) : CA Try.prog 16 [x] h n K := CA.ofOwn Try.call16 (fun K hk => c16o hx hl hk) hk
theorem c18 {x y : AV} {l l2 : List RecD} (hx : RecSR x l) (hy : RecSR y l2) (hk : K (.bool (decide (l = l2))) h n) : CA Try.prog 18 [x, y] h n K :=
  eqS_gen hT hM Try.call18 Try.func18 rfl rfl rfl rfl tyRec_76 tyRec_76 hx hy (fun h n K e e' a b hR hR' hk => c58 hR hR' hk) hk
end
end Go.Proofs.Ytcngfjmfgeckmaa
namespace Go.Proofs.Ytcngfjmfgeckmaa
open Go
section
variable {P : Program} {T : TE} {ops l : List Oper} {D : List Nat} {hS h : Heap} {n : Nat} {E : Env} {K : Env → Heap → Nat → Prop}
def nthO (l : List Oper) (i : Nat) : Option Oper := l[i]?
def opN (P : Program) (T : TE) (op : Op) (d : Option Tmp) (Kc : Env → Heap → Nat → Prop) (E : Env) (h : Heap) (n : Nat) : Prop :=
  callA P T ⟨d, op, 0, "", #[], none⟩ E h n (fun r h' n' => Kc (E.put d r) h' n')
def opsK (P : Program) (T : TE) (ops l : List Oper) (K : Env → Heap → Nat → Prop) : Env → Heap → Nat → Prop := fun E h n => opsA P T ops l E h n K
def sealK (Kc : Env → Heap → Nat → Prop) (E : Env) (h : Heap) (n : Nat) : Prop := Kc E h n
def planQ (P : Program) (T : TE) (l : List Oper) (D : List Nat) (hS : Heap) (K : Env → Heap → Nat → Prop) (rest : List (Nat × Nat)) (dirty : Bool) (h : Heap) (n : Nat) : Env → Heap → Nat → Prop := fun E _ _ => planL P T l D hS K rest dirty E h n
def planD (P : Program) (T : TE) (l : List Oper) (D : List Nat) (hS : Heap) (K : Env → Heap → Nat → Prop) (rest : List (Nat × Nat)) : Env → Heap → Nat → Prop := fun E h n => planL P T l D hS K rest true E h n
def planC (P : Program) (T : TE) (l : List Oper) (D : List Nat) (hS : Heap) (K : Env → Heap → Nat → Prop) (rest : List (Nat × Nat)) : Env → Heap → Nat → Prop := fun E h n => hS.Sub h ∧ planL P T l D hS K rest false E h n
def treeQ (P : Program) (T : TE) (l : List Oper) (D : List Nat) (hS : Heap) (K : Env → Heap → Nat → Prop) (r : PlanT) (dirty : Bool) (h : Heap) (n : Nat) : Env → Heap → Nat → Prop := fun E _ _ => planT P T l D hS K r true dirty E h n
def treeD (P : Program) (T : TE) (l : List Oper) (D : List Nat) (hS : Heap) (K : Env → Heap → Nat → Prop) (r : PlanT) : Env → Heap → Nat → Prop := fun E h n => planT P T l D hS K r true true E h n
def treeC (P : Program) (T : TE) (l : List Oper) (D : List Nat) (hS : Heap) (K : Env → Heap → Nat → Prop) (r : PlanT) : Env → Heap → Nat → Prop := fun E h n => hS.Sub h ∧ planT P T l D hS K r true false E h n
def bval : AV → Option (Option Bool)
  | .bool b => some (some b)
  | .undef => none
  | .fn .. => none
  | _ => some none
def gval (o : Option Oper) (E : Env) : Option (Option Bool) := match o.bind (·.dst) with
  | none => some none
  | some d => bval (E.get d)
theorem yieldA_gval (j : Nat) : yieldA ops E j = gval (nthO ops j) E := by
  unfold yieldA gval nthO
  cases (ops[j]?).bind (·.dst) with
  | none => rfl
  | some d => simp only; cases E.get d <;> rfl
def stepG (P : Program) (T : TE) (o : Option Oper) (op : Op) (d : Option Tmp) (w : Bool) (Kc : Env → Heap → Nat → Prop) (E : Env) (h : Heap) (n : Nat) : Prop :=
  if gval o E = some (some w) then opN P T op d Kc E h n else if gval o E = none then False else Kc (E.put d (.tup [])) h n
theorem opN_eq (o : Oper) (Kc : Env → Heap → Nat → Prop) : callA P T o E h n (fun r h' n' => Kc (E.put o.dst r) h' n') = opN P T o.op o.dst Kc E h n := by
  unfold opN callA
  rfl
theorem stepA_none (d : Option Tmp) (op : Op) (ty : TypeId) (p : String) (af : Array Edge) (Kc : Env → Heap → Nat → Prop) : stepA P T ops ⟨d, op, ty, p, af, none⟩ E h n Kc = opN P T op d Kc E h n := opN_eq ⟨d, op, ty, p, af, none⟩ Kc
theorem stepA_some (d : Option Tmp) (op : Op) (ty : TypeId) (p : String) (af : Array Edge) (j : Nat) (w : Bool) (Kc : Env → Heap → Nat → Prop) : stepA P T ops ⟨d, op, ty, p, af, some (j, w)⟩ E h n Kc = stepG P T (nthO ops j) op d w Kc E h n := by
  unfold stepA stepG
  simp only [yieldA_gval]
  cases hg : gval (nthO ops j) E with
  | none => simp
  | some y =>
    simp only [Option.some.injEq, reduceCtorEq, if_false]
    split
    · exact opN_eq ⟨d, op, ty, p, af, some (j, w)⟩ Kc
    · rfl
def planS (P : Program) (T : TE) (l : List Oper) (D : List Nat) (hS : Heap) (K : Env → Heap → Nat → Prop) (k i : Nat) (rest : List (Nat × Nat)) (dirty : Bool) (o : Option Oper) (E : Env) (h : Heap) (n : Nat) : Prop := match o with
  | none => False
  | some o => match k with
    | 0 => stepA P T l o E Heap.emp n (planQ P T l D hS K rest dirty h n)
    | 1 => stepA P T l o E hS n (planQ P T l D hS K rest dirty h n)
    | _ => if dirty || D.contains i then stepA P T l o E h n (planD P T l D hS K rest) else stepA P T l o E h n (planC P T l D hS K rest)
theorem planL_S (i k : Nat) (rest : List (Nat × Nat)) (dirty : Bool) : planL P T l D hS K ((i, k) :: rest) dirty E h n = planS P T l D hS K k i rest dirty (nthO l i) E h n := by
  rw [planL]
  unfold planS nthO
  cases l[i]? with
  | none => rfl
  | some o =>
    match k with
    | 0 => rfl
    | 1 => rfl
    | k + 2 => simp only; cases dirty || D.contains i <;> rfl
def treeS (P : Program) (T : TE) (l : List Oper) (D : List Nat) (hS : Heap) (K : Env → Heap → Nat → Prop) (k i : Nat) (r : PlanT) (dirty : Bool) (o : Option Oper) (E : Env) (h : Heap) (n : Nat) : Prop := match o with
  | none => False
  | some o => match k with
    | 0 => stepA P T l o E Heap.emp n (treeQ P T l D hS K r dirty h n)
    | 1 => stepA P T l o E hS n (treeQ P T l D hS K r dirty h n)
    | _ => if dirty || D.contains i then stepA P T l o E h n (treeD P T l D hS K r) else stepA P T l o E h n (treeC P T l D hS K r)
theorem planT_S (i k : Nat) (r : PlanT) (hd dirty : Bool) : planT P T l D hS K (.op i k r) hd dirty E h n = treeS P T l D hS K k i r dirty (nthO l i) E h n := by
  rw [planT]
  unfold treeS nthO
  cases l[i]? with
  | none => rfl
  | some o =>
    match k with
    | 0 => rfl
    | 1 => rfl
    | k + 2 => simp only; cases dirty || D.contains i <;> rfl
theorem SD :
    (∀ (o : Oper) (l : List Oper) (i : Nat), nthO (o :: l) (i + 1) = nthO l i) ∧
    (∀ (o : Oper) (l : List Oper), nthO (o :: l) 0 = some o) ∧
    (∀ P T ops E h n K, opsA P T ops [] E h n K = K E h n) ∧
    (∀ P T ops d op ty p af l E h n K, opsA P T ops (⟨d, op, ty, p, af, none⟩ :: l) E h n K = opN P T op d (opsK P T ops l K) E h n) ∧
    (∀ P T ops d op ty p af j w l E h n K, opsA P T ops (⟨d, op, ty, p, af, some (j, w)⟩ :: l) E h n K = stepG P T (nthO ops j) op d w (opsK P T ops l K) E h n) ∧
    (∀ P T ops l K E h n, opsK P T ops l K E h n = opsA P T ops l E h n K) ∧
    (∀ P T l D hS K dirty E h n, planL P T l D hS K [] dirty E h n = K E h n) ∧
    (∀ P T l D hS K i k rest dirty E h n, planL P T l D hS K ((i, k) :: rest) dirty E h n = planS P T l D hS K k i rest dirty (nthO l i) E h n) ∧
    (∀ P T l D hS K rest dirty h0 n0 E h n, planQ P T l D hS K rest dirty h0 n0 E h n = planL P T l D hS K rest dirty E h0 n0) ∧
    (∀ P T l D hS K rest E h n, planD P T l D hS K rest E h n = planL P T l D hS K rest true E h n) ∧
    (∀ P T l D hS K rest E h n, planC P T l D hS K rest E h n = (hS.Sub h ∧ planL P T l D hS K rest false E h n)) ∧
    (∀ P T l D hS K dirty E h n, planT P T l D hS K .nil true dirty E h n = K E h n) ∧
    (∀ P T l D hS K i k r hd dirty E h n, planT P T l D hS K (.op i k r) hd dirty E h n = treeS P T l D hS K k i r dirty (nthO l i) E h n) ∧
    (∀ P T l D hS K i a r hd dirty E h n, planT P T l D hS K (.alt i a r) hd dirty E h n = planTW P T l D hS K (.alt i a r) hd dirty E h n) ∧
    (∀ P T l D hS K r dirty h0 n0 E h n, treeQ P T l D hS K r dirty h0 n0 E h n = planT P T l D hS K r true dirty E h0 n0) ∧
    (∀ P T l D hS K r E h n, treeD P T l D hS K r E h n = planT P T l D hS K r true true E h n) ∧
    (∀ P T l D hS K r E h n, treeC P T l D hS K r E h n = (hS.Sub h ∧ planT P T l D hS K r true false E h n)) ∧
    (∀ P T o l i op d w Kc E h n, stepG P T (nthO (o :: l) (i + 1)) op d w Kc E h n = stepG P T (nthO l i) op d w Kc E h n) ∧
    (∀ P T gd gop ty p af g l op d w Kc E h n, stepG P T (nthO (⟨some gd, gop, ty, p, af, g⟩ :: l) 0) op d w Kc E h n = (if bval (E.get gd) = some (some w) then opN P T op d Kc E h n else if bval (E.get gd) = none then False else Kc (E.put d (.tup [])) h n)) ∧
    (∀ P T gop ty p af g l op d w Kc E h n, stepG P T (nthO (⟨none, gop, ty, p, af, g⟩ :: l) 0) op d w Kc E h n = Kc (E.put d (.tup [])) h n) ∧
    (∀ next Q E h n, thenA next Q .normal E h n = next E h n) ∧
    (∀ next Q E h n i, thenA next Q (.exit i) E h n = Q (.exit i) E h n) ∧
    (∀ next Q E h n, thenA next Q .ret E h n = Q .ret E h n) ∧
    (∀ i j Q E h n, blockA i Q (.exit j) E h n = (if j = i then Q .normal else Q (.exit j)) E h n) ∧
    (∀ i Q E h n, blockA i Q .normal E h n = Q .normal E h n) ∧
    (∀ i Q E h n, blockA i Q .ret E h n = Q .ret E h n) := by
  repeat' apply And.intro
  all_goals intros
  all_goals first | rfl | exact stepA_none _ _ _ _ _ _ | exact stepA_some _ _ _ _ _ _ _ _ | exact planL_S _ _ _ _ | exact planT_S _ _ _ _ _ | (simp only [blockA]; rfl) | skip
  all_goals (unfold blockA; simp only; split <;> rfl)
def binK (T : TE) (op : BinOp) (t : TypeId) (x y : AV) (d : Option Tmp) (Kc : Env → Heap → Nat → Prop) (E : Env) (h : Heap) (n : Nat) : Prop := binP T op t x y (fun r => Kc (E.put d r) h n)
def unK (op : UnOp) (x : AV) (d : Option Tmp) (Kc : Env → Heap → Nat → Prop) (E : Env) (h : Heap) (n : Nat) : Prop := unP op x (fun r => Kc (E.put d r) h n)
def buildK (T : TE) (fs : List (Nat × TypeId)) (cells : List AV) (ps : List (Nat × Operand)) (d : Option Tmp) (Kc : Env → Heap → Nat → Prop) (E : Env) (h : Heap) (n : Nat) : Prop := buildP T fs cells (ev E) ps (fun cs => Kc (E.put d (.agg cs)) h n)
theorem opN_0 (P : Program) (T : TE) x (d : Option Tmp) (Kc : Env → Heap → Nat → Prop) (E : Env) (h : Heap) (n : Nat) : opN P T (.move x) d Kc E h n = Kc (E.put d (ev E x)) h n := (show opP T (.move x) (ev E) h n (fun r h' n' => Kc (E.put d r) h' n') = _ from e_move _)
theorem opN_1 (P : Program) (T : TE) x (d : Option Tmp) (Kc : Env → Heap → Nat → Prop) (E : Env) (h : Heap) (n : Nat) : opN P T (.assign x) d Kc E h n = Kc (E.put d (ev E x)) h n := (show opP T (.assign x) (ev E) h n (fun r h' n' => Kc (E.put d r) h' n') = _ from e_assign _)
theorem opN_2 (P : Program) (T : TE) t (d : Option Tmp) (Kc : Env → Heap → Nat → Prop) (E : Env) (h : Heap) (n : Nat) : opN P T (.alloc t) d Kc E h n = (0 < (T t).sz ∧ Kc (E.put d (.ep (T t).sz (.sl (T t).sz n 0 1 1 true) 0 0)) (h.upd n [(T t).zero]) (n + 1)) := (show opP T (.alloc t) (ev E) h n (fun r h' n' => Kc (E.put d r) h' n') = _ from e_alloc _)
theorem opN_3 (P : Program) (T : TE) t x (d : Option Tmp) (Kc : Env → Heap → Nat → Prop) (E : Env) (h : Heap) (n : Nat) : opN P T (.box t x) d Kc E h n = ((ev E x).good = true ∧ (ev E x).cells.length = (T t).sz ∧ 0 < (T t).sz ∧ Kc (E.put d (.ep (T t).sz (.sl (T t).sz n 0 1 1 true) 0 0)) (h.upd n [ev E x]) (n + 1)) := (show opP T (.box t x) (ev E) h n (fun r h' n' => Kc (E.put d r) h' n') = _ from e_box _ _)
theorem opN_4 (P : Program) (T : TE) op t x y f (d : Option Tmp) (Kc : Env → Heap → Nat → Prop) (E : Env) (h : Heap) (n : Nat) : opN P T (.binOp op t x y f) d Kc E h n = binK T op t (ev E x) (ev E y) d Kc E h n := (show opP T (.binOp op t x y f) (ev E) h n (fun r h' n' => Kc (E.put d r) h' n') = _ from e_binOp _ _ _ _ _)
theorem opN_5 (P : Program) (T : TE) op f x (d : Option Tmp) (Kc : Env → Heap → Nat → Prop) (E : Env) (h : Heap) (n : Nat) : opN P T (.unOp op f x) d Kc E h n = unK op (ev E x) d Kc E h n := (show opP T (.unOp op f x) (ev E) h n (fun r h' n' => Kc (E.put d r) h' n') = _ from e_unOp _ _ _)
theorem opN_6 (P : Program) (T : TE) x (d : Option Tmp) (Kc : Env → Heap → Nat → Prop) (E : Env) (h : Heap) (n : Nat) : opN P T (.nilCheck x) d Kc E h n = (match ev E x with | .ep sz a i off => Kc (E.put d (.ep sz a i off)) h n | .fn f c => Kc (E.put d (.fn f c)) h n | _ => False) := (show opP T (.nilCheck x) (ev E) h n (fun r h' n' => Kc (E.put d r) h' n') = _ from e_nilCheck _)
theorem opN_7 (P : Program) (T : TE) c a b (d : Option Tmp) (Kc : Env → Heap → Nat → Prop) (E : Env) (h : Heap) (n : Nat) : opN P T (.pick c a b) d Kc E h n = (match ev E c with | .bool t => Kc (E.put d (if t then ev E a else ev E b)) h n | _ => False) := (show opP T (.pick c a b) (ev E) h n (fun r h' n' => Kc (E.put d r) h' n') = _ from e_pick _ _ _)
theorem opN_8 (P : Program) (T : TE) t a (d : Option Tmp) (Kc : Env → Heap → Nat → Prop) (E : Env) (h : Heap) (n : Nat) : opN P T (.load t a) d Kc E h n = (match ev E a with | .ep sz s i off => (match rdSl h sz s with | some l => (match l[i]? with | some x => (match part T t off x with | some v => cellOk T t = true ∧ Kc (E.put d v) h n | none => False) | none => False) | none => False) | _ => False) := (show opP T (.load t a) (ev E) h n (fun r h' n' => Kc (E.put d r) h' n') = _ from e_load _ _)
theorem opN_9 (P : Program) (T : TE) t a x (d : Option Tmp) (Kc : Env → Heap → Nat → Prop) (E : Env) (h : Heap) (n : Nat) : opN P T (.store t a x) d Kc E h n = (match ev E a with | .ep sz (.sl sz' id o _ _ _) i off => (match h id with | some b => (match b[o + i]? with | some y => sz' = sz ∧ (ev E x).good = true ∧ (ev E x).cells.length = (T t).sz ∧ 0 < (T t).sz ∧ off + (T t).sz ≤ y.cells.length ∧ Kc (E.put d .undef) (h.upd id (b.set (o + i) (setPart y off (ev E x)))) n | none => False) | none => False) | _ => False) := (show opP T (.store t a x) (ev E) h n (fun r h' n' => Kc (E.put d r) h' n') = _ from e_store _ _ _)
theorem opN_10 (P : Program) (T : TE) s x f (d : Option Tmp) (Kc : Env → Heap → Nat → Prop) (E : Env) (h : Heap) (n : Nat) : opN P T (.fieldAddr s x f) d Kc E h n = (match ev E x with | .ep sz b i off => (match (T s).ty with | .struct fs => (match fs[f]? with | some p => 0 < (T p.2).sz ∧ Kc (E.put d (.ep sz b i (off + p.1))) h n | none => False) | _ => False) | _ => False) := (show opP T (.fieldAddr s x f) (ev E) h n (fun r h' n' => Kc (E.put d r) h' n') = _ from e_fieldAddr _ _ _)
theorem opN_11 (P : Program) (T : TE) t x f (d : Option Tmp) (Kc : Env → Heap → Nat → Prop) (E : Env) (h : Heap) (n : Nat) : opN P T (.field t x f) d Kc E h n = (match ev E x with | .agg cs => (match (T t).ty with | .struct fs => (match fs[f]? with | some p => (match part T p.2 p.1 (.agg cs) with | some v => cellOk T p.2 = true ∧ Kc (E.put d v) h n | none => False) | none => False) | _ => False) | _ => False) := (show opP T (.field t x f) (ev E) h n (fun r h' n' => Kc (E.put d r) h' n') = _ from e_field _ _ _)
theorem opN_12 (P : Program) (T : TE) t x ix (d : Option Tmp) (Kc : Env → Heap → Nat → Prop) (E : Env) (h : Heap) (n : Nat) : opN P T (.indexAddr t x ix) d Kc E h n = (match (T t).ty with | .slice el => (match ev E ix with | .int _ i => (match rdSl h (T el).sz (ev E x) with | some l => 0 < (T el).sz ∧ 0 ≤ i ∧ i < (l.length : Int) ∧ Kc (E.put d (.ep (T el).sz (ev E x) i.toNat 0)) h n | none => False) | _ => False) | _ => False) := (show opP T (.indexAddr t x ix) (ev E) h n (fun r h' n' => Kc (E.put d r) h' n') = _ from e_indexAddr _ _ _)
theorem opN_13 (P : Program) (T : TE) t x ix (d : Option Tmp) (Kc : Env → Heap → Nat → Prop) (E : Env) (h : Heap) (n : Nat) : opN P T (.index t x ix) d Kc E h n = (match ev E x, ev E ix with | .str s, .int _ i => (T t).ty = .str ∧ 0 ≤ i ∧ ∃ hi : i.toNat < s.size, Kc (E.put d (.int .u8 ((s[i.toNat]'hi).toNat : Int))) h n | _, _ => False) := (show opP T (.index t x ix) (ev E) h n (fun r h' n' => Kc (E.put d r) h' n') = _ from e_index _ _ _)
theorem opN_14 (P : Program) (T : TE) t ix (d : Option Tmp) (Kc : Env → Heap → Nat → Prop) (E : Env) (h : Heap) (n : Nat) : opN P T (.extract t ix) d Kc E h n = (match ev E t with | .tup vs => (match vs[ix]? with | some r => Kc (E.put d r) h n | none => False) | _ => False) := (show opP T (.extract t ix) (ev E) h n (fun r h' n' => Kc (E.put d r) h' n') = _ from e_extract _ _)
theorem opN_15 (P : Program) (T : TE) s t x (d : Option Tmp) (Kc : Env → Heap → Nat → Prop) (E : Env) (h : Heap) (n : Nat) : opN P T (.convert s t x) d Kc E h n = (match (T t).ty, ev E x with | .int k, .int _ m => (match (T s).ty with | .int _ => Kc (E.put d (.int k (k.wrap m))) h n | _ => False) | .str, v => (match (T s).ty with | .slice el => (T el).ty = .int .u8 ∧ ∃ ns, rdSl h 1 v = some (ns.map (AV.int .u8)) ∧ Kc (E.put d (.str (bytesStr ns))) h n | _ => False) | _, _ => False) := (show opP T (.convert s t x) (ev E) h n (fun r h' n' => Kc (E.put d r) h' n') = _ from e_convert _ _ _)
theorem opN_16 (P : Program) (T : TE) t l c (d : Option Tmp) (Kc : Env → Heap → Nat → Prop) (E : Env) (h : Heap) (n : Nat) : opN P T (.makeSlice t l c) d Kc E h n = (match (T t).ty with | .slice el => (match ev E l, ev E c with | .int _ a, .int _ b => 0 < (T el).sz ∧ 0 ≤ a ∧ a ≤ b ∧ ((T el).bytes : Int) * b ≤ 140737488355328 ∧ b ≤ 140737488355328 ∧ Kc (E.put d (.sl (T el).sz n 0 a.toNat b.toNat true)) (h.upd n (List.replicate b.toNat (T el).zero)) (n + 1) | _, _ => False) | _ => False) := (show opP T (.makeSlice t l c) (ev E) h n (fun r h' n' => Kc (E.put d r) h' n') = _ from e_makeSlice _ _ _)
theorem opN_17 (P : Program) (T : TE) t ps (d : Option Tmp) (Kc : Env → Heap → Nat → Prop) (E : Env) (h : Heap) (n : Nat) : opN P T (.build t ps) d Kc E h n = (match (T t).ty with | .struct fs => 0 < (T t).sz ∧ fs.all (fun p => decide (0 < (T p.2).sz)) = true ∧ buildK T fs (T t).zero.cells ps.toList d Kc E h n | _ => False) := (show opP T (.build t ps) (ev E) h n (fun r h' n' => Kc (E.put d r) h' n') = _ from e_build _ _)
theorem opN_18 (P : Program) (T : TE) f cap (d : Option Tmp) (Kc : Env → Heap → Nat → Prop) (E : Env) (h : Heap) (n : Nat) : opN P T (.makeFunc (.func f) #[] cap) d Kc E h n = Kc (E.put d (.fn f (cap.toList.map (ev E)))) h n := (show opP T (.makeFunc (.func f) #[] cap) (ev E) h n (fun r h' n' => Kc (E.put d r) h' n') = _ from e_makeFunc _ _)
theorem opN_19 (P : Program) (T : TE) t x (d : Option Tmp) (Kc : Env → Heap → Nat → Prop) (E : Env) (h : Heap) (n : Nat) : opN P T (.call { callee := .builtin .len, args := #[x], argTypes := #[t] }) d Kc E h n = (match (T t).ty with | .str => (match ev E x with | .str s => Kc (E.put d (.int .i64 s.size)) h n | _ => False) | .slice el => (match rdSl h (T el).sz (ev E x) with | some l => Kc (E.put d (.int .i64 l.length)) h n | none => False) | _ => False) := (show opP T (.call { callee := .builtin .len, args := #[x], argTypes := #[t] }) (ev E) h n (fun r h' n' => Kc (E.put d r) h' n') = _ from e_len1 _ _)
theorem opN_20 (P : Program) (T : TE) t t' x y (d : Option Tmp) (Kc : Env → Heap → Nat → Prop) (E : Env) (h : Heap) (n : Nat) : opN P T (.call { callee := .builtin .min, args := #[x, y], argTypes := #[t, t'] }) d Kc E h n = (match ev E x, ev E y with | .int k a, .int k' b => k = k' ∧ Kc (E.put d (.int k (if b < a then b else a))) h n | _, _ => False) := (show opP T (.call { callee := .builtin .min, args := #[x, y], argTypes := #[t, t'] }) (ev E) h n (fun r h' n' => Kc (E.put d r) h' n') = _ from e_min1 _ _ _ _)
theorem opN_21 (P : Program) (T : TE) t t' x y (d : Option Tmp) (Kc : Env → Heap → Nat → Prop) (E : Env) (h : Heap) (n : Nat) : opN P T (.call { callee := .builtin .max, args := #[x, y], argTypes := #[t, t'] }) d Kc E h n = (match ev E x, ev E y with | .int k a, .int k' b => k = k' ∧ Kc (E.put d (.int k (if a < b then b else a))) h n | _, _ => False) := (show opP T (.call { callee := .builtin .max, args := #[x, y], argTypes := #[t, t'] }) (ev E) h n (fun r h' n' => Kc (E.put d r) h' n') = _ from e_max1 _ _ _ _)
theorem opN_22 (P : Program) (T : TE) t t' x y (d : Option Tmp) (Kc : Env → Heap → Nat → Prop) (E : Env) (h : Heap) (n : Nat) : opN P T (.call { callee := .builtin .append, args := #[x, y], argTypes := #[t, t'] }) d Kc E h n = (t = t' ∧ ∃ el, (T t).ty = .slice el ∧ appendP T el (ev E x) (ev E y) h n (fun r h' n' => sealK Kc (E.put d r) h' n')) := (show opP T (.call { callee := .builtin .append, args := #[x, y], argTypes := #[t, t'] }) (ev E) h n (fun r h' n' => Kc (E.put d r) h' n') = _ from e_append1 _ _ _ _)
theorem opN_23 (P : Program) (T : TE) f aa ts (d : Option Tmp) (Kc : Env → Heap → Nat → Prop) (E : Env) (h : Heap) (n : Nat) : opN P T (.call { callee := .value f, args := aa, argTypes := ts }) d Kc E h n = (match ev E f with | .fn g cap => CA P g (aa.toList.map (ev E) ++ cap) h n (fun r h' n' => sealK Kc (E.put d r) h' n') | _ => False) := rfl
theorem opN_24 (P : Program) (T : TE) t x lo hi mx (d : Option Tmp) (Kc : Env → Heap → Nat → Prop) (E : Env) (h : Heap) (n : Nat) : opN P T (.slice t x lo hi mx) d Kc E h n = opP T (.slice t x lo hi mx) (ev E) h n (fun r h' n' => sealK Kc (E.put d r) h' n') := rfl
theorem opN_25 (P : Program) (T : TE) t (d : Option Tmp) (Kc : Env → Heap → Nat → Prop) (E : Env) (h : Heap) (n : Nat) : opN P T (.buildSlice t 0 #[]) d Kc E h n = (match (T t).ty with | .slice el => 0 < (T el).sz ∧ Kc (E.put d (.sl (T el).sz n 0 0 0 true)) (h.upd n []) (n + 1) | _ => False) := (show opP T (.buildSlice t 0 #[]) (ev E) h n (fun r h' n' => Kc (E.put d r) h' n') = _ from e_bs0 _)
theorem opN_26 (P : Program) (T : TE) t x0 (d : Option Tmp) (Kc : Env → Heap → Nat → Prop) (E : Env) (h : Heap) (n : Nat) : opN P T (.buildSlice t 1 #[(0, x0)]) d Kc E h n = (match (T t).ty with | .slice el => 0 < (T el).sz ∧ 1 * (T el).sz ≤ 16777216 ∧ ((ev E x0).cells.length = (T el).sz ∧ (ev E x0).good = true) ∧ Kc (E.put d (.sl (T el).sz n 0 1 1 true)) (h.upd n [ev E x0]) (n + 1) | _ => False) := (show opP T (.buildSlice t 1 #[(0, x0)]) (ev E) h n (fun r h' n' => Kc (E.put d r) h' n') = _ from e_bl1 _ _)
theorem opN_27 (P : Program) (T : TE) t x0 x1 (d : Option Tmp) (Kc : Env → Heap → Nat → Prop) (E : Env) (h : Heap) (n : Nat) : opN P T (.buildSlice t 2 #[(0, x0), (1, x1)]) d Kc E h n = (match (T t).ty with | .slice el => 0 < (T el).sz ∧ 2 * (T el).sz ≤ 16777216 ∧ ((ev E x0).cells.length = (T el).sz ∧ (ev E x0).good = true) ∧ ((ev E x1).cells.length = (T el).sz ∧ (ev E x1).good = true) ∧ Kc (E.put d (.sl (T el).sz n 0 2 2 true)) (h.upd n [ev E x0, ev E x1]) (n + 1) | _ => False) := (show opP T (.buildSlice t 2 #[(0, x0), (1, x1)]) (ev E) h n (fun r h' n' => Kc (E.put d r) h' n') = _ from e_bl2 _ _ _)
theorem opN_28 (P : Program) (T : TE) t x0 x1 x2 (d : Option Tmp) (Kc : Env → Heap → Nat → Prop) (E : Env) (h : Heap) (n : Nat) : opN P T (.buildSlice t 3 #[(0, x0), (1, x1), (2, x2)]) d Kc E h n = (match (T t).ty with | .slice el => 0 < (T el).sz ∧ 3 * (T el).sz ≤ 16777216 ∧ ((ev E x0).cells.length = (T el).sz ∧ (ev E x0).good = true) ∧ ((ev E x1).cells.length = (T el).sz ∧ (ev E x1).good = true) ∧ ((ev E x2).cells.length = (T el).sz ∧ (ev E x2).good = true) ∧ Kc (E.put d (.sl (T el).sz n 0 3 3 true)) (h.upd n [ev E x0, ev E x1, ev E x2]) (n + 1) | _ => False) := (show opP T (.buildSlice t 3 #[(0, x0), (1, x1), (2, x2)]) (ev E) h n (fun r h' n' => Kc (E.put d r) h' n') = _ from e_bl3 _ _ _ _)
theorem opN_29 (P : Program) (T : TE) t x0 x1 x2 x3 (d : Option Tmp) (Kc : Env → Heap → Nat → Prop) (E : Env) (h : Heap) (n : Nat) : opN P T (.buildSlice t 4 #[(0, x0), (1, x1), (2, x2), (3, x3)]) d Kc E h n = (match (T t).ty with | .slice el => 0 < (T el).sz ∧ 4 * (T el).sz ≤ 16777216 ∧ ((ev E x0).cells.length = (T el).sz ∧ (ev E x0).good = true) ∧ ((ev E x1).cells.length = (T el).sz ∧ (ev E x1).good = true) ∧ ((ev E x2).cells.length = (T el).sz ∧ (ev E x2).good = true) ∧ ((ev E x3).cells.length = (T el).sz ∧ (ev E x3).good = true) ∧ Kc (E.put d (.sl (T el).sz n 0 4 4 true)) (h.upd n [ev E x0, ev E x1, ev E x2, ev E x3]) (n + 1) | _ => False) := (show opP T (.buildSlice t 4 #[(0, x0), (1, x1), (2, x2), (3, x3)]) (ev E) h n (fun r h' n' => Kc (E.put d r) h' n') = _ from e_bl4 _ _ _ _ _)
theorem opN_30 (P : Program) (T : TE) t x0 x1 x2 x3 x4 (d : Option Tmp) (Kc : Env → Heap → Nat → Prop) (E : Env) (h : Heap) (n : Nat) : opN P T (.buildSlice t 5 #[(0, x0), (1, x1), (2, x2), (3, x3), (4, x4)]) d Kc E h n = (match (T t).ty with | .slice el => 0 < (T el).sz ∧ 5 * (T el).sz ≤ 16777216 ∧ ((ev E x0).cells.length = (T el).sz ∧ (ev E x0).good = true) ∧ ((ev E x1).cells.length = (T el).sz ∧ (ev E x1).good = true) ∧ ((ev E x2).cells.length = (T el).sz ∧ (ev E x2).good = true) ∧ ((ev E x3).cells.length = (T el).sz ∧ (ev E x3).good = true) ∧ ((ev E x4).cells.length = (T el).sz ∧ (ev E x4).good = true) ∧ Kc (E.put d (.sl (T el).sz n 0 5 5 true)) (h.upd n [ev E x0, ev E x1, ev E x2, ev E x3, ev E x4]) (n + 1) | _ => False) := (show opP T (.buildSlice t 5 #[(0, x0), (1, x1), (2, x2), (3, x3), (4, x4)]) (ev E) h n (fun r h' n' => Kc (E.put d r) h' n') = _ from e_bl5 _ _ _ _ _ _)
theorem opN_31 (P : Program) (T : TE) b xs ts (hb : b = .copy ∨ b = .clear ∨ b = .cap) (d : Option Tmp) (Kc : Env → Heap → Nat → Prop) (E : Env) (h : Heap) (n : Nat) : opN P T (.call { callee := .builtin b, args := xs, argTypes := ts }) d Kc E h n = builtinP T b ts.toList (xs.toList.map (ev E)) h n (fun r h' n' => sealK Kc (E.put d r) h' n') := rfl
theorem SN :
    (∀ P T x d Kc E h n, opN P T (.move x) d Kc E h n = Kc (E.put d (ev E x)) h n) ∧
    (∀ P T x d Kc E h n, opN P T (.assign x) d Kc E h n = Kc (E.put d (ev E x)) h n) ∧
    (∀ P T t d Kc E h n, opN P T (.alloc t) d Kc E h n = (0 < (T t).sz ∧ Kc (E.put d (.ep (T t).sz (.sl (T t).sz n 0 1 1 true) 0 0)) (h.upd n [(T t).zero]) (n + 1))) ∧
    (∀ P T t x d Kc E h n, opN P T (.box t x) d Kc E h n = ((ev E x).good = true ∧ (ev E x).cells.length = (T t).sz ∧ 0 < (T t).sz ∧ Kc (E.put d (.ep (T t).sz (.sl (T t).sz n 0 1 1 true) 0 0)) (h.upd n [ev E x]) (n + 1))) ∧
    (∀ P T op t x y f d Kc E h n, opN P T (.binOp op t x y f) d Kc E h n = binK T op t (ev E x) (ev E y) d Kc E h n) ∧
    (∀ P T op f x d Kc E h n, opN P T (.unOp op f x) d Kc E h n = unK op (ev E x) d Kc E h n) ∧
    (∀ P T x d Kc E h n, opN P T (.nilCheck x) d Kc E h n = (match ev E x with | .ep sz a i off => Kc (E.put d (.ep sz a i off)) h n | .fn f c => Kc (E.put d (.fn f c)) h n | _ => False)) ∧
    (∀ P T c a b d Kc E h n, opN P T (.pick c a b) d Kc E h n = (match ev E c with | .bool t => Kc (E.put d (if t then ev E a else ev E b)) h n | _ => False)) ∧
    (∀ P T t a d Kc E h n, opN P T (.load t a) d Kc E h n = (match ev E a with | .ep sz s i off => (match rdSl h sz s with | some l => (match l[i]? with | some x => (match part T t off x with | some v => cellOk T t = true ∧ Kc (E.put d v) h n | none => False) | none => False) | none => False) | _ => False)) ∧
    (∀ P T t a x d Kc E h n, opN P T (.store t a x) d Kc E h n = (match ev E a with | .ep sz (.sl sz' id o _ _ _) i off => (match h id with | some b => (match b[o + i]? with | some y => sz' = sz ∧ (ev E x).good = true ∧ (ev E x).cells.length = (T t).sz ∧ 0 < (T t).sz ∧ off + (T t).sz ≤ y.cells.length ∧ Kc (E.put d .undef) (h.upd id (b.set (o + i) (setPart y off (ev E x)))) n | none => False) | none => False) | _ => False)) ∧
    (∀ P T s x f d Kc E h n, opN P T (.fieldAddr s x f) d Kc E h n = (match ev E x with | .ep sz b i off => (match (T s).ty with | .struct fs => (match fs[f]? with | some p => 0 < (T p.2).sz ∧ Kc (E.put d (.ep sz b i (off + p.1))) h n | none => False) | _ => False) | _ => False)) ∧
    (∀ P T t x f d Kc E h n, opN P T (.field t x f) d Kc E h n = (match ev E x with | .agg cs => (match (T t).ty with | .struct fs => (match fs[f]? with | some p => (match part T p.2 p.1 (.agg cs) with | some v => cellOk T p.2 = true ∧ Kc (E.put d v) h n | none => False) | none => False) | _ => False) | _ => False)) ∧
    (∀ P T t x ix d Kc E h n, opN P T (.indexAddr t x ix) d Kc E h n = (match (T t).ty with | .slice el => (match ev E ix with | .int _ i => (match rdSl h (T el).sz (ev E x) with | some l => 0 < (T el).sz ∧ 0 ≤ i ∧ i < (l.length : Int) ∧ Kc (E.put d (.ep (T el).sz (ev E x) i.toNat 0)) h n | none => False) | _ => False) | _ => False)) ∧
    (∀ P T t x ix d Kc E h n, opN P T (.index t x ix) d Kc E h n = (match ev E x, ev E ix with | .str s, .int _ i => (T t).ty = .str ∧ 0 ≤ i ∧ ∃ hi : i.toNat < s.size, Kc (E.put d (.int .u8 ((s[i.toNat]'hi).toNat : Int))) h n | _, _ => False)) ∧
    (∀ P T t ix d Kc E h n, opN P T (.extract t ix) d Kc E h n = (match ev E t with | .tup vs => (match vs[ix]? with | some r => Kc (E.put d r) h n | none => False) | _ => False)) ∧
    (∀ P T s t x d Kc E h n, opN P T (.convert s t x) d Kc E h n = (match (T t).ty, ev E x with | .int k, .int _ m => (match (T s).ty with | .int _ => Kc (E.put d (.int k (k.wrap m))) h n | _ => False) | .str, v => (match (T s).ty with | .slice el => (T el).ty = .int .u8 ∧ ∃ ns, rdSl h 1 v = some (ns.map (AV.int .u8)) ∧ Kc (E.put d (.str (bytesStr ns))) h n | _ => False) | _, _ => False)) ∧
    (∀ P T t l c d Kc E h n, opN P T (.makeSlice t l c) d Kc E h n = (match (T t).ty with | .slice el => (match ev E l, ev E c with | .int _ a, .int _ b => 0 < (T el).sz ∧ 0 ≤ a ∧ a ≤ b ∧ ((T el).bytes : Int) * b ≤ 140737488355328 ∧ b ≤ 140737488355328 ∧ Kc (E.put d (.sl (T el).sz n 0 a.toNat b.toNat true)) (h.upd n (List.replicate b.toNat (T el).zero)) (n + 1) | _, _ => False) | _ => False)) ∧
    (∀ P T t ps d Kc E h n, opN P T (.build t ps) d Kc E h n = (match (T t).ty with | .struct fs => 0 < (T t).sz ∧ fs.all (fun p => decide (0 < (T p.2).sz)) = true ∧ buildK T fs (T t).zero.cells ps.toList d Kc E h n | _ => False)) ∧
    (∀ P T f cap d Kc E h n, opN P T (.makeFunc (.func f) #[] cap) d Kc E h n = Kc (E.put d (.fn f (cap.toList.map (ev E)))) h n) ∧
    (∀ P T t x d Kc E h n, opN P T (.call { callee := .builtin .len, args := #[x], argTypes := #[t] }) d Kc E h n = (match (T t).ty with | .str => (match ev E x with | .str s => Kc (E.put d (.int .i64 s.size)) h n | _ => False) | .slice el => (match rdSl h (T el).sz (ev E x) with | some l => Kc (E.put d (.int .i64 l.length)) h n | none => False) | _ => False)) ∧
    (∀ P T t t' x y d Kc E h n, opN P T (.call { callee := .builtin .min, args := #[x, y], argTypes := #[t, t'] }) d Kc E h n = (match ev E x, ev E y with | .int k a, .int k' b => k = k' ∧ Kc (E.put d (.int k (if b < a then b else a))) h n | _, _ => False)) ∧
    (∀ P T t t' x y d Kc E h n, opN P T (.call { callee := .builtin .max, args := #[x, y], argTypes := #[t, t'] }) d Kc E h n = (match ev E x, ev E y with | .int k a, .int k' b => k = k' ∧ Kc (E.put d (.int k (if a < b then b else a))) h n | _, _ => False)) ∧
    (∀ P T t t' x y d Kc E h n, opN P T (.call { callee := .builtin .append, args := #[x, y], argTypes := #[t, t'] }) d Kc E h n = (t = t' ∧ ∃ el, (T t).ty = .slice el ∧ appendP T el (ev E x) (ev E y) h n (fun r h' n' => sealK Kc (E.put d r) h' n'))) ∧
    (∀ P T f aa ts d Kc E h n, opN P T (.call { callee := .value f, args := aa, argTypes := ts }) d Kc E h n = (match ev E f with | .fn g cap => CA P g (aa.toList.map (ev E) ++ cap) h n (fun r h' n' => sealK Kc (E.put d r) h' n') | _ => False)) ∧
    (∀ P T t x lo hi mx d Kc E h n, opN P T (.slice t x lo hi mx) d Kc E h n = opP T (.slice t x lo hi mx) (ev E) h n (fun r h' n' => sealK Kc (E.put d r) h' n')) ∧
    (∀ P T t d Kc E h n, opN P T (.buildSlice t 0 #[]) d Kc E h n = (match (T t).ty with | .slice el => 0 < (T el).sz ∧ Kc (E.put d (.sl (T el).sz n 0 0 0 true)) (h.upd n []) (n + 1) | _ => False)) ∧
    (∀ P T t x0 d Kc E h n, opN P T (.buildSlice t 1 #[(0, x0)]) d Kc E h n = (match (T t).ty with | .slice el => 0 < (T el).sz ∧ 1 * (T el).sz ≤ 16777216 ∧ ((ev E x0).cells.length = (T el).sz ∧ (ev E x0).good = true) ∧ Kc (E.put d (.sl (T el).sz n 0 1 1 true)) (h.upd n [ev E x0]) (n + 1) | _ => False)) ∧
    (∀ P T t x0 x1 d Kc E h n, opN P T (.buildSlice t 2 #[(0, x0), (1, x1)]) d Kc E h n = (match (T t).ty with | .slice el => 0 < (T el).sz ∧ 2 * (T el).sz ≤ 16777216 ∧ ((ev E x0).cells.length = (T el).sz ∧ (ev E x0).good = true) ∧ ((ev E x1).cells.length = (T el).sz ∧ (ev E x1).good = true) ∧ Kc (E.put d (.sl (T el).sz n 0 2 2 true)) (h.upd n [ev E x0, ev E x1]) (n + 1) | _ => False)) ∧
    (∀ P T t x0 x1 x2 d Kc E h n, opN P T (.buildSlice t 3 #[(0, x0), (1, x1), (2, x2)]) d Kc E h n = (match (T t).ty with | .slice el => 0 < (T el).sz ∧ 3 * (T el).sz ≤ 16777216 ∧ ((ev E x0).cells.length = (T el).sz ∧ (ev E x0).good = true) ∧ ((ev E x1).cells.length = (T el).sz ∧ (ev E x1).good = true) ∧ ((ev E x2).cells.length = (T el).sz ∧ (ev E x2).good = true) ∧ Kc (E.put d (.sl (T el).sz n 0 3 3 true)) (h.upd n [ev E x0, ev E x1, ev E x2]) (n + 1) | _ => False)) ∧
    (∀ P T t x0 x1 x2 x3 d Kc E h n, opN P T (.buildSlice t 4 #[(0, x0), (1, x1), (2, x2), (3, x3)]) d Kc E h n = (match (T t).ty with | .slice el => 0 < (T el).sz ∧ 4 * (T el).sz ≤ 16777216 ∧ ((ev E x0).cells.length = (T el).sz ∧ (ev E x0).good = true) ∧ ((ev E x1).cells.length = (T el).sz ∧ (ev E x1).good = true) ∧ ((ev E x2).cells.length = (T el).sz ∧ (ev E x2).good = true) ∧ ((ev E x3).cells.length = (T el).sz ∧ (ev E x3).good = true) ∧ Kc (E.put d (.sl (T el).sz n 0 4 4 true)) (h.upd n [ev E x0, ev E x1, ev E x2, ev E x3]) (n + 1) | _ => False)) ∧
    (∀ P T t x0 x1 x2 x3 x4 d Kc E h n, opN P T (.buildSlice t 5 #[(0, x0), (1, x1), (2, x2), (3, x3), (4, x4)]) d Kc E h n = (match (T t).ty with | .slice el => 0 < (T el).sz ∧ 5 * (T el).sz ≤ 16777216 ∧ ((ev E x0).cells.length = (T el).sz ∧ (ev E x0).good = true) ∧ ((ev E x1).cells.length = (T el).sz ∧ (ev E x1).good = true) ∧ ((ev E x2).cells.length = (T el).sz ∧ (ev E x2).good = true) ∧ ((ev E x3).cells.length = (T el).sz ∧ (ev E x3).good = true) ∧ ((ev E x4).cells.length = (T el).sz ∧ (ev E x4).good = true) ∧ Kc (E.put d (.sl (T el).sz n 0 5 5 true)) (h.upd n [ev E x0, ev E x1, ev E x2, ev E x3, ev E x4]) (n + 1) | _ => False)) ∧
    (∀ P T xs ts d Kc E h n, opN P T (.call { callee := .builtin .copy, args := xs, argTypes := ts }) d Kc E h n = builtinP T .copy ts.toList (xs.toList.map (ev E)) h n (fun r h' n' => sealK Kc (E.put d r) h' n')) ∧
    (∀ P T xs ts d Kc E h n, opN P T (.call { callee := .builtin .clear, args := xs, argTypes := ts }) d Kc E h n = builtinP T .clear ts.toList (xs.toList.map (ev E)) h n (fun r h' n' => sealK Kc (E.put d r) h' n')) ∧
    (∀ P T xs ts d Kc E h n, opN P T (.call { callee := .builtin .cap, args := xs, argTypes := ts }) d Kc E h n = builtinP T .cap ts.toList (xs.toList.map (ev E)) h n (fun r h' n' => sealK Kc (E.put d r) h' n')) :=
  ⟨opN_0, opN_1, opN_2, opN_3, opN_4, opN_5, opN_6, opN_7, opN_8, opN_9, opN_10, opN_11, opN_12, opN_13, opN_14, opN_15, opN_16, opN_17, opN_18, opN_19, opN_20, opN_21, opN_22, opN_23, opN_24, opN_25, opN_26, opN_27, opN_28, opN_29, opN_30, fun P T xs ts => opN_31 P T _ xs ts (.inl rfl), fun P T xs ts => opN_31 P T _ xs ts (.inr (.inl rfl)), fun P T xs ts => opN_31 P T _ xs ts (.inr (.inr rfl))⟩
theorem SU :
    (∀ E t, ev E (.tmp t) = E.get t) ∧ (∀ E v, ev E (.const v) = ofVal v) ∧ (∀ E f, ev E (.func f) = .fn f []) ∧ (∀ b, ofVal (.bool b) = .bool b) ∧ (∀ k m, ofVal (.int k m) = .int k m) ∧ (∀ s, ofVal (.string s) = .str s) ∧ (ofVal (.slice none 0 0) = .nils) ∧ (ofVal (.pointer none) = .nilp) ∧ (ofVal .nilFunc = .nilf) ∧
    (∀ (E : Env) d v t, (E.put (some d) v).get t = if d = t then v else E.get t) ∧ (∀ (E : Env) v, E.put none v = E) ∧ (∀ l t, (envOf l).get t = (l[t]?).getD .undef) ∧
    (∀ d op ty p af g E, gval (some ⟨some d, op, ty, p, af, g⟩) E = bval (E.get d)) ∧ (∀ op ty p af g E, gval (some ⟨none, op, ty, p, af, g⟩) E = some none) ∧ (∀ b, bval (.bool b) = some (some b)) ∧ (∀ k m, bval (.int k m) = some none) ∧ (∀ l, bval (.tup l) = some none) ∧
    (∀ P T l D hS K i rest dirty d op ty p af g E h n, planS P T l D hS K 0 i rest dirty (some ⟨d, op, ty, p, af, g⟩) E h n = stepA P T l ⟨d, op, ty, p, af, g⟩ E Heap.emp n (planQ P T l D hS K rest dirty h n)) :=
  ⟨fun _ _ => rfl, fun _ _ => rfl, fun _ _ => rfl, fun _ => rfl, fun _ _ => rfl, fun _ => rfl, rfl, rfl, rfl, fun _ _ _ _ => rfl, fun _ _ => rfl, fun _ _ => rfl, fun _ _ _ _ _ _ _ => rfl, fun _ _ _ _ _ _ => rfl, fun _ => rfl, fun _ _ => rfl, fun _ => rfl, fun _ _ _ _ _ _ _ _ _ _ _ _ _ _ _ _ _ _ => rfl⟩
theorem bk_0 (T : TE) (t : TypeId) (k : IntKind) (a b : Int) (d : Option Tmp) (Kc : Env → Heap → Nat → Prop) (E : Env) (h : Heap) (n : Nat) : binK T .add t (.int k a) (.int k b) d Kc E h n = Kc (E.put d (.int k (k.wrap (a + b)))) h n := b_add _ _ _ _
theorem bk_1 (T : TE) (t : TypeId) (k : IntKind) (a b : Int) (d : Option Tmp) (Kc : Env → Heap → Nat → Prop) (E : Env) (h : Heap) (n : Nat) : binK T .sub t (.int k a) (.int k b) d Kc E h n = Kc (E.put d (.int k (k.wrap (a - b)))) h n := b_sub _ _ _ _
theorem bk_2 (T : TE) (t : TypeId) (k : IntKind) (a b : Int) (d : Option Tmp) (Kc : Env → Heap → Nat → Prop) (E : Env) (h : Heap) (n : Nat) : binK T .mul t (.int k a) (.int k b) d Kc E h n = Kc (E.put d (.int k (k.wrap (a * b)))) h n := b_mul _ _ _ _
theorem bk_3 (T : TE) (t : TypeId) (k : IntKind) (a b : Int) (d : Option Tmp) (Kc : Env → Heap → Nat → Prop) (E : Env) (h : Heap) (n : Nat) : binK T .eql t (.int k a) (.int k b) d Kc E h n = Kc (E.put d (.bool (decide (a = b)))) h n := b_eql _ _ _ _
theorem bk_4 (T : TE) (t : TypeId) (k : IntKind) (a b : Int) (d : Option Tmp) (Kc : Env → Heap → Nat → Prop) (E : Env) (h : Heap) (n : Nat) : binK T .neq t (.int k a) (.int k b) d Kc E h n = Kc (E.put d (.bool (decide (a ≠ b)))) h n := b_neq _ _ _ _
theorem bk_5 (T : TE) (t : TypeId) (k : IntKind) (a b : Int) (d : Option Tmp) (Kc : Env → Heap → Nat → Prop) (E : Env) (h : Heap) (n : Nat) : binK T .lss t (.int k a) (.int k b) d Kc E h n = Kc (E.put d (.bool (decide (a < b)))) h n := b_lss _ _ _ _
theorem bk_6 (T : TE) (t : TypeId) (k : IntKind) (a b : Int) (d : Option Tmp) (Kc : Env → Heap → Nat → Prop) (E : Env) (h : Heap) (n : Nat) : binK T .leq t (.int k a) (.int k b) d Kc E h n = Kc (E.put d (.bool (decide (a ≤ b)))) h n := b_leq _ _ _ _
theorem bk_7 (T : TE) (t : TypeId) (k : IntKind) (a b : Int) (d : Option Tmp) (Kc : Env → Heap → Nat → Prop) (E : Env) (h : Heap) (n : Nat) : binK T .gtr t (.int k a) (.int k b) d Kc E h n = Kc (E.put d (.bool (decide (b < a)))) h n := b_gtr _ _ _ _
theorem bk_8 (T : TE) (t : TypeId) (k : IntKind) (a b : Int) (d : Option Tmp) (Kc : Env → Heap → Nat → Prop) (E : Env) (h : Heap) (n : Nat) : binK T .geq t (.int k a) (.int k b) d Kc E h n = Kc (E.put d (.bool (decide (b ≤ a)))) h n := b_geq _ _ _ _
theorem bk_9 (T : TE) (t : TypeId) (k : IntKind) (a b : Int) (d : Option Tmp) (Kc : Env → Heap → Nat → Prop) (E : Env) (h : Heap) (n : Nat) : binK T .and t (.int k a) (.int k b) d Kc E h n = Kc (E.put d (.int k (bitA .and k a b))) h n := b_and _ _ _ _
theorem bk_10 (T : TE) (t : TypeId) (k : IntKind) (a b : Int) (d : Option Tmp) (Kc : Env → Heap → Nat → Prop) (E : Env) (h : Heap) (n : Nat) : binK T .or t (.int k a) (.int k b) d Kc E h n = Kc (E.put d (.int k (bitA .or k a b))) h n := b_or _ _ _ _
theorem bk_11 (T : TE) (t : TypeId) (k : IntKind) (a b : Int) (d : Option Tmp) (Kc : Env → Heap → Nat → Prop) (E : Env) (h : Heap) (n : Nat) : binK T .quo t (.int k a) (.int k b) d Kc E h n = (b ≠ 0 ∧ Kc (E.put d (.int k (k.wrap (a.tdiv b)))) h n) := b_quo _ _ _ _
theorem bk_12 (T : TE) (t : TypeId) (k : IntKind) (a b : Int) (d : Option Tmp) (Kc : Env → Heap → Nat → Prop) (E : Env) (h : Heap) (n : Nat) : binK T .rem t (.int k a) (.int k b) d Kc E h n = (b ≠ 0 ∧ Kc (E.put d (.int k (a.tmod b))) h n) := b_rem _ _ _ _
theorem bk_13 (T : TE) (t : TypeId) (k k2 : IntKind) (a b : Int) (d : Option Tmp) (Kc : Env → Heap → Nat → Prop) (E : Env) (h : Heap) (n : Nat) : binK T .shl t (.int k a) (.int k2 b) d Kc E h n = (0 ≤ b ∧ Kc (E.put d (.int k (k.wrap (a * 2 ^ (min b.toNat k.bits))))) h n) := b_shl _ _ _ _ _
theorem bk_14 (T : TE) (t : TypeId) (k k2 : IntKind) (a b : Int) (d : Option Tmp) (Kc : Env → Heap → Nat → Prop) (E : Env) (h : Heap) (n : Nat) : binK T .shr t (.int k a) (.int k2 b) d Kc E h n = (0 ≤ b ∧ Kc (E.put d (.int k (a.fdiv (2 ^ (min b.toNat k.bits))))) h n) := b_shr _ _ _ _ _
theorem bk_15 (T : TE) (t : TypeId) (a b : ByteArray) (d : Option Tmp) (Kc : Env → Heap → Nat → Prop) (E : Env) (h : Heap) (n : Nat) : binK T .eql t (.str a) (.str b) d Kc E h n = Kc (E.put d (.bool (decide (a = b)))) h n := rfl
theorem bk_16 (T : TE) (t : TypeId) (a b : ByteArray) (d : Option Tmp) (Kc : Env → Heap → Nat → Prop) (E : Env) (h : Heap) (n : Nat) : binK T .neq t (.str a) (.str b) d Kc E h n = Kc (E.put d (.bool (decide (a ≠ b)))) h n := rfl
theorem bk_17 (T : TE) (t : TypeId) (a b : ByteArray) (d : Option Tmp) (Kc : Env → Heap → Nat → Prop) (E : Env) (h : Heap) (n : Nat) : binK T .add t (.str a) (.str b) d Kc E h n = (a.size + b.size ≤ maxLen ∧ Kc (E.put d (.str (a ++ b))) h n) := rfl
theorem bk_18 (T : TE) (t : TypeId) (a b : Bool) (d : Option Tmp) (Kc : Env → Heap → Nat → Prop) (E : Env) (h : Heap) (n : Nat) : binK T .eql t (.bool a) (.bool b) d Kc E h n = ((T t).ty = .bool ∧ Kc (E.put d (.bool (a == b))) h n) := rfl
theorem bk_19 (T : TE) (t : TypeId) (a b : Bool) (d : Option Tmp) (Kc : Env → Heap → Nat → Prop) (E : Env) (h : Heap) (n : Nat) : binK T .neq t (.bool a) (.bool b) d Kc E h n = ((T t).ty = .bool ∧ Kc (E.put d (.bool (!(a == b)))) h n) := rfl
theorem uk_0 (b : Bool) (d : Option Tmp) (Kc : Env → Heap → Nat → Prop) (E : Env) (h : Heap) (n : Nat) : unK .not (.bool b) d Kc E h n = Kc (E.put d (.bool (!b))) h n := rfl
theorem uk_1 (k : IntKind) (a : Int) (d : Option Tmp) (Kc : Env → Heap → Nat → Prop) (E : Env) (h : Heap) (n : Nat) : unK .neg (.int k a) d Kc E h n = Kc (E.put d (.int k (k.wrap (0 - a)))) h n := rfl
theorem bd_cons (T : TE) (fs : List (Nat × TypeId)) (cells : List AV) (i : Nat) (x : Operand) (rest : List (Nat × Operand)) (d : Option Tmp) (Kc : Env → Heap → Nat → Prop) (E : Env) (h : Heap) (n : Nat) : buildK T fs cells ((i, x) :: rest) d Kc E h n = (match fs[i]? with
    | some p => (ev E x).cells.length = (T p.2).sz ∧ 0 < (T p.2).sz ∧ p.1 + (T p.2).sz ≤ cells.length ∧ (ev E x).good = true ∧ buildK T fs (cells.take p.1 ++ (ev E x).cells ++ cells.drop (p.1 + (T p.2).sz)) rest d Kc E h n
    | none => False) := by
  refine propEq (fun ⟨p, h1, h2⟩ => by rw [h1]; exact h2) (fun hq => ?_)
  split at hq
  · rename_i p hp; exact ⟨p, hp, hq⟩
  · exact hq.elim
theorem bd_nil (T : TE) (fs : List (Nat × TypeId)) (cells : List AV) (d : Option Tmp) (Kc : Env → Heap → Nat → Prop) (E : Env) (h : Heap) (n : Nat) : buildK T fs cells [] d Kc E h n = Kc (E.put d (.agg cells)) h n := rfl
theorem SubR_n (rs : List (Option (List AV))) : SubR [] rs = True := by cases rs <;> rfl
theorem SubR_c (a : Option (List AV)) (rs rs' : List (Option (List AV))) : SubR (a :: rs) (a :: rs') = SubR rs rs' := propEq (fun h => h.2) (fun h => ⟨.inr rfl, h⟩)
theorem SubR_0 (b : Option (List AV)) (rs rs' : List (Option (List AV))) : SubR (none :: rs) (b :: rs') = SubR rs rs' := propEq (fun h => h.2) (fun h => ⟨.inl rfl, h⟩)
theorem shr_one (x : Int) : x.fdiv (2 ^ min (Int.toNat 1) 64) = x.fdiv 2 := rfl
theorem ST : (∀ E t, ev E (.tmp t) = E.get t) ∧ (∀ E v, ev E (.const v) = ofVal v) ∧ (∀ E f, ev E (.func f) = .fn f []) ∧
    (∀ (E : Env) d v t, (E.put (some d) v).get t = if d = t then v else E.get t) ∧ (∀ (E : Env) v, E.put none v = E) ∧ (∀ d ds v vs t, (envZ (d :: ds) (v :: vs)).get t = if d = t then v else (envZ ds vs).get t) ∧
    (∀ d op ty p af g E, gval (some ⟨some d, op, ty, p, af, g⟩) E = bval (E.get d)) ∧ (∀ op ty p af g E, gval (some ⟨none, op, ty, p, af, g⟩) E = some none) :=
  ⟨fun _ _ => rfl, fun _ _ => rfl, fun _ _ => rfl, fun _ _ _ _ => rfl, fun _ _ => rfl, fun _ _ _ _ _ => rfl, fun _ _ _ _ _ _ _ => rfl, fun _ _ _ _ _ _ => rfl⟩
theorem planS_0 (P : Program) (T : TE) (l : List Oper) (D : List Nat) (hS : Heap) (K : Env → Heap → Nat → Prop) (i : Nat) (rest : List (Nat × Nat)) (dirty : Bool) (o : Oper) (E : Env) (h : Heap) (n : Nat) : planS P T l D hS K 0 i rest dirty (some o) E h n = stepA P T l o E Heap.emp n (planQ P T l D hS K rest dirty h n) := rfl
theorem planS_1 (P : Program) (T : TE) (l : List Oper) (D : List Nat) (hS : Heap) (K : Env → Heap → Nat → Prop) (i : Nat) (rest : List (Nat × Nat)) (dirty : Bool) (o : Oper) (E : Env) (h : Heap) (n : Nat) : planS P T l D hS K 1 i rest dirty (some o) E h n = stepA P T l o E hS n (planQ P T l D hS K rest dirty h n) := rfl
theorem planS_2 (P : Program) (T : TE) (l : List Oper) (D : List Nat) (hS : Heap) (K : Env → Heap → Nat → Prop) (i : Nat) (rest : List (Nat × Nat)) (dirty : Bool) (o : Oper) (E : Env) (h : Heap) (n : Nat) : planS P T l D hS K 2 i rest dirty (some o) E h n = (if dirty || D.contains i then stepA P T l o E h n (planD P T l D hS K rest) else stepA P T l o E h n (planC P T l D hS K rest)) := rfl
theorem treeS_0 (P : Program) (T : TE) (l : List Oper) (D : List Nat) (hS : Heap) (K : Env → Heap → Nat → Prop) (i : Nat) (r : PlanT) (dirty : Bool) (o : Oper) (E : Env) (h : Heap) (n : Nat) : treeS P T l D hS K 0 i r dirty (some o) E h n = stepA P T l o E Heap.emp n (treeQ P T l D hS K r dirty h n) := rfl
theorem treeS_1 (P : Program) (T : TE) (l : List Oper) (D : List Nat) (hS : Heap) (K : Env → Heap → Nat → Prop) (i : Nat) (r : PlanT) (dirty : Bool) (o : Oper) (E : Env) (h : Heap) (n : Nat) : treeS P T l D hS K 1 i r dirty (some o) E h n = stepA P T l o E hS n (treeQ P T l D hS K r dirty h n) := rfl
theorem treeS_2 (P : Program) (T : TE) (l : List Oper) (D : List Nat) (hS : Heap) (K : Env → Heap → Nat → Prop) (i : Nat) (r : PlanT) (dirty : Bool) (o : Oper) (E : Env) (h : Heap) (n : Nat) : treeS P T l D hS K 2 i r dirty (some o) E h n = (if dirty || D.contains i then stepA P T l o E h n (treeD P T l D hS K r) else stepA P T l o E h n (treeC P T l D hS K r)) := rfl
theorem stepA_none' (P : Program) (T : TE) (ops : List Oper) (d : Option Tmp) (op : Op) (ty : TypeId) (p : String) (af : Array Edge) (Kc : Env → Heap → Nat → Prop) (E : Env) (h : Heap) (n : Nat) : stepA P T ops ⟨d, op, ty, p, af, none⟩ E h n Kc = opN P T op d Kc E h n := stepA_none d op ty p af Kc
theorem stepA_some' (P : Program) (T : TE) (ops : List Oper) (d : Option Tmp) (op : Op) (ty : TypeId) (p : String) (af : Array Edge) (j : Nat) (w : Bool) (Kc : Env → Heap → Nat → Prop) (E : Env) (h : Heap) (n : Nat) : stepA P T ops ⟨d, op, ty, p, af, some (j, w)⟩ E h n Kc = stepG P T (nthO ops j) op d w Kc E h n := stepA_some d op ty p af j w Kc
theorem SE : type_of% (And.intro @planS_0 <| And.intro @planS_1 <| And.intro @planS_2 <| And.intro @treeS_0 <| And.intro @treeS_1 <| And.intro @treeS_2 <| And.intro @stepA_none' @stepA_some') :=
  And.intro @planS_0 <| And.intro @planS_1 <| And.intro @planS_2 <| And.intro @treeS_0 <| And.intro @treeS_1 <| And.intro @treeS_2 <| And.intro @stepA_none' @stepA_some'
theorem SV : type_of% (And.intro @List.getElem?_cons_succ.{0} <| And.intro @Option.some.injEq.{0} <| And.intro @Bool.false_eq_true <| And.intro @Bool.true_eq_false <| And.intro @Bool.or_false <| And.intro @Bool.false_or <| And.intro @List.toList_toArray.{0} <| And.intro @Int.toNat_natCast <| And.intro @List.map_cons.{0, 0} <| And.intro @List.map_nil.{0, 0} <| And.intro @Env.get_put_some <| And.intro @Env.put_none <| And.intro @Env.get_envOf <| And.intro @rdSl_ro <| And.intro @rdSl_nils <| And.intro @rdSl_sl <| And.intro @setPart_agg <| And.intro @setPart_bool <| And.intro @setPart_int <| And.intro @setPart_str <| And.intro @setPart_nils <| And.intro @setPart_ro <| And.intro @setPart_sl <| And.intro @Nat.pos_of_neZero <| And.intro @good_bool <| And.intro @good_int <| And.intro @good_str <| And.intro @good_nils <| And.intro @good_ro <| And.intro @good_sl <| And.intro @good_ep <| And.intro @good_nilp <| And.intro @good_nilf <| And.intro @good_fn <| And.intro @good_agg <| And.intro @AV.cells_bool <| And.intro @AV.cells_int <| And.intro @AV.cells_str <| And.intro @AV.cells_nils <| And.intro @AV.cells_ro <| And.intro @AV.cells_sl <| And.intro @AV.cells_ep <| And.intro @AV.cells_nilp <| And.intro @AV.cells_nilf <| And.intro @AV.cells_fn <| And.intro @AV.cells_agg <| And.intro @Nat.add_assoc <| And.intro @true_and <| And.intro @and_true <| And.intro @List.getElem?_cons_zero.{0} <| And.intro @Option.getD_some.{0} <| And.intro @List.length_cons.{0} <| And.intro @List.length_nil.{0} <| And.intro @List.set_cons_zero.{0} <| And.intro @List.set_cons_succ.{0} <| And.intro @Nat.zero_add <| And.intro @Nat.add_zero <| And.intro @List.drop_zero.{0} <| And.intro @List.take_succ_cons.{0} <| And.intro @List.take_zero.{0} <| And.intro @List.drop_succ_cons.{0} <| And.intro @List.drop_nil.{0} <| And.intro @List.cons_append.{0} <| And.intro @List.nil_append.{0} <| And.intro @List.append_nil.{0} <| And.intro @Nat.add_eq <| And.intro @Nat.left_eq_add <| And.intro @Nat.add_eq_left <| And.intro @List.getElem?_nil.{0} <| And.intro @Nat.zero_lt_succ <| And.intro @decide_true <| And.intro @decide_false <| And.intro @Option.bind_some.{0, 0} <| And.intro @Option.map_some.{0, 0} <| And.intro @Nat.one_ne_zero <| And.intro @Nat.lt_add_one <| And.intro @Nat.le_refl <| And.intro @Nat.add_left_cancel_iff <| And.intro @hp_get <| And.intro @hp_get0 <| And.intro @hp_upd <| And.intro @hp_upd0 <| And.intro @hp_del <| And.intro @hp_del0 <| And.intro @setR_nil0 <| And.intro @setR_zero <| And.intro @setR_succ <| And.intro @delR_zero <| And.intro @delR_succ <| And.intro @Bool.not_true <| And.intro @Bool.not_false <| And.intro @subR_refl <| And.intro @and_self <| And.intro @hp_hp <| And.intro @hp_hp0 <| And.intro @SubR_n <| And.intro @SubR_c <| And.intro @SubR_0 <| And.intro @subR_eq <| And.intro @shr_one <| And.intro @Bool.and_self <| And.intro @List.all_cons.{0} <| And.intro @List.all_nil.{0} <| And.intro @bk_0 <| And.intro @bk_1 <| And.intro @bk_2 <| And.intro @bk_3 <| And.intro @bk_4 <| And.intro @bk_5 <| And.intro @bk_6 <| And.intro @bk_7 <| And.intro @bk_8 <| And.intro @bk_9 <| And.intro @bk_10 <| And.intro @bk_11 <| And.intro @bk_12 <| And.intro @bk_13 <| And.intro @bk_14 <| And.intro @bk_15 <| And.intro @bk_16 <| And.intro @bk_17 <| And.intro @bk_18 <| And.intro @bk_19 <| And.intro @uk_0 <| And.intro @uk_1 <| And.intro @bd_cons @bd_nil) :=
  And.intro @List.getElem?_cons_succ.{0} <| And.intro @Option.some.injEq.{0} <| And.intro @Bool.false_eq_true <| And.intro @Bool.true_eq_false <| And.intro @Bool.or_false <| And.intro @Bool.false_or <| And.intro @List.toList_toArray.{0} <| And.intro @Int.toNat_natCast <| And.intro @List.map_cons.{0, 0} <| And.intro @List.map_nil.{0, 0} <| And.intro @Env.get_put_some <| And.intro @Env.put_none <| And.intro @Env.get_envOf <| And.intro @rdSl_ro <| And.intro @rdSl_nils <| And.intro @rdSl_sl <| And.intro @setPart_agg <| And.intro @setPart_bool <| And.intro @setPart_int <| And.intro @setPart_str <| And.intro @setPart_nils <| And.intro @setPart_ro <| And.intro @setPart_sl <| And.intro @Nat.pos_of_neZero <| And.intro @good_bool <| And.intro @good_int <| And.intro @good_str <| And.intro @good_nils <| And.intro @good_ro <| And.intro @good_sl <| And.intro @good_ep <| And.intro @good_nilp <| And.intro @good_nilf <| And.intro @good_fn <| And.intro @good_agg <| And.intro @AV.cells_bool <| And.intro @AV.cells_int <| And.intro @AV.cells_str <| And.intro @AV.cells_nils <| And.intro @AV.cells_ro <| And.intro @AV.cells_sl <| And.intro @AV.cells_ep <| And.intro @AV.cells_nilp <| And.intro @AV.cells_nilf <| And.intro @AV.cells_fn <| And.intro @AV.cells_agg <| And.intro @Nat.add_assoc <| And.intro @true_and <| And.intro @and_true <| And.intro @List.getElem?_cons_zero.{0} <| And.intro @Option.getD_some.{0} <| And.intro @List.length_cons.{0} <| And.intro @List.length_nil.{0} <| And.intro @List.set_cons_zero.{0} <| And.intro @List.set_cons_succ.{0} <| And.intro @Nat.zero_add <| And.intro @Nat.add_zero <| And.intro @List.drop_zero.{0} <| And.intro @List.take_succ_cons.{0} <| And.intro @List.take_zero.{0} <| And.intro @List.drop_succ_cons.{0} <| And.intro @List.drop_nil.{0} <| And.intro @List.cons_append.{0} <| And.intro @List.nil_append.{0} <| And.intro @List.append_nil.{0} <| And.intro @Nat.add_eq <| And.intro @Nat.left_eq_add <| And.intro @Nat.add_eq_left <| And.intro @List.getElem?_nil.{0} <| And.intro @Nat.zero_lt_succ <| And.intro @decide_true <| And.intro @decide_false <| And.intro @Option.bind_some.{0, 0} <| And.intro @Option.map_some.{0, 0} <| And.intro @Nat.one_ne_zero <| And.intro @Nat.lt_add_one <| And.intro @Nat.le_refl <| And.intro @Nat.add_left_cancel_iff <| And.intro @hp_get <| And.intro @hp_get0 <| And.intro @hp_upd <| And.intro @hp_upd0 <| And.intro @hp_del <| And.intro @hp_del0 <| And.intro @setR_nil0 <| And.intro @setR_zero <| And.intro @setR_succ <| And.intro @delR_zero <| And.intro @delR_succ <| And.intro @Bool.not_true <| And.intro @Bool.not_false <| And.intro @subR_refl <| And.intro @and_self <| And.intro @hp_hp <| And.intro @hp_hp0 <| And.intro @SubR_n <| And.intro @SubR_c <| And.intro @SubR_0 <| And.intro @subR_eq <| And.intro @shr_one <| And.intro @Bool.and_self <| And.intro @List.all_cons.{0} <| And.intro @List.all_nil.{0} <| And.intro @bk_0 <| And.intro @bk_1 <| And.intro @bk_2 <| And.intro @bk_3 <| And.intro @bk_4 <| And.intro @bk_5 <| And.intro @bk_6 <| And.intro @bk_7 <| And.intro @bk_8 <| And.intro @bk_9 <| And.intro @bk_10 <| And.intro @bk_11 <| And.intro @bk_12 <| And.intro @bk_13 <| And.intro @bk_14 <| And.intro @bk_15 <| And.intro @bk_16 <| And.intro @bk_17 <| And.intro @bk_18 <| And.intro @bk_19 <| And.intro @uk_0 <| And.intro @uk_1 <| And.intro @bd_cons @bd_nil
attribute [go_sem ↓] SD SN SE ST
attribute [go_sem] SU SV cellOk
end
end Go.Proofs.Ytcngfjmfgeckmaa
namespace Go.Proofs.Ytcngfjmfgeckmaa
open Go
def slOk : AV → Prop
  | .sl _ _ _ len lo _ => len ≤ lo
  | _ => True
def SlH {α : Type} (h : Heap) (n : Nat) (sz : Nat) (R : AV → α → Prop) (x : AV) (l : List α) : Prop :=
  ∃ es, rdSl h sz x = some es ∧ All2 R es l ∧ es.length ≤ maxLen ∧ x.Lt n ∧ x.one = true ∧ slOk x
section
variable {α : Type} {sz : Nat} {R : AV → α → Prop} {x : AV} {l : List α} {h : Heap} {n : Nat} {rows : List (Option (List AV))} {es : List AV}
theorem SlR.toH (hx : SlR sz R x l) : SlH h n sz R x l := by
  have ho : slOk x := by rcases slr_cases hx with ⟨rfl, _⟩ | ⟨ex, es, rfl, _⟩ <;> exact trivial
  obtain ⟨es, h1, h2, h3, h4, h5⟩ := hx
  exact ⟨es, rdSl_emp h1 h, h2, h3, h4 n, h5, ho⟩
theorem slH_nil : SlH h n sz R .nils ([] : List α) := ⟨[], rfl, .nil, Nat.zero_le _, .nils, rfl, trivial⟩
theorem slH_nilE (hl : l = []) : SlH h n sz R .nils l := by subst hl; exact slH_nil
theorem slH_lt (hx : SlH h n sz R x l) : x.Lt n := by obtain ⟨_, _, _, _, h4, _⟩ := hx; exact h4
theorem slH_open (hx : SlH h n sz R x l) : ∃ es, rdSl h sz x = some es ∧ All2 R es l ∧ es.length = l.length ∧ es.length ≤ 9223372036854775807 ∧ x.cells = [x] ∧ x.good = true := by
  obtain ⟨es, h1, h2, h3, h4, h5, h6⟩ := hx
  exact ⟨es, h1, h2, all2_length h2, h3, one_cells h5, by cases x <;> first | rfl | (simp [AV.one] at h5)⟩
theorem rdSl_low {H : Heap} (hr : rdSl h sz x = some es) (hl : x.Lt n) (hlow : ∀ id, id < n → H id = h id) : rdSl H sz x = some es := by
  cases hl with
  | sl s id off len lo ex hid =>
    unfold rdSl at hr ⊢
    simp only at hr ⊢
    rw [hlow id hid]; exact hr
  | nils => exact hr
  | ro => exact hr
  | _ => cases hr
theorem rdSl_hp (hr : rdSl h sz x = some es) (hl : x.Lt n) (rows : List (Option (List AV))) : rdSl (hp h n rows) sz x = some es := rdSl_low hr hl fun id hid => hp_low hid
theorem SlH.up (hx : SlH h n sz R x l) (m : Nat) : SlH (hp h n rows) (n + m) sz R x l := by
  obtain ⟨es, h1, h2, h3, h4, h5, h6⟩ := hx
  exact ⟨es, rdSl_hp h1 h4 rows, h2, h3, h4.mono (Nat.le_add_right n m), h5, h6⟩
theorem slH_own {j m len : Nat} {ex : Bool} (hb : hp h n rows (n + j) = some es) (ha : All2 R es l) (hm : es.length ≤ 140737488355328) (hlen : es.length = len) (hj : Nat.blt j m = true) : SlH (hp h n rows) (n + m) sz R (.sl sz (n + j) 0 len len ex) l := by
  subst hlen
  refine ⟨es, ?_, ha, by unfold maxLen; omega, .sl _ _ _ _ _ _ (lt_row hj), rfl, Nat.le_refl _⟩
  simp [rdSl, hb]
def isNil : AV → Bool
  | .nils => true
  | _ => false
theorem nil_eq {T : TE} {t el : TypeId} {b : Bool} (hx : SlH h n sz R x l) (hb : b = isNil x) (ht : (T t).ty = .slice el) (d : Option Tmp) (Kc : Env → Heap → Nat → Prop) (E : Env) (H : Heap) (N : Nat) : binK T .eql t x .nils d Kc E H N = Kc (E.put d (.bool b)) H N := by
  subst hb
  obtain ⟨es, h1, _⟩ := hx
  cases x with
  | nils => exact propEq (fun h => h.2) (fun h => ⟨⟨el, ht⟩, h⟩)
  | ro => exact propEq (fun h => h.2) (fun h => ⟨⟨el, ht⟩, h⟩)
  | sl => exact propEq (fun h => h.2) (fun h => ⟨⟨el, ht⟩, h⟩)
  | _ => cases h1
theorem slH_isNil (hx : SlH h n sz R x l) (hb : isNil x = true) : l = [] := by
  cases x with
  | nils =>
    obtain ⟨es, h1, h2, _⟩ := hx
    obtain rfl : es = [] := by simpa [rdSl] using h1.symm
    cases h2; rfl
  | _ => cases hb
theorem app_nil_nil (bytes : Nat) : appL bytes ([] : List α) [] = some [] := by
  unfold appL roomL
  simp
def NOwn (n j : Nat) (sz : Nat) (R : AV → α → Prop) (A : AV) (rw : Option (List AV)) (l : List α) : Prop :=
  (A = .nils ∧ rw = none ∧ l = []) ∨ ∃ es, A = .sl sz (n + j) 0 l.length l.length false ∧ rw = some es ∧ All2 R es l ∧ es.length ≤ 140737488355328
theorem nown_nil {j : Nat} (hl : l = []) : NOwn n j sz R .nils none l := .inl ⟨rfl, rfl, hl⟩
theorem nown_own {j : Nat} (ha : All2 R es l) (hb : es.length ≤ 140737488355328) : NOwn n j sz R (.sl sz (n + j) 0 l.length l.length false) (some es) l := .inr ⟨es, rfl, rfl, ha, hb⟩
theorem nown_H {j m : Nat} {A : AV} {rw : Option (List AV)} (hA : NOwn n j sz R A rw l) (hb : hp h n rows (n + j) = rw) (hj : Nat.blt j m = true) : SlH (hp h n rows) (n + m) sz R A l := by
  rcases hA with ⟨rfl, rfl, rfl⟩ | ⟨es, rfl, rfl, ha, hm⟩
  · exact slH_nil
  · exact slH_own hb ha hm (all2_length ha) hj
theorem nown_rn {j : Nat} {js : List Nat} {H : Heap} {A : AV} {rw : Option (List AV)} (hA : NOwn n j sz R A rw l) (hk : js[j]? = some j) : Rn n H (jsel n js) A A := by
  rcases hA with ⟨rfl, rfl, rfl⟩ | ⟨es, rfl, rfl, ha, hm⟩
  · exact .keep _ .nils
  · exact Rn.own j j hk
theorem nown_rows {j : Nat} {js : List Nat} {H : Heap} {A : AV} {rw : Option (List AV)} (hA : NOwn n j sz R A rw l) (hlt : ∀ e a n, R e a → e.Lt n) : ∀ b, rw = some b → RnL n H (jsel n js) b b := fun b hb => by
  rcases hA with ⟨rfl, rfl, rfl⟩ | ⟨es, rfl, rfl, ha, hm⟩
  · cases hb
  · obtain rfl := Option.some.inj hb
    exact RnL.all2 ha hlt
theorem nown_all {j : Nat} {A : AV} {rw : Option (List AV)} (hA : NOwn n j sz R A rw l) : All2 R (rw.getD []) l := by
  rcases hA with ⟨rfl, rfl, rfl⟩ | ⟨es, rfl, rfl, ha, hm⟩
  · exact .nil
  · exact ha
theorem nown_rd {j : Nat} {A : AV} {rw : Option (List AV)} (hA : NOwn n j sz R A rw l) (h : Heap) (rows : List (Option (List AV))) (hr : (rows[j]?).getD none = rw) : rdSl (hp h n rows) sz A = some (rw.getD []) := by
  rcases hA with ⟨rfl, rfl, rfl⟩ | ⟨es, rfl, rfl, ha, hm⟩
  · rfl
  · have hb : hp h n rows (n + j) = some es := by rw [hp_get, hr]
    simp only [rdSl, if_true, hb, Option.getD_some]
    rw [if_pos (by have := all2_length ha; omega), List.drop_zero, own_take ha]
theorem nown_len {j : Nat} {A : AV} {rw : Option (List AV)} (hA : NOwn n j sz R A rw l) : (rw.getD []).length = l.length := all2_length (nown_all hA)
theorem nown_cells {j : Nat} {A : AV} {rw : Option (List AV)} (hA : NOwn n j sz R A rw l) : A.cells = [A] := by
  rcases hA with ⟨rfl, rfl, rfl⟩ | ⟨es, rfl, rfl, ha, hm⟩ <;> rfl
theorem nown_good {j : Nat} {A : AV} {rw : Option (List AV)} (hA : NOwn n j sz R A rw l) : A.good = true := by
  rcases hA with ⟨rfl, rfl, rfl⟩ | ⟨es, rfl, rfl, ha, hm⟩ <;> rfl
theorem all2_of_nil (hl : l = []) : All2 R [] l := by subst hl; exact .nil
theorem app_nil1 {T : TE} {el : TypeId} {H : Heap} {m : Nat} {y e : AV} {r : List α} {K : AV → Heap → Nat → Prop} (hsz : sz = (T el).sz) (hpos : 0 < sz) (hy : rdSl H sz y = some [e]) (h1 : (([] : List AV).length + 1) * (T el).bytes ≤ 140737488355328) (h2 : ([] : List AV).length + 1 ≤ 140737488355328) (ha : All2 R ([] ++ [e]) r)
    (hk : K (.sl sz m 0 r.length r.length false) (H.upd m ([] ++ [e])) (m + 1)) : appendP T el .nils y H m K := by
  subst hsz
  have hr := all2_length ha
  refine ⟨[e], hy, hpos, by simpa using h1, by simp, ?_⟩
  rw [if_neg (by simp)]
  rw [← hr] at hk
  simpa using hk
theorem snoc_all2 {bytes : Nat} {es : List AV} {e : AV} {r : List α} {a : α} (hq : snocL bytes l a = some r) (hal : All2 R es l) (he : R e a) : All2 R (es ++ [e]) r := (snoc_ok hq hal he).2.2
theorem snoc_len {bytes : Nat} {es : List AV} {e : AV} {r : List α} {a : α} (hq : snocL bytes l a = some r) (hal : All2 R es l) (he : R e a) : (es ++ [e]).length ≤ 140737488355328 := len_snoc (snoc_ok hq hal he).2.1
theorem app_all2 {bytes : Nat} {es es2 : List AV} {l2 r : List α} (hq : appL bytes l l2 = some r) (hal : All2 R es l) (h2 : All2 R es2 l2) : All2 R (es ++ es2) r := (app_ok hq hal h2).2.2
theorem app_len {bytes : Nat} {es es2 : List AV} {l2 r : List α} (hq : appL bytes l l2 = some r) (hal : All2 R es l) (h2 : All2 R es2 l2) : (es ++ es2).length ≤ 140737488355328 := len_app (app_ok hq hal h2).2.1
theorem app_all2n {bytes : Nat} {es : List AV} {l2 r : List α} (hq : appL bytes l l2 = some r) (hz : l2 = []) (hal : All2 R es l) : All2 R es r := by
  subst hz
  unfold appL at hq
  split at hq
  · obtain rfl := Option.some.inj hq; simpa using hal
  · cases hq
theorem app_mv1 {T : TE} {el : TypeId} {j len bytes : Nat} {H : Heap} {m : Nat} {y e : AV} {es : List AV} {r : List α} {a : α} {K : AV → Heap → Nat → Prop} (hsz : sz = (T el).sz) (hpos : 0 < sz) (hby : bytes = (T el).bytes) (hy : rdSl H sz y = some [e]) (hb : H (n + j) = some es) (hlen : es.length = len) (hq : snocL bytes l a = some r) (hal : All2 R es l) (he : R e a)
    (hk : K (.sl sz m 0 r.length r.length false) ((H.del (n + j)).upd m (es ++ [e])) (m + 1)) : appendP T el (.sl sz (n + j) 0 len len false) y H m K := by
  subst hby
  obtain ⟨h1, h2, h3⟩ := snoc_ok hq hal he
  exact app_mv hsz hpos hy hb hlen h1 h2 h3 hk
theorem app_mvN {T : TE} {el : TypeId} {j len bytes : Nat} {H : Heap} {m : Nat} {y : AV} {es es2 : List AV} {l2 r : List α} {K : AV → Heap → Nat → Prop} (hsz : sz = (T el).sz) (hpos : 0 < sz) (hby : bytes = (T el).bytes) (hy : rdSl H sz y = some es2) (hb : H (n + j) = some es) (hlen : es.length = len) (hq : appL bytes l l2 = some r) (hal : All2 R es l) (h2 : All2 R es2 l2) (hz : l2 = [])
    (hk : K (.sl sz (n + j) 0 r.length r.length false) H m) : appendP T el (.sl sz (n + j) 0 len len false) y H m K := by
  subst hby
  obtain ⟨g1, g2, g3⟩ := app_ok hq hal h2
  exact app_mv_nil hsz hpos hy hb hlen g1 g2 h2 hz g3 hk
theorem app_mvC {T : TE} {el : TypeId} {j len bytes : Nat} {H : Heap} {m : Nat} {y : AV} {es es2 : List AV} {l2 r : List α} {K : AV → Heap → Nat → Prop} (hsz : sz = (T el).sz) (hpos : 0 < sz) (hby : bytes = (T el).bytes) (hy : rdSl H sz y = some es2) (hb : H (n + j) = some es) (hlen : es.length = len) (hq : appL bytes l l2 = some r) (hal : All2 R es l) (h2 : All2 R es2 l2) (hz : l2 ≠ [])
    (hk : K (.sl sz m 0 r.length r.length false) ((H.del (n + j)).upd m (es ++ es2)) (m + 1)) : appendP T el (.sl sz (n + j) 0 len len false) y H m K := by
  subst hby
  obtain ⟨g1, g2, g3⟩ := app_ok hq hal h2
  exact app_mv_cons hsz hpos hy hb hlen g1 g2 h2 hz g3 hk
theorem app_ex1 {T : TE} {el : TypeId} {j len bytes : Nat} {H : Heap} {m : Nat} {y e : AV} {es : List AV} {r : List α} {a : α} {K : AV → Heap → Nat → Prop} (hsz : sz = (T el).sz) (hpos : 0 < sz) (hby : bytes = (T el).bytes) (hy : rdSl H sz y = some [e]) (hb : H (n + j) = some es) (hlen : es.length = len) (hq : snocL bytes l a = some r) (hal : All2 R es l) (he : R e a)
    (hk : K (.sl sz m 0 r.length r.length false) (H.upd m (es ++ [e])) (m + 1)) : appendP T el (.sl sz (n + j) 0 len len true) y H m K := by
  subst hby
  obtain ⟨h1, h2, h3⟩ := snoc_ok hq hal he
  exact app_ex hsz hpos hy hb hlen h1 h2 h3 hk
theorem app_exN {T : TE} {el : TypeId} {j len bytes : Nat} {H : Heap} {m : Nat} {y : AV} {es es2 : List AV} {l2 r : List α} {K : AV → Heap → Nat → Prop} (hsz : sz = (T el).sz) (hpos : 0 < sz) (hby : bytes = (T el).bytes) (hy : rdSl H sz y = some es2) (hb : H (n + j) = some es) (hlen : es.length = len) (hq : appL bytes l l2 = some r) (hal : All2 R es l) (h2 : All2 R es2 l2) (hz : l2 = [])
    (hk : K (.sl sz (n + j) 0 r.length r.length true) H m) : appendP T el (.sl sz (n + j) 0 len len true) y H m K := by
  subst hby
  obtain ⟨g1, g2, g3⟩ := app_ok hq hal h2
  exact app_ex_nil hsz hpos hy hb hlen g1 g2 h2 hz g3 hk
theorem app_exC {T : TE} {el : TypeId} {j len bytes : Nat} {H : Heap} {m : Nat} {y : AV} {es es2 : List AV} {l2 r : List α} {K : AV → Heap → Nat → Prop} (hsz : sz = (T el).sz) (hpos : 0 < sz) (hby : bytes = (T el).bytes) (hy : rdSl H sz y = some es2) (hb : H (n + j) = some es) (hlen : es.length = len) (hq : appL bytes l l2 = some r) (hal : All2 R es l) (h2 : All2 R es2 l2) (hz : l2 ≠ [])
    (hk : K (.sl sz m 0 r.length r.length false) (H.upd m (es ++ es2)) (m + 1)) : appendP T el (.sl sz (n + j) 0 len len true) y H m K := by
  subst hby
  obtain ⟨g1, g2, g3⟩ := app_ok hq hal h2
  exact app_ex_cons hsz hpos hy hb hlen g1 g2 h2 hz g3 hk
theorem app_nl1 {T : TE} {el : TypeId} {bytes : Nat} {H : Heap} {m : Nat} {y e : AV} {r : List α} {a : α} {K : AV → Heap → Nat → Prop} (hsz : sz = (T el).sz) (hpos : 0 < sz) (hby : bytes = (T el).bytes) (hy : rdSl H sz y = some [e]) (hq : snocL bytes l a = some r) (hl : l = []) (he : R e a)
    (hk : K (.sl sz m 0 r.length r.length false) (H.upd m ([] ++ [e])) (m + 1)) : appendP T el .nils y H m K := by
  subst hby
  obtain ⟨h1, h2, h3⟩ := snoc_ok hq (all2_of_nil hl) he
  exact app_nil1 hsz hpos hy h1 h2 h3 hk
theorem op_partH {T : TE} {t el : TypeId} {e : Operand → AV} {X : AV} {x : Operand} {lo hi : Option Operand} {a b : Int} {r : List α} {H : Heap} {N : Nat} {K : AV → Heap → Nat → Prop} (hT : (T t).ty = .slice el) (hX : e x = X) (hx : SlH h n (T el).sz R X l) (hpos : 0 < (T el).sz) (hlt : ∀ e a n, R e a → e.Lt n)
    (hlo : match lo with | some o => e o = .int .i64 a | none => a = 0) (hhi : match hi with | some o => e o = .int .i64 b | none => b = (l.length : Int)) (hr : sliceL l a b = some r) (hk : ∀ y, SlH h n (T el).sz R y r → K y H N) : opP T (.slice t x lo hi none) e H N K := by
  have hx0 := hx
  obtain ⟨es, h1, h2, h3, h4, h5, h6⟩ := hx
  by_cases hsl : ∃ s id off len lo2 ex, X = .sl s id off len lo2 ex
  · obtain ⟨s, id, off, len, lo2, ex, rfl⟩ := hsl
    obtain ⟨g1, g2, g3, rfl⟩ := sliceL_ok hr
    have h6 : len ≤ lo2 := h6
    have hlen := all2_length h2
    unfold rdSl at h1
    simp only at h1
    split at h1
    · rename_i hs
      subst hs
      cases hb : h id with
      | none => rw [hb] at h1; cases h1
      | some blk =>
        rw [hb] at h1
        simp only at h1
        split at h1
        · rename_i hle
          have hes := Option.some.inj h1
          have hel : es.length = len := by rw [← hes]; simp; omega
          simp only [opP, hX]
          refine ⟨el, hT, hpos, (fun q => by cases q), rfl, a.toNat, b.toNat, lo2, ?_, ?_, rfl, by omega, by omega, Nat.le_refl _, ?_⟩
          · cases lo with
            | none => subst hlo; rfl
            | some o => simp only [Option.map_some, bnd, hlo]; exact ⟨by omega, trivial⟩
          · cases hi with
            | none => subst hhi; simp only [Option.map_none, bnd]; omega
            | some o => simp only [Option.map_some, bnd, hhi]; exact ⟨by omega, trivial⟩
          · refine hk _ ⟨(es.drop a.toNat).take (b.toNat - a.toNat), ?_, all2_take2 (all2_drop2 h2 _) _, ?_, ?_, rfl, ?_⟩
            · simp only [rdSl, if_true, hb]
              rw [if_pos (by omega)]
              congr 1
              rw [← hes, List.drop_take, List.take_take, List.drop_drop]
              congr 1
              omega
            · simp; omega
            · cases h4 with | sl _ _ _ _ _ _ hid => exact .sl _ _ _ _ _ _ hid
            · show b.toNat - a.toNat ≤ lo2 - a.toNat
              omega
        · cases h1
    · cases h1
  · have hf : SlR (T el).sz R X l := by
      refine ⟨es, ?_, h2, h3, fun m => ?_, h5⟩
      · cases X <;> first | exact h1 | (exact absurd ⟨_, _, _, _, _, _, rfl⟩ hsl) | cases h1
      · cases X with
        | nils => exact .nils
        | ro s ex es2 =>
          unfold rdSl at h1
          simp only at h1
          split at h1
          · obtain rfl := Option.some.inj h1
            rw [lt_ro]
            intro u hu v hv
            obtain ⟨i, hi, rfl⟩ := List.mem_iff_getElem.1 hu
            obtain ⟨y, _, hy⟩ := all2_get h2 i _ (List.getElem?_eq_getElem hi)
            have := hlt _ _ m hy
            generalize es2[i] = w at hv this
            cases w with
            | agg cs =>
              cases this with
              | agg _ hl =>
                obtain ⟨j, hj, rfl⟩ := List.mem_iff_getElem.1 hv
                exact hl j _ (List.getElem?_eq_getElem hj)
            | _ => simp [AV.cells] at hv; subst hv; exact this
          · cases h1
        | sl => exact absurd ⟨_, _, _, _, _, _, rfl⟩ hsl
        | _ => cases h1
    exact op_part hT hX hf hpos hlt hlo hhi hr fun y hy => hk y hy.toH
end
end Go.Proofs.Ytcngfjmfgeckmaa
namespace Go.Proofs.Ytcngfjmfgeckmaa
open Go
section
variable {h : Heap} {n n0 : Nat} {P : Program} {T : TE} {N : Nat} {E : Env} {h0 : Heap} {Q : Exit → Env → Heap → Nat → Prop}
theorem nl0 {α : Type} (R : AV → α → Prop) : All2 R [] [] := .nil
theorem sg {G G' : Prop} (g : G') (hc : G' → G := by intro h; simp only [go_sem, ↓reduceIte, reduceCtorEq, Nat.reduceEqDiff, Nat.reduceLT, Nat.reduceLeDiff, Nat.reduceAdd, Nat.reduceMul, Int.reduceLE]; exact h) : G := hc g
theorem obs {α β : Type} {x : Option α} {f : α → Option β} {r : β} (hm : Option.bind x f = some r) : ∃ a, x = some a ∧ f a = some r := Option.bind_eq_some_iff.1 hm
theorem eqT {b : Bool} (hb : b = true) : ((b = true) = True) ∧ ((b = false) = False) ∧ ((!b) = false) := by subst hb; simp
theorem eqF {b : Bool} (hb : b = false) : ((b = true) = False) ∧ ((b = false) = True) ∧ ((!b) = true) := by subst hb; simp
theorem kn {K : Env → Heap → Nat → Prop} {y : Code} (hK : ∀ E h n E2 h2 n2, Norm n0 h0 E h n E2 h2 n2 → WQ P N n0 h0 y Q E2 h2 n2 → K E h n) (hy : WQ P N n0 h0 y Q E h n) : K E h n := hK _ _ _ _ _ _ Norm.refl hy
theorem WQ.sr (hT : TEOk P T) {id : Nat} {l : List Oper} {y : Code} (hd : l.all (dstIn N) = true)
    (hc : ∀ K : Env → Heap → Nat → Prop, (∀ E h n E2 h2 n2, Norm n0 h0 E h n E2 h2 n2 → WQ P N n0 h0 y Q E2 h2 n2 → K E h n) → opsA P T l l E h n (thenA K Q .normal)) :
    WQ P N n0 h0 (.seq (.region id l.toArray false) y) Q E h n := WQ.seq_k fun K hK => WQ.region hT hd (hc K hK)
theorem Norm.mkL {rows0 : List (Option (List AV))} {rows : List (Option (List AV))} {js : List Nat} {m : Nat} (ts : List Nat) (us : List AV) {vs : List AV} (hnd : js.Nodup) (hg : ts.map (fun d => E.get d) = us) (hr : RnL n0 (hp h0 n0 rows0) (jsel n0 js) us vs) (hR : RowsR n0 (hp h0 n0 rows0) js rows js) (hm : m = js.length) :
    Norm n0 h0 E (hp h0 n0 rows0) n (envZ ts vs) (hp h0 n0 rows) (n0 + m) := Norm.mk hnd hp_lows (EnvOk.list ts us vs hg hr) hR hm
theorem retN {K : AV → Heap → Nat → Prop} {rows0 : List (Option (List AV))} {t : Nat} {js : List Nat} {u v : AV} {m : Nat} (hlt : ∀ id b, h id = some b → id < n) (hg : E.get t = u) (hr : Rn n (hp h n rows0) (jsel n []) u v) (hv : v.Lt n) (hQ : Q .ret = retA T [.tmp t] (fun r h' n' => ∃ r2 h2 n2, Conv n h r h' n' r2 h2 n2 ∧ K r2 h2 n2) .ret) (hk : K v h n) :
    WQ P N n h .ret Q E (hp h n rows0) m :=
  WQ.norm (Norm.mkL (js := []) (m := 0) (rows := []) [t] [u] (vs := [v]) List.nodup_nil (by simp [hg]) (.cons hr .nil) RowsR.nil rfl) (WQ.ret (by rw [hQ]; exact ⟨[v], by simp [resA, envZ, Env.get_put_some], ret_hp hlt hv hk⟩))
theorem hp_del_none {rows : List (Option (List AV))} {k : Nat} (hb : hp h n rows k = none) : (hp h n rows).del k = hp h n rows := by
  funext x
  unfold Heap.del
  split
  · rename_i hx; rw [hx, hb]
  · rfl
theorem app_nw1 {α : Type} {R : AV → α → Prop} {el : TypeId} {sz j bytes m : Nat} {rows : List (Option (List AV))} {A y e : AV} {rw' : Option (List AV)} {l r : List α} {a : α} {K : AV → Heap → Nat → Prop} (hA : NOwn n j sz R A rw' l) (hb : hp h n rows (n + j) = rw') (hsz : sz = (T el).sz) (hpos : 0 < sz) (hby : bytes = (T el).bytes) (hy : rdSl (hp h n rows) sz y = some [e]) (hq : snocL bytes l a = some r) (he : R e a)
    (hk : K (.sl sz m 0 r.length r.length false) (((hp h n rows).del (n + j)).upd m (rw'.getD [] ++ [e])) (m + 1)) : appendP T el A y (hp h n rows) m K := by
  rcases hA with ⟨rfl, rfl, hl⟩ | ⟨es, rfl, rfl, ha, hm⟩
  · rw [hp_del_none hb] at hk
    exact app_nl1 hsz hpos hby hy hq hl he hk
  · exact app_mv1 hsz hpos hby hy hb (all2_length ha) hq ha he hk
theorem hkr {α : Type} {R : AV → α → Prop} {K : AV → Heap → Nat → Prop} {r m : α} {y : AV} (hk : ∀ y, R y r → K y h n) (hm : some m = some r) (hy : R y m) : K y h n := hk y (Option.some.inj hm ▸ hy)
theorem hkr2 {α β : Type} {R : AV → α → Prop} {R1 : AV → β → Prop} {K : AV → Heap → Nat → Prop} {r m : α × β} {y y1 : AV} (hk : ∀ y0, R y0 r.1 → ∀ y1, R1 y1 r.2 → K (.tup [y0, y1]) h n) (hm : some m = some r) (hy : R y m.1) (hy1 : R1 y1 m.2) : K (.tup [y, y1]) h n := by
  cases hm; exact hk _ hy _ hy1
theorem sq0 {G G' : Prop} (g : G') (hc : G' → G := by intro h; simp only [go_sem, ↓reduceIte, reduceCtorEq, Nat.reduceEqDiff, Nat.reduceLT, Nat.reduceLeDiff, Nat.reduceAdd, Nat.reduceMul, Int.reduceLE, List.length_set]; exact h) : G := hc g
theorem sq {Fs G G' : Prop} (F : Fs) (g : G') (hc : Fs → G' → G := by intro F h; simp only [go_sem, ↓reduceIte, reduceCtorEq, Nat.reduceEqDiff, Nat.reduceLT, Nat.reduceLeDiff, Nat.reduceAdd, Nat.reduceMul, Int.reduceLE, List.length_set, F]; exact h) : G := hc F g
theorem sk0 {G G' : Prop} (g : G') (hc : G' → G := by intro h; unfold sealK; simp only [go_sem, ↓reduceIte, reduceCtorEq, Nat.reduceEqDiff, Nat.reduceLT, Nat.reduceLeDiff, Nat.reduceAdd, Nat.reduceMul, Int.reduceLE, List.length_set]; exact h) : G := hc g
theorem sk {Fs G G' : Prop} (F : Fs) (g : G') (hc : Fs → G' → G := by intro F h; unfold sealK; simp only [go_sem, ↓reduceIte, reduceCtorEq, Nat.reduceEqDiff, Nat.reduceLT, Nat.reduceLeDiff, Nat.reduceAdd, Nat.reduceMul, Int.reduceLE, List.length_set, F]; exact h) : G := hc F g
theorem sc0 {G : Prop} (hc : G := by simp only [go_sem, ↓reduceIte, reduceCtorEq, Nat.reduceEqDiff, Nat.reduceLT, Nat.reduceLeDiff, Nat.reduceAdd, Nat.reduceMul, Int.reduceLE, List.length_set]) : G := hc
theorem sc {Fs G : Prop} (F : Fs) (hc : Fs → G := by intro F; simp only [go_sem, ↓reduceIte, reduceCtorEq, Nat.reduceEqDiff, Nat.reduceLT, Nat.reduceLeDiff, Nat.reduceAdd, Nat.reduceMul, Int.reduceLE, List.length_set, F]) : G := hc F
theorem a2 {A B : Prop} (a : A) (b : B) : A ∧ B := ⟨a, b⟩
theorem a3 {A B C : Prop} (a : A) (b : B) (c : C) : A ∧ B ∧ C := ⟨a, b, c⟩
theorem a4 {A B C D : Prop} (a : A) (b : B) (c : C) (d : D) : A ∧ B ∧ C ∧ D := ⟨a, b, c, d⟩
theorem a5 {A B C D F : Prop} (a : A) (b : B) (c : C) (d : D) (f : F) : A ∧ B ∧ C ∧ D ∧ F := ⟨a, b, c, d, f⟩
theorem rg0 (hT : TEOk P T) {E' : Env} {h' : Heap} {n' id : Nat} {l : List Oper} {y : Code} (g : WQ P N n0 h0 y Q E' h' n') (hd : l.all (dstIn N) = true := by rfl)
    (hc : ∀ K : Env → Heap → Nat → Prop, K E' h' n' → opsA P T l l E h n (thenA K Q .normal) := by intro K hK; simp only [go_sem, ↓reduceIte, reduceCtorEq, Nat.reduceEqDiff, Nat.reduceLT, Nat.reduceLeDiff, Nat.reduceAdd, Nat.reduceMul, Int.reduceLE, List.length_set]; exact hK) : WQ P N n0 h0 (.seq (.region id l.toArray false) y) Q E h n := WQ.sr hT hd fun K hK => hc K (kn hK g)
theorem rg (hT : TEOk P T) {Fs : Prop} (F : Fs) {E' : Env} {h' : Heap} {n' id : Nat} {l : List Oper} {y : Code} (g : WQ P N n0 h0 y Q E' h' n') (hd : l.all (dstIn N) = true := by rfl)
    (hc : Fs → ∀ K : Env → Heap → Nat → Prop, K E' h' n' → opsA P T l l E h n (thenA K Q .normal) := by intro F K hK; simp only [go_sem, ↓reduceIte, reduceCtorEq, Nat.reduceEqDiff, Nat.reduceLT, Nat.reduceLeDiff, Nat.reduceAdd, Nat.reduceMul, Int.reduceLE, List.length_set, F]; exact hK) : WQ P N n0 h0 (.seq (.region id l.toArray false) y) Q E h n := WQ.sr hT hd fun K hK => hc F K (kn hK g)
theorem cn {ρ : Type} {c : Operand} {x y : Code} {t : Bool} {a b r : Option ρ} (hm : (if t = true then a else b) = r) (hx : t = true → a = r → WQ P N n0 h0 x Q E h n) (hy : t = false → b = r → WQ P N n0 h0 y Q E h n) (hc : ev E c = .bool t := by kernel_rfl) : WQ P N n0 h0 (.cond c x y) Q E h n :=
  WQ.cond hc (fun z => hx z (ifT z hm)) (fun z => hy z (ifF z hm))
theorem nm (js : List Nat) (ts : List Nat) (us : List AV) {rows0 rows : List (Option (List AV))} {vs : List AV} (hr : RnL n0 (hp h0 n0 rows0) (jsel n0 js) us vs) (hR : RowsR n0 (hp h0 n0 rows0) js rows js) (hg : ts.map (fun d => E.get d) = us := by kernel_rfl) (hnd : js.Nodup := by decide) :
    Norm n0 h0 E (hp h0 n0 rows0) n (envZ ts vs) (hp h0 n0 rows) (n0 + js.length) := Norm.mkL ts us hnd hg hr hR rfl
theorem sHo {α : Type} {sz : Nat} {R : AV → α → Prop} {x : AV} {l : List α} (hx : SlH h n sz R x l) : ∃ es, All2 R es l ∧ es.length = l.length ∧ es.length ≤ 9223372036854775807 ∧ ((∀ rows, rdSl (hp h n rows) sz x = some es) ∧ es.length = l.length ∧ x.cells = [x] ∧ x.good = true) := by
  obtain ⟨es, h1, h2, h3, h4, h5, h6⟩ := slH_open hx
  exact ⟨es, h2, h3, h4, fun rows => rdSl_hp h1 (slH_lt hx) rows, h3, h5, h6⟩
theorem sRo {α : Type} {sz : Nat} {R : AV → α → Prop} {x : AV} {l : List α} (hx : SlR sz R x l) : ∃ es, All2 R es l ∧ es.length = l.length ∧ es.length ≤ 9223372036854775807 ∧ ((∀ H, rdSl H sz x = some es) ∧ es.length = l.length ∧ x.cells = [x] ∧ x.good = true) := by
  obtain ⟨es, h1, h2, h3, h4, h5, h6⟩ := slr_open hx
  exact ⟨es, h2, h3, h4, fun H => rdSl_emp h1 H, h3, h5, h6⟩
theorem atk {α : Type} {R : AV → α → Prop} {es : List AV} {l : List α} {i : Int} {a : α} (ha : atL l i = some a) (hal : All2 R es l) : ∃ e, (0 ≤ i ∧ i < (l.length : Int) ∧ es[i.toNat]? = some e) ∧ R e a := by
  obtain ⟨h1, h2, e, h3, h4⟩ := at_ok ha hal
  exact ⟨e, ⟨h1, h2, h3⟩, h4⟩
theorem hpl (h : Heap) {id : Nat} (hid : id < n) : ∀ rows, hp h n rows id = h id := fun _ => hp_low hid
theorem rki {n0 : Nat} {H : Heap} {sel : List Nat} {k : IntKind} {a : Int} : Rn n0 H sel (.int k a) (.int k a) := .keep _ (.int _ _)
theorem rkb {n0 : Nat} {H : Heap} {sel : List Nat} {a : Bool} : Rn n0 H sel (.bool a) (.bool a) := .keep _ (.bool _)
theorem rc {n0 : Nat} {sel : List Nat} {e e' : AV} {b b' : List AV} (he : Rn n0 h sel e e') (hl : RnL n0 h sel b b') : RnL n0 h sel (e :: b) (e' :: b') := .cons he hl
theorem rn {n0 : Nat} {sel : List Nat} : RnL n0 h sel [] [] := .nil
theorem rtI {K : AV → Heap → Nat → Prop} {rows0 : List (Option (List AV))} {a r : Int} {m : Nat} (t : Nat) (hlt : ∀ id b, h id = some b → id < n) (hk : ∀ y, Int64R y r → K y h n) (hm : some a = some r) (hi : I64 a) (hg : E.get t = .int .i64 a := by kernel_rfl)
    (hQ : Q .ret = retA T [.tmp t] (fun r h' n' => ∃ r2 h2 n2, Conv n h r h' n' r2 h2 n2 ∧ K r2 h2 n2) .ret := by rfl) : WQ P N n h .ret Q E (hp h n rows0) m := retN (js := []) hlt hg rki (.int _ _) hQ (hkr hk hm ⟨rfl, hi⟩)
theorem rtB {K : AV → Heap → Nat → Prop} {rows0 : List (Option (List AV))} {a r : Bool} {m : Nat} (t : Nat) (hlt : ∀ id b, h id = some b → id < n) (hk : ∀ y, BoolR y r → K y h n) (hm : some a = some r) (hg : E.get t = .bool a := by kernel_rfl)
    (hQ : Q .ret = retA T [.tmp t] (fun r h' n' => ∃ r2 h2 n2, Conv n h r h' n' r2 h2 n2 ∧ K r2 h2 n2) .ret := by rfl) : WQ P N n h .ret Q E (hp h n rows0) m := retN (js := []) hlt hg rkb (.bool _) hQ (hkr hk hm rfl)
theorem rt1 {α : Type} {R : AV → α → Prop} {K : AV → Heap → Nat → Prop} {rows0 : List (Option (List AV))} {a r : α} {m : Nat} (t : Nat) (u : AV) {v : AV} (hlt : ∀ id b, h id = some b → id < n) (hk : ∀ y, R y r → K y h n) (hm : some a = some r) (hr : Rn n (hp h n rows0) (jsel n []) u v) (hv : v.Lt n) (hy : R v a) (hg : E.get t = u := by kernel_rfl)
    (hQ : Q .ret = retA T [.tmp t] (fun r h' n' => ∃ r2 h2 n2, Conv n h r h' n' r2 h2 n2 ∧ K r2 h2 n2) .ret := by rfl) : WQ P N n h .ret Q E (hp h n rows0) m := retN (js := []) hlt hg hr hv hQ (hkr hk hm hy)
end
end Go.Proofs.Ytcngfjmfgeckmaa
