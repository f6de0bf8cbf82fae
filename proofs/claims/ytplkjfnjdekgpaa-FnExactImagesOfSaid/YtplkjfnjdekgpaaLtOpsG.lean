/- The plain operations are sound: arithmetic, comparisons, slicing, append. Own work. -/
import Derived.Test.YtplkjfnjdekgpaaLtOpsF
namespace Go.Proofs.Ytplkjfnjdekgpaa
open Go

section
variable {P : Program} {T : TE} {c : Cfg} {h : Heap} {n : Nat} {K : AV → Heap → Nat → Prop}

theorem toList_beq (a b : ByteArray) : (a.toList == b.toList) = decide (a = b) := by
  rw [Bool.eq_iff_iff, decide_eq_true_iff, beq_iff_eq]
  refine ⟨fun h => ?_, fun h => by rw [h]⟩
  rw [ByteArray.toList_eq, ByteArray.toList_eq] at h
  obtain ⟨⟨x⟩⟩ := a
  obtain ⟨⟨y⟩⟩ := b
  simp at h
  rw [h]

theorem beq_dec (a b : Int) : (a == b) = decide (a = b) := by by_cases h : a = b <;> simp [h]
theorem bne_dec (a b : Int) : (a != b) = decide (a ≠ b) := by by_cases h : a = b <;> simp [h]
theorem not_gt {a b : Nat} (h : a + b ≤ maxLen) : ¬ (((a + b : Nat) : Int) > IntKind.i64.max) := by rw [IntKind.max_i64]; unfold maxLen at h; omega

theorem eqC_ok {x y : AV} {vx vy : Value} (hx : VR c x vx) (hy : VR c y vy) {r : Bool} (he : eqC x y = some r) (hT : TEOk P T) {t : TypeId} (ht : scalarFits T t x) (d : Nat) :
    (Op.equalIn (d + 1) t vx vy).run P c.w = .ok r c.w := by
  unfold eqC at he
  split at he
  · cases hx; cases hy
    split at he
    · subst_vars
      obtain rfl := Option.some.inj he
      unfold scalarFits at ht
      split at ht <;> try exact ht.elim
      · rename_i hk _; exact run_equalIn_int c.w d t _ _ _ _ (hT.tint t _ hk)
      · simp_all
      · simp_all
    · cases he
  · cases hx; cases hy
    obtain rfl := Option.some.inj he
    unfold scalarFits at ht
    split at ht <;> try exact ht.elim
    · simp_all
    · rename_i hk _; exact run_equalIn_bool' c.w d t _ _ (hT.tbool t hk)
    · simp_all
  · cases hx; cases hy
    obtain rfl := Option.some.inj he
    unfold scalarFits at ht
    split at ht <;> try exact ht.elim
    · simp_all
    · simp_all
    · rename_i hk _; exact run_equalIn_string c.w d t _ _ (hT.tstr t hk)
  · cases he

theorem eqCells_ok (hT : TEOk P T) (d : Nat) {xs ys : Array Value} : ∀ (F : List Field) (a b : List AV) (k : Nat),
    (∀ (i : Nat) (u : AV) (v : Value), a[i]? = some u → xs[k + i]? = some v → VR c u v) → (∀ (i : Nat) (u : AV) (v : Value), b[i]? = some u → ys[k + i]? = some v → VR c u v) →
    k + a.length = xs.size → k + b.length = ys.size → (∀ f, f ∈ F → f.name ≠ "_") → (∀ (i : Nat) (f : Field), F[i]? = some f → f.offset = k + i) → fitsP T (F.map fun f => (f.offset, f.type)) a →
    ∀ r, eqCells a b = some r → (Op.eqFields (d + 1) xs ys F).run P c.w = .ok r c.w
  | [], a, b, k, _, _, _, _, _, _, hf, r, hr => by
    cases a with
    | nil =>
      cases b with
      | nil => obtain rfl := Option.some.inj hr; simp [Op.eqFields]
      | cons y b => simp [eqCells] at hr
    | cons x a => exact hf.elim
  | f :: F, a, b, k, ha, hb, la, lb, hn, ho, hf, r, hr => by
    cases a with
    | nil => exact hf.elim
    | cons x a =>
      cases b with
      | nil => simp [eqCells] at hr
      | cons y b =>
        simp only [List.length_cons] at la lb
        have hx : xs[k]? = some (xs[k]'(by omega)) := Array.getElem?_eq_getElem (by omega)
        have hy : ys[k]? = some (ys[k]'(by omega)) := Array.getElem?_eq_getElem (by omega)
        have hvx := ha 0 x (xs[k]'(by omega)) rfl hx
        have hvy := hb 0 y (ys[k]'(by omega)) rfl hy
        obtain ⟨hf1, hf2⟩ := hf
        have hoff : f.offset = k := by simpa using ho 0 f rfl
        simp only [eqCells, Option.bind_eq_some_iff] at hr
        obtain ⟨r1, e1, r2, e2, e3⟩ := hr
        obtain rfl := Option.some.inj e3
        have h1 := eqC_ok hvx hvy e1 hT hf1 d
        have h2 := eqCells_ok hT d F a b (k + 1) (fun i u v hi hv => ha (i + 1) u v (by simpa using hi) (by rw [← hv]; congr 1; omega)) (fun i u v hi hv => hb (i + 1) u v (by simpa using hi) (by rw [← hv]; congr 1; omega)) (by omega) (by omega)
          (fun f hf => hn f (List.mem_cons_of_mem _ hf)) (fun i f hi => by have := ho (i + 1) f (by simpa using hi); omega) hf2 r2 e2
        have hagg : (isAgg f.type).run P c.w = .ok false c.w := isAgg_plain hT (fun fs hs => by simp [scalarFits, hs] at hf1) (fun hs => by simp [scalarFits, hs] at hf1) _
        have p1 : (Go.part f.type xs f.offset).run P c.w = .ok (xs[k]'(by omega)) c.w := by rw [hoff]; simp [Go.part, hagg, hx]
        have p2 : (Go.part f.type ys f.offset).run P c.w = .ok (ys[k]'(by omega)) c.w := by rw [hoff]; simp [Go.part, hagg, hy]
        have hname := hn f (by simp)
        simp only [Op.eqFields, if_pos hname, Sem.run_bind, p1, p2, Result.andThen_ok, h1, Sem.run_ite]
        cases r1 <;> simp [h2]

theorem bin_ok (hT : TEOk P T) {op : BinOp} {t : TypeId} {x y : AV} {vx vy : Value} (hx : VR c x vx) (hy : VR c y vy) {R : AV → Prop} (hb : binP T op t x y R) (ox oy : Operand) :
    ∃ r v, (do eqGuard op t ox oy vx vy; binOp op t vx vy : Sem Value).run P c.w = .ok v c.w ∧ VR c r v ∧ R r := by
  unfold binP at hb
  split at hb
  all_goals first | exact hb.elim | skip
  · cases hx; cases hy
    obtain ⟨h0, hR⟩ := hb
    have hn : ¬ _ < (0 : Int) := Int.not_lt.2 h0
    exact ⟨_, _, by simp [eqGuard_shl, binOp_shl, Op.shift, hn] <;> rfl, .int _ _, hR⟩
  · cases hx; cases hy
    obtain ⟨h0, hR⟩ := hb
    have hn : ¬ _ < (0 : Int) := Int.not_lt.2 h0
    exact ⟨_, _, by simp [eqGuard_shr, binOp_shr, Op.shift, hn] <;> rfl, .int _ _, hR⟩
  · cases hx; cases hy
    obtain ⟨rfl, hR⟩ := hb
    exact ⟨_, _, by simp [eqGuard_add, binOp_add, Op.intArith] <;> rfl, .int _ _, hR⟩
  · cases hx; cases hy
    obtain ⟨rfl, hR⟩ := hb
    exact ⟨_, _, by simp [eqGuard_sub, binOp_sub, Op.intArith] <;> rfl, .int _ _, hR⟩
  · cases hx; cases hy
    obtain ⟨rfl, hR⟩ := hb
    exact ⟨_, _, by simp [eqGuard_mul, binOp_mul, Op.intArith] <;> rfl, .int _ _, hR⟩
  · cases hx; cases hy
    obtain ⟨rfl, h0, hR⟩ := hb
    exact ⟨_, _, by simp [eqGuard_quo, binOp_quo, Op.intDiv, h0] <;> rfl, .int _ _, hR⟩
  · cases hx; cases hy
    obtain ⟨rfl, h0, hR⟩ := hb
    exact ⟨_, _, by simp [eqGuard_rem, binOp_rem, Op.intDiv, h0] <;> rfl, .int _ _, hR⟩
  · cases hx; cases hy
    obtain ⟨rfl, hR⟩ := hb
    exact ⟨_, _, by simp only [eqGuard_and, binOp_and, Op.intBits, Sem.run_bind, Sem.run_pure, Result.andThen_ok] <;> rfl, .int _ _, hR⟩
  · cases hx; cases hy
    obtain ⟨rfl, hR⟩ := hb
    exact ⟨_, _, by simp only [eqGuard_or, binOp_or, Op.intBits, Sem.run_bind, Sem.run_pure, Result.andThen_ok] <;> rfl, .int _ _, hR⟩
  · cases hx; cases hy
    obtain ⟨rfl, hR⟩ := hb
    refine ⟨_, .bool _, ?_, .bool _, hR⟩
    simp [eqGuard_at_int, binOp_eql, beq_dec]
  · cases hx; cases hy
    obtain ⟨rfl, hR⟩ := hb
    refine ⟨_, .bool _, ?_, .bool _, hR⟩
    simp [eqGuard_at_int, binOp_neq, bne_dec]
  · cases hx; cases hy
    obtain ⟨rfl, hR⟩ := hb
    exact ⟨_, _, by simp [eqGuard_at_int, binOp_lss] <;> rfl, .bool _, hR⟩
  · cases hx; cases hy
    obtain ⟨rfl, hR⟩ := hb
    exact ⟨_, _, by simp [eqGuard_at_int, binOp_leq] <;> rfl, .bool _, hR⟩
  · cases hx; cases hy
    obtain ⟨rfl, hR⟩ := hb
    exact ⟨_, _, by simp [eqGuard_at_int, binOp_gtr] <;> rfl, .bool _, hR⟩
  · cases hx; cases hy
    obtain ⟨rfl, hR⟩ := hb
    exact ⟨_, _, by simp [eqGuard_at_int, binOp_geq] <;> rfl, .bool _, hR⟩
  · cases hx; cases hy
    obtain ⟨hle, hR⟩ := hb
    have hn := not_gt hle
    exact ⟨_, _, by simp only [eqGuard_at_string, binOp, Op.stringOp, Sem.run_bind, Sem.run_pure, Result.andThen_ok, if_neg hn] <;> rfl, .str _, hR⟩
  · cases hx; cases hy
    refine ⟨_, .bool _, ?_, .bool _, hb⟩
    simp [eqGuard_at_string, binOp, Op.stringOp, toList_beq]
  · cases hx; cases hy
    refine ⟨_, .bool _, ?_, .bool _, hb⟩
    simp [eqGuard_at_string, binOp, Op.stringOp, toList_beq]
  · cases hx; cases hy
    obtain ⟨ht, hR⟩ := hb
    exact ⟨_, _, by simp [eqGuard_at_bool, binOp, Op.equal, Op.maxDepth, run_equalIn_bool' c.w 9999 t _ _ (hT.tbool t ht)] <;> rfl, .bool _, hR⟩
  · cases hx; cases hy
    obtain ⟨ht, hR⟩ := hb
    exact ⟨_, _, by simp [eqGuard_at_bool, binOp, Op.equal, Op.maxDepth, run_equalIn_bool' c.w 9999 t _ _ (hT.tbool t ht)] <;> rfl, .bool _, hR⟩
  · cases hx with
    | agg _ xs hsx hox hvx =>
      cases hy with
      | agg _ ys hsy hoy hvy =>
        obtain ⟨fs, ht, hc, hfit, r, hr, hR⟩ := hb
        obtain ⟨g1, g2, F, hu, hF, hn, ho⟩ := hT.cmp t fs ht hc
        have hPF : P.fieldsOf t = F := by simp [Program.fieldsOf, hu]
        have h1 := run_equalIn_agg c.w 9999 t xs ys (by rw [hPF]; exact hu) g1
        rw [hPF] at h1
        have h2 := eqCells_ok (c := c) hT 9998 F.toList _ _ 0 (fun i u v hi hv => hvx i u v hi (by simpa using hv)) (fun i u v hi hv => hvy i u v hi (by simpa using hv)) (by omega) (by omega) hn
          (fun i f hi => by have := ho i (f.offset, f.type) (by rw [← hF]; simp at hi ⊢; exact ⟨f, hi, rfl, rfl⟩); simpa using this) (by rw [hF]; exact hfit) r hr
        refine ⟨.bool r, .bool r, ?_, .bool _, hR⟩
        have h3 := run_eql_struct (P := P) c.w t xs ys
        rw [h1, h2] at h3
        simp only [Result.andThen_ok] at h3
        simp only [Sem.run_bind, run_eqGuard_agg c.w .eql t ox oy xs ys g2, Result.andThen_ok, h3]
  · cases hx with
    | agg _ xs hsx hox hvx =>
      cases hy with
      | agg _ ys hsy hoy hvy =>
        obtain ⟨fs, ht, hc, hfit, r, hr, hR⟩ := hb
        obtain ⟨g1, g2, F, hu, hF, hn, ho⟩ := hT.cmp t fs ht hc
        have hPF : P.fieldsOf t = F := by simp [Program.fieldsOf, hu]
        have h1 := run_equalIn_agg c.w 9999 t xs ys (by rw [hPF]; exact hu) g1
        rw [hPF] at h1
        have h2 := eqCells_ok (c := c) hT 9998 F.toList _ _ 0 (fun i u v hi hv => hvx i u v hi (by simpa using hv)) (fun i u v hi hv => hvy i u v hi (by simpa using hv)) (by omega) (by omega) hn
          (fun i f hi => by have := ho i (f.offset, f.type) (by rw [← hF]; simp at hi ⊢; exact ⟨f, hi, rfl, rfl⟩); simpa using this) (by rw [hF]; exact hfit) r hr
        refine ⟨.bool (!r), .bool (!r), ?_, .bool _, hR⟩
        have h3 := run_neq_struct (P := P) c.w t xs ys
        rw [h1, h2] at h3
        simp only [Result.andThen_ok] at h3
        simp only [Sem.run_bind, run_eqGuard_agg c.w .neq t ox oy xs ys g2, Result.andThen_ok, h3]
  · cases hx; cases hy
    obtain ⟨⟨e, ht⟩, hR⟩ := hb
    refine ⟨_, .bool _, ?_, .bool _, hR⟩
    simp [eqGuard_at_slice, Lib.run_eql_slice_nil c.w t e _ _ _ _ _ (hT.tslice t e ht)]
  · cases hx; cases hy
    obtain ⟨⟨e, ht⟩, hR⟩ := hb
    refine ⟨_, .bool _, ?_, .bool _, hR⟩
    simp [eqGuard_at_slice, Lib.run_eql_slice_nil c.w t e _ _ _ _ _ (hT.tslice t e ht)]
  · cases hx; cases hy
    obtain ⟨⟨e, ht⟩, hR⟩ := hb
    refine ⟨_, .bool _, ?_, .bool _, hR⟩
    simp [eqGuard_at_slice, Lib.run_eql_slice_nil c.w t e _ _ _ _ _ (hT.tslice t e ht)]

end
end Go.Proofs.Ytplkjfnjdekgpaa
