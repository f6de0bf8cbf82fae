/- Row 6: the program's images. Own work. -/
import Derived.Test.YtplkjfnjdekgpaaR20
namespace Go.Proofs.Ytplkjfnjdekgpaa
open Go

def wholeTo (d : DiskD) (p : Int) (i j : Nat) : Bool := (List.range j).all fun k => match d.loose[i + k]? with | some w => decide (w.page = p) && decide (w.part = k) | none => false
def dataTo (d : DiskD) (i j : Nat) : List Int := ((d.loose.drop i).take j).flatMap LooseD.data

theorem dataTo_succ {d : DiskD} {i j : Nat} {w : LooseD} (h : d.loose[i + j]? = some w) : dataTo d i (j + 1) = dataTo d i j ++ w.data := by
  unfold dataTo
  rw [List.take_add_one, List.getElem?_drop, h, List.flatMap_append]; simp
theorem wholeTo_succ {d : DiskD} {p : Int} {i j : Nat} {w : LooseD} (h : d.loose[i + j]? = some w) : wholeTo d p i (j + 1) = (wholeTo d p i j && decide (w.page = p) && decide (w.part = j)) := by
  unfold wholeTo
  rw [List.range_succ, List.all_append]; simp [h, Bool.and_assoc]
theorem imgAt_of {d : DiskD} {p : Int} {i : Nat} (h : i + 2 < d.loose.length) : imgAt d p i = if wholeTo d p i 3 = true then some (dataTo d i 3) else none := by
  have ha : d.loose[i + 0]? = some (d.loose[i]'(by omega)) := List.getElem?_eq_getElem (by omega)
  have hb : d.loose[i + 1]? = some (d.loose[i + 1]'(by omega)) := List.getElem?_eq_getElem (by omega)
  have hc : d.loose[i + 2]? = some (d.loose[i + 2]'(by omega)) := List.getElem?_eq_getElem (by omega)
  rw [dataTo_succ hc, dataTo_succ hb, dataTo_succ ha, wholeTo_succ hc, wholeTo_succ hb, wholeTo_succ ha]
  rw [Nat.add_zero] at ha
  unfold imgAt
  rw [ha, hb, hc]
  simp only [wholeTo, dataTo, List.range_zero, List.all_nil, List.take_zero, List.flatMap_nil, List.nil_append, Bool.true_and, Bool.and_eq_true, decide_eq_true_eq]
  by_cases q : (d.loose[i]'(by omega)).page = p ∧ (d.loose[i + 1]'(by omega)).page = p ∧ (d.loose[i + 2]'(by omega)).page = p ∧ (d.loose[i]'(by omega)).part = 0 ∧ (d.loose[i + 1]'(by omega)).part = 1 ∧ (d.loose[i + 2]'(by omega)).part = 2
  · obtain ⟨q1, q2, q3, q4, q5, q6⟩ := q
    simp [q1, q2, q3, q4, q5, q6]
  · rw [if_neg q, if_neg]
    rintro ⟨⟨⟨⟨⟨q1, q2⟩, q3⟩, q4⟩, q5⟩, q6⟩
    exact q ⟨q1, q3, q5, by simpa using q2, by simpa using q4, by simpa using q6⟩

section
variable {h : Heap} {n : Nat} {K : AV → Heap → Nat → Prop}

theorem c74o {xp xl : AV} {d : DiskD} {p : Int} (hp : ByteSSR xp d.pages) (hl : LooseSR xl d.loose) (hok : DiskOk d) (hpp : 0 ≤ p ∧ p < d.pages.length) (hk : ∀ r h' n', OwnRes ByteSSR h n r (imagesF d p) h' n' → K r h' n') : CA Try.prog 74 [.agg [xp, xl], .int .i64 p] h n K := by
  have zp := one_cells hp.isOne
  have zl := one_cells hl.isOne
  obtain ⟨ps, rp, ap, mp, _, _⟩ := hp
  have hl0 := hl
  obtain ⟨ls, rl, al, ml, _, _⟩ := hl
  have lp := all2_length ap
  have ll := all2_length al
  have h60 := hok.l60
  obtain ⟨b0, q0, hb0, hq0, hR0⟩ := all2_at ap (i := p.toNat) (by omega)
  have hq48 := hok.p48 q0 (List.mem_of_getElem? hq0)
  have hbp := tyByteS_113.part b0 q0 hR0
  refine CA.conv (CA.enter (N := 63) (rs := [.tmp 4]) hT Try.call74 Try.func74 rfl rfl (by simp) rfl fun hlt => ?_)
  refine WP.seq_k fun K1 hK1 => WP.region hT rfl ?_
  simp only [↓opsA, ↓stepA, ↓callA, ev, Env.get_envOf, ↓e_assign, ↓e_box, ofVal, ↓thenA, Nat.pos_of_neZero, good_agg, AV.cells_agg, Nat.reduceAdd, true_and, List.getElem?_cons_zero, Option.getD_some, List.length_cons, List.length_nil, Nat.zero_add, T_65]
  refine hK1 _ _ _ ?_
  clear hK1 K1
  refine WP.seq_k fun K1 hK1 => WP.region hT rfl ?_
  simp only [↓opsA_cons, isCallV, List.getElem?_cons_succ, ↓stepA, ↓callA, List.map_cons, List.map_nil, ev, Env.get_put_some, Env.get_envOf, ↓e_move, ↓e_load, ↓e_fieldAddr, ↓e_indexAddr, rdSl_sl, ↓thenA, Heap.upd_get, AV.cells_agg, reduceIte, Nat.reduceEqDiff, true_and, List.getElem?_cons_zero, List.getElem?_cons_succ, Option.getD_some, List.length_cons, List.length_nil, Nat.zero_add, Nat.add_zero, List.drop_zero, List.take_succ_cons, List.take_zero, List.append_nil, Nat.lt_add_one, ↓reduceIte, Nat.le_refl, T_55, T_113, T_65, pt_55, cellOk, rdSl_emp rp, hb0, hbp]
  refine ⟨by omega, by omega, c91o hR0 (by omega) fun r0 h2 n2 o2 => ?_⟩
  have l2 := o2.le
  have b2 : h2 n = some [.agg [xp, xl]] := by rw [o2.below n (by omega), Heap.upd_same]
  have bel2 : ∀ id, id < n → h2 id = h id := fun id hid => by rw [o2.below id (by omega), Heap.upd_ne _ _ (by omega)]
  obtain ⟨r0', I0, tr0, hu0, hI0⟩ := o2.frz0
  have hrc := tr0.slOne hu0
  have hrg := tr0.slGood hu0
  unfold opsW
  simp only [↓opsA_nil, ↓opsA_cons, isCallV, ↓stepA, ↓callA, ev, Env.get_put_some, ↓e_assign, reduceIte, Nat.reduceLeDiff, true_and, List.length_cons, List.length_nil, Nat.zero_add, Nat.lt_add_one, ↓reduceIte, T_55, T_113, e_bs1, hrc, hrg]
  refine hK1 _ _ _ ?_
  clear hK1 K1
  have hB0 : BInv n (n + 1) h (h2.upd n2 [r0]) (n2 + 1) (.sl 1 n2 0 1 1 true) [q0] := by
    refine ⟨⟨[r0], [r0'], I0, .inr ⟨n2, true, by omega, by omega, rfl, Heap.upd_same _ _ _⟩, TreeL.one (tr0.keep fun i hi => Heap.upd_ne _ _ (by have := hI0 i hi; omega)), .cons hu0 .nil, fun k hk hq => ?_, fun i hi => by have := hI0 i hi; omega⟩, fun id hid => ?_, by omega⟩
    · have hk' : n2 = k := hk
      have := hI0 k hq
      omega
    · rw [Heap.upd_ne _ _ (by omega)]; exact bel2 id hid
  refine WP.seq_k fun K1 hK1 => ?_
  refine WP.seq_k fun K1 hK1 => WP.region hT rfl ?_
  simp only [↓opsA, ↓stepA, ↓callA, ev, ↓e_assign, ofVal, ↓thenA]
  refine hK1 _ _ _ ?_
  clear hK1 K1
  refine WP.block (WP.loop (fun mm E h' n' => ∃ i A, mm = d.loose.length - i ∧ i ≤ d.loose.length - 2 ∧ BInv n (n + 1) h h' n' A (q0 :: (List.range i).filterMap (imgAt d p)) ∧ A ≠ .nils ∧ h' n = some [.agg [xp, xl]] ∧ E.get 1 = .int .i64 p ∧ E.get 2 = .ep 2 (.sl 2 n 0 1 1 true) 0 0 ∧ E.get 5 = A ∧ E.get 6 = .int .i64 i) d.loose.length ?_ ?_)
  · exact ⟨0, _, by omega, Nat.zero_le _, hB0, (fun hq => by cases hq), by rw [Heap.upd_ne _ _ (by omega)]; exact b2, rfl, rfl, rfl, rfl⟩
  clear hB0 tr0 hI0 o2 hrc hrg hu0 b2 bel2 l2
  rintro mm E h' n' ⟨i, A, rfl, hi, hB, hA, hbx, e1, e2, e5, e6⟩
  have hle := hB.le
  have w2 : IntKind.i64.wrap ((i : Int) + 2) = i + 2 := wrap_in (by omega) (by omega)
  have w3 : IntKind.i64.wrap ((i : Int) + 3) = i + 3 := wrap_in (by omega) (by omega)
  have w1 : IntKind.i64.wrap ((i : Int) + 1) = i + 1 := wrap_in (by omega) (by omega)
  refine WP.seq_k fun K6 hK6 => ?_
  refine WP.seq_k fun K1 hK1 => WP.region hT rfl ?_
  simp only [↓opsA, ↓stepA, ↓e_len1, ↓callA, ev, Env.get_put_some, ↓e_move, ↓e_binOp, ↓e_load, ↓e_fieldAddr, b_add, b_lss, rdSl_sl, ofVal, ↓thenA, AV.cells_agg, reduceIte, Nat.reduceEqDiff, true_and, List.getElem?_cons_zero, List.getElem?_cons_succ, List.length_cons, List.length_nil, Nat.zero_add, List.drop_zero, List.take_succ_cons, List.take_zero, Nat.lt_add_one, ↓reduceIte, Nat.le_refl, T_117, T_63, T_65, e2, e6, hbx, pt_63, cellOk, rdSl_emp rl, w2]
  refine hK1 _ _ _ ?_
  clear hK1 K1
  refine WP.cond (by simp only [ev, Env.get_put_some, ↓reduceIte]; rfl) (fun hc => ?_) (fun hc => ?_)
  · have hil : i + 2 < d.loose.length := by have := of_decide_eq_true hc; omega
    have himg := imgAt_of (p := p) hil
    have hrange : (List.range (i + 1)).filterMap (imgAt d p) = (List.range i).filterMap (imgAt d p) ++ (imgAt d p i).toList := by
      rw [List.range_succ, List.filterMap_append]; cases hq : imgAt d p i <;> simp [hq]
    have hll : ((List.range i).filterMap (imgAt d p)).length ≤ i := by have := List.length_filterMap_le (imgAt d p) (List.range i); simp at this; omega
    obtain ⟨exl, rfl⟩ : ∃ ex, xl = .ro 3 ex ls := by
      rcases slr_cases hl0 with ⟨rfl, h0⟩ | ⟨ex, es2, rfl, h2⟩
      · rw [h0] at hil; simp at hil
      · rw [rdSl_ro] at rl; obtain rfl := Option.some.inj rl; exact ⟨ex, rfl⟩
    have g0 : (n = n') = False := eq_false (by omega)
    refine WP.skip (hK6 _ _ _ ?_)
    clear hK6 K6 hc
    refine WP.seq_k fun K6 hK6 => WP.block ?_
    refine WP.seq_k fun K1 hK1 => WP.region hT rfl ?_
    simp only [↓opsA, ↓stepA, ↓callA, ev, Env.get_put_some, ↓e_assign, ofVal, ↓thenA, reduceIte, true_and, Nat.lt_add_one, ↓reduceIte, T_5, T_113, e_bs0]
    refine hK1 _ _ _ ?_
    clear hK1 K1
    refine WP.seq_k fun K7 hK7 => ?_
    refine WP.seq_k fun K1 hK1 => WP.region hT rfl ?_
    simp only [↓opsA, ↓stepA, ↓e_len1, ↓callA, ev, Env.get_put_some, ↓e_move, ↓e_binOp, ↓e_load, ↓e_fieldAddr, b_add, rdSl_sl, ofVal, ↓thenA, Heap.upd_get, AV.cells_agg, reduceIte, Nat.reduceEqDiff, true_and, List.getElem?_cons_zero, List.getElem?_cons_succ, List.length_cons, List.length_nil, Nat.zero_add, List.drop_zero, List.take_succ_cons, List.take_zero, Nat.lt_add_one, ↓reduceIte, Nat.le_refl, T_117, T_63, T_65, e2, e6, hbx, pt_63, cellOk, g0, w3]
    refine op_slice_ro (el := 117) (ex := exl) (l := ls) (i := i) (j := i + 3) (m := ls.length) rfl (by decide) rfl (fun h => by cases h) ⟨by omega, by omega⟩ ⟨by omega, by omega⟩ rfl (by omega) (by omega) (Nat.le_refl _) ?_
    simp only [rdSl_ro, T_117, T_117]
    refine hK1 _ _ _ ?_
    clear hK1 K1
    have hsl : (List.take (i + 3 - i) (List.drop i ls)).length = 3 := by simp; omega
    have hsj : ∀ j, j < 3 → (List.take (i + 3 - i) (List.drop i ls))[j]? = ls[i + j]? := fun j hj => by
      rw [List.getElem?_take, if_pos (by omega), List.getElem?_drop]
    generalize List.take (i + 3 - i) (List.drop i ls) = sub at hsl hsj ⊢
    refine WP.block (WP.loop (fun mm E2 g n2 => ∃ j D es, mm = 3 - j ∧ j ≤ 3 ∧ OwnR g n' n2 1 D es ∧ All2 ByteR es (dataTo d i j) ∧ es.length = 16 * j ∧ (∀ id, id < n' → g id = h' id) ∧ n' + 1 ≤ n2 ∧ E2.get 1 = .int .i64 p ∧ E2.get 2 = .ep 2 (.sl 2 n 0 1 1 true) 0 0 ∧ E2.get 5 = A ∧ E2.get 6 = .int .i64 i ∧ E2.get 7 = D ∧ E2.get 8 = .bool (wholeTo d p i j) ∧ (∃ b, E2.get 32 = .ro 3 b sub) ∧ E2.get 33 = .int .i64 sub.length ∧ E2.get 34 = .int .i64 j) 3 ?_ ?_)
    · refine ⟨0, .sl 1 n' 0 0 0 true, [], by omega, by omega, .inr ⟨n', true, Nat.le_refl _, by omega, rfl, Heap.upd_same _ _ _⟩, .nil, rfl, fun id hid => Heap.upd_ne _ _ (by omega), Nat.le_refl _, ?_, ?_, ?_, ?_, rfl, rfl, ⟨_, rfl⟩, rfl, rfl⟩
      · simpa [Env.get, Env.put] using e1
      · simpa [Env.get, Env.put] using e2
      · simpa [Env.get, Env.put] using e5
      · simpa [Env.get, Env.put] using e6
    clear e1 e2 e5 e6
    rintro mm E2 g n2 ⟨j, D, es, rfl, hj, oD, aD, hesl, hg, hn2, e1, e2, e5, e6, e7, e8, ⟨bx, e32⟩, e33, e34⟩
    refine WP.seq_k fun K1 hK1 => WP.region hT rfl ?_
    simp only [↓opsA, ↓stepA, ↓callA, ev, ↓e_binOp, b_lss, ↓thenA, e33, e34]
    refine hK1 _ _ _ ?_
    clear hK1 K1
    refine WP.seq_k fun K8 hK8 => ?_
    refine WP.cond (by simp only [ev, Env.get_put_some, ↓reduceIte]; rfl) (fun hc => ?_) (fun hc => ?_)
    · have hj3 : j < 3 := by have := of_decide_eq_true hc; omega
      obtain ⟨bw, w, hbw, hw, hRw⟩ := all2_at al (i := i + j) (by omega)
      have hw16 := hok.l16 w (List.mem_of_getElem? hw)
      obtain ⟨xw, rfl, _, _, hdw⟩ := hRw
      have zw := one_cells hdw.isOne
      obtain ⟨sw, rw', aw, _, _, _⟩ := hdw
      have llw := all2_length aw
      have hsw := (hsj j hj3).trans hbw
      refine WP.skip (hK8 _ _ _ ?_)
      clear hK8 K8 hc
      refine WP.seq_k fun K8 hK8 => WP.block ?_
      refine WP.seq_k fun K1 hK1 => WP.region hT rfl ?_
      simp only [↓opsA, ↓stepA, ↓callA, Int.toNat_natCast, ev, Env.get_put_some, Env.put_none, ↓e_move, ↓e_assign, ↓e_alloc, ↓e_load, ↓e_store, ↓e_indexAddr, rdSl_ro, setPart_agg, ↓thenA, Heap.upd_get, Heap.upd_upd, Nat.pos_of_neZero, good_agg, AV.cells_agg, reduceIte, Nat.reduceEqDiff, Nat.reduceAdd, true_and, List.getElem?_cons_zero, List.length_cons, List.length_nil, List.set_cons_zero, Nat.zero_add, Nat.add_zero, List.drop_zero, List.take_succ_cons, List.take_zero, List.drop_succ_cons, List.drop_nil, List.nil_append, List.append_nil, decide_true, ↓reduceIte, Nat.le_refl, T_117, T_63, e32, e34, hsw, pt_117, cellOk]
      refine ⟨by omega, by omega, hK1 _ _ _ ?_⟩
      clear hK1 K1
      refine WP.seq_k fun K1 hK1 => WP.region hT rfl ?_
      have hst : wholeTo d p i (j + 1) = (wholeTo d p i j && decide (w.page = p) && decide (w.part = j)) := wholeTo_succ hw
      refine opsA_mid 8 (fun E => E.get 1 = .int .i64 p ∧ E.get 2 = .ep 2 (.sl 2 n 0 1 1 true) 0 0 ∧ E.get 5 = A ∧ E.get 6 = .int .i64 i ∧ E.get 7 = D ∧ E.get 9 = .int .i64 j ∧ E.get 10 = .ep 3 (.sl 3 n2 0 1 1 true) 0 0 ∧ E.get 32 = .ro 3 bx sub ∧ E.get 33 = .int .i64 sub.length ∧ E.get 34 = .int .i64 j ∧ E.get 46 = .bool (wholeTo d p i j && decide (w.page = p))) ?_ ?_
      · generalize wholeTo d p i j = v at e8 ⊢
        cases v
        · simp only [↓opsA_nil, ↓opsA_cons, isCallV, yieldA, List.getElem?_cons_succ, Option.some.injEq, Bool.false_eq_true, ↓stepA, ↓callA, ev, Env.get_put_some, ↓e_move, ↓e_binOp, ↓e_pick, ↓e_load, ↓e_fieldAddr, rdSl_sl, ofVal, reduceIte, Nat.reduceEqDiff, true_and, List.getElem?_cons_zero, List.getElem?_cons_succ, Nat.zero_add, Nat.add_zero, List.drop_zero, List.take_succ_cons, List.take_zero, Option.bind_some, Nat.lt_add_one, ↓reduceIte, T_2, T_117, e1, e2, e5, e6, e7, e8, e32, e33, e34, pt_2, cellOk, Bool.false_and, and_self]
        · simp only [↓opsA_nil, ↓opsA_cons, isCallV, yieldA, List.getElem?_cons_succ, ↓stepA, ↓callA, ev, Env.get_put_some, ↓e_move, ↓e_binOp, ↓e_pick, ↓e_load, ↓e_fieldAddr, b_eql, rdSl_sl, ofVal, Heap.upd_get, AV.cells_agg, reduceIte, Nat.reduceEqDiff, true_and, List.getElem?_cons_zero, List.getElem?_cons_succ, List.length_cons, List.length_nil, Nat.zero_add, Nat.add_zero, List.drop_zero, List.take_succ_cons, List.take_zero, Option.bind_some, Nat.lt_add_one, ↓reduceIte, Nat.le_refl, T_2, T_117, e1, e2, e5, e6, e7, e8, e32, e33, e34, pt_2, cellOk, Bool.true_and]
      clear e1 e2 e5 e6 e7 e8 e32 e33 e34
      rintro E ⟨e1, e2, e5, e6, e7, e9, e10, e32, e33, e34, e46⟩
      have key : ∀ E3 : Env, E3.get 1 = .int .i64 p → E3.get 2 = .ep 2 (.sl 2 n 0 1 1 true) 0 0 → E3.get 5 = A → E3.get 6 = .int .i64 i → E3.get 7 = D → E3.get 10 = .ep 3 (.sl 3 n2 0 1 1 true) 0 0 → E3.get 32 = .ro 3 bx sub → E3.get 33 = .int .i64 sub.length → E3.get 34 = .int .i64 j → E3.get 8 = .bool (wholeTo d p i (j + 1)) → K1 E3 (g.upd n2 [.agg [.int .i64 w.page, .int .i64 w.part, xw]]) (n2 + 1) := by
        intro E3 e1 e2 e5 e6 e7 e10 e32 e33 e34 e8
        refine hK1 _ _ _ ?_
        clear hK1 K1
        refine WP.region hT rfl ?_
        simp only [↓opsA, ↓stepA, ↓e_append1, ↓callA, ev, Env.get_put_some, ↓e_move, ↓e_assign, ↓e_load, ↓e_fieldAddr, rdSl_sl, ↓thenA, ↓blockA, Heap.upd_get, AV.cells_agg, reduceIte, Nat.reduceEqDiff, true_and, List.getElem?_cons_zero, List.getElem?_cons_succ, List.length_cons, List.length_nil, Nat.zero_add, List.drop_zero, List.take_succ_cons, List.take_zero, Nat.lt_add_one, ↓reduceIte, Nat.le_refl, T_113, T_117, e7, e10, pt_113, cellOk]
        have oD' : OwnR (g.upd n2 [.agg [.int .i64 w.page, .int .i64 w.part, xw]]) n' (n2 + 1) 1 D es := oD.keep (by omega) fun k hk => Heap.upd_ne _ _ (by have := oD.id_lt hk; omega)
        refine ⟨5, rfl, GrowR.pushAll (n0 := n') rfl (by decide) (.inl oD') (rdSl_emp rw' _) (by intro hq; rw [hq] at llw; simp at llw; omega) (by simp [T_5]; omega) (by omega) (by omega) fun g1 o1 u1 => ?_⟩
        have k1 : ∀ id, id < n' → g1 id = h' id := fun id hq => by rw [u1 id (by omega) (fun hh => by have := oD'.id_lt hh; omega), Heap.upd_ne _ _ (by omega)]; exact hg id hq
        refine hK8 _ _ _ ?_
        clear hK8 K8
        refine WP.region hT rfl ?_
        simp only [↓opsA, ↓stepA, ↓callA, ev, Env.get_put_some, ↓e_move, ↓e_binOp, b_add, ofVal, ↓thenA, reduceIte, Nat.reduceEqDiff, Nat.reduceLeDiff, Nat.reduceAdd, Nat.add_assoc, ↓reduceIte, T_5, e34]
        refine ⟨3 - (j + 1), by omega, j + 1, _, _, rfl, by omega, o1, ?_, by simp; omega, k1, by omega, ?_, ?_, ?_, ?_, rfl, ?_, ⟨bx, ?_⟩, ?_, ?_⟩
        · rw [dataTo_succ hw]; exact all2_app aD aw
        · simpa [Env.get, Env.put] using e1
        · simpa [Env.get, Env.put] using e2
        · simpa [Env.get, Env.put] using e5
        · simpa [Env.get, Env.put] using e6
        · simpa [Env.get, Env.put] using e8
        · simpa [Env.get, Env.put] using e32
        · simpa [Env.get, Env.put] using e33
        · rw [wrap_in (by omega) (by omega)]; rfl
      rw [hst] at key
      generalize (wholeTo d p i j && decide (w.page = p)) = v at e46 key
      cases v
      · simp only [↓opsA_nil, ↓opsA_cons, isCallV, yieldA, List.getElem?_cons_succ, Option.some.injEq, Bool.false_eq_true, ↓stepA, ↓callA, ev, Env.get_put_some, ↓e_assign, ↓e_pick, ofVal, ↓thenA, reduceIte, Nat.reduceEqDiff, List.getElem?_cons_zero, List.getElem?_cons_succ, List.drop_zero, List.drop_succ_cons, Option.bind_some, ↓reduceIte, e46]
        exact key _ e1 e2 e5 e6 e7 e10 e32 e33 e34 rfl
      · simp only [↓opsA_nil, ↓opsA_cons, isCallV, yieldA, List.getElem?_cons_succ, ↓stepA, ↓callA, ev, Env.get_put_some, ↓e_move, ↓e_assign, ↓e_binOp, ↓e_pick, ↓e_load, ↓e_fieldAddr, b_eql, rdSl_sl, ↓thenA, Heap.upd_get, AV.cells_agg, reduceIte, Nat.reduceEqDiff, true_and, List.getElem?_cons_zero, List.getElem?_cons_succ, List.length_cons, List.length_nil, Nat.zero_add, List.drop_zero, List.take_succ_cons, List.take_zero, List.drop_succ_cons, Option.bind_some, Nat.lt_add_one, ↓reduceIte, Nat.le_refl, T_2, T_117, e9, e10, e46, pt_2, cellOk]
        exact key _ e1 e2 e5 e6 e7 e10 e32 e33 e34 rfl
    · have hj3 : j = 3 := by have := of_decide_eq_false hc; omega
      subst hj3
      refine WP.exit ?_
      simp only [↓thenA, ↓blockA, reduceIte, ↓reduceIte]
      refine hK7 _ _ _ ?_
      clear hK8 K8 hK7 K7 hc
      refine WP.seq_k fun K1 hK1 => WP.region hT rfl ?_
      simp only [↓opsA, ↓stepA, ↓callA, ev, Env.get_put_some, ↓e_move, ↓thenA, reduceIte, Nat.reduceEqDiff, ↓reduceIte, e8]
      refine hK1 _ _ _ ?_
      clear hK1 K1
      refine WP.cond (by simp only [ev, Env.get_put_some, ↓reduceIte]; rfl) (fun hc => ?_) (fun hc => ?_)
      · rw [if_pos hc] at himg
        have hdl := all2_length aD
        obtain ⟨r', J, tr, hu, hJ⟩ := bytes_tree aD oD (by omega)
        have hDc : D.cells = [D] ∧ D.good = true := by
          rcases oD with ⟨rfl, _⟩ | ⟨k, ex, _, _, rfl, _⟩ <;> exact ⟨rfl, rfl⟩
        refine WP.region hT rfl ?_
        simp only [↓opsA, ↓stepA, ↓e_append1, ↓callA, ev, Env.get_put_some, ↓e_move, ↓e_assign, ↓thenA, ↓blockA, reduceIte, Nat.reduceEqDiff, Nat.reduceLeDiff, true_and, List.length_cons, List.length_nil, Nat.zero_add, Nat.lt_add_one, ↓reduceIte, T_55, T_113, e5, e7, e_bs1, hDc.1, hDc.2]
        refine ⟨113, rfl, hB.push (n1 := n2) (by omega) (by omega) hg tr (fun i hi => by have := hJ i hi; omega) hu (by simp; omega) fun A2 h4 n4 hn4 hB4 u4 hA4 => ?_⟩
        refine hK6 _ _ _ ?_
        clear hK6 K6
        refine WP.region hT rfl ?_
        simp only [↓opsA, ↓stepA, ↓callA, ev, Env.get_put_some, ↓e_move, ↓e_assign, ↓e_binOp, b_add, ofVal, ↓thenA, reduceIte, Nat.reduceEqDiff, ↓reduceIte, e6]
        refine ⟨d.loose.length - (i + 1), by omega, i + 1, A2, rfl, by omega, ?_, hA4.2.2, ?_, ?_, ?_, ?_, ?_⟩
        · rw [hrange, himg]; simpa using hB4
        · rw [u4 n (by omega) (fun hh => by have := hB.id_lt hh; omega), hg n (by omega)]; exact hbx
        · simpa [Env.get, Env.put] using e1
        · simpa [Env.get, Env.put] using e2
        · rfl
        · rw [w1]; rfl
      · rw [if_neg (by rw [hc]; simp)] at himg
        refine WP.skip ?_
        simp only [↓thenA, ↓blockA]
        refine hK6 _ _ _ ?_
        clear hK6 K6
        refine WP.region hT rfl ?_
        simp only [↓opsA, ↓stepA, ↓callA, ev, Env.get_put_some, ↓e_move, ↓e_assign, ↓e_binOp, b_add, ofVal, ↓thenA, reduceIte, Nat.reduceEqDiff, ↓reduceIte, e6]
        refine ⟨d.loose.length - (i + 1), by omega, i + 1, A, rfl, by omega, ?_, hA, ?_, ?_, ?_, ?_, ?_⟩
        · rw [hrange, himg]; simpa using hB.keep (by omega) (by omega) hg
        · rw [hg n (by omega)]; exact hbx
        · simpa [Env.get, Env.put] using e1
        · simpa [Env.get, Env.put] using e2
        · simpa [Env.get, Env.put] using e5
        · rw [w1]; rfl
  · have hil : i = d.loose.length - 2 := by have := of_decide_eq_false hc; omega
    subst hil
    refine WP.exit ?_
    simp only [↓thenA, ↓blockA, reduceIte, ↓reduceIte]
    refine hK1 _ _ _ ?_
    clear hK6 K6 hK1 K1
    refine WP.seq_k fun K1 hK1 => WP.region hT rfl ?_
    simp only [↓opsA, ↓stepA, ↓callA, ev, Env.get_put_some, ↓e_move, ↓e_assign, ↓thenA, reduceIte, Nat.reduceEqDiff, ↓reduceIte, e5]
    refine hK1 _ _ _ ?_
    clear hK1 K1
    refine WP.ret ?_
    simp only [Env.get_put_some, reduceIte, Option.map_some, ↓reduceIte, retA, resA]
    have himf : imagesF d p = q0 :: (List.range (d.loose.length - 2)).filterMap (imgAt d p) := by unfold imagesF; rw [List.getD_eq_getElem?_getD, hq0]; rfl
    have hll : ((List.range (d.loose.length - 2)).filterMap (imgAt d p)).length ≤ d.loose.length - 2 := by have := List.length_filterMap_le (imgAt d p) (List.range (d.loose.length - 2)); simp at this; omega
    rw [← himf] at hB
    obtain ⟨A', I, tA, hU, hI⟩ := hB.tree (by rw [himf]; simp; omega) hA
    exact ⟨_, rfl, own_done hlt tA hU (fun i hi => by have := hI i hi; omega) hB.bel (by omega) hk⟩
end
end Go.Proofs.Ytplkjfnjdekgpaa
