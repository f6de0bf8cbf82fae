/- Row 6: the reference's images. Own work. -/
import Derived.Test.YtplkjfnjdekgpaaR19
namespace Go.Proofs.Ytplkjfnjdekgpaa
open Go

section
variable {h : Heap} {n : Nat} {K : AV → Heap → Nat → Prop}

theorem c69o {id : Nat} {xp xl : AV} {d : DiskD} {p : Int} (hb : h id = some [.agg [xp, xl]]) (hid : id < n) (hp : ByteSSR xp d.pages) (hl : LooseSR xl d.loose) (hok : DiskOk d) (hpp : 0 ≤ p ∧ p < d.pages.length) (hk : ∀ r h' n', OwnRes ByteSSR h n r (imagesF d p) h' n' → K r h' n') : CA Try.prog 69 [.ep 2 (.sl 2 id 0 1 1 true) 0 0, .int .i64 p] h n K := by
  have zp := one_cells hp.isOne
  have zl := one_cells hl.isOne
  obtain ⟨ps, rp, ap, mp, _, _⟩ := hp
  obtain ⟨ls, rl, al, ml, _, _⟩ := hl
  have lp := all2_length ap
  have ll := all2_length al
  have h60 := hok.l60
  obtain ⟨b0, q0, hb0, hq0, hR0⟩ := all2_at ap (i := p.toNat) (by omega)
  have hq48 := hok.p48 q0 (List.mem_of_getElem? hq0)
  have hbp := tyByteS_113.part b0 q0 hR0
  obtain ⟨bs0, rb0, ab0, _, _, _⟩ := hR0
  have lb0 := all2_length ab0
  refine CA.conv (CA.enter (N := 98) (rs := [.tmp 4]) hT Try.call69 Try.func69 rfl rfl (by simp) rfl fun hlt => ?_)
  refine WP.seq_k fun K1 hK1 => WP.region hT rfl ?_
  simp only [↓opsA, ↓stepA, ↓callA, ev, ↓e_assign, ofVal, ↓thenA]
  refine hK1 _ _ _ ?_
  clear hK1 K1
  refine WP.seq_k fun K1 hK1 => WP.region hT rfl ?_
  have f0 : (id = n) = False := eq_false (by omega)
  simp only [↓opsA, ↓stepA, ↓e_append1, ↓callA, ev, Env.get_put_some, Env.get_envOf, ↓e_move, ↓e_assign, ↓e_nilCheck, ↓e_load, ↓e_fieldAddr, ↓e_indexAddr, rdSl_sl, ↓thenA, Heap.upd_get, AV.cells_agg, reduceIte, Nat.reduceEqDiff, Nat.reduceLeDiff, true_and, List.getElem?_cons_zero, List.getElem?_cons_succ, Option.getD_some, List.length_cons, List.length_nil, Nat.zero_add, Nat.add_zero, List.drop_zero, List.take_succ_cons, List.take_zero, Nat.lt_add_one, ↓reduceIte, Nat.le_refl, T_5, T_55, T_113, T_65, hb, f0, pt_55, cellOk, rdSl_emp rp, hb0, hbp, e_bs0, e_bs1]
  refine ⟨by omega, by omega, 5, rfl, GrowR.pushAll (n0 := n) (es := []) rfl (by decide) (.inl (.inr ⟨n, true, Nat.le_refl _, by omega, rfl, Heap.upd_same _ _ _⟩)) (rdSl_emp rb0 _) (by intro hq; rw [hq] at lb0; simp at lb0; omega) (by simp [T_5]; omega) (by simp; omega) (by omega) fun h2 o2 u2 => ?_⟩
  rw [List.nil_append] at o2
  obtain ⟨r0, hr0⟩ : ∃ r, r = AV.sl (T 5).sz (n + 1) 0 (([] : List AV).length + bs0.length) (([] : List AV).length + bs0.length) false := ⟨_, rfl⟩
  rw [← hr0] at o2 ⊢
  have hrc : r0.cells = [r0] := by rw [hr0]; rfl
  have hrg : r0.good = true := by rw [hr0]; rfl
  obtain ⟨r0', I0, tr0, hu0, hI0⟩ := bytes_tree ab0 o2 (by omega)
  simp only [Nat.reduceAdd, Nat.add_assoc, true_and, List.length_cons, List.length_nil, Nat.zero_add, hrc, hrg]
  refine hK1 _ _ _ ?_
  clear hK1 K1
  have hB0 : BInv n n h (h2.upd (n + 2) [r0]) (n + 3) (.sl 1 (n + 2) 0 1 1 true) [q0] := by
    refine ⟨⟨[r0], [r0'], I0, .inr ⟨n + 2, true, by omega, by omega, rfl, Heap.upd_same _ _ _⟩, TreeL.one (tr0.keep fun i hi => Heap.upd_ne _ _ (by have := hI0 i hi; omega)), .cons hu0 .nil, fun k hk hq => ?_, fun i hi => by have := hI0 i hi; omega⟩, fun id hid => ?_, by omega⟩
    · have hk' : n + 2 = k := hk
      have := hI0 k hq
      omega
    · rw [Heap.upd_ne _ _ (by omega), u2 id (by omega) (fun hq => by have hq' : n = id := hq; omega), Heap.upd_ne _ _ (by omega)]
  refine WP.seq_k fun K1 hK1 => ?_
  refine WP.seq_k fun K1 hK1 => WP.region hT rfl ?_
  simp only [↓opsA, ↓stepA, ↓callA, ev, ↓e_assign, ofVal, ↓thenA]
  refine hK1 _ _ _ ?_
  clear hK1 K1
  refine WP.block (WP.loop (fun mm E h' n' => ∃ i A, mm = d.loose.length - i ∧ i ≤ d.loose.length - 2 ∧ BInv n n h h' n' A (q0 :: (List.range i).filterMap (imgAt d p)) ∧ A ≠ .nils ∧ E.get 0 = .ep 2 (.sl 2 id 0 1 1 true) 0 0 ∧ E.get 1 = .int .i64 p ∧ E.get 5 = A ∧ E.get 6 = .int .i64 i) d.loose.length ?_ ?_)
  · exact ⟨0, _, by omega, Nat.zero_le _, hB0, (fun hq => by cases hq), rfl, rfl, rfl, rfl⟩
  clear hB0 tr0 hI0 o2 u2 hr0 hrc hrg hu0
  rintro mm E h' n' ⟨i, A, rfl, hi, hB, hA, e0, e1, e5, e6⟩
  have hle := hB.le
  have hbx : h' id = some [.agg [xp, xl]] := by rw [hB.bel id hid]; exact hb
  have w2 : IntKind.i64.wrap ((i : Int) + 2) = i + 2 := wrap_in (by omega) (by omega)
  have w1 : IntKind.i64.wrap ((i : Int) + 1) = i + 1 := wrap_in (by omega) (by omega)
  refine WP.seq_k fun K6 hK6 => ?_
  refine WP.seq_k fun K1 hK1 => WP.region hT rfl ?_
  simp only [↓opsA, ↓stepA, ↓e_len1, ↓callA, ev, Env.get_put_some, ↓e_move, ↓e_binOp, ↓e_nilCheck, ↓e_load, ↓e_fieldAddr, b_add, b_lss, rdSl_sl, ofVal, ↓thenA, AV.cells_agg, reduceIte, Nat.reduceEqDiff, true_and, List.getElem?_cons_zero, List.getElem?_cons_succ, List.length_cons, List.length_nil, Nat.zero_add, List.drop_zero, List.take_succ_cons, List.take_zero, Nat.lt_add_one, ↓reduceIte, Nat.le_refl, T_117, T_63, T_65, e0, e6, hbx, pt_63, cellOk, rdSl_emp rl, w2]
  refine hK1 _ _ _ ?_
  clear hK1 K1
  refine WP.cond (by simp only [ev, Env.get_put_some, ↓reduceIte]; rfl) (fun hc => ?_) (fun hc => ?_)
  · have hil : i + 2 < d.loose.length := by have := of_decide_eq_true hc; omega
    obtain ⟨ba, a, hba, ha, hRa⟩ := all2_at al (i := i) (by omega)
    obtain ⟨bb, b, hbb, hbbq, hRb⟩ := all2_at al (i := i + 1) (by omega)
    obtain ⟨bc, c, hbc, hcq, hRc⟩ := all2_at al (i := i + 2) (by omega)
    have la := hok.l16 a (List.mem_of_getElem? ha)
    have lb := hok.l16 b (List.mem_of_getElem? hbbq)
    have lc := hok.l16 c (List.mem_of_getElem? hcq)
    obtain ⟨xa, rfl, _, _, hda⟩ := hRa
    obtain ⟨xb, rfl, _, _, hdb⟩ := hRb
    obtain ⟨xc, rfl, _, _, hdc⟩ := hRc
    have za := one_cells hda.isOne
    have zb := one_cells hdb.isOne
    have zc := one_cells hdc.isOne
    have himg : imgAt d p i = if a.page = p ∧ b.page = p ∧ c.page = p ∧ a.part = 0 ∧ b.part = 1 ∧ c.part = 2 then some (a.data ++ b.data ++ c.data) else none := by unfold imgAt; rw [ha, hbbq, hcq]
    have hrange : (List.range (i + 1)).filterMap (imgAt d p) = (List.range i).filterMap (imgAt d p) ++ (imgAt d p i).toList := by
      rw [List.range_succ, List.filterMap_append]; cases hq : imgAt d p i <;> simp [hq]
    have hll : ((List.range i).filterMap (imgAt d p)).length ≤ i := by have := List.length_filterMap_le (imgAt d p) (List.range i); simp at this; omega
    have g0 : (id = n') = False := eq_false (by omega)
    have g1 : (id = n' + 1) = False := eq_false (by omega)
    have g2 : (id = n' + 2) = False := eq_false (by omega)
    have ti : ((i : Int) + 1).toNat = i + 1 := by omega
    have ti2 : ((i : Int) + 2).toNat = i + 2 := by omega
    refine WP.skip (hK6 _ _ _ ?_)
    clear hK6 K6 hc
    refine WP.seq_k fun K6 hK6 => WP.block ?_
    refine WP.seq_k fun K1 hK1 => WP.region hT rfl ?_
    simp only [↓opsA, ↓stepA, ↓callA, Int.toNat_natCast, ev, Env.get_put_some, Env.put_none, ↓e_move, ↓e_alloc, ↓e_nilCheck, ↓e_load, ↓e_store, ↓e_fieldAddr, ↓e_indexAddr, rdSl_sl, setPart_agg, ↓thenA, Heap.upd_get, Heap.upd_upd, Nat.pos_of_neZero, good_agg, AV.cells_agg, reduceIte, Nat.reduceEqDiff, Nat.reduceAdd, true_and, List.getElem?_cons_zero, List.getElem?_cons_succ, List.length_cons, List.length_nil, List.set_cons_zero, Nat.zero_add, Nat.add_zero, List.drop_zero, List.take_succ_cons, List.take_zero, List.drop_succ_cons, List.drop_nil, List.nil_append, List.append_nil, decide_true, Nat.lt_add_one, ↓reduceIte, Nat.le_refl, T_117, T_63, T_65, e0, e6, hbx, pt_63, pt_117, cellOk, rdSl_emp rl, hba]
    refine ⟨by omega, by omega, hK1 _ _ _ ?_⟩
    clear hK1 K1
    refine WP.seq_k fun K1 hK1 => WP.region hT rfl ?_
    simp only [↓opsA, ↓stepA, ↓callA, ev, Env.get_put_some, Env.put_none, ↓e_move, ↓e_alloc, ↓e_binOp, ↓e_nilCheck, ↓e_load, ↓e_store, ↓e_fieldAddr, ↓e_indexAddr, b_add, rdSl_sl, setPart_agg, ofVal, ↓thenA, Heap.upd_get, Heap.upd_upd, Nat.pos_of_neZero, good_agg, AV.cells_agg, reduceIte, Nat.reduceEqDiff, Nat.reduceAdd, Nat.add_assoc, true_and, List.getElem?_cons_zero, List.getElem?_cons_succ, List.length_cons, List.length_nil, List.set_cons_zero, Nat.zero_add, Nat.add_zero, List.drop_zero, List.take_succ_cons, List.take_zero, List.drop_succ_cons, List.drop_nil, List.nil_append, List.append_nil, decide_true, Nat.lt_add_one, ↓reduceIte, Nat.le_refl, T_117, T_63, T_65, e0, e6, hbx, pt_63, pt_117, cellOk, rdSl_emp rl, w1, ti, hbb, g0]
    refine ⟨by omega, by omega, hK1 _ _ _ ?_⟩
    clear hK1 K1
    refine WP.seq_k fun K1 hK1 => WP.region hT rfl ?_
    simp only [↓opsA, ↓stepA, ↓callA, ev, Env.get_put_some, Env.put_none, ↓e_move, ↓e_alloc, ↓e_binOp, ↓e_nilCheck, ↓e_load, ↓e_store, ↓e_fieldAddr, ↓e_indexAddr, b_add, rdSl_sl, setPart_agg, ofVal, ↓thenA, Heap.upd_get, Heap.upd_upd, Nat.pos_of_neZero, good_agg, AV.cells_agg, reduceIte, Nat.reduceEqDiff, Nat.reduceAdd, Nat.add_assoc, true_and, List.getElem?_cons_zero, List.getElem?_cons_succ, List.length_cons, List.length_nil, List.set_cons_zero, Nat.zero_add, Nat.add_zero, List.drop_zero, List.take_succ_cons, List.take_zero, List.drop_succ_cons, List.drop_nil, List.nil_append, List.append_nil, decide_true, Nat.lt_add_one, ↓reduceIte, Nat.le_refl, T_117, T_63, T_65, e0, e6, hbx, pt_63, pt_117, cellOk, rdSl_emp rl, w2, ti2, hbc, g0, g1]
    refine ⟨by omega, by omega, hK1 _ _ _ ?_⟩
    clear hK1 K1
    refine WP.seq_k fun K1 hK1 => WP.region hT rfl ?_
    have key : ∀ (E2 : Env), E2.get 0 = .ep 2 (.sl 2 id 0 1 1 true) 0 0 → E2.get 1 = .int .i64 p → E2.get 5 = A → E2.get 6 = .int .i64 i → E2.get 7 = .ep 3 (.sl 3 n' 0 1 1 true) 0 0 → E2.get 8 = .ep 3 (.sl 3 (n' + 1) 0 1 1 true) 0 0 → E2.get 9 = .ep 3 (.sl 3 (n' + 2) 0 1 1 true) 0 0 →
        E2.get 83 = .bool (decide (a.page = p ∧ b.page = p ∧ c.page = p ∧ a.part = 0 ∧ b.part = 1 ∧ c.part = 2)) → K1 E2 (((h'.upd n' [.agg [.int .i64 a.page, .int .i64 a.part, xa]]).upd (n' + 1) [.agg [.int .i64 b.page, .int .i64 b.part, xb]]).upd (n' + 2) [.agg [.int .i64 c.page, .int .i64 c.part, xc]]) (n' + 3) := by
      intro E e0 e1 e5 e6 e7 e8 e9 e83
      refine hK1 _ _ _ ?_
      clear hK1 K1
      obtain ⟨H, hH⟩ : ∃ H, H = (((h'.upd n' [.agg [.int .i64 a.page, .int .i64 a.part, xa]]).upd (n' + 1) [.agg [.int .i64 b.page, .int .i64 b.part, xb]]).upd (n' + 2) [.agg [.int .i64 c.page, .int .i64 c.part, xc]]) := ⟨_, rfl⟩
      rw [← hH]
      have H7 : H n' = some [.agg [.int .i64 a.page, .int .i64 a.part, xa]] := by rw [hH]; simp [Heap.upd_get]
      have H8 : H (n' + 1) = some [.agg [.int .i64 b.page, .int .i64 b.part, xb]] := by rw [hH]; simp [Heap.upd_get]
      have H9 : H (n' + 2) = some [.agg [.int .i64 c.page, .int .i64 c.part, xc]] := by rw [hH]; simp []
      have Hb : ∀ id, id < n' → H id = h' id := fun id hq => by rw [hH, Heap.upd_ne _ _ (by omega), Heap.upd_ne _ _ (by omega), Heap.upd_ne _ _ (by omega)]
      refine WP.cond e83 (fun hc => ?_) (fun hc => ?_)
      · have hv := of_decide_eq_true hc
        rw [if_pos hv] at himg
        obtain ⟨sa, ra, aa, _, _, _⟩ := hda
        obtain ⟨sb, rbb, ab, _, _, _⟩ := hdb
        obtain ⟨sc, rc, ac, _, _, _⟩ := hdc
        have lla := all2_length aa
        have llb := all2_length ab
        have llc := all2_length ac
        obtain ⟨hS, hhS⟩ : ∃ g : Heap, g = fun id => if id = n' ∨ id = n' + 1 ∨ id = n' + 2 then H id else none := ⟨_, rfl⟩
        have hsub : ∀ g : Heap, (∀ id, n' ≤ id → id ≤ n' + 2 → g id = H id) → hS.Sub g := fun g hg id x hx => by
          rw [hhS] at hx
          simp only at hx
          split at hx
          · rw [hg id (by omega) (by omega)]; exact hx
          · cases hx
        have S7 : hS n' = some [.agg [.int .i64 a.page, .int .i64 a.part, xa]] := by rw [hhS]; simp [H7]
        have S8 : hS (n' + 1) = some [.agg [.int .i64 b.page, .int .i64 b.part, xb]] := by rw [hhS]; simp [H8]
        have S9 : hS (n' + 2) = some [.agg [.int .i64 c.page, .int .i64 c.part, xc]] := by rw [hhS]; simp [H9]
        refine WP.drawL hT hM [(0, 0), (2, 0), (3, 1), (5, 0), (6, 1), (8, 0), (9, 1), (1, 2), (4, 2), (7, 2), (10, 2), (11, 2), (12, 2), (13, 0)] [] hS (by kernel_rfl) rfl (hsub H fun _ _ _ => rfl) fun hlt' => ?_
        simp only [↓planL, List.contains_nil, Bool.or_false, ↓stepA, ↓e_append1, ↓callA, ev, Env.get_put_some, ↓e_move, ↓e_assign, ↓e_load, ↓e_fieldAddr, rdSl_sl, ↓thenA, ↓blockA, AV.cells_agg, reduceIte, Nat.reduceEqDiff, Nat.reduceLeDiff, Nat.reduceAdd, Nat.add_assoc, true_and, List.getElem?_cons_zero, List.getElem?_cons_succ, List.length_cons, List.length_nil, Nat.zero_add, List.drop_zero, List.take_succ_cons, List.take_zero, Nat.lt_add_one, ↓reduceIte, Nat.le_refl, T_5, T_55, T_113, T_117, e5, e7, e8, e9, S7, S8, S9, pt_113, cellOk, e_bs0, e_bs1]
        refine ⟨hsub _ (fun id q1 q2 => Heap.upd_ne _ _ (by omega)), 5, rfl, GrowR.pushAll (n0 := n' + 3) (es := []) rfl (by decide) (.inl (.inr ⟨n' + 3, true, Nat.le_refl _, by omega, rfl, Heap.upd_same _ _ _⟩)) (rdSl_emp ra _) (by intro hq; rw [hq] at lla; simp at lla; omega) (by simp [T_5]; omega) (by simp; omega) (by omega) fun g1 o1 u1 => ?_⟩
        have k1 : ∀ id, id < n' + 3 → g1 id = H id := fun id hq => by rw [u1 id (by omega) (fun hh => by have hh' : n' + 3 = id := hh; omega), Heap.upd_ne _ _ (by omega)]
        refine ⟨hsub _ (fun id q1 q2 => k1 id (by omega)), 5, rfl, GrowR.pushAll (n0 := n' + 3) rfl (by decide) (.inl o1) (rdSl_emp rbb _) (by intro hq; rw [hq] at llb; simp at llb; omega) (by simp [T_5]; omega) (by simp; omega) (by omega) fun g2 o2 u2 => ?_⟩
        have k2 : ∀ id, id < n' + 3 → g2 id = H id := fun id hq => by rw [u2 id (by omega) (fun hh => by have := o1.id_lt hh; omega)]; exact k1 id hq
        refine ⟨hsub _ (fun id q1 q2 => k2 id (by omega)), 5, rfl, GrowR.pushAll (n0 := n' + 3) rfl (by decide) (.inl o2) (rdSl_emp rc _) (by intro hq; rw [hq] at llc; simp at llc; omega) (by simp [T_5]; omega) (by simp; omega) (by omega) fun g3 o3 u3 => ?_⟩
        have k3 : ∀ id, id < n' + 3 → g3 id = H id := fun id hq => by rw [u3 id (by omega) (fun hh => by have := o2.id_lt hh; omega)]; exact k2 id hq
        obtain ⟨r, hr⟩ : ∃ r, r = AV.sl (T 5).sz (n' + 4 + 1 + 1) 0 ((([] : List AV) ++ sa ++ sb).length + sc.length) ((([] : List AV) ++ sa ++ sb).length + sc.length) false := ⟨_, rfl⟩
        have o3' : OwnR g3 (n' + 3) (n' + 7) 1 r (sa ++ sb ++ sc) := by rw [hr]; exact o3
        rw [← hr]
        have hrc : r.cells = [r] := by rw [hr]; rfl
        have hrg : r.good = true := by rw [hr]; rfl
        clear hr o3
        obtain ⟨r', J, tr, hu, hJ⟩ := bytes_tree (all2_app (all2_app aa ab) ac) o3' (by simp; omega)
        refine ⟨hsub _ (fun id q1 q2 => k3 id (by omega)), by rw [hrc]; rfl, hrg, hsub _ (fun id q1 q2 => by rw [Heap.upd_ne _ _ (by omega)]; exact k3 id (by omega)), 113, rfl, ?_⟩
        refine hB.push (n1 := n' + 7) (Nat.le_refl _) (by omega) (fun id hq => by rw [k3 id (by omega)]; exact Hb id hq) tr (fun i hi => by have := hJ i hi; omega) hu (by simp; omega) fun A2 h4 n4 hn4 hB4 u4 hA4 => ?_
        refine ⟨hsub _ (fun id q1 q2 => by rw [u4 id (by omega) (fun hh => by have := hB.id_lt hh; omega)]; exact k3 id (by omega)), ?_⟩
        refine hK6 _ _ _ ?_
        clear hK6 K6
        refine WP.region hT rfl ?_
        simp only [↓opsA, ↓stepA, ↓callA, ev, Env.get_put_some, ↓e_move, ↓e_assign, ↓e_binOp, b_add, ofVal, ↓thenA, reduceIte, Nat.reduceEqDiff, Nat.reduceAdd, Nat.add_assoc, List.length_nil, Nat.zero_add, List.nil_append, ↓reduceIte, T_5, e6]
        refine ⟨d.loose.length - (i + 1), by omega, i + 1, A2, rfl, by omega, ?_, hA4.2.2, ?_, ?_, ?_, ?_⟩
        · rw [hrange, himg]; simpa using hB4
        · simpa [Env.get, Env.put] using e0
        · simpa [Env.get, Env.put] using e1
        · rfl
        · rw [w1]; rfl
      · have hv := of_decide_eq_false hc
        rw [if_neg hv] at himg
        refine WP.skip ?_
        simp only [↓thenA, ↓blockA]
        refine hK6 _ _ _ ?_
        clear hK6 K6
        refine WP.region hT rfl ?_
        simp only [↓opsA, ↓stepA, ↓callA, ev, Env.get_put_some, ↓e_move, ↓e_assign, ↓e_binOp, b_add, ofVal, ↓thenA, reduceIte, Nat.reduceEqDiff, ↓reduceIte, e6]
        refine ⟨d.loose.length - (i + 1), by omega, i + 1, A, rfl, by omega, ?_, hA, ?_, ?_, ?_, ?_⟩
        · rw [hrange, himg]; simpa using hB.keep (by omega) (by omega) Hb
        · simpa [Env.get, Env.put] using e0
        · simpa [Env.get, Env.put] using e1
        · simpa [Env.get, Env.put] using e5
        · rw [w1]; rfl
    refine opsA_mid 5 (fun E => E.get 0 = .ep 2 (.sl 2 id 0 1 1 true) 0 0 ∧ E.get 1 = .int .i64 p ∧ E.get 5 = A ∧ E.get 6 = .int .i64 i ∧ E.get 7 = .ep 3 (.sl 3 n' 0 1 1 true) 0 0 ∧ E.get 8 = .ep 3 (.sl 3 (n' + 1) 0 1 1 true) 0 0 ∧ E.get 9 = .ep 3 (.sl 3 (n' + 2) 0 1 1 true) 0 0 ∧ E.get 57 = .bool (decide (a.page = p))) ?_ ?_
    · simp only [↓opsA, ↓stepA, ↓callA, ev, Env.get_put_some, ↓e_move, ↓e_binOp, ↓e_load, ↓e_fieldAddr, b_eql, rdSl_sl, Heap.upd_get, AV.cells_agg, reduceIte, Nat.reduceEqDiff, true_and, List.getElem?_cons_zero, List.length_cons, List.length_nil, Nat.zero_add, Nat.add_zero, List.drop_zero, List.take_succ_cons, List.take_zero, Nat.left_eq_add, Nat.one_ne_zero, Nat.lt_add_one, ↓reduceIte, Nat.le_refl, T_2, T_117, e0, e1, e5, e6, pt_2, cellOk, and_self]
    clear e0 e1 e5 e6
    rintro E ⟨e0, e1, e5, e6, e7, e8, e9, et⟩
    refine opsA_mid 6 (fun E => E.get 0 = .ep 2 (.sl 2 id 0 1 1 true) 0 0 ∧ E.get 1 = .int .i64 p ∧ E.get 5 = A ∧ E.get 6 = .int .i64 i ∧ E.get 7 = .ep 3 (.sl 3 n' 0 1 1 true) 0 0 ∧ E.get 8 = .ep 3 (.sl 3 (n' + 1) 0 1 1 true) 0 0 ∧ E.get 9 = .ep 3 (.sl 3 (n' + 2) 0 1 1 true) 0 0 ∧ E.get 63 = .bool ((decide (a.page = p)) && decide (b.page = p))) ?_ ?_
    · generalize (decide (a.page = p)) = v at et ⊢
      cases v
      · simp only [↓opsA_nil, ↓opsA_cons, isCallV, yieldA, List.getElem?_cons_succ, Option.some.injEq, Bool.false_eq_true, reduceCtorEq, ↓stepA, ↓callA, ev, Env.get_put_some, ↓e_move, ↓e_pick, ofVal, reduceIte, Nat.reduceEqDiff, true_and, List.getElem?_cons_zero, List.getElem?_cons_succ, List.drop_zero, List.take_succ_cons, List.take_zero, List.drop_succ_cons, Option.bind_some, ↓reduceIte, e0, e1, e5, e6, e7, e8, e9, et, Bool.false_and, and_self]
      · simp only [↓opsA_nil, ↓opsA_cons, isCallV, yieldA, List.getElem?_cons_succ, reduceCtorEq, ↓stepA, ↓callA, ev, Env.get_put_some, ↓e_move, ↓e_binOp, ↓e_pick, ↓e_load, ↓e_fieldAddr, b_eql, rdSl_sl, Heap.upd_get, AV.cells_agg, reduceIte, Nat.reduceEqDiff, true_and, List.getElem?_cons_zero, List.getElem?_cons_succ, List.length_cons, List.length_nil, Nat.zero_add, Nat.add_zero, List.drop_zero, List.take_succ_cons, List.take_zero, List.drop_succ_cons, Option.bind_some, Nat.lt_add_one, ↓reduceIte, Nat.le_refl, Nat.add_left_cancel_iff, T_2, T_117, e0, e1, e5, e6, e7, e8, e9, et, pt_2, cellOk, Bool.true_and, and_self]
    clear e0 e1 e5 e6 e7 e8 e9 et
    rintro E ⟨e0, e1, e5, e6, e7, e8, e9, et⟩
    refine opsA_mid 6 (fun E => E.get 0 = .ep 2 (.sl 2 id 0 1 1 true) 0 0 ∧ E.get 1 = .int .i64 p ∧ E.get 5 = A ∧ E.get 6 = .int .i64 i ∧ E.get 7 = .ep 3 (.sl 3 n' 0 1 1 true) 0 0 ∧ E.get 8 = .ep 3 (.sl 3 (n' + 1) 0 1 1 true) 0 0 ∧ E.get 9 = .ep 3 (.sl 3 (n' + 2) 0 1 1 true) 0 0 ∧ E.get 69 = .bool (((decide (a.page = p)) && decide (b.page = p)) && decide (c.page = p))) ?_ ?_
    · generalize ((decide (a.page = p)) && decide (b.page = p)) = v at et ⊢
      cases v
      · simp only [↓opsA_nil, ↓opsA_cons, isCallV, yieldA, List.getElem?_cons_succ, Option.some.injEq, Bool.false_eq_true, reduceCtorEq, ↓stepA, ↓callA, ev, Env.get_put_some, ↓e_move, ↓e_pick, ofVal, reduceIte, Nat.reduceEqDiff, true_and, List.getElem?_cons_zero, List.getElem?_cons_succ, List.drop_zero, List.take_succ_cons, List.take_zero, List.drop_succ_cons, Option.bind_some, ↓reduceIte, e0, e1, e5, e6, e7, e8, e9, et, Bool.false_and, and_self]
      · simp only [↓opsA_nil, ↓opsA_cons, isCallV, yieldA, List.getElem?_cons_succ, reduceCtorEq, ↓stepA, ↓callA, ev, Env.get_put_some, ↓e_move, ↓e_binOp, ↓e_pick, ↓e_load, ↓e_fieldAddr, b_eql, rdSl_sl, Heap.upd_get, AV.cells_agg, reduceIte, Nat.reduceEqDiff, true_and, List.getElem?_cons_zero, List.getElem?_cons_succ, List.length_cons, List.length_nil, Nat.zero_add, Nat.add_zero, List.drop_zero, List.take_succ_cons, List.take_zero, List.drop_succ_cons, Option.bind_some, Nat.lt_add_one, ↓reduceIte, Nat.le_refl, T_2, T_117, e0, e1, e5, e6, e7, e8, e9, et, pt_2, cellOk, Bool.true_and, and_self]
    clear e0 e1 e5 e6 e7 e8 e9 et
    rintro E ⟨e0, e1, e5, e6, e7, e8, e9, et⟩
    refine opsA_mid 5 (fun E => E.get 0 = .ep 2 (.sl 2 id 0 1 1 true) 0 0 ∧ E.get 1 = .int .i64 p ∧ E.get 5 = A ∧ E.get 6 = .int .i64 i ∧ E.get 7 = .ep 3 (.sl 3 n' 0 1 1 true) 0 0 ∧ E.get 8 = .ep 3 (.sl 3 (n' + 1) 0 1 1 true) 0 0 ∧ E.get 9 = .ep 3 (.sl 3 (n' + 2) 0 1 1 true) 0 0 ∧ E.get 74 = .bool ((((decide (a.page = p)) && decide (b.page = p)) && decide (c.page = p)) && decide (a.part = 0))) ?_ ?_
    · generalize (((decide (a.page = p)) && decide (b.page = p)) && decide (c.page = p)) = v at et ⊢
      cases v
      · simp only [↓opsA_nil, ↓opsA_cons, isCallV, yieldA, List.getElem?_cons_succ, Option.some.injEq, Bool.false_eq_true, reduceCtorEq, ↓stepA, ↓callA, ev, Env.get_put_some, ↓e_move, ↓e_pick, ofVal, reduceIte, Nat.reduceEqDiff, true_and, List.getElem?_cons_zero, List.getElem?_cons_succ, List.drop_zero, List.take_succ_cons, List.take_zero, List.drop_succ_cons, Option.bind_some, ↓reduceIte, e0, e1, e5, e6, e7, e8, e9, et, Bool.false_and, and_self]
      · simp only [↓opsA_nil, ↓opsA_cons, isCallV, yieldA, List.getElem?_cons_succ, reduceCtorEq, ↓stepA, ↓callA, ev, Env.get_put_some, ↓e_move, ↓e_binOp, ↓e_pick, ↓e_load, ↓e_fieldAddr, b_eql, rdSl_sl, ofVal, Heap.upd_get, AV.cells_agg, reduceIte, Nat.reduceEqDiff, true_and, List.getElem?_cons_zero, List.getElem?_cons_succ, List.length_cons, List.length_nil, Nat.zero_add, List.drop_zero, List.take_succ_cons, List.take_zero, List.drop_succ_cons, Nat.left_eq_add, Option.bind_some, Nat.one_ne_zero, Nat.lt_add_one, ↓reduceIte, Nat.le_refl, T_2, T_117, e0, e1, e5, e6, e7, e8, e9, et, pt_2, cellOk, Bool.true_and, and_self]
    clear e0 e1 e5 e6 e7 e8 e9 et
    rintro E ⟨e0, e1, e5, e6, e7, e8, e9, et⟩
    refine opsA_mid 5 (fun E => E.get 0 = .ep 2 (.sl 2 id 0 1 1 true) 0 0 ∧ E.get 1 = .int .i64 p ∧ E.get 5 = A ∧ E.get 6 = .int .i64 i ∧ E.get 7 = .ep 3 (.sl 3 n' 0 1 1 true) 0 0 ∧ E.get 8 = .ep 3 (.sl 3 (n' + 1) 0 1 1 true) 0 0 ∧ E.get 9 = .ep 3 (.sl 3 (n' + 2) 0 1 1 true) 0 0 ∧ E.get 79 = .bool (((((decide (a.page = p)) && decide (b.page = p)) && decide (c.page = p)) && decide (a.part = 0)) && decide (b.part = 1))) ?_ ?_
    · generalize ((((decide (a.page = p)) && decide (b.page = p)) && decide (c.page = p)) && decide (a.part = 0)) = v at et ⊢
      cases v
      · simp only [↓opsA_nil, ↓opsA_cons, isCallV, yieldA, List.getElem?_cons_succ, Option.some.injEq, Bool.false_eq_true, reduceCtorEq, ↓stepA, ↓callA, ev, Env.get_put_some, ↓e_move, ↓e_pick, ofVal, reduceIte, Nat.reduceEqDiff, true_and, List.getElem?_cons_zero, List.getElem?_cons_succ, List.drop_zero, List.take_succ_cons, List.take_zero, List.drop_succ_cons, Option.bind_some, ↓reduceIte, e0, e1, e5, e6, e7, e8, e9, et, Bool.false_and, and_self]
      · simp only [↓opsA_nil, ↓opsA_cons, isCallV, yieldA, List.getElem?_cons_succ, reduceCtorEq, ↓stepA, ↓callA, ev, Env.get_put_some, ↓e_move, ↓e_binOp, ↓e_pick, ↓e_load, ↓e_fieldAddr, b_eql, rdSl_sl, ofVal, Heap.upd_get, AV.cells_agg, reduceIte, Nat.reduceEqDiff, true_and, List.getElem?_cons_zero, List.getElem?_cons_succ, List.length_cons, List.length_nil, Nat.zero_add, List.drop_zero, List.take_succ_cons, List.take_zero, List.drop_succ_cons, Option.bind_some, Nat.lt_add_one, ↓reduceIte, Nat.le_refl, Nat.add_left_cancel_iff, T_2, T_117, e0, e1, e5, e6, e7, e8, e9, et, pt_2, cellOk, Bool.true_and, and_self]
    clear e0 e1 e5 e6 e7 e8 e9 et
    rintro E ⟨e0, e1, e5, e6, e7, e8, e9, et⟩
    have hfin : ∀ (E2 : Env), E2.get 83 = .bool ((((((decide (a.page = p)) && decide (b.page = p)) && decide (c.page = p)) && decide (a.part = 0)) && decide (b.part = 1)) && decide (c.part = 2)) → E2.get 83 = .bool (decide (a.page = p ∧ b.page = p ∧ c.page = p ∧ a.part = 0 ∧ b.part = 1 ∧ c.part = 2)) := fun E2 hE => by rw [hE]; congr 1; simp [Bool.decide_and, Bool.and_assoc]
    generalize (((((decide (a.page = p)) && decide (b.page = p)) && decide (c.page = p)) && decide (a.part = 0)) && decide (b.part = 1)) = v at et hfin
    cases v
    · simp only [↓opsA_nil, ↓opsA_cons, isCallV, yieldA, List.getElem?_cons_succ, Option.some.injEq, Bool.false_eq_true, ↓stepA, ↓callA, ev, Env.get_put_some, ↓e_pick, ofVal, ↓thenA, reduceIte, Nat.reduceEqDiff, List.getElem?_cons_zero, List.getElem?_cons_succ, List.drop_zero, List.drop_succ_cons, Option.bind_some, ↓reduceIte, et]
      exact key _ e0 e1 e5 e6 e7 e8 e9 (hfin _ rfl)
    · simp only [↓opsA_nil, ↓opsA_cons, isCallV, yieldA, List.getElem?_cons_succ, ↓stepA, ↓callA, ev, Env.get_put_some, ↓e_binOp, ↓e_pick, ↓e_load, ↓e_fieldAddr, b_eql, rdSl_sl, ofVal, ↓thenA, Heap.upd_get, AV.cells_agg, reduceIte, Nat.reduceEqDiff, true_and, List.getElem?_cons_zero, List.getElem?_cons_succ, List.length_cons, List.length_nil, Nat.zero_add, List.drop_zero, List.take_succ_cons, List.take_zero, List.drop_succ_cons, Option.bind_some, Nat.lt_add_one, ↓reduceIte, Nat.le_refl, T_2, T_117, e9, et, pt_2, cellOk]
      exact key _ e0 e1 e5 e6 e7 e8 e9 (hfin _ rfl)
  · have hil : i = d.loose.length - 2 := by have := of_decide_eq_false hc; omega
    subst hil
    refine WP.exit ?_
    simp only [↓thenA, ↓blockA, reduceIte, ↓reduceIte]
    refine hK1 _ _ _ ?_
    clear hK6 K6 hK1 K1
    refine WP.seq_k fun K1 hK1 => WP.region hT rfl ?_
    simp only [↓opsA, ↓stepA, ↓callA, ev, Env.get_put_some, ↓e_move, ↓e_assign, ↓thenA, reduceIte, Nat.reduceEqDiff, ↓reduceIte, e5]
    refine hK1 _ _ _ ?_
    clear hK1 K1
    refine WP.ret ?_
    simp only [Env.get_put_some, reduceIte, Option.map_some, ↓reduceIte, retA, resA]
    have himf : imagesF d p = q0 :: (List.range (d.loose.length - 2)).filterMap (imgAt d p) := by unfold imagesF; rw [List.getD_eq_getElem?_getD, hq0]; rfl
    have hll : ((List.range (d.loose.length - 2)).filterMap (imgAt d p)).length ≤ d.loose.length - 2 := by have := List.length_filterMap_le (imgAt d p) (List.range (d.loose.length - 2)); simp at this; omega
    rw [← himf] at hB
    obtain ⟨A', I, tA, hU, hI⟩ := hB.tree (by rw [himf]; simp; omega) hA
    exact ⟨_, rfl, own_done hlt tA hU hI hB.bel (by omega) hk⟩
end
end Go.Proofs.Ytplkjfnjdekgpaa
