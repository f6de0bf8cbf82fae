/- Row 4: the program's merge. Own work. -/
import Derived.Test.YtplkjfnjdekgpaaR5
namespace Go.Proofs.Ytplkjfnjdekgpaa
open Go

section
variable {h : Heap} {n : Nat} {K : AV → Heap → Nat → Prop}

set_option maxHeartbeats 1000000 in
theorem c23 {x y : AV} {l : List (List ActD)} {who : List Int} (hx : ActSSR x l) (hy : IntsR y who) (hk : ∀ r h' n', OwnRes MResR h n r (mergeF l who) h' n' → K r h' n') : CA Try.prog 23 [x, y] h n K := by
  have hx0 := hx
  have hy0 := hy
  obtain ⟨es, hes, hal, hml, _, _⟩ := hx
  obtain ⟨ws, hws, hwl, hml2, _, _⟩ := hy
  have hel := all2_length hal
  have hwlen := all2_length hwl
  unfold maxLen at hml hml2
  refine CA.conv (CA.enter (N := 108) (rs := [.cell 4 40]) hT Try.call23 Try.func23 rfl rfl (by simp) rfl fun hlt => ?_)
  refine WP.seq_k fun K1 hK1 => WP.region hT rfl ?_
  simp only [↓opsA, ↓stepA, ↓callA, ↓e_alloc, ↓thenA, Nat.pos_of_neZero, true_and, T_40]
  refine hK1 _ _ _ ?_
  clear hK1 K1
  refine WP.seq_k fun K2 hK2 => WP.region hT rfl ?_
  simp only [↓opsA, ↓stepA, ↓callA, List.map_cons, List.map_nil, ev, Env.get_put_some, Env.get_envOf, ↓e_move, ↓e_assign, ↓thenA, reduceIte, Nat.reduceEqDiff, List.getElem?_cons_zero, Option.getD_some, List.append_nil, ↓reduceIte]
  refine c17 hx0 (hK2 _ _ _ ?_)
  clear hK2 K2
  refine WP.seq_k fun K1 hK1 => WP.region hT rfl ?_
  simp only [↓opsA, ↓stepA, ↓e_len1, ↓callA, ev, Env.get_put_some, Env.put_none, Env.get_envOf, ↓e_move, ↓e_alloc, ↓e_store, setPart_int, ↓thenA, Heap.upd_get, Heap.upd_upd, good_int, AV.cells_int, reduceIte, Nat.reduceEqDiff, Nat.reduceAdd, Nat.add_assoc, true_and, List.getElem?_cons_zero, Option.getD_some, List.length_cons, List.length_nil, List.set_cons_zero, Nat.zero_add, Nat.add_zero, Nat.lt_add_one, ↓reduceIte, Nat.le_refl, T_2, T_31, T_38, rdSl_emp hes]
  refine hK1 _ _ _ ?_
  clear hK1 K1
  refine WP.seq_k fun K1 hK1 => ?_
  have hK1' : ∀ (E' : Env) (h' : Heap) (n' : Nat), n + 2 ≤ n' → h' n = some [.agg [.int .i64 0, .nils, .nils]] → h' (n + 1) = some [.int .i64 l.length] → (∀ id, id < n → h' id = h id) → E'.get 0 = x → E'.get 1 = y → E'.get 4 = .ep 3 (.sl 3 n 0 1 1 true) 0 0 →
      E'.get 5 = .int .i64 (askedF l who) → E'.get 6 = .ep 1 (.sl 1 (n + 1) 0 1 1 true) 0 0 → K1 E' h' n' := by
    intro E' h' n' hn' hcell hlen hbel e0 e1 e4 e5 e6
    refine hK1 _ _ _ ?_
    clear hK1 K1
    refine WP.seq_k fun K1 hK1 => ?_
    refine WP.seq_k fun K2 hK2 => WP.region hT rfl ?_
    simp only [↓opsA, ↓stepA, ↓callA, ev, Env.get_put_some, ↓e_move, ↓e_binOp, b_neq, ofVal, ↓thenA, reduceIte, ↓reduceIte, e5]
    refine hK2 _ _ _ ?_
    clear hK2 K2
    refine WP.cond (by simp only [ev, Env.get_put_some, ↓reduceIte]; rfl) (fun hc0 => ?_) (fun hc0 => ?_)
    · refine WP.seq_k fun K2 hK2 => WP.region hT rfl ?_
      simp only [↓opsA, ↓stepA, ↓callA, ev, Env.get_put_some, Env.put_none, ↓e_move, ↓e_store, ↓e_build, setPart_agg, ↓thenA, Nat.pos_of_neZero, good_int, good_agg, AV.cells_int, AV.cells_agg, reduceIte, Nat.reduceEqDiff, Nat.reduceLeDiff, Nat.reduceAdd, true_and, List.getElem?_cons_zero, List.length_cons, List.length_nil, List.set_cons_zero, Nat.zero_add, Nat.add_zero, List.drop_zero, List.take_zero, List.drop_succ_cons, List.drop_nil, List.cons_append, List.nil_append, List.append_nil, decide_true, Nat.lt_add_one, ↓reduceIte, Nat.le_refl, T_2, T_38, T_37, T_40, e4, e5, hcell, buildP_cons, buildP_nil, List.all_cons, List.all_nil, Bool.and_true]
      refine hK2 _ _ _ ?_
      refine WP.ret ?_
      simp only [↓thenA]
      refine ret_cell (sz := 3) (id := n) e4 (Heap.upd_same _ _ _) rfl rfl ?_
      have hmF : mergeF l who = ⟨askedF l who, [], []⟩ := by unfold mergeF; rw [if_pos (by simpa using hc0)]
      rw [hmF] at hk
      refine ret_own_atom hlt (fun id hid => by rw [Heap.upd_ne _ _ (by omega)]; exact hbel id hid) (by omega) ⟨.nils, .nils, rfl, ⟨[], rfl, .nil, Nat.zero_le _, fun _ => .nils, rfl⟩, ⟨[], rfl, .nil, Nat.zero_le _, fun _ => .nils, rfl⟩⟩ ?_ ?_ hk
      · rw [lt_agg]; intro u hu; simp at hu; rcases hu with rfl | rfl <;> constructor
      · refine .agg _ fun i u hu => ?_
        have := List.mem_of_getElem? hu
        simp at this; rcases this with rfl | rfl <;> constructor
    refine WP.skip (hK1 _ _ _ ?_)
    clear hK1 K1
    have ha0 : askedF l who = 0 := by simpa using hc0
    obtain ⟨h80, hl1, hl5, hwho⟩ := asked_who ha0
    have hmF : mergeF l who = ⟨0, (who.foldl (mergeStep l) (merge0 l)).acts, (who.foldl (mergeStep l) (merge0 l)).by_⟩ := by unfold mergeF; rw [if_neg (by simp [ha0])]
    rw [hmF] at hk
    refine WP.seq_k fun K1 hK1 => ?_
    have hK1' : ∀ (i7 it ix : Nat) (E2 : Env) (h2 : Heap), E2.get 7 = .ep 3 (.sl 3 i7 0 1 1 true) 0 0 → E2.get 8 = .sl 1 it 0 l.length l.length true → E2.get 9 = .sl 1 ix 0 l.length l.length true → E2.get 10 = .int .i64 2 → E2.get 0 = x → E2.get 1 = y → E2.get 4 = .ep 3 (.sl 3 n 0 1 1 true) 0 0 →
        (n' ≤ i7 ∧ i7 < n' + 3) → (n' ≤ it ∧ it < n' + 3) → (n' ≤ ix ∧ ix < n' + 3) → i7 ≠ it → i7 ≠ ix → it ≠ ix → h2 i7 = some [.agg [.int .i64 0, .nils, .nils]] → h2 it = some (List.replicate l.length (.int .i64 0)) → h2 ix = some (List.replicate l.length (.int .i64 0)) → (∀ id, id < n' → h2 id = h' id) → K1 E2 h2 (n' + 3) := by
      intro i7 it ix E2 h2 d7 d8 d9 d10 d0 d1 d4 g7 gt gx n7t n7x ntx r7 rt rx fr
      refine hK1 _ _ _ ?_
      clear hK1 K1
      refine WP.seq_k fun K1 hK1 => ?_
      refine WP.seq_k fun K1 hK1 => WP.region hT rfl ?_
      simp only [↓opsA, ↓stepA, ↓e_len1, ↓callA, ev, Env.get_put_some, ↓e_move, ofVal, ↓thenA, reduceIte, ↓reduceIte, T_2, T_37, d1, rdSl_emp hws]
      refine hK1 _ _ _ ?_
      clear hK1 K1
      refine WP.block (WP.loop (fun mm E h' n2 => ∃ i A B, mm = who.length - i ∧ i ≤ who.length ∧ MOk l i ((who.take i).foldl (mergeStep l) (merge0 l)) ∧ MInv n (n' + 3) h h' n2 i7 it ix A B ((who.take i).foldl (mergeStep l) (merge0 l)) ∧ h' n = some [.agg [.int .i64 0, .nils, .nils]] ∧
        E.get 0 = x ∧ E.get 1 = y ∧ E.get 4 = .ep 3 (.sl 3 n 0 1 1 true) 0 0 ∧ E.get 7 = .ep 3 (.sl 3 i7 0 1 1 true) 0 0 ∧ E.get 8 = .sl 1 it 0 l.length l.length true ∧ E.get 9 = .sl 1 ix 0 l.length l.length true ∧ E.get 10 = .int .i64 ((who.take i).foldl (mergeStep l) (merge0 l)).nt ∧ E.get 38 = y ∧ E.get 39 = .int .i64 ws.length ∧ E.get 40 = .int .i64 i) who.length ?_ ?_)
      · refine ⟨0, .nils, .nils, by omega, Nat.zero_le _, MOk.zero l, ⟨r7, ?_, ?_, .inl ⟨rfl, rfl⟩, .inl ⟨rfl, rfl⟩, fun _ h => h.elim, fun id hid => ?_, Nat.le_refl _⟩, ?_, d0, d1, d4, d7, d8, d9, d10, ?_, ?_, rfl⟩
        · rw [rt]; simp [merge0, intAV]
        · rw [rx]; simp [merge0, natAV]
        · rw [fr id (by omega)]; exact hbel id hid
        · rw [fr n (by omega)]; exact hcell
        · simp [Env.get, Env.put]
        · simp [Env.get, Env.put]
      rintro mm E h' n2 ⟨i, A, B, rfl, hi, hok, hI, hcell, e0, e1, e4, e7, e8, e9, e10, e38, e39, e40⟩
      generalize hS : (who.take i).foldl (mergeStep l) (merge0 l) = s at *
      refine WP.seq_k fun K1 hK1 => WP.region hT rfl ?_
      simp only [↓opsA, ↓stepA, ↓callA, ev, ↓e_binOp, b_lss, ↓thenA, e39, e40]
      refine hK1 _ _ _ ?_
      clear hK1 K1
      refine WP.seq_k fun K6 hK6 => ?_
      refine WP.cond (by simp only [ev, Env.get_put_some, ↓reduceIte]; rfl) (fun hc2 => ?_) (fun hc2 => ?_)
      · have hil : i < who.length := by simp at hc2; omega
        obtain ⟨b, w, hb, hw, hR2⟩ := all2_at hwl hil
        obtain ⟨rfl, hwok⟩ := hR2
        have hwr := hwho w (List.mem_of_getElem? hw)
        have hla := hok.la
        have hlb := hok.lb
        have hle := hI.le
        have hwlt : w.toNat < s.txns.length := by rw [hok.lt]; omega
        have hwln : w.toNat < s.nexts.length := by rw [hok.ln]; omega
        have hnext : (who.take (i + 1)).foldl (mergeStep l) (merge0 l) = mergeStep l s w := by
          rw [List.take_add_one, hw, List.foldl_append, hS]; rfl
        refine WP.skip (hK6 _ _ _ ?_)
        clear hK6 K6
        refine WP.seq_k fun K10 hK10 => WP.block (WP.seq_k fun K11 hK11 => WP.region hT rfl ?_)
        simp only [↓opsA, ↓stepA, ↓callA, Int.toNat_natCast, ev, Env.get_put_some, ↓e_assign, ↓e_load, ↓e_indexAddr, ↓thenA, AV.cells_int, reduceIte, Nat.reduceEqDiff, true_and, List.getElem?_cons_zero, Nat.lt_add_one, ↓reduceIte, T_2, T_37, rdSl_emp hws, e38, e40, hb, cellOk, pt_2]
        refine ⟨by omega, by omega, hK11 _ _ _ ?_⟩
        clear hK11 K11
        have hdt : (List.map intAV s.txns)[w.toNat]? = some (.int .i64 (s.txns.getD w.toNat 0)) := by
          rw [List.getElem?_map, List.getD_eq_getElem?_getD, List.getElem?_eq_getElem hwlt]; rfl
        have htk : List.take l.length (List.map intAV s.txns) = List.map intAV s.txns := List.take_of_length_le (by simp [hok.lt])
        have htl : l.length ≤ (List.map intAV s.txns).length := by simp [hok.lt]
        have hdn : (List.map natAV s.nexts)[w.toNat]? = some (.int .i64 (s.nexts.getD w.toNat 0 : Nat)) := by
          rw [List.getElem?_map, List.getD_eq_getElem?_getD, List.getElem?_eq_getElem hwln]; rfl
        have hnk : List.take l.length (List.map natAV s.nexts) = List.map natAV s.nexts := List.take_of_length_le (by simp [hok.ln])
        have hnl : l.length ≤ (List.map natAV s.nexts).length := by simp [hok.ln]
        refine WP.seq_k fun K11 hK11 => WP.block ?_
        refine WP.seq_k fun K1 hK1 => WP.region hT rfl ?_
        simp only [↓opsA, ↓stepA, ↓callA, ev, Env.get_put_some, ↓e_move, ↓e_assign, ↓e_binOp, ↓e_load, ↓e_indexAddr, b_eql, rdSl_sl, ofVal, ↓thenA, AV.cells_int, reduceIte, Nat.reduceEqDiff, true_and, List.getElem?_cons_zero, Nat.zero_add, List.drop_zero, Nat.lt_add_one, ↓reduceIte, T_2, T_37, e8, hI.rt, hdt, htk, pt_2, cellOk, eq_true htl]
        refine ⟨by omega, by simp [hok.lt]; omega, hK1 _ _ _ ?_⟩
        clear hK1 K1
        refine WP.cond (by simp only [ev, Env.get_put_some, ↓reduceIte]; rfl) (fun hc3 => ?_) (fun hc3 => ?_)
        · have h0 : s.txns.getD w.toNat 0 = 0 := by simpa using hc3
          have hstep : mergeStep l s w = ⟨s.txns.set w.toNat s.nt, s.nexts, s.nt + 1, s.acts ++ [beginAct], s.by_ ++ [w]⟩ := by unfold mergeStep; rw [if_pos h0]
          refine WP.seq_k fun K1 hK1 => WP.region hT rfl ?_
          simp only [↓opsA, ↓stepA, ↓callA, ev, Env.get_put_some, Env.put_none, ↓e_move, ↓e_store, ↓e_indexAddr, rdSl_sl, setPart_int, ↓thenA, good_int, AV.cells_int, reduceIte, Nat.reduceEqDiff, true_and, List.length_cons, List.length_nil, Nat.zero_add, List.drop_zero, Nat.lt_add_one, ↓reduceIte, Nat.le_refl, T_2, T_37, e8, e10, hI.rt, hdt, htk, eq_true htl]
          refine ⟨by omega, by simp [hok.lt]; omega, hK1 _ _ _ ?_⟩
          clear hK1 K1
          refine WP.seq_k fun K1 hK1 => WP.region hT rfl ?_
          simp only [↓opsA, ↓stepA, ↓callA, ev, Env.get_put_some, ↓e_move, ↓e_assign, ↓e_binOp, b_add, ofVal, ↓thenA, reduceIte, Nat.reduceEqDiff, ↓reduceIte, e10]
          refine hK1 _ _ _ ?_
          clear hK1 K1
          refine WP.region hT rfl ?_
          simp only [↓opsA, ↓stepA, ↓e_append1, ↓callA, ev, Env.get_put_some, Env.put_none, ↓e_load, ↓e_store, ↓e_fieldAddr, ↓e_build, rdSl_sl, ofVal, ↓thenA, ↓blockA, Heap.upd_get, Nat.pos_of_neZero, good_int, good_agg, AV.cells_int, AV.cells_agg, reduceIte, Nat.reduceEqDiff, Nat.reduceLeDiff, Nat.reduceAdd, true_and, List.getElem?_cons_zero, List.getElem?_cons_succ, List.length_cons, List.length_nil, Nat.zero_add, Nat.add_zero, List.drop_zero, List.take_succ_cons, List.take_zero, List.drop_succ_cons, List.cons_append, List.nil_append, decide_true, Nat.lt_add_one, ↓reduceIte, Nat.le_refl, T_81, T_2, T_38, T_40, n7t, hI.r7, e7, e_bs1, buildP_cons, buildP_nil, List.all_cons, List.all_nil, Bool.and_true, pt_38, cellOk]
          refine ⟨81, rfl, OwnR.push (n0 := n' + 3) rfl (by decide) (hI.oA.low (by omega)) (by simp [T_81]; omega) (by simp; omega) hI.le fun h2 o2 s2 u2 => ?_⟩
          have q7 : h2 i7 = some [.agg [.int .i64 0, A, B]] := by rw [s2 _ (by omega), Heap.upd_ne _ _ n7t]; exact hI.r7
          simp only [setPart_agg, good_sl, AV.cells_sl, AV.cells_agg, Nat.reduceLeDiff, Nat.reduceAdd, true_and, List.getElem?_cons_zero, List.length_cons, List.length_nil, List.set_cons_zero, Nat.zero_add, List.drop_zero, List.take_succ_cons, List.take_zero, List.drop_succ_cons, List.cons_append, List.nil_append, T_81, q7]
          refine hK11 _ _ _ ?_
          clear hK11 K11
          have oB2 : OwnR (h2.upd i7 [.agg [.int .i64 0, .sl 4 (n2 + 1) 0 ((s.acts.map actAV).length + 1) ((s.acts.map actAV).length + 1) false, B]]) (n' + 3) (n2 + 2) 1 B (s.by_.map intAV) :=
            (hI.oB.keep (by omega) fun k hk => by
              have hkl := hI.oB.id_lt hk
              rw [u2 k (by omega) (fun hq => hI.AB k hq hk), Heap.upd_ne _ _ (by omega)]).low (by omega)
          refine WP.region hT rfl ?_
          simp only [↓opsA, ↓stepA, ↓e_append1, ↓callA, ev, Env.get_put_some, Env.put_none, ↓e_move, ↓e_load, ↓e_store, ↓e_fieldAddr, rdSl_sl, ↓thenA, ↓blockA, Heap.upd_get, good_int, AV.cells_int, AV.cells_agg, reduceIte, Nat.reduceEqDiff, Nat.reduceLeDiff, Nat.reduceAdd, Nat.add_assoc, true_and, List.getElem?_cons_zero, List.getElem?_cons_succ, List.length_cons, List.length_nil, Nat.zero_add, Nat.add_zero, List.drop_zero, List.take_succ_cons, List.take_zero, Nat.lt_add_one, ↓reduceIte, Nat.le_refl, T_2, T_37, T_40, e7, e_bs1, pt_37, cellOk]
          refine ⟨2, rfl, OwnR.push (n0 := n' + 3) rfl (by decide) oB2 (by simp [T_2]; omega) (by simp; omega) (by omega) fun h3 o3 s3 u3 => ?_⟩
          have q7' : h3 i7 = some [.agg [.int .i64 0, .sl 4 (n2 + 1) 0 ((s.acts.map actAV).length + 1) ((s.acts.map actAV).length + 1) false, B]] := by rw [s3 _ (by omega), Heap.upd_same]
          simp only [setPart_agg, good_sl, AV.cells_sl, AV.cells_agg, Nat.reduceAdd, Nat.add_assoc, true_and, List.getElem?_cons_zero, List.length_cons, List.length_nil, List.set_cons_zero, Nat.zero_add, List.take_succ_cons, List.take_zero, List.drop_succ_cons, List.drop_nil, List.cons_append, List.nil_append, List.append_nil, Nat.le_refl, T_2, q7']
          refine hK10 _ _ _ ?_
          clear hK10 K10
          refine WP.region hT rfl ?_
          simp only [↓opsA, ↓stepA, ↓callA, ev, Env.get_put_some, ↓e_move, ↓e_binOp, b_add, ofVal, ↓thenA, Heap.upd_get, reduceIte, Nat.reduceEqDiff, ↓reduceIte, e40]
          have hcell3 : h3 n = some [.agg [.int .i64 0, .nils, .nils]] := by rw [s3 _ (by omega), Heap.upd_ne _ _ (by omega), s2 _ (by omega), Heap.upd_ne _ _ (by omega)]; exact hcell
          refine ⟨who.length - (i + 1), by omega, i + 1, .sl 4 (n2 + 1) 0 ((s.acts.map actAV).length + 1) ((s.acts.map actAV).length + 1) false, .sl 1 (n2 + 3) 0 ((s.by_.map intAV).length + 1) ((s.by_.map intAV).length + 1) false, rfl, hil, by rw [hnext]; exact hok.step (by omega) hwr hl5 (acts_ok hx0), ?_, ?_, ?_, ?_, ?_, ?_, ?_, ?_, ?_, ?_, ?_, ?_⟩
          · rw [hnext, hstep]
            exact hI.two (h1 := h'.upd it ((s.txns.map intAV).set w.toNat (.int .i64 s.nt))) (a := beginAct) (w := w) ⟨by omega, by omega⟩ ⟨by omega, by omega⟩ ⟨by omega, by omega⟩ (by omega) (Nat.le_refl _) (fun id h1 h2 => Heap.upd_ne _ _ (by omega)) o2 s2 u2 o3 s3 u3
              (by rw [Heap.upd_same]; simp [intAV, List.map_set]) (by rw [Heap.upd_ne _ _ (by omega)]; exact hI.rx) (fun id hid => by rw [Heap.upd_ne _ _ (by omega)]; exact hI.bel id hid) rfl rfl
          · rw [if_neg (by omega)]; exact hcell3
          · simpa [Env.get, Env.put] using e0
          · simpa [Env.get, Env.put] using e1
          · simpa [Env.get, Env.put] using e4
          · simpa [Env.get, Env.put] using e7
          · simpa [Env.get, Env.put] using e8
          · simpa [Env.get, Env.put] using e9
          · rw [hnext, hstep]
            have := hok.n2
            have := hok.ni
            rw [wrap_in (by omega) (by omega)]
          · simpa [Env.get, Env.put] using e38
          · simpa [Env.get, Env.put] using e39
          · rw [wrap_in (by omega) (by omega)]
            rfl
        · have h0 : s.txns.getD w.toNat 0 ≠ 0 := by simpa using hc3
          obtain ⟨sv, sl, hsv, hsl, hSl⟩ := all2_at hal (i := w.toNat) (by omega)
          have hgl : l.getD w.toNat [] = sl := getD_of hsl
          have hps := tyActs_38.part sv sl hSl
          obtain ⟨fs, hfs, hfl, hfml, _, _⟩ := hSl
          have hfsl := all2_length hfl
          unfold maxLen at hfml
          refine WP.seq_k fun K12 hK12 => WP.drawL hT hM [(0, 0), (1, 0), (2, 1), (3, 1), (4, 0), (5, 0), (6, 0), (7, 0), (8, 0), (9, 0), (10, 0)] [] h' (by kernel_rfl) rfl (Heap.Sub.refl _) fun _ => ?_
          simp only [↓planL, ↓stepA, ↓e_len1, ↓callA, ev, Env.get_put_some, ↓e_move, ↓e_assign, ↓e_binOp, ↓e_load, ↓e_indexAddr, b_lss, rdSl_sl, ↓thenA, AV.cells_int, reduceIte, Nat.reduceEqDiff, true_and, List.getElem?_cons_zero, List.getElem?_cons_succ, Nat.zero_add, List.drop_zero, Nat.lt_add_one, ↓reduceIte, T_81, T_3, T_31, T_38, T_89, e0, e9, hI.rx, hdn, hnk, pt_3, cellOk, eq_true hnl, rdSl_emp hes, hsv, hps, rdSl_emp hfs]
          refine ⟨by omega, by simp [hok.ln]; omega, by omega, by omega, hK12 _ _ _ ?_⟩
          clear hK12 K12
          refine WP.cond (by simp only [ev, Env.get_put_some, ↓reduceIte]; rfl) (fun hc4 => ?_) (fun hc4 => ?_)
          · have hkl : s.nexts.getD w.toNat 0 < sl.length := by simp at hc4; simpa using (by omega : s.nexts[w.toNat]?.getD 0 < sl.length)
            obtain ⟨av, a, hav, hac, haR, haok⟩ := all2_at hfl hkl
            subst haR
            have hstep : mergeStep l s w = ⟨s.txns, s.nexts.set w.toNat (s.nexts.getD w.toNat 0 + 1), s.nt, s.acts ++ [⟨a.kind, s.txns.getD w.toNat 0, a.key, a.value⟩], s.by_ ++ [w]⟩ := by
              unfold mergeStep; rw [if_neg h0, hgl, hac]
            refine WP.seq_k fun K1 hK1 => WP.drawL hT hM [(0, 0), (1, 0), (2, 0), (3, 0), (4, 0), (5, 0), (6, 1), (7, 1), (8, 0), (9, 0), (10, 2), (11, 2)] [] h' (by kernel_rfl) rfl (Heap.Sub.refl _) fun hlt' => ?_
            simp only [↓planL, List.contains_nil, Bool.or_false, ↓stepA, ↓callA, Int.toNat_natCast, ev, Env.get_put_some, Env.put_none, ↓e_move, ↓e_alloc, ↓e_load, ↓e_store, ↓e_indexAddr, rdSl_sl, setPart_agg, ↓thenA, Heap.upd_get, Heap.upd_upd, Nat.pos_of_neZero, good_agg, AV.cells_int, AV.cells_agg, reduceIte, Nat.reduceEqDiff, Nat.reduceAdd, true_and, List.getElem?_cons_zero, List.getElem?_cons_succ, List.length_cons, List.length_nil, List.set_cons_zero, Nat.zero_add, Nat.add_zero, List.drop_zero, List.take_succ_cons, List.take_zero, List.drop_succ_cons, List.drop_nil, List.nil_append, List.append_nil, decide_true, Nat.lt_add_one, ↓reduceIte, Nat.le_refl, T_81, T_3, T_31, T_38, T_89, e0, e9, hI.rx, hdn, hnk, pt_3, cellOk, eq_true hnl, rdSl_emp hes, hsv, hps, rdSl_emp hfs, hav, pt_81, List.contains_nil]
            have f1 : (i7 = n2) = False := eq_false (by omega)
            have f2 : (it = n2) = False := eq_false (by omega)
            have f3 : (ix = n2) = False := eq_false (by omega)
            have f3' : (n2 = ix) = False := eq_false (by omega)
            have f4 : (i7 = ix) = False := eq_false n7x
            refine ⟨by omega, by omega, by omega, by simp [hok.ln]; omega, by omega, by omega, Heap.Sub.fresh hlt', Heap.Sub.fresh hlt', hK1 _ _ _ ?_⟩
            clear hK1 K1
            refine WP.seq_k fun K1 hK1 => WP.region hT rfl ?_
            simp only [↓opsA, ↓stepA, ↓callA, ev, Env.get_put_some, Env.put_none, ↓e_move, ↓e_load, ↓e_store, ↓e_fieldAddr, ↓e_indexAddr, rdSl_sl, setPart_agg, ↓thenA, Heap.upd_get, Heap.upd_upd, good_int, AV.cells_int, AV.cells_agg, reduceIte, Nat.reduceEqDiff, Nat.reduceLeDiff, Nat.reduceAdd, true_and, List.getElem?_cons_zero, List.getElem?_cons_succ, List.length_cons, List.length_nil, List.set_cons_zero, Nat.zero_add, Nat.add_zero, List.drop_zero, List.take_succ_cons, List.take_zero, List.drop_succ_cons, List.cons_append, List.nil_append, Nat.lt_add_one, ↓reduceIte, T_81, T_2, T_37, e8, hI.rt, hdt, htk, pt_2, cellOk, eq_true htl, f2]
            refine ⟨by omega, by simp [hok.lt]; omega, hK1 _ _ _ ?_⟩
            clear hK1 K1
            refine WP.seq_k fun K1 hK1 => WP.region hT rfl ?_
            simp only [↓opsA, ↓stepA, ↓callA, ev, Env.get_put_some, Env.put_none, ↓e_move, ↓e_binOp, ↓e_load, ↓e_store, ↓e_indexAddr, b_add, rdSl_sl, setPart_int, ofVal, ↓thenA, Heap.upd_get, good_int, AV.cells_int, reduceIte, Nat.reduceEqDiff, true_and, List.getElem?_cons_zero, List.length_cons, List.length_nil, Nat.zero_add, List.drop_zero, Nat.lt_add_one, ↓reduceIte, Nat.le_refl, T_3, T_89, e9, hI.rx, hdn, hnk, pt_3, cellOk, eq_true hnl, f3]
            refine ⟨by omega, by simp [hok.ln]; omega, by omega, by simp [hok.ln]; omega, hK1 _ _ _ ?_⟩
            clear hK1 K1
            refine WP.region hT rfl ?_
            simp only [↓opsA, ↓stepA, ↓e_append1, ↓callA, ev, Env.get_put_some, Env.put_none, ↓e_load, ↓e_store, ↓e_fieldAddr, rdSl_sl, ↓thenA, ↓blockA, Heap.upd_get, Nat.pos_of_neZero, good_agg, AV.cells_agg, reduceIte, Nat.reduceEqDiff, Nat.reduceLeDiff, Nat.reduceAdd, Nat.add_assoc, true_and, List.getElem?_cons_zero, List.getElem?_cons_succ, List.length_cons, List.length_nil, Nat.zero_add, Nat.add_zero, List.drop_zero, List.take_succ_cons, List.take_zero, decide_true, Nat.lt_add_one, ↓reduceIte, Nat.le_refl, T_81, T_38, T_40, hI.r7, e7, e_bs1, pt_38, pt_81, cellOk, f1, f3', f4]
            refine ⟨81, rfl, OwnR.push (n0 := n' + 3) rfl (by decide) (hI.oA.keep (by omega) fun k hk => ?_) (by simp [T_81]; omega) (by simp; omega) (by omega) fun h2 o2 s2 u2 => ?_⟩
            · have := hI.oA.id_lt hk
              rw [Heap.upd_ne _ _ (by omega), Heap.upd_ne _ _ (by omega)]
            have q7 : h2 i7 = some [.agg [.int .i64 0, A, B]] := by rw [s2 _ (by omega), Heap.upd_ne _ _ (by omega), Heap.upd_ne _ _ (by omega)]; exact hI.r7
            simp only [setPart_agg, good_sl, AV.cells_sl, AV.cells_agg, Nat.reduceLeDiff, Nat.reduceAdd, Nat.add_assoc, true_and, List.getElem?_cons_zero, List.length_cons, List.length_nil, List.set_cons_zero, Nat.zero_add, List.drop_zero, List.take_succ_cons, List.take_zero, List.drop_succ_cons, List.cons_append, List.nil_append, T_81, q7]
            refine hK11 _ _ _ ?_
            clear hK11 K11
            have oB2 : OwnR (h2.upd i7 [.agg [.int .i64 0, .sl 4 (n2 + 2) 0 ((s.acts.map actAV).length + 1) ((s.acts.map actAV).length + 1) false, B]]) (n' + 3) (n2 + 3) 1 B (s.by_.map intAV) :=
              (hI.oB.keep (by omega) fun k hk => by
                have hkl := hI.oB.id_lt hk
                rw [u2 k (by omega) (fun hq => hI.AB k hq hk), Heap.upd_ne _ _ (by omega), Heap.upd_ne _ _ (by omega)]).low (by omega)
            refine WP.region hT rfl ?_
            simp only [↓opsA, ↓stepA, ↓e_append1, ↓callA, ev, Env.get_put_some, Env.put_none, ↓e_move, ↓e_load, ↓e_store, ↓e_fieldAddr, rdSl_sl, ↓thenA, ↓blockA, Heap.upd_get, good_int, AV.cells_int, AV.cells_agg, reduceIte, Nat.reduceEqDiff, Nat.reduceLeDiff, Nat.reduceAdd, Nat.add_assoc, true_and, List.getElem?_cons_zero, List.getElem?_cons_succ, List.length_cons, List.length_nil, Nat.zero_add, Nat.add_zero, List.drop_zero, List.take_succ_cons, List.take_zero, Nat.lt_add_one, ↓reduceIte, Nat.le_refl, T_2, T_37, T_40, e7, e_bs1, pt_37, cellOk]
            refine ⟨2, rfl, OwnR.push (n0 := n' + 3) rfl (by decide) oB2 (by simp [T_2]; omega) (by simp; omega) (by omega) fun h3 o3 s3 u3 => ?_⟩
            have q7' : h3 i7 = some [.agg [.int .i64 0, .sl 4 (n2 + 2) 0 ((s.acts.map actAV).length + 1) ((s.acts.map actAV).length + 1) false, B]] := by rw [s3 _ (by omega), Heap.upd_same]
            simp only [setPart_agg, good_sl, AV.cells_sl, AV.cells_agg, Nat.reduceAdd, Nat.add_assoc, true_and, List.getElem?_cons_zero, List.length_cons, List.length_nil, List.set_cons_zero, Nat.zero_add, List.take_succ_cons, List.take_zero, List.drop_succ_cons, List.drop_nil, List.cons_append, List.nil_append, List.append_nil, Nat.le_refl, T_2, q7']
            refine hK10 _ _ _ ?_
            clear hK10 K10
            refine WP.region hT rfl ?_
            simp only [↓opsA, ↓stepA, ↓callA, ev, Env.get_put_some, ↓e_move, ↓e_binOp, b_add, ofVal, ↓thenA, Heap.upd_get, reduceIte, Nat.reduceEqDiff, ↓reduceIte, e40]
            have hnx := hok.nx _ (getD_mem (d := 0) hwln)
            have hcell3 : h3 n = some [.agg [.int .i64 0, .nils, .nils]] := by rw [s3 _ (by omega), Heap.upd_ne _ _ (by omega), s2 _ (by omega), Heap.upd_ne _ _ (by omega), Heap.upd_ne _ _ (by omega)]; exact hcell
            refine ⟨who.length - (i + 1), by omega, i + 1, .sl 4 (n2 + 2) 0 ((s.acts.map actAV).length + 1) ((s.acts.map actAV).length + 1) false, .sl 1 (n2 + 4) 0 ((s.by_.map intAV).length + 1) ((s.by_.map intAV).length + 1) false, rfl, hil, by rw [hnext]; exact hok.step (by omega) hwr hl5 (acts_ok hx0), ?_, ?_, ?_, ?_, ?_, ?_, ?_, ?_, ?_, ?_, ?_, ?_⟩
            · rw [hnext, hstep]
              exact hI.two (n1 := n2 + 1) (h1 := (h'.upd n2 [actAV ⟨a.kind, s.txns.getD w.toNat 0, a.key, a.value⟩]).upd ix ((s.nexts.map natAV).set w.toNat (.int .i64 (IntKind.i64.wrap ((s.nexts.getD w.toNat 0 : Nat) + 1))))) (a := ⟨a.kind, s.txns.getD w.toNat 0, a.key, a.value⟩) (w := w) ⟨by omega, by omega⟩ ⟨by omega, by omega⟩ ⟨by omega, by omega⟩ (by omega) (by omega) (fun id h1 h2 => by rw [Heap.upd_ne _ _ (by omega), Heap.upd_ne _ _ (by omega)]) o2 s2 u2 o3 s3 u3
                (by rw [Heap.upd_ne _ _ (by omega), Heap.upd_ne _ _ (by omega)]; exact hI.rt) (by rw [Heap.upd_same, wrap_in (by omega) (by omega)]; simp [natAV, List.map_set]) (fun id hid => by rw [Heap.upd_ne _ _ (by omega), Heap.upd_ne _ _ (by omega)]; exact hI.bel id hid) rfl rfl
            · rw [if_neg (by omega)]; exact hcell3
            · simpa [Env.get, Env.put] using e0
            · simpa [Env.get, Env.put] using e1
            · simpa [Env.get, Env.put] using e4
            · simpa [Env.get, Env.put] using e7
            · simpa [Env.get, Env.put] using e8
            · simpa [Env.get, Env.put] using e9
            · rw [hnext, hstep]
              simpa [Env.get, Env.put] using e10
            · simpa [Env.get, Env.put] using e38
            · simpa [Env.get, Env.put] using e39
            · rw [wrap_in (by omega) (by omega)]
              rfl
          · have hstep : mergeStep l s w = s := by
              unfold mergeStep; rw [if_neg h0, hgl]
              rw [List.getElem?_eq_none (by simp at hc4; simpa using (by omega : sl.length ≤ s.nexts[w.toNat]?.getD 0))]
            refine WP.exit ?_
            simp only [↓thenA, ↓blockA, reduceIte, Nat.reduceEqDiff, ↓reduceIte]
            refine hK10 _ _ _ ?_
            clear hK11 K11 hK10 K10
            refine WP.region hT rfl ?_
            simp only [↓opsA, ↓stepA, ↓callA, ev, Env.get_put_some, ↓e_move, ↓e_binOp, b_add, ofVal, ↓thenA, reduceIte, Nat.reduceEqDiff, ↓reduceIte, e40]
            refine ⟨who.length - (i + 1), by omega, i + 1, A, B, rfl, hil, by rw [hnext]; exact hok.step (by omega) hwr hl5 (acts_ok hx0), ?_, ?_, ?_, ?_, ?_, ?_, ?_, ?_, ?_, ?_, ?_, ?_⟩
            · rw [hnext, hstep]; exact hI
            · exact hcell
            · simpa [Env.get, Env.put] using e0
            · simpa [Env.get, Env.put] using e1
            · simpa [Env.get, Env.put] using e4
            · simpa [Env.get, Env.put] using e7
            · simpa [Env.get, Env.put] using e8
            · simpa [Env.get, Env.put] using e9
            · rw [hnext, hstep]
              simpa [Env.get, Env.put] using e10
            · simpa [Env.get, Env.put] using e38
            · simpa [Env.get, Env.put] using e39
            · rw [wrap_in (by omega) (by omega)]
              rfl
      · have hil : i = who.length := by simp at hc2; omega
        subst hil
        rw [List.take_of_length_le (Nat.le_refl _)] at hS
        subst hS
        refine WP.exit ?_
        simp only [↓thenA, ↓blockA, reduceIte, ↓reduceIte]
        refine hK1 _ _ _ ?_
        clear hK6 K6 hK1 K1
        have hle := hI.le
        refine WP.seq_k fun K1 hK1 => WP.region hT rfl ?_
        simp only [↓opsA, ↓stepA, ↓callA, ev, Env.get_put_some, Env.put_none, ↓e_load, ↓e_store, rdSl_sl, setPart_agg, ↓thenA, Nat.pos_of_neZero, good_agg, AV.cells_agg, reduceIte, Nat.reduceEqDiff, Nat.reduceAdd, true_and, List.getElem?_cons_zero, List.length_cons, List.length_nil, List.set_cons_zero, Nat.zero_add, Nat.add_zero, List.drop_zero, List.take_succ_cons, List.take_zero, List.drop_succ_cons, List.drop_nil, List.nil_append, List.append_nil, decide_true, ↓reduceIte, Nat.le_refl, T_40, e4, e7, hI.r7, hcell, pt_40, cellOk]
        refine hK1 _ _ _ ?_
        refine WP.ret ?_
        refine ret_cell (sz := 3) (id := n) e4 (Heap.upd_same _ _ _) rfl rfl ?_
        exact merge_done hI hok h80 hlt (by omega) (fun id hid => Heap.upd_ne _ _ (by omega)) hk
    refine WP.drawT hT hM (.op 0 0 (.op 1 1 (.op 3 1 (.alt 2 (.alt 4 (.op 5 2 (.op 6 2 (.op 7 0 (.op 8 0 (.op 9 0 .nil))))) (.alt 5 (.alt 4 (.op 6 2 (.op 7 0 (.op 8 0 (.op 9 0 .nil)))) (.alt 6 (.op 7 0 (.op 4 2 (.op 8 0 (.op 9 0 .nil)))) .nil)) .nil)) (.alt 4 (.alt 2 (.op 5 2 (.op 6 2 (.op 7 0 (.op 8 0 (.op 9 0 .nil))))) (.alt 5 (.alt 2 (.op 6 2 (.op 7 0 (.op 8 0 (.op 9 0 .nil)))) (.alt 6 (.op 2 2 (.op 7 0 (.op 8 0 (.op 9 0 .nil)))) .nil)) .nil)) (.alt 5 (.alt 2 (.alt 4 (.op 6 2 (.op 7 0 (.op 8 0 (.op 9 0 .nil)))) (.alt 6 (.op 7 0 (.op 4 2 (.op 8 0 (.op 9 0 .nil)))) .nil)) (.alt 4 (.alt 2 (.op 6 2 (.op 7 0 (.op 8 0 (.op 9 0 .nil)))) (.alt 6 (.op 2 2 (.op 7 0 (.op 8 0 (.op 9 0 .nil)))) .nil)) (.alt 6 (.alt 2 (.op 7 0 (.op 4 2 (.op 8 0 (.op 9 0 .nil)))) (.alt 4 (.op 2 2 (.op 7 0 (.op 8 0 (.op 9 0 .nil)))) .nil)) .nil))) .nil)))))) [] h' (by kernel_rfl) rfl (Heap.Sub.refl _) fun hlt' => ?_
    simp only [List.contains_nil, Bool.or_false, ↓stepA, ↓callA, Int.toNat_natCast, ev, Env.get_put_some, Env.put_none, ↓e_assign, ↓e_alloc, ↓e_load, ↓e_store, ↓e_makeSlice, ↓e_build, rdSl_sl, setPart_agg, ofVal, ↓thenA, Heap.upd_get, Heap.upd_upd, Heap.upd_sort, Nat.lt_add_right_iff_pos, Nat.pos_of_neZero, good_agg, AV.cells_int, AV.cells_agg, reduceIte, Nat.reduceEqDiff, Nat.reduceAdd, Nat.add_assoc, true_and, and_true, List.getElem?_cons_zero, List.getElem?_cons_succ, List.length_cons, List.length_nil, List.set_cons_zero, Nat.zero_add, Nat.add_zero, List.drop_zero, List.take_succ_cons, List.take_zero, List.drop_succ_cons, List.drop_nil, List.nil_append, List.append_nil, Nat.left_eq_add, decide_true, Nat.one_ne_zero, Nat.lt_add_one, ↓reduceIte, Nat.le_refl, T_2, T_3, T_38, T_37, T_40, T_89, ↓planT, e6, hlen, pt_2, cellOk, buildP_nil, List.all_cons, List.all_nil, Bool.and_true, List.contains_nil, Heap.upd_get]
    have b0 : n' ≤ n' ∧ n' < n' + 3 := ⟨Nat.le_refl _, Nat.lt_add_of_pos_right (by decide)⟩
    have b1 : n' ≤ n' + 1 ∧ n' + 1 < n' + 3 := ⟨Nat.le_add_right _ _, Nat.add_lt_add_left (by decide) _⟩
    have b2 : n' ≤ n' + 2 ∧ n' + 2 < n' + 3 := ⟨Nat.le_add_right _ _, Nat.add_lt_add_left (by decide) _⟩
    have x01 : n' ≠ n' + 1 := by omega
    have x02 : n' ≠ n' + 2 := by omega
    have x12 : n' + 1 ≠ n' + 2 := by omega
    have hb8 : (8 : Int) * (l.length : Int) ≤ 140737488355328 := by omega
    have hb9 : (l.length : Int) ≤ 140737488355328 := by omega
    have hb0 : 0 ≤ (l.length : Int) := by omega
    have leaf : ∀ (i j k : Nat) (a b c : List AV) (id : Nat), id < n' → n' ≤ i → n' ≤ j → n' ≤ k → (((h'.upd i a).upd j b).upd k c) id = h' id := fun i j k a b c id hid hi hj hk => by
      rw [Heap.upd_ne _ _ (by omega), Heap.upd_ne _ _ (by omega), Heap.upd_ne _ _ (by omega)]
    repeat' apply And.intro
    all_goals first
      | exact hb8
      | exact hb9
      | exact hb0
      | exact Int.le_refl _
      | exact (Heap.Sub.refl _).over hlt' b0.1
      | exact ((Heap.Sub.refl _).over hlt' b0.1).over hlt' b1.1
      | exact (((Heap.Sub.refl _).over hlt' b0.1).over hlt' b1.1).over hlt' b2.1
      | exact hK1' _ _ _ _ _ rfl rfl rfl rfl e0 e1 e4 (by first | exact b0 | exact b1 | exact b2) (by first | exact b0 | exact b1 | exact b2) (by first | exact b0 | exact b1 | exact b2)
          (by first | exact x01 | exact x02 | exact x12 | exact x01.symm | exact x02.symm | exact x12.symm) (by first | exact x01 | exact x02 | exact x12 | exact x01.symm | exact x02.symm | exact x12.symm) (by first | exact x01 | exact x02 | exact x12 | exact x01.symm | exact x02.symm | exact x12.symm)
          (by simp [Heap.upd_get]) (by simp [Heap.upd_get]) (by simp [Heap.upd_get]) (fun id hid => leaf _ _ _ _ _ _ id hid b0.1 b1.1 b2.1)
  -- the block that asks
  refine WP.block (WP.seq_k fun K2 hK2 => WP.region hT rfl ?_)
  simp only [↓opsA, ↓stepA, ↓callA, ev, Env.get_put_some, ↓e_move, ↓e_assign, ↓e_binOp, b_neq, ofVal, ↓thenA, reduceIte, Nat.reduceEqDiff, ↓reduceIte]
  refine hK2 _ _ _ ?_
  clear hK2 K2
  have hh0 : ∀ id, id < n → ((h.upd n [.agg [.int .i64 0, .nils, .nils]]).upd (n + 1) [.int .i64 l.length]) id = h id := fun id hid => by rw [Heap.upd_ne _ _ (by omega), Heap.upd_ne _ _ (by omega)]
  have hcell0 : ((h.upd n [.agg [.int .i64 0, .nils, .nils]]).upd (n + 1) [.int .i64 l.length]) n = some [.agg [.int .i64 0, .nils, .nils]] := by rw [Heap.upd_ne _ _ (by omega), Heap.upd_same]
  rw [hel]
  refine WP.cond (by simp only [ev, Env.get_put_some, ↓reduceIte]; rfl) (fun hc0 => ?_) (fun hc0 => ?_)
  · refine WP.skip ?_
    simp only [↓thenA, ↓blockA]
    have hf : sessFault l ≠ 0 := by simpa using hc0
    refine hK1' _ _ _ (Nat.le_refl _) hcell0 (Heap.upd_same _ _ _) hh0 rfl rfl rfl ?_ rfl
    unfold askedF; rw [if_pos hf]; rfl
  have hf : sessFault l = 0 := by simpa using hc0
  obtain ⟨hl1, hl5⟩ := fault_len hf
  refine WP.seq_k fun K2 hK2 => WP.region hT rfl ?_
  simp only [↓opsA, ↓stepA, ↓e_len1, ↓callA, ev, Env.get_put_some, Env.get_envOf, ↓e_move, ↓e_assign, ↓e_binOp, b_gtr, ofVal, ↓thenA, reduceIte, Nat.reduceEqDiff, List.getElem?_cons_zero, List.getElem?_cons_succ, Option.getD_some, ↓reduceIte, T_2, T_37, rdSl_emp hws]
  refine hK2 _ _ _ ?_
  clear hK2 K2
  refine WP.cond (by simp only [ev, Env.get_put_some, ↓reduceIte]; rfl) (fun hc1 => ?_) (fun hc1 => ?_)
  · refine WP.region hT rfl ?_
    simp only [↓opsA, ↓stepA, ↓callA, ev, ↓e_assign, ofVal, ↓thenA, ↓blockA]
    refine hK1' _ _ _ (Nat.le_refl _) hcell0 (Heap.upd_same _ _ _) hh0 rfl rfl rfl ?_ rfl
    unfold askedF; rw [if_neg (by simp [hf]), if_pos (by simp at hc1; omega)]; rfl
  have hw80 : ¬ 80 < who.length := by simp at hc1; omega
  refine WP.seq_k fun K2 hK2 => WP.region hT rfl ?_
  simp only [↓opsA, ↓stepA, ↓callA, List.map_cons, List.map_nil, ev, Env.get_put_some, Env.get_envOf, ↓e_move, ↓e_assign, ↓e_makeFunc, ↓thenA, reduceIte, Nat.reduceEqDiff, List.getElem?_cons_zero, List.getElem?_cons_succ, Option.getD_some, List.append_nil, ↓reduceIte]
  refine c58 hy0 (Heap.upd_same _ _ _) ⟨by omega, by omega⟩ ?_
  refine hK2 _ _ _ ?_
  clear hK2 K2
  refine WP.cond (by simp only [ev, Env.get_put_some, ↓reduceIte]; rfl) (fun hc2 => ?_) (fun hc2 => ?_)
  · refine WP.region hT rfl ?_
    simp only [↓opsA, ↓stepA, ↓callA, ev, ↓e_assign, ofVal, ↓thenA, ↓blockA]
    refine hK1' _ _ _ (Nat.le_refl _) hcell0 (Heap.upd_same _ _ _) hh0 rfl rfl rfl ?_ rfl
    unfold askedF; rw [if_neg (by simp [hf]), if_neg hw80, if_pos hc2]; rfl
  · refine WP.skip ?_
    simp only [↓thenA, ↓blockA]
    refine hK1' _ _ _ (Nat.le_refl _) hcell0 (Heap.upd_same _ _ _) hh0 rfl rfl rfl ?_ rfl
    unfold askedF; rw [if_neg (by simp [hf]), if_neg hw80, if_neg (by rw [hc2]; simp), hf]; rfl
end
end Go.Proofs.Ytplkjfnjdekgpaa
