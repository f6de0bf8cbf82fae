/- Row 6: the law. Own work. -/
import Derived.Test.YtplkjfnjdekgpaaR22
namespace Go.Proofs.Ytplkjfnjdekgpaa
open Go

theorem wt_le {α : Type} {f : α → Nat} {c : Nat} : ∀ (l : List α), (∀ a, a ∈ l → f a ≤ c) → (l.map f).sum ≤ c * l.length
  | [], _ => by simp
  | a :: l, h => by
    have := wt_le l (fun b hb => h b (by simp [hb]))
    have h2 := h a (by simp)
    simp only [List.map_cons, List.sum_cons, List.length_cons, Nat.mul_add, Nat.mul_one]
    omega

theorem wtByteS_len (l : List Int) : wtByteS l = l.length := by
  unfold wtByteS
  induction l with
  | nil => rfl
  | cons a l ih => simp only [List.map_cons, List.sum_cons, List.length_cons, ih]; unfold wtByte; omega

theorem wt_siz {α : Type} {f s : α → Nat} (hf : ∀ a, f a ≤ 2 + 2 * s a) : ∀ (l : List α), (l.map f).sum ≤ 2 * (l.length + (l.map s).sum)
  | [] => by simp
  | a :: l => by
    have := wt_siz hf l
    have := hf a
    simp only [List.map_cons, List.sum_cons, List.length_cons]
    omega

theorem wsDisk_le (d : DiskD) : wsDisk d ≤ 2 * sizDisk d := by
  have h1 : wtByteSS d.pages ≤ 2 * sizByteSS d.pages := wt_siz (fun a => by rw [wtByteS_len]; unfold sizByteS; omega) d.pages
  have h2 : wtLooseS d.loose ≤ 2 * sizLooseS d.loose := wt_siz (fun a => by unfold wtLoose sizLoose sizByteS; rw [wtByteS_len]; omega) d.loose
  unfold wsDisk sizDisk
  omega

theorem images_small (d : DiskD) (p : Int) : wsPartsResult (imagesR d p) ≤ 100000 := by
  unfold wsPartsResult imagesR
  split
  · simp [wtByteSS]
  · rename_i hf
    have hf' : diskFault d = 0 := by simpa using hf
    have hok := DiskOk.of hf'
    have h60 := hok.l60
    split
    · simp [wtByteSS]
    · simp only
      have hl : (imagesF d p).length ≤ 61 := by
        unfold imagesF
        have := List.length_filterMap_le (imgAt d p) (List.range (d.loose.length - 2))
        simp at this ⊢; omega
      have hb : ∀ b, b ∈ imagesF d p → wtByteS b ≤ 48 := by
        intro b hb
        rw [wtByteS_len]
        unfold imagesF at hb
        rcases List.mem_cons.1 hb with rfl | hb
        · rw [List.getD_eq_getElem?_getD]
          cases hq : d.pages[p.toNat]? with
          | none => simp
          | some q => have := hok.p48 q (List.mem_of_getElem? hq); simp [this]
        · obtain ⟨i, hi, hbi⟩ := List.mem_filterMap.1 hb
          unfold imgAt at hbi
          split at hbi
          · rename_i a b' c ha hb' hc
            split at hbi
            · have := hok.l16 a (List.mem_of_getElem? ha)
              have := hok.l16 b' (List.mem_of_getElem? hb')
              have := hok.l16 c (List.mem_of_getElem? hc)
              cases hbi
              simp; omega
            · cases hbi
          · cases hbi
      have := wt_le (f := wtByteS) (c := 48) (imagesF d p) hb
      unfold wtByteSS
      omega

section
variable {h : Heap} {n : Nat} {K : AV → Heap → Nat → Prop}

theorem c8 {x : AV} {d : DiskD} {w : Int} (hx : DiskR x d) (hk : K (.bool true) h n) : CA Try.prog 8 [x, .int .i64 w] h n K := by
  obtain ⟨xp, xl, rfl, _, _⟩ := id hx
  have sm := images_small d w
  refine CA.conv (CA.enter (N := 74) (rs := [.tmp 4]) hT Try.call8 Try.func8 rfl rfl (by simp) rfl fun hlt => ?_)
  refine WP.seq_k fun K1 hK1 => WP.region hT rfl ?_
  simp only [↓opsA, ↓stepA, ↓callA, ev, Env.get_envOf, ↓e_assign, ↓e_box, ofVal, ↓thenA, Nat.pos_of_neZero, good_agg, AV.cells_agg, Nat.reduceAdd, true_and, List.getElem?_cons_zero, Option.getD_some, List.length_cons, List.length_nil, Nat.zero_add, T_58]
  refine hK1 _ _ _ ?_
  clear hK1 K1
  refine WP.seq_k fun K1 hK1 => WP.region hT rfl ?_
  simp only [↓opsA, ↓stepA, ↓callA, ev, ↓e_assign, ofVal, ↓thenA]
  refine hK1 _ _ _ ?_
  clear hK1 K1
  refine WP.seq_k fun K1 hK1 => WP.region hT rfl ?_
  simp only [↓opsA, ↓stepA, ↓callA, List.map_cons, List.map_nil, ev, Env.get_put_some, ↓e_move, ↓e_assign, ↓e_load, rdSl_sl, ↓thenA, Heap.upd_get, Nat.pos_of_neZero, AV.cells_agg, reduceIte, Nat.reduceEqDiff, Nat.reduceAdd, true_and, List.getElem?_cons_zero, List.length_cons, List.length_nil, Nat.zero_add, List.drop_zero, List.take_succ_cons, List.take_zero, List.append_nil, decide_true, ↓reduceIte, Nat.le_refl, T_58, pt_58, cellOk]
  refine c35 hx (by omega) (by omega) (hK1 _ _ _ ?_)
  clear hK1 K1
  refine WP.seq_k fun K3 hK3 => ?_
  refine WP.seq_k fun K1 hK1 => WP.region hT rfl ?_
  simp only [↓opsA, ↓stepA, ↓callA, ev, Env.get_put_some, ↓e_move, ↓e_binOp, b_lss, ofVal, ↓thenA, reduceIte, ↓reduceIte]
  refine hK1 _ _ _ ?_
  clear hK1 K1
  refine WP.cond (by simp only [ev, Env.get_put_some, ↓reduceIte]; rfl) (fun hc => ?_) (fun hc => ?_)
  · refine WP.seq_k fun K1 hK1 => WP.region hT rfl ?_
    simp only [↓opsA, ↓stepA, ↓callA, ev, ↓e_assign, ofVal, ↓thenA]
    refine hK1 _ _ _ ?_
    clear hK1 K1
    refine WP.ret ?_
    simp only [Env.get_put_some, ↓thenA, reduceIte, Option.map_some, ↓reduceIte, retA, resA]
    exact ⟨_, rfl, ret_p (Left.upd (Nat.le_refl _) (Left.refl hlt)) (.bool _) hk⟩
  refine WP.skip (hK3 _ _ _ ?_)
  clear hK3 K3
  obtain ⟨b1, b2⟩ := left_nonneg (by omega) (of_decide_eq_false hc)
  have hl : sizDisk d ≤ 1048576 := by omega
  have hws := wsDisk_le d
  generalize hh1 : h.upd n [.agg [xp, xl]] = h1
  have hbx : h1 n = some [.agg [xp, xl]] := by rw [← hh1, Heap.upd_same]
  have hbel : ∀ id, id < n → h1 id = h id := fun id hid => by rw [← hh1, Heap.upd_ne _ _ (by omega)]
  clear hh1 hc
  -- the reference's
  refine WP.seq_k fun K1 hK1 => WP.region hT rfl ?_
  simp only [↓opsA_cons, isCallV, ↓stepA, ↓callA, List.map_cons, List.map_nil, ev, Env.get_put_some, ↓e_load, rdSl_sl, ↓thenA, Nat.pos_of_neZero, AV.cells_agg, reduceIte, Nat.reduceEqDiff, Nat.reduceAdd, true_and, List.getElem?_cons_zero, List.length_cons, List.length_nil, Nat.zero_add, List.drop_zero, List.take_succ_cons, List.take_zero, List.append_nil, decide_true, ↓reduceIte, Nat.le_refl, T_58, hbx, pt_58, cellOk]
  refine c37 hx hl fun r1 hr1 => ?_
  unfold opsW
  simp only [↓opsA_cons, isCallV, List.getElem?_cons_succ, ↓stepA, ↓callA, List.map_cons, List.map_nil, ev, Env.get_put_some, Env.get_envOf, ↓e_move, reduceIte, Nat.reduceEqDiff, List.getElem?_cons_zero, List.getElem?_cons_succ, Option.getD_some, List.append_nil, ↓reduceIte]
  refine CA.ofOwn Try.call36 (fun K hk => c36o hr1 hk) fun w0 hw0 => ?_
  obtain ⟨A0, rfl, _, hA0⟩ := id hw0
  unfold opsW
  simp only [↓opsA_nil, ↓opsA_cons, isCallV, ↓stepA, ↓callA, ev, Env.get_put_some, Env.put_none, ↓e_alloc, ↓e_store, setPart_agg, Heap.upd_get, Heap.upd_upd, Nat.pos_of_neZero, good_agg, AV.cells_agg, reduceIte, Nat.reduceEqDiff, Nat.reduceAdd, Nat.add_assoc, true_and, List.getElem?_cons_zero, List.length_cons, List.length_nil, List.set_cons_zero, Nat.zero_add, Nat.add_zero, List.take_zero, List.drop_succ_cons, List.drop_nil, List.nil_append, List.append_nil, ↓reduceIte, Nat.le_refl, T_61]
  refine hK1 _ _ _ ?_
  clear hK1 K1
  generalize hh2 : h1.upd (n + 1) [.agg [.int .i64 (imagesR d w).code, A0]] = h2
  have bw2 : h2 (n + 1) = some [.agg [.int .i64 (imagesR d w).code, A0]] := by rw [← hh2, Heap.upd_same]
  have fr2 : ∀ id, id < n + 1 → h2 id = h1 id := fun id hid => by rw [← hh2, Heap.upd_ne _ _ (by omega)]
  have hbx2 : h2 n = some [.agg [xp, xl]] := by rw [fr2 n (by omega)]; exact hbx
  clear hh2
  -- x0
  refine WP.seq_k fun K1 hK1 => WP.region hT rfl ?_
  simp only [↓opsA_cons, isCallV, ↓stepA, ↓callA, List.map_cons, List.map_nil, ev, Env.get_put_some, ↓e_load, rdSl_sl, ↓thenA, Nat.pos_of_neZero, AV.cells_agg, reduceIte, Nat.reduceEqDiff, Nat.reduceAdd, true_and, List.getElem?_cons_zero, List.length_cons, List.length_nil, Nat.zero_add, List.drop_zero, List.take_succ_cons, List.take_zero, List.append_nil, decide_true, ↓reduceIte, Nat.le_refl, T_58, hbx2, pt_58, cellOk]
  refine c37o hx hl fun x0 h3 n3 o3 => ?_
  have l3 := o3.le
  obtain ⟨x0', I0, t0, u0, i0⟩ := o3.frz0
  obtain ⟨xp', xl', rfl, hup, hul⟩ := id u0
  obtain ⟨xs, rfl, hxl⟩ := t0.aggE
  have xl2 : xs.length = 2 := by have := hxl.length; simpa using this.symm
  obtain ⟨xa, xb, rfl⟩ := len2 xl2
  unfold opsW
  simp only [↓opsA_nil, ↓opsA_cons, isCallV, ↓stepA, ↓callA, ev, Env.get_put_some, Env.put_none, ↓e_alloc, ↓e_store, setPart_agg, Heap.upd_get, Heap.upd_upd, Nat.pos_of_neZero, good_agg, AV.cells_agg, reduceIte, Nat.reduceEqDiff, Nat.reduceAdd, true_and, List.getElem?_cons_zero, List.length_cons, List.length_nil, List.set_cons_zero, Nat.zero_add, Nat.add_zero, List.take_zero, List.drop_succ_cons, List.drop_nil, List.nil_append, List.append_nil, ↓reduceIte, Nat.le_refl, T_65]
  refine hK1 _ _ _ ?_
  clear hK1 K1
  generalize hh4 : h3.upd n3 [.agg [xa, xb]] = h4
  have fr4 : ∀ id, id < n3 → h4 id = h3 id := fun id hid => by rw [← hh4, Heap.upd_ne _ _ (by omega)]
  have bx4 : h4 n3 = some [.agg [xa, xb]] := by rw [← hh4, Heap.upd_same]
  have bw4 : h4 (n + 1) = some [.agg [.int .i64 (imagesR d w).code, A0]] := by rw [fr4 _ (by omega), o3.below _ (by omega)]; exact bw2
  have hbx4 : h4 n = some [.agg [xp, xl]] := by rw [fr4 _ (by omega), o3.below _ (by omega)]; exact hbx2
  have t0 : Tree h4 (.agg [xa, xb]) (.agg [xp', xl']) I0 := t0.keep fun i hi => fr4 i (by have := i0 i hi; omega)
  clear hh4
  -- g0
  refine WP.seq_k fun K1 hK1 => WP.region hT rfl ?_
  simp only [↓opsA_cons, isCallV, List.getElem?_cons_succ, ↓stepA, ↓callA, List.map_cons, List.map_nil, ev, Env.get_put_some, Env.get_envOf, ↓e_move, ↓e_load, rdSl_sl, ↓thenA, Nat.pos_of_neZero, AV.cells_agg, reduceIte, Nat.reduceEqDiff, Nat.reduceAdd, true_and, List.getElem?_cons_zero, List.getElem?_cons_succ, Option.getD_some, List.length_cons, List.length_nil, Nat.zero_add, List.drop_zero, List.take_succ_cons, List.take_zero, List.append_nil, decide_true, ↓reduceIte, Nat.le_refl, T_65, bx4, pt_65, cellOk]
  refine CA.lendOwn (args' := [(.agg [xp', xl']), .int .i64 w]) Try.call38 rfl (frzL2 (.inr t0.frz00) (.inl rfl)) (fun K hk => c38o u0 hk) fun g0 h5 n5 o5 => ?_
  have l5 := o5.le
  obtain ⟨g0', I2, t2, u2, i2⟩ := o5.frz0
  have t0 : Tree h5 (.agg [xa, xb]) (.agg [xp', xl']) I0 := t0.keep fun i hi => o5.below i (by have := i0 i hi; omega)
  obtain ⟨Ag', rfl, _, hAg⟩ := id u2
  obtain ⟨gs, rfl, hgl⟩ := t2.aggE
  have gl3 : gs.length = 2 := by have := hgl.length; simpa using this.symm
  obtain ⟨ga, gb, rfl⟩ := len2 gl3
  unfold opsW
  simp only [↓opsA_nil, ↓opsA_cons, isCallV, ↓stepA, ↓callA, ev, Env.get_put_some, Env.put_none, ↓e_alloc, ↓e_store, setPart_agg, Heap.upd_get, Heap.upd_upd, Nat.pos_of_neZero, good_agg, AV.cells_agg, reduceIte, Nat.reduceEqDiff, Nat.reduceAdd, true_and, List.getElem?_cons_zero, List.length_cons, List.length_nil, List.set_cons_zero, Nat.zero_add, Nat.add_zero, List.take_zero, List.drop_succ_cons, List.drop_nil, List.nil_append, List.append_nil, ↓reduceIte, Nat.le_refl, T_61]
  refine hK1 _ _ _ ?_
  clear hK1 K1
  generalize hh6 : h5.upd n5 [.agg [ga, gb]] = h6
  have fr6 : ∀ id, id < n5 → h6 id = h5 id := fun id hid => by rw [← hh6, Heap.upd_ne _ _ (by omega)]
  have bg6 : h6 n5 = some [.agg [ga, gb]] := by rw [← hh6, Heap.upd_same]
  have bx6 : h6 n3 = some [.agg [xa, xb]] := by rw [fr6 _ (by omega), o5.below _ (by omega)]; exact bx4
  have bw6 : h6 (n + 1) = some [.agg [.int .i64 (imagesR d w).code, A0]] := by rw [fr6 _ (by omega), o5.below _ (by omega)]; exact bw4
  have hbx6 : h6 n = some [.agg [xp, xl]] := by rw [fr6 _ (by omega), o5.below _ (by omega)]; exact hbx4
  have t0 : Tree h6 (.agg [xa, xb]) (.agg [xp', xl']) I0 := t0.keep fun i hi => fr6 i (by have := i0 i hi; omega)
  have t2 : Tree h6 (.agg [ga, gb]) (.agg [.int .i64 (imagesR d w).code, Ag']) I2 := t2.keep fun i hi => fr6 i (by have := i2 i hi; omega)
  have bel6 : ∀ id, id < n → h6 id = h id := fun id hid => by rw [fr6 id (by omega), o5.below id (by omega), fr4 id (by omega), o3.below id (by omega), fr2 id (by omega)]; exact hbel id hid
  clear hh6
  -- R8
  refine WP.seq_k fun K3 hK3 => ?_
  refine WP.seq_k fun K1 hK1 => WP.region hT rfl ?_
  simp only [↓opsA_cons, isCallV, ↓stepA, ↓callA, List.map_cons, List.map_nil, ev, Env.get_put_some, ↓e_load, rdSl_sl, ↓thenA, Nat.pos_of_neZero, AV.cells_agg, reduceIte, Nat.reduceEqDiff, Nat.reduceAdd, true_and, List.getElem?_cons_zero, List.length_cons, List.length_nil, Nat.zero_add, List.drop_zero, List.take_succ_cons, List.take_zero, List.append_nil, decide_true, ↓reduceIte, Nat.le_refl, T_61, bg6, bw6, pt_61, cellOk]
  refine CA.lend (args' := [.agg [.int .i64 (imagesR d w).code, Ag'], .agg [.int .i64 (imagesR d w).code, A0]]) Try.call39 rfl (frzL2 (.inr t2.frz00) (.inl rfl)) (.bool _) (fun K hk => c39 u2 hw0 hk) ?_
  unfold opsW
  simp only [↓opsA_nil, ↓opsA_cons, isCallV, ↓stepA, ↓callA, ev, Env.get_put_some, ↓e_unOp, u_not, reduceIte, decide_true, ↓reduceIte]
  refine hK1 _ _ _ ?_
  clear hK1 K1
  refine WP.cond (by simp only [ev, Env.get_put_some, ↓reduceIte]; rfl) (fun hc => ?_) (fun hc => ?_)
  · simp at hc
  refine WP.skip (hK3 _ _ _ ?_)
  clear hK3 K3
  -- R10
  refine WP.seq_k fun K3 hK3 => ?_
  refine WP.seq_k fun K1 hK1 => WP.drawL hT hM [(0, 1), (1, 1), (2, 2), (3, 2), (4, 0)] [] h6 (by kernel_rfl) rfl (Heap.Sub.refl _) fun _ => ?_
  simp only [↓planL_cons, isCallV, List.getElem?_cons_succ, List.contains_nil, Bool.or_false, ↓stepA, ↓callA, List.map_cons, List.map_nil, ev, Env.get_put_some, ↓e_load, rdSl_sl, ↓thenA, Nat.pos_of_neZero, AV.cells_agg, reduceIte, Nat.reduceEqDiff, Nat.reduceAdd, true_and, List.getElem?_cons_zero, List.getElem?_cons_succ, List.length_cons, List.length_nil, Nat.zero_add, List.drop_zero, List.take_succ_cons, List.take_zero, List.append_nil, decide_true, ↓reduceIte, Nat.le_refl, T_58, T_65, bx6, hbx6, pt_58, pt_65, cellOk]
  refine c37 hx hl fun r3 hr3 => ⟨Heap.Sub.refl _, ?_⟩
  unfold planW
  simp only [↓planL_cons, isCallV, List.getElem?_cons_succ, List.contains_nil, Bool.or_false, ↓stepA, ↓callA, List.map_cons, List.map_nil, ev, Env.get_put_some, reduceIte, Nat.reduceEqDiff, List.getElem?_cons_zero, List.getElem?_cons_succ, List.append_nil, ↓reduceIte]
  refine CA.lend (args' := [(.agg [xp', xl']), r3]) Try.call40 rfl (frzL2 (.inr t0.frz00) (.inl rfl)) (.bool _) (fun K hk => c40 u0 hr3 hk) ⟨Heap.Sub.refl _, ?_⟩
  unfold planW
  simp only [↓planL_nil, ↓planL_cons, List.getElem?_cons_succ, ↓stepA, ↓callA, ev, Env.get_put_some, ↓e_unOp, u_not, reduceIte, List.getElem?_cons_zero, List.getElem?_cons_succ, decide_true, ↓reduceIte]
  refine hK1 _ _ _ ?_
  clear hK1 K1
  refine WP.cond (by simp only [ev, Env.get_put_some, ↓reduceIte]; rfl) (fun hc => ?_) (fun hc => ?_)
  · simp at hc
  refine WP.skip (hK3 _ _ _ ?_)
  clear hK3 K3
  -- the marks
  refine WP.seq_k fun K1 hK1 => WP.region hT rfl ?_
  simp only [↓opsA, ↓stepA, ↓callA, ev, ↓e_assign, ofVal, ↓thenA]
  refine hK1 _ _ _ ?_
  clear hK1 K1
  refine WP.seq_k fun K1 hK1 => WP.region hT rfl ?_
  simp only [↓opsA_cons, isCallV, ↓stepA, ↓callA, List.map_cons, List.map_nil, ev, Env.get_put_some, ↓e_move, ↓e_load, rdSl_sl, ↓thenA, Nat.pos_of_neZero, AV.cells_agg, reduceIte, Nat.reduceEqDiff, Nat.reduceAdd, true_and, List.getElem?_cons_zero, List.length_cons, List.length_nil, Nat.zero_add, List.drop_zero, List.take_succ_cons, List.take_zero, List.append_nil, decide_true, ↓reduceIte, Nat.le_refl, T_65, bx6, pt_65, cellOk]
  refine m41 u0 _ _ _ _ I0 1 t0 (by omega) (by omega) fun x0'' h7 n7 l7 t0'' fr7 _ => ?_
  unfold opsW
  simp only [↓opsA_nil, ↓opsA_cons, isCallV, ↓stepA, ↓callA, ev, Env.get_put_some, ↓e_assign, reduceIte, ↓reduceIte]
  refine hK1 _ _ _ ?_
  clear hK1 K1
  have ni : ∀ id, id < n3 → n + 2 ≤ id ∨ id ∉ I0 := fun id hid => by
    by_cases hm : id ∈ I0
    · exact .inl (by have := i0 id hm; omega)
    · exact .inr hm
  have bw7 : h7 (n + 1) = some [.agg [.int .i64 (imagesR d w).code, A0]] := by rw [fr7 _ (fun hm => by have := i0 _ hm; omega)]; exact bw6
  have hbx7 : h7 n = some [.agg [xp, xl]] := by rw [fr7 _ (fun hm => by have := i0 _ hm; omega)]; exact hbx6
  have bg7 : h7 n5 = some [.agg [ga, gb]] := by rw [fr7 _ (fun hm => by have := i0 _ hm; omega)]; exact bg6
  have t2 : Tree h7 (.agg [ga, gb]) (.agg [.int .i64 (imagesR d w).code, Ag']) I2 := t2.keep fun i hi => fr7 i (fun hm => by have := i0 i hm; have := i2 i hi; omega)
  have bel7 : ∀ id, id < n → h7 id = h id := fun id hid => by rw [fr7 id (fun hm => by have := i0 id hm; omega)]; exact bel6 id hid
  have hneg : decide ((1 : Int) + (wsDisk d : Nat) < 0) = false := decide_eq_false (by omega)
  refine WP.seq_k fun K3 hK3 => ?_
  refine WP.seq_k fun K1 hK1 => WP.region hT rfl ?_
  simp only [↓opsA_cons, isCallV, yieldA, List.getElem?_cons_succ, ↓stepA, ↓callA, List.map_cons, List.map_nil, ev, Env.get_put_some, ↓e_move, ↓e_binOp, ↓e_load, b_lss, rdSl_sl, ofVal, ↓thenA, Nat.pos_of_neZero, AV.cells_agg, reduceIte, Nat.reduceEqDiff, Nat.reduceAdd, true_and, List.getElem?_cons_zero, List.getElem?_cons_succ, List.length_cons, List.length_nil, Nat.zero_add, List.drop_zero, List.take_succ_cons, List.take_zero, List.append_nil, decide_true, Option.bind_some, ↓reduceIte, Nat.le_refl, T_61, hneg, bg7, bw7, pt_61, cellOk]
  refine CA.lend (args' := [.agg [.int .i64 (imagesR d w).code, Ag'], .agg [.int .i64 (imagesR d w).code, A0]]) Try.call39 rfl (frzL2 (.inr t2.frz00) (.inl rfl)) (.bool _) (fun K hk => c39 u2 hw0 hk) ?_
  unfold opsW
  simp only [↓opsA_nil, ↓opsA_cons, isCallV, yieldA, List.getElem?_cons_succ, Bool.false_eq_true, ↓stepA, ↓callA, ev, Env.get_put_some, ↓e_unOp, ↓e_pick, u_not, reduceIte, Nat.reduceEqDiff, List.getElem?_cons_zero, List.getElem?_cons_succ, decide_true, Option.bind_some, ↓reduceIte]
  refine hK1 _ _ _ ?_
  clear hK1 K1
  refine WP.cond (by simp only [ev, Env.get_put_some, ↓reduceIte]; rfl) (fun hc => ?_) (fun hc => ?_)
  · simp at hc
  refine WP.skip (hK3 _ _ _ ?_)
  clear hK3 K3
  -- the result is marked, and read back
  refine WP.seq_k fun K1 hK1 => WP.region hT rfl ?_
  simp only [↓opsA, ↓stepA, ↓callA, ev, ↓e_assign, ofVal, ↓thenA]
  refine hK1 _ _ _ ?_
  clear hK1 K1
  refine WP.seq_k fun K1 hK1 => WP.region hT rfl ?_
  simp only [↓opsA_cons, isCallV, ↓stepA, ↓callA, List.map_cons, List.map_nil, ev, Env.get_put_some, ↓e_move, ↓e_load, rdSl_sl, ↓thenA, Nat.pos_of_neZero, AV.cells_agg, reduceIte, Nat.reduceEqDiff, Nat.reduceAdd, true_and, List.getElem?_cons_zero, List.length_cons, List.length_nil, Nat.zero_add, List.drop_zero, List.take_succ_cons, List.take_zero, List.append_nil, decide_true, ↓reduceIte, Nat.le_refl, T_61, bg7, pt_61, cellOk]
  refine m42 u2 _ _ _ _ I2 1 t2 (by omega) (by omega) fun g'' h8 n8 l8 t2'' fr8 hHg => ?_
  unfold opsW
  simp only [↓opsA_nil, ↓opsA_cons, isCallV, ↓stepA, ↓callA, ev, Env.get_put_some, ↓e_assign, reduceIte, ↓reduceIte]
  refine hK1 _ _ _ ?_
  clear hK1 K1
  have bw8 : h8 (n + 1) = some [.agg [.int .i64 (imagesR d w).code, A0]] := by rw [fr8 _ (fun hm => by have := i2 _ hm; omega)]; exact bw7
  have hbx8 : h8 n = some [.agg [xp, xl]] := by rw [fr8 _ (fun hm => by have := i2 _ hm; omega)]; exact hbx7
  have bg8 : h8 n5 = some [.agg [ga, gb]] := by rw [fr8 _ (fun hm => by have := i2 _ hm; omega)]; exact bg7
  have bel8 : ∀ id, id < n → h8 id = h id := fun id hid => by rw [fr8 id (fun hm => by have := i2 id hm; omega)]; exact bel7 id hid
  have hh : HeldBy Try.prog 43 g'' (wsPartsResult (imagesR d w)) 1 := h43 (by omega) (by omega) hHg
  have hneg2 : decide ((1 : Int) + (wsPartsResult (imagesR d w) : Nat) < 0) = false := decide_eq_false (by omega)
  refine WP.seq_k fun K1 hK1 => WP.region hT rfl ?_
  simp only [↓opsA, ↓stepA, ↓callA, ev, ↓e_assign, ofVal, ↓thenA]
  refine hK1 _ _ _ ?_
  clear hK1 K1
  refine WP.seq_k fun K1 hK1 => WP.region hT rfl ?_
  simp only [↓opsA_cons, isCallV, ↓stepA, ↓callA, List.map_cons, List.map_nil, ev, Env.get_put_some, ↓e_move, ↓e_load, rdSl_sl, ↓thenA, Nat.pos_of_neZero, AV.cells_agg, reduceIte, Nat.reduceEqDiff, Nat.reduceAdd, true_and, List.getElem?_cons_zero, List.length_cons, List.length_nil, Nat.zero_add, List.drop_zero, List.take_succ_cons, List.take_zero, List.append_nil, decide_true, ↓reduceIte, Nat.le_refl, T_61, bg8, pt_61, cellOk]
  refine CA.lend (args' := [g'', .int .i64 1]) Try.call43 rfl (frzL2 (.inr t2''.frz00) (.inl rfl)) (.int _ _) (fun K hk => hh _ _ _ hk) ?_
  unfold opsW
  simp only [↓opsA_nil, ↓opsA_cons, isCallV, ↓stepA, ↓callA, ev, Env.get_put_some, ↓e_assign, reduceIte, ↓reduceIte]
  refine hK1 _ _ _ ?_
  clear hK1 K1
  refine WP.seq_k fun K3 hK3 => ?_
  refine WP.seq_k fun K1 hK1 => WP.region hT rfl ?_
  simp only [↓opsA, ↓stepA, ↓callA, ev, Env.get_put_some, ↓e_move, ↓e_binOp, b_lss, ofVal, ↓thenA, reduceIte, ↓reduceIte]
  refine hK1 _ _ _ ?_
  clear hK1 K1
  refine WP.cond (by simp only [ev, Env.get_put_some, ↓reduceIte]; rfl) (fun hc => ?_) (fun hc => ?_)
  · rw [hneg2] at hc; cases hc
  refine WP.skip (hK3 _ _ _ ?_)
  clear hK3 K3
  refine WP.seq_k fun K3 hK3 => ?_
  refine WP.seq_k fun K1 hK1 => WP.region hT rfl ?_
  simp only [↓opsA, ↓stepA, ↓callA, ev, Env.get_put_some, ↓e_move, ↓e_binOp, b_neq, ↓thenA, reduceIte, Nat.reduceEqDiff, ↓reduceIte]
  refine hK1 _ _ _ ?_
  clear hK1 K1
  refine WP.cond (by simp only [ev, Env.get_put_some, ↓reduceIte]; rfl) (fun hc => ?_) (fun hc => ?_)
  · simp at hc
  refine WP.skip (hK3 _ _ _ ?_)
  clear hK3 K3
  -- once more
  refine WP.seq_k fun K1 hK1 => WP.region hT rfl ?_
  simp only [↓opsA_cons, isCallV, ↓stepA, ↓callA, List.map_cons, List.map_nil, ev, Env.get_put_some, ↓e_load, rdSl_sl, ↓thenA, Nat.pos_of_neZero, AV.cells_agg, reduceIte, Nat.reduceEqDiff, Nat.reduceAdd, true_and, List.getElem?_cons_zero, List.length_cons, List.length_nil, Nat.zero_add, List.drop_zero, List.take_succ_cons, List.take_zero, List.append_nil, decide_true, ↓reduceIte, Nat.le_refl, T_58, hbx8, pt_58, cellOk]
  refine c37 hx hl fun r5 hr5 => ?_
  unfold opsW
  simp only [↓opsA_cons, isCallV, List.getElem?_cons_succ, ↓stepA, ↓callA, List.map_cons, List.map_nil, ev, Env.get_put_some, Env.get_envOf, ↓e_move, reduceIte, Nat.reduceEqDiff, List.getElem?_cons_zero, List.getElem?_cons_succ, Option.getD_some, List.append_nil, ↓reduceIte]
  refine CA.ofOwn Try.call38 (fun K hk => c38o hr5 hk) fun g1 hg1 => ?_
  obtain ⟨A1, rfl, _, hA1⟩ := id hg1
  have f8 : (n + 1 = n8) = False := eq_false (by omega)
  unfold opsW
  simp only [↓opsA_nil, ↓opsA_cons, isCallV, ↓stepA, ↓callA, ev, Env.get_put_some, Env.put_none, ↓e_alloc, ↓e_store, setPart_agg, Heap.upd_get, Heap.upd_upd, Nat.pos_of_neZero, good_agg, AV.cells_agg, reduceIte, Nat.reduceEqDiff, Nat.reduceAdd, true_and, List.getElem?_cons_zero, List.length_cons, List.length_nil, List.set_cons_zero, Nat.zero_add, Nat.add_zero, List.take_zero, List.drop_succ_cons, List.drop_nil, List.nil_append, List.append_nil, ↓reduceIte, Nat.le_refl, T_61]
  refine hK1 _ _ _ ?_
  clear hK1 K1
  refine WP.seq_k fun K3 hK3 => ?_
  refine WP.seq_k fun K1 hK1 => WP.region hT rfl ?_
  simp only [↓opsA_cons, isCallV, ↓stepA, ↓callA, List.map_cons, List.map_nil, ev, Env.get_put_some, ↓e_load, rdSl_sl, ↓thenA, Heap.upd_get, Nat.pos_of_neZero, AV.cells_agg, reduceIte, Nat.reduceEqDiff, Nat.reduceAdd, true_and, List.getElem?_cons_zero, List.length_cons, List.length_nil, Nat.zero_add, List.drop_zero, List.take_succ_cons, List.take_zero, List.append_nil, decide_true, ↓reduceIte, Nat.le_refl, T_61, bw8, pt_61, cellOk, f8]
  refine c39 hg1 hw0 ?_
  unfold opsW
  simp only [↓opsA_nil, ↓opsA_cons, isCallV, ↓stepA, ↓callA, ev, Env.get_put_some, ↓e_unOp, u_not, reduceIte, decide_true, ↓reduceIte]
  refine hK1 _ _ _ ?_
  clear hK1 K1
  refine WP.cond (by simp only [ev, Env.get_put_some, ↓reduceIte]; rfl) (fun hc => ?_) (fun hc => ?_)
  · simp at hc
  refine WP.skip (hK3 _ _ _ ?_)
  clear hK3 K3
  refine WP.seq_k fun K1 hK1 => WP.region hT rfl ?_
  simp only [↓opsA, ↓stepA, ↓callA, ev, ↓e_assign, ofVal, ↓thenA]
  refine hK1 _ _ _ ?_
  clear hK1 K1
  generalize hh9 : h8.upd n8 [.agg [.int .i64 (imagesR d w).code, A1]] = h9
  have t2'' : Tree h9 (.agg [ga, gb]) g'' I2 := t2''.keep fun i hi => by rw [← hh9, Heap.upd_ne _ _ (by have := i2 i hi; omega)]
  have fr9 : ∀ id, id < n8 → h9 id = h8 id := fun id hid => by rw [← hh9, Heap.upd_ne _ _ (by omega)]
  have bg9 : h9 n5 = some [.agg [ga, gb]] := by rw [fr9 _ (by omega)]; exact bg8
  clear hh9
  refine WP.seq_k fun K1 hK1 => WP.region hT rfl ?_
  simp only [↓opsA_cons, isCallV, ↓stepA, ↓callA, List.map_cons, List.map_nil, ev, Env.get_put_some, ↓e_move, ↓e_load, rdSl_sl, ↓thenA, Nat.pos_of_neZero, AV.cells_agg, reduceIte, Nat.reduceEqDiff, Nat.reduceAdd, true_and, List.getElem?_cons_zero, List.length_cons, List.length_nil, Nat.zero_add, List.drop_zero, List.take_succ_cons, List.take_zero, List.append_nil, decide_true, ↓reduceIte, Nat.le_refl, T_61, bg9, pt_61, cellOk]
  refine CA.lend (args' := [g'', .int .i64 1]) Try.call43 rfl (frzL2 (.inr t2''.frz00) (.inl rfl)) (.int _ _) (fun K hk => hh _ _ _ hk) ?_
  unfold opsW
  simp only [↓opsA_nil, ↓opsA_cons, isCallV, ↓stepA, ↓callA, ev, Env.get_put_some, ↓e_assign, reduceIte, ↓reduceIte]
  refine hK1 _ _ _ ?_
  clear hK1 K1
  refine WP.seq_k fun K3 hK3 => ?_
  refine WP.seq_k fun K1 hK1 => WP.region hT rfl ?_
  simp only [↓opsA, ↓stepA, ↓callA, ev, Env.get_put_some, ↓e_move, ↓e_binOp, b_lss, ofVal, ↓thenA, reduceIte, ↓reduceIte]
  refine hK1 _ _ _ ?_
  clear hK1 K1
  refine WP.cond (by simp only [ev, Env.get_put_some, ↓reduceIte]; rfl) (fun hc => ?_) (fun hc => ?_)
  · rw [hneg2] at hc; cases hc
  refine WP.skip (hK3 _ _ _ ?_)
  clear hK3 K3
  refine WP.seq_k fun K3 hK3 => ?_
  refine WP.seq_k fun K1 hK1 => WP.region hT rfl ?_
  simp only [↓opsA, ↓stepA, ↓callA, ev, Env.get_put_some, ↓e_move, ↓e_binOp, b_neq, ↓thenA, reduceIte, Nat.reduceEqDiff, ↓reduceIte]
  refine hK1 _ _ _ ?_
  clear hK1 K1
  refine WP.cond (by simp only [ev, Env.get_put_some, ↓reduceIte]; rfl) (fun hc => ?_) (fun hc => ?_)
  · simp at hc
  refine WP.skip (hK3 _ _ _ ?_)
  clear hK3 K3
  refine WP.seq_k fun K1 hK1 => WP.region hT rfl ?_
  simp only [↓opsA, ↓stepA, ↓callA, ev, ↓e_assign, ofVal, ↓thenA]
  refine hK1 _ _ _ ?_
  clear hK1 K1
  refine WP.ret ?_
  simp only [Env.get_put_some, reduceIte, Option.map_some, ↓reduceIte, retA, resA]
  refine ⟨_, rfl, ret_p ⟨fun id b hb => ⟨hlt id b hb, ?_⟩, fun id b hb => .inl hb⟩ (.bool _) hk⟩
  have hid := hlt id b hb
  rw [fr9 id (by omega), bel8 id hid]
  exact hb
end
end Go.Proofs.Ytplkjfnjdekgpaa
