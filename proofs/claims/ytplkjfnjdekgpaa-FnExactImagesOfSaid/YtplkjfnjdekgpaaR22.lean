/- Row 6: ImagesOf, both. Own work. -/
import Derived.Test.YtplkjfnjdekgpaaR21
namespace Go.Proofs.Ytplkjfnjdekgpaa
open Go

theorem parts_nil {c : Int} (hc : I64 c) : PartsResultR (.agg [.int .i64 c, .nils]) ⟨c, []⟩ := ⟨.nils, rfl, hc, ⟨[], rfl, .nil, Nat.zero_le _, fun _ => .nils, rfl⟩⟩
theorem parts_atom {c : Int} : (AV.agg [.int .i64 c, .nils]).Lt 0 ∧ NoRo (.agg [.int .i64 c, .nils]) := by
  constructor
  · rw [lt_agg]; intro u hu; simp at hu; rcases hu with rfl | rfl <;> constructor
  · refine .agg _ fun i u hu => ?_
    have := List.mem_of_getElem? hu
    simp at this; rcases this with rfl | rfl <;> constructor

theorem diskFault_i64 (d : DiskD) : I64 (diskFault d) := by
  unfold diskFault
  split
  · exact ⟨by decide, by decide⟩
  · split
    · exact ⟨by decide, by decide⟩
    · cases hq : d.loose.findSome? (looseFault d.pages.length) with
      | none => exact ⟨by decide, by decide⟩
      | some c =>
        obtain ⟨_, x, _, _, hx, _⟩ := List.findSome?_eq_some_iff.1 hq
        unfold looseFault at hx
        split at hx
        · cases hx; exact ⟨by decide, by decide⟩
        · split at hx
          · cases hx; exact ⟨by decide, by decide⟩
          · cases hx

section
variable {h : Heap} {n : Nat} {K : AV → Heap → Nat → Prop}

/-- The end: a list of images stored as the result. -/
theorem parts_done {h2 hF : Heap} {n2 m : Nat} {r : AV} {ls : List (List Int)} (hlt : h.below n) (hm : n ≤ m) (o2 : ∃ r' I, Tree h2 r r' I ∧ ByteSSR r' ls ∧ ∀ i, i ∈ I → m ≤ i ∧ i < n2) (hF2 : ∀ id, m ≤ id → hF id = h2 id) (hb : ∀ id, id < n → hF id = h id) (hle : n ≤ n2)
    (hk : ∀ r h' n', OwnRes PartsResultR h n r ⟨0, ls⟩ h' n' → K r h' n') : ∃ r2 h3 n3, Conv n h (.agg [.int .i64 0, r]) hF n2 r2 h3 n3 ∧ K r2 h3 n3 := by
  obtain ⟨r', I, ht, hU, hI⟩ := o2
  refine own_done hlt (.agg _ _ _ (TreeL.cons (.int .i64 0) (.int .i64 0) _ _ [] _ (Tree.ofPlain1 rfl) (TreeL.one (ht.keep fun i hi => hF2 i (hI i hi).1)) (fun i hi => by cases hi))) ⟨r', rfl, (show I64 0 from ⟨by decide, by decide⟩), hU⟩ (fun i hi => ?_) hb hle hk
  have := hI i (by simpa using hi)
  omega

theorem c36o {x : AV} {d : DiskD} {p : Int} (hx : DiskR x d) (hk : ∀ r h' n', OwnRes PartsResultR h n r (imagesR d p) h' n' → K r h' n') : CA Try.prog 36 [x, .int .i64 p] h n K := by
  obtain ⟨xp, xl, rfl, hp, hl⟩ := id hx
  refine CA.conv (CA.enter (N := 19) (rs := [.cell 4 61]) hT Try.call36 Try.func36 rfl rfl (by simp) rfl fun hlt => ?_)
  refine WP.seq_k fun K1 hK1 => WP.region hT rfl ?_
  simp only [↓opsA, ↓stepA, ↓callA, ev, Env.get_envOf, ↓e_alloc, ↓e_box, ↓thenA, Nat.pos_of_neZero, good_agg, AV.cells_agg, Nat.reduceAdd, Nat.add_assoc, true_and, List.getElem?_cons_zero, Option.getD_some, List.length_cons, List.length_nil, Nat.zero_add, T_65, T_61]
  refine hK1 _ _ _ ?_
  clear hK1 K1
  refine WP.seq_k fun K3 hK3 => ?_
  refine WP.seq_k fun K1 hK1 => WP.region hT rfl ?_
  simp only [↓opsA, ↓stepA, ↓callA, List.map_cons, List.map_nil, ev, Env.get_put_some, ↓e_assign, ↓e_load, rdSl_sl, ↓thenA, Heap.upd_get, Nat.pos_of_neZero, AV.cells_agg, reduceIte, Nat.reduceEqDiff, Nat.reduceAdd, true_and, List.getElem?_cons_zero, List.length_cons, List.length_nil, Nat.zero_add, List.drop_zero, List.take_succ_cons, List.take_zero, List.append_nil, Nat.left_eq_add, decide_true, Nat.one_ne_zero, ↓reduceIte, Nat.le_refl, T_65, pt_65, cellOk]
  refine c67 hx (hK1 _ _ _ ?_)
  clear hK1 K1
  refine WP.seq_k fun K1 hK1 => WP.region hT rfl ?_
  simp only [↓opsA, ↓stepA, ↓callA, ev, Env.get_put_some, ↓e_move, ↓e_binOp, b_neq, ofVal, ↓thenA, reduceIte, ↓reduceIte]
  refine hK1 _ _ _ ?_
  clear hK1 K1
  refine WP.cond (by simp only [ev, Env.get_put_some, ↓reduceIte]; rfl) (fun hc => ?_) (fun hc => ?_)
  · refine WP.seq_k fun K1 hK1 => WP.region hT rfl ?_
    simp only [↓opsA, ↓stepA, ↓callA, ev, Env.get_put_some, Env.put_none, ↓e_move, ↓e_store, ↓e_build, setPart_agg, ↓thenA, Heap.upd_get, Heap.upd_upd, Nat.pos_of_neZero, good_int, good_agg, AV.cells_int, AV.cells_agg, reduceIte, Nat.reduceEqDiff, Nat.reduceLeDiff, Nat.reduceAdd, true_and, List.getElem?_cons_zero, List.length_cons, List.length_nil, List.set_cons_zero, Nat.zero_add, Nat.add_zero, List.drop_zero, List.take_zero, List.drop_succ_cons, List.drop_nil, List.cons_append, List.nil_append, List.append_nil, decide_true, Nat.lt_add_one, ↓reduceIte, Nat.le_refl, T_2, T_55, T_61, buildP_cons, buildP_nil, List.all_cons, List.all_nil, Bool.and_true]
    refine hK1 _ _ _ ?_
    clear hK1 K1
    refine WP.ret ?_
    simp only [↓thenA]
    refine ret_cell (sz := 2) (id := n + 1) (v := .agg [.int .i64 (diskFault d), .nils]) rfl (by simp []) rfl rfl ?_
    have hmF : imagesR d p = ⟨diskFault d, []⟩ := by unfold imagesR; rw [if_pos (by simpa using hc)]
    rw [hmF] at hk
    exact ret_own_atom hlt (fun id hid => by rw [Heap.upd_ne _ _ (by omega), Heap.upd_ne _ _ (by omega)]) (by omega) (parts_nil (diskFault_i64 d)) parts_atom.1 parts_atom.2 hk
  have hf : diskFault d = 0 := by simpa using hc
  have hok := DiskOk.of hf
  refine WP.skip (hK3 _ _ _ ?_)
  clear hK3 K3 hc
  refine WP.seq_k fun K3 hK3 => ?_
  refine WP.seq_k fun K1 hK1 => WP.region hT rfl ?_
  simp only [↓opsA, ↓stepA, ↓callA, List.map_cons, List.map_nil, ev, Env.get_put_some, Env.get_envOf, ↓e_move, ↓e_unOp, ↓thenA, reduceIte, Nat.reduceEqDiff, List.getElem?_cons_zero, List.getElem?_cons_succ, Option.getD_some, List.append_nil, ↓reduceIte]
  refine c68 (d := d) (xp := xp) (xl := xl) (by simp [Heap.upd_get]) hp hok.n8 ?_
  simp only [u_not]
  refine hK1 _ _ _ ?_
  clear hK1 K1
  refine WP.cond (by simp only [ev, Env.get_put_some, ↓reduceIte]; rfl) (fun hc => ?_) (fun hc => ?_)
  · refine WP.seq_k fun K1 hK1 => WP.region hT rfl ?_
    simp only [↓opsA, ↓stepA, ↓callA, ev, Env.get_put_some, Env.put_none, ↓e_store, ↓e_build, setPart_agg, ofVal, ↓thenA, Heap.upd_get, Heap.upd_upd, Nat.pos_of_neZero, good_int, good_agg, AV.cells_int, AV.cells_agg, reduceIte, Nat.reduceEqDiff, Nat.reduceLeDiff, Nat.reduceAdd, true_and, List.getElem?_cons_zero, List.length_cons, List.length_nil, List.set_cons_zero, Nat.zero_add, Nat.add_zero, List.drop_zero, List.take_zero, List.drop_succ_cons, List.drop_nil, List.cons_append, List.nil_append, List.append_nil, decide_true, Nat.lt_add_one, ↓reduceIte, Nat.le_refl, T_2, T_55, T_61, buildP_cons, buildP_nil, List.all_cons, List.all_nil, Bool.and_true]
    refine hK1 _ _ _ ?_
    clear hK1 K1
    refine WP.ret ?_
    simp only [↓thenA]
    refine ret_cell (sz := 2) (id := n + 1) (v := .agg [.int .i64 3, .nils]) rfl (by simp []) rfl rfl ?_
    have hmF : imagesR d p = ⟨3, []⟩ := by unfold imagesR; rw [if_neg (by simp [hf]), if_pos (by simpa using hc)]
    rw [hmF] at hk
    exact ret_own_atom hlt (fun id hid => by rw [Heap.upd_ne _ _ (by omega), Heap.upd_ne _ _ (by omega)]) (by omega) (parts_nil ⟨by decide, by decide⟩) parts_atom.1 parts_atom.2 hk
  have hw : within p 0 ((d.pages.length : Int) - 1) = true := by simpa using hc
  have hpp : 0 ≤ p ∧ p < d.pages.length := by unfold within at hw; simp at hw; omega
  refine WP.skip (hK3 _ _ _ ?_)
  clear hK3 K3 hc
  have hmF : imagesR d p = ⟨0, imagesF d p⟩ := by unfold imagesR; rw [if_neg (by simp [hf]), if_neg (by simp [hw])]
  rw [hmF] at hk
  refine WP.seq_k fun K1 hK1 => WP.region hT rfl ?_
  simp only [↓opsA_cons, isCallV, List.getElem?_cons_succ, ↓stepA, ↓callA, List.map_cons, List.map_nil, ev, Env.get_put_some, Env.get_envOf, ↓e_move, ↓thenA, reduceIte, Nat.reduceEqDiff, List.getElem?_cons_zero, List.getElem?_cons_succ, Option.getD_some, List.append_nil, ↓reduceIte]
  refine c69o (d := d) (xp := xp) (xl := xl) (by simp [Heap.upd_get]) (by omega) hp hl hok hpp fun r h2 n2 o2 => ?_
  have l2 := o2.le
  have b2 : h2 (n + 1) = some [.agg [.int .i64 0, .nils]] := by rw [o2.below (n + 1) (by omega)]; simp []
  obtain ⟨r', I, ht, hU, hI⟩ := o2.frz0
  have hrc := ht.slOne hU
  have hrg := ht.slGood hU
  unfold opsW
  simp only [↓opsA_nil, ↓opsA_cons, isCallV, List.getElem?_cons_succ, ↓stepA, ↓callA, ev, Env.get_put_some, Env.put_none, ↓e_store, ↓e_build, setPart_agg, Nat.pos_of_neZero, good_agg, AV.cells_agg, reduceIte, Nat.reduceEqDiff, Nat.reduceAdd, true_and, List.getElem?_cons_zero, List.getElem?_cons_succ, List.length_cons, List.length_nil, List.set_cons_zero, Nat.zero_add, Nat.add_zero, List.take_succ_cons, List.take_zero, List.drop_succ_cons, List.drop_nil, List.cons_append, List.nil_append, List.append_nil, decide_true, Nat.lt_add_one, ↓reduceIte, Nat.le_refl, T_2, T_55, T_61, b2, buildP_cons, buildP_nil, List.all_cons, List.all_nil, Bool.and_true, hrc, hrg]
  refine hK1 _ _ _ ?_
  refine WP.ret ?_
  refine ret_cell (sz := 2) (id := n + 1) rfl (Heap.upd_same _ _ _) rfl rfl ?_
  exact parts_done (m := n + 2) hlt (by omega) ⟨r', I, ht, hU, hI⟩ (fun id hid => Heap.upd_ne _ _ (by omega)) (fun id hid => by rw [Heap.upd_ne _ _ (by omega), o2.below id (by omega), Heap.upd_ne _ _ (by omega), Heap.upd_ne _ _ (by omega)]) (by omega) hk

theorem c38o {x : AV} {d : DiskD} {p : Int} (hx : DiskR x d) (hk : ∀ r h' n', OwnRes PartsResultR h n r (imagesR d p) h' n' → K r h' n') : CA Try.prog 38 [x, .int .i64 p] h n K := by
  obtain ⟨xp, xl, rfl, hp, hl⟩ := id hx
  refine CA.conv (CA.enter (N := 24) (rs := [.cell 4 61]) hT Try.call38 Try.func38 rfl rfl (by simp) rfl fun hlt => ?_)
  refine WP.seq_k fun K1 hK1 => WP.region hT rfl ?_
  simp only [↓opsA, ↓stepA, ↓callA, ev, Env.get_envOf, ↓e_alloc, ↓e_box, ↓thenA, Nat.pos_of_neZero, good_agg, AV.cells_agg, Nat.reduceAdd, Nat.add_assoc, true_and, List.getElem?_cons_zero, Option.getD_some, List.length_cons, List.length_nil, Nat.zero_add, T_65, T_61]
  refine hK1 _ _ _ ?_
  clear hK1 K1
  refine WP.seq_k fun K1 hK1 => WP.region hT rfl ?_
  simp only [↓opsA, ↓stepA, ↓callA, List.map_cons, List.map_nil, ev, Env.get_put_some, ↓e_assign, ↓e_load, rdSl_sl, ↓thenA, Heap.upd_get, Nat.pos_of_neZero, AV.cells_agg, reduceIte, Nat.reduceEqDiff, Nat.reduceAdd, true_and, List.getElem?_cons_zero, List.length_cons, List.length_nil, Nat.zero_add, List.drop_zero, List.take_succ_cons, List.take_zero, List.append_nil, Nat.left_eq_add, decide_true, Nat.one_ne_zero, ↓reduceIte, Nat.le_refl, T_65, pt_65, cellOk]
  refine c72 hx (hK1 _ _ _ ?_)
  clear hK1 K1
  refine WP.seq_k fun K1 hK1 => ?_
  have key : ∀ (E' : Env), E'.get 1 = .int .i64 p → E'.get 2 = .ep 2 (.sl 2 n 0 1 1 true) 0 0 → E'.get 4 = .ep 2 (.sl 2 (n + 1) 0 1 1 true) 0 0 → E'.get 5 = .int .i64 (imagesR d p).code → K1 E' ((h.upd n [.agg [xp, xl]]).upd (n + 1) [.agg [.int .i64 0, .nils]]) (n + 2) := by
    intro E e1 e2 e4 e5
    refine hK1 _ _ _ ?_
    clear hK1 K1
    refine WP.seq_k fun K3 hK3 => ?_
    refine WP.seq_k fun K1 hK1 => WP.region hT rfl ?_
    simp only [↓opsA, ↓stepA, ↓callA, ev, Env.get_put_some, ↓e_move, ↓e_binOp, b_neq, ofVal, ↓thenA, reduceIte, ↓reduceIte, e5]
    refine hK1 _ _ _ ?_
    clear hK1 K1
    refine WP.cond (by simp only [ev, Env.get_put_some, ↓reduceIte]; rfl) (fun hc => ?_) (fun hc => ?_)
    · refine WP.seq_k fun K1 hK1 => WP.region hT rfl ?_
      simp only [↓opsA, ↓stepA, ↓callA, ev, Env.get_put_some, Env.put_none, ↓e_move, ↓e_store, ↓e_build, setPart_agg, ↓thenA, Heap.upd_get, Heap.upd_upd, Nat.pos_of_neZero, good_int, good_agg, AV.cells_int, AV.cells_agg, reduceIte, Nat.reduceEqDiff, Nat.reduceLeDiff, Nat.reduceAdd, true_and, List.getElem?_cons_zero, List.length_cons, List.length_nil, List.set_cons_zero, Nat.zero_add, Nat.add_zero, List.drop_zero, List.take_zero, List.drop_succ_cons, List.drop_nil, List.cons_append, List.nil_append, List.append_nil, decide_true, Nat.lt_add_one, ↓reduceIte, Nat.le_refl, T_2, T_55, T_61, e4, e5, buildP_cons, buildP_nil, List.all_cons, List.all_nil, Bool.and_true]
      refine hK1 _ _ _ ?_
      clear hK1 K1
      refine WP.ret ?_
      simp only [↓thenA]
      refine ret_cell (sz := 2) (id := n + 1) (v := .agg [.int .i64 (imagesR d p).code, .nils]) e4 (by simp []) rfl rfl ?_
      have hne : (imagesR d p).code ≠ 0 := of_decide_eq_true hc
      have hmF : imagesR d p = ⟨(imagesR d p).code, []⟩ := by
        unfold imagesR at hne ⊢
        split
        · rfl
        · split
          · rfl
          · rename_i q1 q2; rw [if_neg q1, if_neg q2] at hne; exact absurd rfl hne
      have hci : I64 (imagesR d p).code := by
        unfold imagesR
        split
        · exact diskFault_i64 d
        · split
          · exact (show I64 3 from ⟨by decide, by decide⟩)
          · exact (show I64 0 from ⟨by decide, by decide⟩)
      rw [hmF] at hk
      exact ret_own_atom hlt (fun id hid => by rw [Heap.upd_ne _ _ (by omega), Heap.upd_ne _ _ (by omega)]) (by omega) (parts_nil hci) parts_atom.1 parts_atom.2 hk
    have h0 : (imagesR d p).code = 0 := by have := of_decide_eq_false hc; simpa using this
    have hf : diskFault d = 0 := by
      by_cases hq : diskFault d = 0
      · exact hq
      · unfold imagesR at h0; rw [if_pos hq] at h0; exact h0
    have hok := DiskOk.of hf
    have hw : within p 0 ((d.pages.length : Int) - 1) = true := by
      cases hq : within p 0 ((d.pages.length : Int) - 1) with
      | true => rfl
      | false => unfold imagesR at h0; rw [if_neg (by simp [hf]), if_pos hq] at h0; cases h0
    have hpp : 0 ≤ p ∧ p < d.pages.length := by unfold within at hw; simp at hw; omega
    refine WP.skip (hK3 _ _ _ ?_)
    clear hK3 K3 hc
    have hmF : imagesR d p = ⟨0, imagesF d p⟩ := by unfold imagesR; rw [if_neg (by simp [hf]), if_neg (by simp [hw])]
    rw [hmF] at hk
    refine WP.seq_k fun K1 hK1 => WP.region hT rfl ?_
    simp only [↓opsA_cons, isCallV, ↓stepA, ↓callA, List.map_cons, List.map_nil, ev, Env.get_put_some, ↓e_move, ↓e_load, rdSl_sl, ↓thenA, Heap.upd_get, Nat.pos_of_neZero, AV.cells_agg, reduceIte, Nat.reduceEqDiff, Nat.reduceAdd, true_and, List.getElem?_cons_zero, List.length_cons, List.length_nil, Nat.zero_add, List.drop_zero, List.take_succ_cons, List.take_zero, List.append_nil, Nat.left_eq_add, decide_true, Nat.one_ne_zero, ↓reduceIte, Nat.le_refl, T_65, e1, e2, pt_65, cellOk]
    refine c74o hp hl hok hpp fun r h2 n2 o2 => ?_
    have l2 := o2.le
    have b2 : h2 (n + 1) = some [.agg [.int .i64 0, .nils]] := by rw [o2.below (n + 1) (by omega)]; simp []
    obtain ⟨r', I, ht, hU, hI⟩ := o2.frz0
    have hrc := ht.slOne hU
    have hrg := ht.slGood hU
    unfold opsW
    simp only [↓opsA_nil, ↓opsA_cons, isCallV, List.getElem?_cons_succ, ↓stepA, ↓callA, ev, Env.get_put_some, Env.put_none, ↓e_store, ↓e_build, setPart_agg, Nat.pos_of_neZero, good_agg, AV.cells_agg, reduceIte, Nat.reduceEqDiff, Nat.reduceAdd, true_and, List.getElem?_cons_zero, List.getElem?_cons_succ, List.length_cons, List.length_nil, List.set_cons_zero, Nat.zero_add, Nat.add_zero, List.take_succ_cons, List.take_zero, List.drop_succ_cons, List.drop_nil, List.cons_append, List.nil_append, List.append_nil, decide_true, Nat.lt_add_one, ↓reduceIte, Nat.le_refl, T_2, T_55, T_61, e4, b2, buildP_cons, buildP_nil, List.all_cons, List.all_nil, Bool.and_true, hrc, hrg]
    refine hK1 _ _ _ ?_
    refine WP.ret ?_
    refine ret_cell (sz := 2) (id := n + 1) e4 (Heap.upd_same _ _ _) rfl rfl ?_
    exact parts_done (m := n + 2) hlt (by omega) ⟨r', I, ht, hU, hI⟩ (fun id hid => Heap.upd_ne _ _ (by omega)) (fun id hid => by rw [Heap.upd_ne _ _ (by omega), o2.below id (by omega), Heap.upd_ne _ _ (by omega), Heap.upd_ne _ _ (by omega)]) (by omega) hk
  by_cases hf : diskFault d = 0
  · have hok := DiskOk.of hf
    refine WP.seq_k fun K2 hK2 => WP.region hT rfl ?_
    simp only [↓opsA_cons, isCallV, yieldA, List.getElem?_cons_succ, ↓stepA, ↓callA, List.map_cons, List.map_nil, ev, Env.get_put_some, Env.get_envOf, ↓e_move, ↓e_binOp, ↓e_load, b_eql, rdSl_sl, ofVal, ↓thenA, Heap.upd_get, Nat.pos_of_neZero, AV.cells_agg, reduceIte, Nat.reduceEqDiff, Nat.reduceAdd, true_and, List.getElem?_cons_zero, List.getElem?_cons_succ, Option.getD_some, List.length_cons, List.length_nil, Nat.zero_add, List.drop_zero, List.take_succ_cons, List.take_zero, List.append_nil, Nat.left_eq_add, decide_true, Option.bind_some, Nat.one_ne_zero, ↓reduceIte, Nat.le_refl, T_65, hf, pt_65, cellOk]
    refine c73 hx hok.n8 ?_
    unfold opsW
    simp only [↓opsA_nil, ↓opsA_cons, isCallV, yieldA, List.getElem?_cons_succ, ↓stepA, ↓callA, ev, Env.get_put_some, ↓e_unOp, ↓e_pick, u_not, reduceIte, Nat.reduceEqDiff, List.getElem?_cons_zero, List.getElem?_cons_succ, Option.bind_some, ↓reduceIte]
    refine hK2 _ _ _ ?_
    clear hK2 K2
    refine WP.cond (by simp only [ev, Env.get_put_some, ↓reduceIte]; rfl) (fun hc => ?_) (fun hc => ?_)
    · refine WP.region hT rfl ?_
      simp only [↓opsA, ↓stepA, ↓callA, ev, ↓e_assign, ofVal, ↓thenA]
      refine key _ rfl rfl rfl ?_
      have : imagesR d p = ⟨3, []⟩ := by unfold imagesR; rw [if_neg (by simp [hf]), if_pos (by simpa using hc)]
      rw [this]; rfl
    · refine WP.skip ?_
      simp only [↓thenA]
      refine key _ rfl rfl rfl ?_
      have : imagesR d p = ⟨0, imagesF d p⟩ := by unfold imagesR; rw [if_neg (by simp [hf]), if_neg (by simpa using hc)]
      rw [this]; simp [Env.get, Env.put]
  · refine WP.seq_k fun K2 hK2 => WP.region hT rfl ?_
    simp only [↓opsA_cons, isCallV, yieldA, List.getElem?_cons_succ, Option.some.injEq, Bool.false_eq_true, ↓stepA, ↓callA, List.map_cons, List.map_nil, ev, Env.get_put_some, Env.get_envOf, ↓e_move, ↓e_binOp, ↓e_load, b_eql, rdSl_sl, ofVal, ↓thenA, Heap.upd_get, Nat.pos_of_neZero, AV.cells_agg, reduceIte, Nat.reduceEqDiff, Nat.reduceAdd, true_and, List.getElem?_cons_zero, List.getElem?_cons_succ, Option.getD_some, List.length_cons, List.length_nil, Nat.zero_add, List.drop_zero, List.take_succ_cons, List.take_zero, List.append_nil, Nat.left_eq_add, decide_true, Option.bind_some, Nat.one_ne_zero, ↓reduceIte, Nat.le_refl, T_65, decide_eq_false hf, pt_65, cellOk]
    unfold opsW
    simp only [↓opsA_nil, ↓opsA_cons, isCallV, yieldA, List.getElem?_cons_succ, Option.some.injEq, Bool.false_eq_true, ↓stepA, ↓callA, ev, Env.get_put_some, ↓e_pick, ofVal, reduceIte, Nat.reduceEqDiff, List.getElem?_cons_zero, List.getElem?_cons_succ, Option.bind_some, ↓reduceIte]
    refine hK2 _ _ _ ?_
    clear hK2 K2
    refine WP.cond (by simp only [ev, Env.get_put_some, ↓reduceIte]; rfl) (fun hc => ?_) (fun hc => ?_)
    · cases hc
    refine WP.skip ?_
    simp only [↓thenA]
    refine key _ rfl rfl rfl ?_
    have : imagesR d p = ⟨diskFault d, []⟩ := by unfold imagesR; rw [if_pos hf]
    rw [this]; rfl
end
end Go.Proofs.Ytplkjfnjdekgpaa
