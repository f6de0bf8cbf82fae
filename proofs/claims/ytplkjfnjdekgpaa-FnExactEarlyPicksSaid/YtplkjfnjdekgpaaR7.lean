/- Row 4: marks. Own work. -/
import Derived.Test.YtplkjfnjdekgpaaR6
namespace Go.Proofs.Ytplkjfnjdekgpaa
open Go

def HeAct (e : AV) (w : Nat) (k : Int) : Prop := w = 4 ∧ e = .agg [.int .i64 k, .int .i64 (k + 1), .int .i64 (k + 2), .int .i64 (k + 3)]

theorem part_int2 (k : Int) : part T 2 0 (.int .i64 k) = some (.int .i64 k) := rfl

section
variable {h : Heap} {n : Nat} {K : AV → Heap → Nat → Prop}

theorem m27 {x' : AV} {l : List Int} (hx : IntsR x' l) : MarkC Try.prog 27 (HdS 1 HeInt (l.map fun _ => 1)) x' (l.map fun _ => 1).sum :=
  markS_gen (ts := 37) (t := 2) (z := 6) (r := 18) (N := 19) (T := T) (U := Int64R) (w := fun _ => 1) hT Try.call27 Try.func27 rfl rfl (by decide) (by decide) rfl rfl (fun e w k he m => by obtain ⟨_, rfl⟩ := he; exact .int _ _) hx
    (fun e' a _ hU => markInt_body (ts := 37) (t := 2) hT (by decide) rfl rfl rfl hU.1)

theorem h62 {x : AV} {ws : List Nat} {k : Int} (hk0 : 0 ≤ k) (hkw : k + (ws.sum : Nat) ≤ 4611686018427387904) (hlen : ws.length ≤ 9223372036854775806) (hx : HdS 1 HeInt ws x 0 k) : HeldBy Try.prog 62 x ws.sum k :=
  heldS_gen (ts := 37) (t := 2) (z := 7) (r := 20) (N := 21) (T := T) hT Try.call62 Try.func62 rfl rfl (by decide) (by decide) rfl rfl (heldInt_body (ts := 37) (t := 2) hT (by decide) rfl rfl rfl part_int2) hk0 hkw hlen hx

theorem m60 {x' : AV} {l : List ActD} (hx : ActsR x' l) : MarkC Try.prog 60 (HdS 4 HeAct (l.map fun _ => 4)) x' (l.map fun _ => 4).sum := by
  refine markS_gen (ts := 38) (t := 81) (z := 12) (r := 40) (N := 41) (T := T) (U := ActR) (w := fun _ => 4) hT Try.call60 Try.func60 rfl rfl (by decide) (by decide) rfl rfl (fun e w k he m => by obtain ⟨_, rfl⟩ := he; rw [lt_agg]; intro u hu; simp at hu; rcases hu with rfl | rfl | rfl | rfl <;> exact .int _ _) hx (fun e' a _ hU => ?_)
  intro Q E h n id ex b i e J k hte hid hrow hbi hib hbl h0 h1 h5 hk hkw hK
  obtain ⟨rfl, _⟩ := hU
  obtain ⟨rfl, rfl⟩ := hte.plainAgg (by intro u hu; simp at hu; rcases hu with rfl | rfl | rfl | rfl <;> rfl)
  have hl : List.take b.length b = b := by simp
  have hb0 : (0 : Int) ≤ i := by omega
  have hb1 : (i : Int) < b.length := by omega
  have hgs : ∀ e, (b.set i e)[i]? = some e := fun e => List.getElem?_set_self hib
  have hts : ∀ e, List.take b.length (b.set i e) = b.set i e := fun e => List.take_of_length_le (by simp)
  have w1 : IntKind.i64.wrap (k + 1) = k + 1 := wrap_in (by omega) (by omega)
  have w2 : IntKind.i64.wrap (k + 1 + 1) = k + 2 := by rw [wrap_in (by omega) (by omega)]; omega
  have w3 : IntKind.i64.wrap (k + 2 + 1) = k + 3 := by rw [wrap_in (by omega) (by omega)]; omega
  have w4 : IntKind.i64.wrap (k + 3 + 1) = k + 4 := by rw [wrap_in (by omega) (by omega)]; omega
  refine WP.seq_k fun K1 hK1 => WP.region hT rfl ?_
  simp only [↓opsA, ↓stepA, ↓callA, Int.toNat_natCast, ev, Env.get_put_some, Env.put_none, ↓e_move, ↓e_store, ↓e_fieldAddr, ↓e_indexAddr, rdSl_sl, setPart_agg, ↓thenA, Nat.pos_of_neZero, good_int, AV.cells_int, AV.cells_agg, reduceIte, Nat.reduceEqDiff, Nat.reduceLeDiff, Nat.reduceAdd, true_and, List.getElem?_cons_zero, List.length_cons, List.length_nil, Nat.zero_add, Nat.add_zero, List.drop_zero, List.take_zero, List.drop_succ_cons, List.cons_append, List.nil_append, Nat.lt_add_one, ↓reduceIte, Nat.le_refl, T_81, T_2, T_38, h0, h1, h5, hrow, hbi, hl]
  refine ⟨hb0, hb1, hK1 _ _ _ ?_⟩
  clear hK1 K1
  refine WP.seq_k fun K1 hK1 => WP.region hT rfl ?_
  simp only [↓opsA, ↓stepA, ↓callA, ev, Env.get_put_some, ↓e_move, ↓e_assign, ↓e_binOp, b_add, ofVal, ↓thenA, reduceIte, Nat.reduceEqDiff, ↓reduceIte, h1, w1]
  refine hK1 _ _ _ ?_
  clear hK1 K1
  refine WP.seq_k fun K1 hK1 => WP.region hT rfl ?_
  simp only [↓opsA, ↓stepA, ↓callA, Int.toNat_natCast, ev, Env.get_put_some, Env.put_none, ↓e_move, ↓e_store, ↓e_fieldAddr, ↓e_indexAddr, rdSl_sl, setPart_agg, ↓thenA, Heap.upd_get, Heap.upd_upd, Nat.pos_of_neZero, good_int, AV.cells_int, AV.cells_agg, reduceIte, Nat.reduceEqDiff, Nat.reduceLeDiff, Nat.reduceAdd, true_and, List.getElem?_cons_zero, List.getElem?_cons_succ, List.length_cons, List.length_nil, Nat.zero_add, List.drop_zero, List.take_succ_cons, List.take_zero, List.drop_succ_cons, List.cons_append, List.nil_append, Nat.one_ne_zero, Nat.lt_add_one, ↓reduceIte, Nat.le_refl, T_81, T_2, T_38, h0, h5, hgs, hts, List.length_set, List.set_set]
  refine ⟨hb0, hb1, hK1 _ _ _ ?_⟩
  clear hK1 K1
  refine WP.seq_k fun K1 hK1 => WP.region hT rfl ?_
  simp only [↓opsA, ↓stepA, ↓callA, ev, Env.get_put_some, ↓e_move, ↓e_assign, ↓e_binOp, b_add, ofVal, ↓thenA, reduceIte, Nat.reduceEqDiff, ↓reduceIte, w2]
  refine hK1 _ _ _ ?_
  clear hK1 K1
  refine WP.seq_k fun K1 hK1 => WP.region hT rfl ?_
  simp only [↓opsA, ↓stepA, ↓callA, Int.toNat_natCast, ev, Env.get_put_some, Env.put_none, ↓e_move, ↓e_store, ↓e_fieldAddr, ↓e_indexAddr, rdSl_sl, setPart_agg, ↓thenA, Heap.upd_get, Heap.upd_upd, Nat.pos_of_neZero, good_int, AV.cells_int, AV.cells_agg, reduceIte, Nat.reduceEqDiff, Nat.reduceLeDiff, Nat.reduceAdd, true_and, List.getElem?_cons_zero, List.getElem?_cons_succ, List.length_cons, List.length_nil, Nat.zero_add, List.drop_zero, List.take_succ_cons, List.take_zero, List.drop_succ_cons, List.cons_append, List.nil_append, Nat.one_ne_zero, Nat.lt_add_one, ↓reduceIte, Nat.le_refl, T_81, T_2, T_38, h0, h5, hgs, hts, List.length_set, List.set_set]
  refine ⟨hb0, hb1, hK1 _ _ _ ?_⟩
  clear hK1 K1
  refine WP.seq_k fun K1 hK1 => WP.region hT rfl ?_
  simp only [↓opsA, ↓stepA, ↓callA, ev, Env.get_put_some, ↓e_move, ↓e_assign, ↓e_binOp, b_add, ofVal, ↓thenA, reduceIte, Nat.reduceEqDiff, ↓reduceIte, w3]
  refine hK1 _ _ _ ?_
  clear hK1 K1
  refine WP.seq_k fun K1 hK1 => WP.region hT rfl ?_
  simp only [↓opsA, ↓stepA, ↓callA, Int.toNat_natCast, ev, Env.get_put_some, Env.put_none, ↓e_move, ↓e_store, ↓e_fieldAddr, ↓e_indexAddr, rdSl_sl, setPart_agg, ↓thenA, Heap.upd_get, Heap.upd_upd, Nat.pos_of_neZero, good_int, AV.cells_int, AV.cells_agg, reduceIte, Nat.reduceEqDiff, Nat.reduceAdd, true_and, List.getElem?_cons_zero, List.getElem?_cons_succ, List.length_cons, List.length_nil, Nat.zero_add, List.drop_zero, List.take_succ_cons, List.take_zero, List.drop_succ_cons, List.drop_nil, List.cons_append, List.nil_append, List.append_nil, Nat.one_ne_zero, Nat.lt_add_one, ↓reduceIte, Nat.le_refl, T_81, T_2, T_38, h0, h5, hgs, hts, List.length_set, List.set_set]
  refine ⟨hb0, hb1, hK1 _ _ _ ?_⟩
  clear hK1 K1
  refine WP.region hT rfl ?_
  simp only [↓opsA, ↓stepA, ↓callA, ev, Env.get_put_some, ↓e_move, ↓e_assign, ↓e_binOp, b_add, ofVal, reduceIte, Nat.reduceEqDiff, ↓reduceIte, w4]
  refine hK _ _ _ _ _ (Nat.le_refl _) (Tree.ofPlain (by intro u hu; simp at hu; rcases hu with rfl | rfl | rfl | rfl <;> rfl)) ⟨rfl, rfl⟩ (Heap.upd_same _ _ _) (fun j hj _ => Heap.upd_ne _ _ hj) ?_ rfl ?_
  · simp [Env.get, Env.put]
  · simpa [Env.get, Env.put] using h5

theorem h61 {x : AV} {ws : List Nat} {k : Int} (hk0 : 0 ≤ k) (hkw : k + (ws.sum : Nat) ≤ 4611686018427387904) (hlen : ws.length ≤ 9223372036854775806) (hx : HdS 4 HeAct ws x 0 k) : HeldBy Try.prog 61 x ws.sum k := by
  refine heldS_gen (ts := 38) (t := 81) (z := 16) (r := 48) (N := 49) (T := T) hT Try.call61 Try.func61 rfl rfl (by decide) (by decide) rfl rfl ?_ hk0 hkw hlen hx
  intro Q E h n x es i e w k hrd hi hel he h0 h1 h5 hk hkw hK
  obtain ⟨rfl, rfl⟩ := he
  have hil : i < es.length := (List.getElem?_eq_some_iff.1 hi).1
  have hrd' : ∀ h, rdSl h 4 x = some es := hrd
  have hb0 : (0 : Int) ≤ i := by omega
  have hb1 : (i : Int) < es.length := by omega
  have w1 : IntKind.i64.wrap (k + 1) = k + 1 := wrap_in (by omega) (by omega)
  have w2 : IntKind.i64.wrap (k + 1 + 1) = k + 2 := by rw [wrap_in (by omega) (by omega)]; omega
  have w3 : IntKind.i64.wrap (k + 2 + 1) = k + 3 := by rw [wrap_in (by omega) (by omega)]; omega
  have w4 : IntKind.i64.wrap (k + 3 + 1) = k + 4 := by rw [wrap_in (by omega) (by omega)]; omega
  refine WP.seq_k fun K3 hK3 => ?_
  refine WP.seq_k fun K1 hK1 => WP.region hT rfl ?_
  simp only [↓opsA, ↓stepA, ↓callA, Int.toNat_natCast, ev, Env.get_put_some, ↓e_move, ↓e_binOp, ↓e_load, ↓e_fieldAddr, ↓e_indexAddr, b_neq, ↓thenA, Nat.pos_of_neZero, AV.cells_agg, reduceIte, Nat.reduceEqDiff, true_and, List.getElem?_cons_zero, Nat.add_zero, Nat.lt_add_one, ↓reduceIte, T_81, T_2, T_38, h0, h1, h5, hrd', hi, pt_2, cellOk]
  refine ⟨hb0, hb1, hK1 _ _ _ ?_⟩
  clear hK1 K1
  refine WP.cond (by simp only [ev, Env.get_put_some, ↓reduceIte]; rfl) (fun hc => ?_) (fun hc => ?_)
  · simp at hc
  refine WP.skip (hK3 _ _ _ ?_)
  clear hK3 K3
  refine WP.seq_k fun K1 hK1 => WP.region hT rfl ?_
  simp only [↓opsA, ↓stepA, ↓callA, ev, Env.get_put_some, ↓e_move, ↓e_assign, ↓e_binOp, b_add, ofVal, ↓thenA, reduceIte, Nat.reduceEqDiff, ↓reduceIte, h1, w1]
  refine hK1 _ _ _ ?_
  clear hK1 K1
  refine WP.seq_k fun K3 hK3 => ?_
  refine WP.seq_k fun K1 hK1 => WP.region hT rfl ?_
  simp only [↓opsA, ↓stepA, ↓callA, Int.toNat_natCast, ev, Env.get_put_some, ↓e_move, ↓e_binOp, ↓e_load, ↓e_fieldAddr, ↓e_indexAddr, b_neq, ↓thenA, Nat.pos_of_neZero, AV.cells_agg, reduceIte, Nat.reduceEqDiff, true_and, List.getElem?_cons_zero, List.getElem?_cons_succ, Nat.zero_add, Nat.one_ne_zero, Nat.lt_add_one, ↓reduceIte, T_81, T_2, T_38, h0, h5, hrd', hi, pt_2, cellOk]
  refine ⟨hb0, hb1, hK1 _ _ _ ?_⟩
  clear hK1 K1
  refine WP.cond (by simp only [ev, Env.get_put_some, ↓reduceIte]; rfl) (fun hc => ?_) (fun hc => ?_)
  · simp at hc
  refine WP.skip (hK3 _ _ _ ?_)
  clear hK3 K3
  refine WP.seq_k fun K1 hK1 => WP.region hT rfl ?_
  simp only [↓opsA, ↓stepA, ↓callA, ev, Env.get_put_some, ↓e_move, ↓e_assign, ↓e_binOp, b_add, ofVal, ↓thenA, reduceIte, Nat.reduceEqDiff, ↓reduceIte, w2]
  refine hK1 _ _ _ ?_
  clear hK1 K1
  refine WP.seq_k fun K3 hK3 => ?_
  refine WP.seq_k fun K1 hK1 => WP.region hT rfl ?_
  simp only [↓opsA, ↓stepA, ↓callA, Int.toNat_natCast, ev, Env.get_put_some, ↓e_move, ↓e_binOp, ↓e_load, ↓e_fieldAddr, ↓e_indexAddr, b_neq, ↓thenA, Nat.pos_of_neZero, AV.cells_agg, reduceIte, Nat.reduceEqDiff, true_and, List.getElem?_cons_zero, List.getElem?_cons_succ, Nat.zero_add, Nat.one_ne_zero, Nat.lt_add_one, ↓reduceIte, T_81, T_2, T_38, h0, h5, hrd', hi, pt_2, cellOk]
  refine ⟨hb0, hb1, hK1 _ _ _ ?_⟩
  clear hK1 K1
  refine WP.cond (by simp only [ev, Env.get_put_some, ↓reduceIte]; rfl) (fun hc => ?_) (fun hc => ?_)
  · simp at hc
  refine WP.skip (hK3 _ _ _ ?_)
  clear hK3 K3
  refine WP.seq_k fun K1 hK1 => WP.region hT rfl ?_
  simp only [↓opsA, ↓stepA, ↓callA, ev, Env.get_put_some, ↓e_move, ↓e_assign, ↓e_binOp, b_add, ofVal, ↓thenA, reduceIte, Nat.reduceEqDiff, ↓reduceIte, w3]
  refine hK1 _ _ _ ?_
  clear hK1 K1
  refine WP.seq_k fun K3 hK3 => ?_
  refine WP.seq_k fun K1 hK1 => WP.region hT rfl ?_
  simp only [↓opsA, ↓stepA, ↓callA, Int.toNat_natCast, ev, Env.get_put_some, ↓e_move, ↓e_binOp, ↓e_load, ↓e_fieldAddr, ↓e_indexAddr, b_neq, ↓thenA, Nat.pos_of_neZero, AV.cells_agg, reduceIte, Nat.reduceEqDiff, true_and, List.getElem?_cons_zero, List.getElem?_cons_succ, Nat.zero_add, Nat.one_ne_zero, Nat.lt_add_one, ↓reduceIte, T_81, T_2, T_38, h0, h5, hrd', hi, pt_2, cellOk]
  refine ⟨hb0, hb1, hK1 _ _ _ ?_⟩
  clear hK1 K1
  refine WP.cond (by simp only [ev, Env.get_put_some, ↓reduceIte]; rfl) (fun hc => ?_) (fun hc => ?_)
  · simp at hc
  refine WP.skip (hK3 _ _ _ ?_)
  clear hK3 K3
  refine WP.region hT rfl ?_
  simp only [↓opsA, ↓stepA, ↓callA, ev, Env.get_put_some, ↓e_move, ↓e_assign, ↓e_binOp, b_add, ofVal, reduceIte, Nat.reduceEqDiff, ↓reduceIte, w4]
  refine hK _ ?_ rfl ?_
  · simpa [Env.get, Env.put] using h0
  · simpa [Env.get, Env.put] using h5

theorem m26 {x' : AV} {l : List (List ActD)} (hx : ActSSR x' l) : MarkC Try.prog 26 (HdS 1 (fun e _ _ => ∀ m, e.Lt m) (l.map fun s => (s.map fun _ => 4).sum)) x' (l.map fun s => (s.map fun _ => 4).sum).sum := by
  refine markS_gen (ts := 31) (t := 38) (z := 5) (r := 18) (N := 19) (T := T) (U := ActsR) (w := fun s => (s.map fun _ => 4).sum) hT Try.call26 Try.func26 rfl rfl (by decide) (by decide) rfl rfl (fun e w k he m => he m) hx (fun e' a _ hU => ?_)
  refine markCall_body (ts := 31) (t := 38) (g := 60) hT (by decide) rfl rfl rfl (fun h e J ht => ?_) ?_
  · rw [pt_38, ht.slOne hU]; rfl
  · exact (m60 hU).mono fun e w k he => by obtain ⟨_, _, _, h, _⟩ := he; exact h
end

def HeMerge (x : AV) (w : Nat) (k : Int) : Prop := ∃ c A B wa wb, x = .agg [c, A, B] ∧ c.plain = true ∧ HdS 4 HeAct wa A 0 k ∧ HdS 1 HeInt wb B 0 (k + (wa.sum : Nat)) ∧ w = wa.sum + wb.sum ∧ wa.length ≤ 9223372036854775806 ∧ wb.length ≤ 9223372036854775806

section
variable {h : Heap} {n : Nat} {K : AV → Heap → Nat → Prop}

theorem m28 {x' : AV} {b : MResD} (hx : MResR x' b) : MarkC Try.prog 28 HeMerge x' ((b.acts.map fun _ => 4).sum + (b.who.map fun _ => 1).sum) := by
  obtain ⟨A', B', rfl, hA, hB⟩ := hx
  intro h n K x I k ht hk hkw hK
  obtain ⟨cs, rfl, hl⟩ := ht.aggE
  cases hl with
  | cons u _ _ _ I0 J0 hu hl hd0 =>
  obtain ⟨rfl, rfl⟩ := hu.int
  cases hl with
  | cons A _ _ _ IA J1 hAt hl hdA =>
  cases hl with
  | cons B _ _ _ IB J2 hBt hl hdB =>
  cases hl with
  | nil =>
  simp only [List.append_nil, List.nil_append] at *
  refine CA.conv (CA.enter (N := 14) (rs := [.tmp 4]) hT Try.call28 Try.func28 rfl rfl (by simp) rfl fun hlt => ?_)
  have hAl : ∀ i, i ∈ IA → i < n := fun i hi => by obtain ⟨b, hb⟩ := hAt.some i hi; exact hlt i b hb
  have hBl : ∀ i, i ∈ IB → i < n := fun i hi => by obtain ⟨b, hb⟩ := hBt.some i hi; exact hlt i b hb
  have cA := hAt.slOne hA
  have cB := hBt.slOne hB
  have nA : n ∉ IA := fun hm => by have := hAl n hm; omega
  have nB : n ∉ IB := fun hm => by have := hBl n hm; omega
  refine WP.seq_k fun K1 hK1 => WP.region hT rfl ?_
  simp only [↓opsA, ↓stepA, ↓callA, ev, Env.get_envOf, ↓e_assign, ↓e_box, ofVal, ↓thenA, Nat.pos_of_neZero, good_agg, AV.cells_agg, Nat.reduceAdd, true_and, List.getElem?_cons_zero, Option.getD_some, List.length_cons, List.length_nil, Nat.zero_add, T_40]
  refine hK1 _ _ _ ?_
  clear hK1 K1
  refine WP.seq_k fun K1 hK1 => WP.region hT rfl ?_
  simp only [↓opsA, ↓stepA, ↓callA, List.map_cons, List.map_nil, ev, Env.get_put_some, Env.get_envOf, ↓e_move, ↓e_assign, ↓e_load, ↓e_fieldAddr, rdSl_sl, ↓thenA, Heap.upd_get, AV.cells_agg, reduceIte, Nat.reduceEqDiff, true_and, List.getElem?_cons_zero, List.getElem?_cons_succ, Option.getD_some, List.length_cons, List.length_nil, Nat.zero_add, List.drop_zero, List.take_succ_cons, List.take_zero, List.append_nil, Nat.lt_add_one, ↓reduceIte, Nat.le_refl, T_38, T_40, pt_38, cellOk]
  refine m60 hA _ _ _ A IA k (hAt.keep fun i hi => Heap.upd_ne _ _ (by have := hAl i hi; omega)) hk (by omega) fun A'' h2 n2 hn2 tA2 fr2 hHA => ?_
  have hbox2 : h2 n = some [.agg [.int .i64 b.code, A, B]] := by rw [fr2 n nA, Heap.upd_same]
  refine hK1 _ _ _ ?_
  clear hK1 K1
  refine WP.seq_k fun K1 hK1 => WP.region hT rfl ?_
  simp only [↓opsA, ↓stepA, ↓callA, List.map_cons, List.map_nil, ev, Env.get_put_some, ↓e_move, ↓e_assign, ↓e_load, ↓e_fieldAddr, rdSl_sl, ↓thenA, AV.cells_agg, reduceIte, Nat.reduceEqDiff, true_and, List.getElem?_cons_zero, List.getElem?_cons_succ, List.length_cons, List.length_nil, Nat.zero_add, List.drop_zero, List.take_succ_cons, List.take_zero, List.append_nil, Nat.lt_add_one, ↓reduceIte, Nat.le_refl, T_37, T_40, pt_37, cellOk, hbox2]
  refine m27 hB _ _ _ B IB _ (hBt.keep fun i hi => ?_) (by omega) (by omega) fun B'' h3 n3 hn3 tB3 fr3 hHB => ?_
  · rw [fr2 i (fun hm => hdA i hm hi), Heap.upd_ne _ _ (by have := hBl i hi; omega)]
  refine hK1 _ _ _ ?_
  clear hK1 K1
  refine WP.seq_k fun K1 hK1 => WP.region hT rfl ?_
  simp only [↓opsA, ↓stepA, ↓callA, ev, Env.get_put_some, ↓e_move, ↓e_assign, ↓thenA, reduceIte, ↓reduceIte]
  refine hK1 _ _ _ ?_
  clear hK1 K1
  refine WP.ret ?_
  simp only [Env.get_put_some, reduceIte, Option.map_some, ↓reduceIte, retA, resA]
  obtain ⟨ea, ra, oa, la, da⟩ := hHA
  obtain ⟨eb, rb, ob, lb, db⟩ := hHB
  let g : Heap := fun id => if id = n then none else h3 id
  have g0 : ∀ id, id ≠ n → g id = h3 id := fun id hid => by simp only [g]; rw [if_neg hid]
  refine ⟨_, rfl, _, g, n3, .keep _ _ _ _ (fun id x hx => ?_), ?_⟩
  · simp only [g] at hx
    split at hx
    · cases hx
    · exact hx
  have hfin := hK (.agg [.int .i64 b.code, A'', B'']) g n3 (by omega) (.agg _ _ _ ?_) (fun id hid => ?_) ⟨_, A'', B'', _, _, rfl, rfl, ⟨ea, ra, oa, la, da⟩, ⟨eb, rb, ob, lb, db⟩, rfl, ?_, ?_⟩
  · simp only [resV]
    have he : k + ((List.map (fun x => 4) b.acts).sum : Nat) + ((List.map (fun x => 1) b.who).sum : Nat) = k + (((List.map (fun x => 4) b.acts).sum + (List.map (fun x => 1) b.who).sum : Nat) : Int) := by omega
    rw [he]
    exact hfin
  · have t1 := TreeL.one (tB3.keep (g := g) fun i hi => g0 i (by have := hBl i hi; omega))
    have tA3 : Tree g A A'' IA := tA2.keep fun i hi => by rw [g0 i (by have := hAl i hi; omega), fr3 i (fun hm => hdA i hi hm)]
    have t2 := TreeL.cons A A'' [B] [B''] IA IB tA3 t1 hdA
    exact TreeL.cons (.int .i64 b.code) (.int .i64 b.code) _ _ [] _ (Tree.ofPlain1 rfl) t2 (fun i hi => by cases hi)
  · have hA1 : id ∉ IA := fun hm => hid (List.mem_append_left _ hm)
    have hB1 : id ∉ IB := fun hm => hid (List.mem_append_right _ hm)
    by_cases hn : id = n
    · subst hn
      simp only [g, if_true]
      exact (Heap.below.none hlt (Nat.le_refl _)).symm
    · rw [g0 id hn, fr3 id hB1, fr2 id hA1, Heap.upd_ne _ _ hn]
  · obtain ⟨_, _, hal, hml, _, _⟩ := hA
    have := all2_length hal
    simp only [List.length_map]
    have : b.acts.length ≤ (b.acts.map fun _ => 4).sum := by
      induction b.acts with
      | nil => simp
      | cons a l ih => simp only [List.map_cons, List.sum_cons, List.length_cons]; omega
    omega
  · have : b.who.length ≤ (b.who.map fun _ => 1).sum := by
      induction b.who with
      | nil => simp
      | cons a l ih => simp only [List.map_cons, List.sum_cons, List.length_cons]; omega
    simp only [List.length_map]
    omega

theorem h29 {x : AV} {w : Nat} {k : Int} (hk0 : 0 ≤ k) (hkw : k + w ≤ 4611686018427387904) (hx : HeMerge x w k) : HeldBy Try.prog 29 x w k := by
  obtain ⟨c, A, B, wa, wb, rfl, hc, hA, hB, rfl, la, lb⟩ := hx
  intro h n K hK
  refine CA.conv (CA.enter (N := 18) (rs := [.tmp 4]) hT Try.call29 Try.func29 rfl rfl (by simp) rfl fun hlt => ?_)
  have cA := one_cells hA.choose_spec.2.1
  have cB := one_cells hB.choose_spec.2.1
  refine WP.seq_k fun K1 hK1 => WP.region hT rfl ?_
  simp only [↓opsA, ↓stepA, ↓callA, ev, Env.get_envOf, ↓e_assign, ↓e_box, ofVal, ↓thenA, Nat.pos_of_neZero, good_agg, AV.cells_agg, Nat.reduceAdd, true_and, List.getElem?_cons_zero, Option.getD_some, List.length_cons, List.length_nil, Nat.zero_add, T_40]
  refine hK1 _ _ _ ?_
  clear hK1 K1
  refine WP.seq_k fun K1 hK1 => WP.region hT rfl ?_
  simp only [↓opsA, ↓stepA, ↓callA, List.map_cons, List.map_nil, ev, Env.get_put_some, Env.get_envOf, ↓e_move, ↓e_assign, ↓e_load, ↓e_fieldAddr, rdSl_sl, ↓thenA, Heap.upd_get, AV.cells_agg, reduceIte, Nat.reduceEqDiff, true_and, List.getElem?_cons_zero, List.getElem?_cons_succ, Option.getD_some, List.length_cons, List.length_nil, Nat.zero_add, List.drop_zero, List.take_succ_cons, List.take_zero, List.append_nil, Nat.lt_add_one, ↓reduceIte, Nat.le_refl, T_38, T_40, pt_38, cellOk]
  refine h61 hk0 (by omega) la hA _ _ _ (hK1 _ _ _ ?_)
  clear hK1 K1
  refine WP.seq_k fun K3 hK3 => ?_
  refine WP.seq_k fun K1 hK1 => WP.region hT rfl ?_
  simp only [↓opsA, ↓stepA, ↓callA, ev, Env.get_put_some, ↓e_move, ↓e_binOp, b_lss, ofVal, ↓thenA, reduceIte, ↓reduceIte]
  refine hK1 _ _ _ ?_
  clear hK1 K1
  refine WP.cond (by simp only [ev, Env.get_put_some, ↓reduceIte]; rfl) (fun hc => ?_) (fun hc => ?_)
  · simp at hc; omega
  refine WP.skip (hK3 _ _ _ ?_)
  clear hK3 K3
  refine WP.seq_k fun K1 hK1 => WP.region hT rfl ?_
  simp only [↓opsA, ↓stepA, ↓callA, List.map_cons, List.map_nil, ev, Env.get_put_some, ↓e_move, ↓e_assign, ↓e_load, ↓e_fieldAddr, rdSl_sl, ↓thenA, Heap.upd_get, AV.cells_agg, reduceIte, Nat.reduceEqDiff, true_and, List.getElem?_cons_zero, List.getElem?_cons_succ, List.length_cons, List.length_nil, Nat.zero_add, List.drop_zero, List.take_succ_cons, List.take_zero, List.append_nil, Nat.lt_add_one, ↓reduceIte, Nat.le_refl, T_37, T_40, pt_37, cellOk]
  refine h62 (by omega) (by omega) lb hB _ _ _ (hK1 _ _ _ ?_)
  clear hK1 K1
  refine WP.seq_k fun K3 hK3 => ?_
  refine WP.seq_k fun K1 hK1 => WP.region hT rfl ?_
  simp only [↓opsA, ↓stepA, ↓callA, ev, Env.get_put_some, ↓e_move, ↓e_binOp, b_lss, ofVal, ↓thenA, reduceIte, ↓reduceIte]
  refine hK1 _ _ _ ?_
  clear hK1 K1
  refine WP.cond (by simp only [ev, Env.get_put_some, ↓reduceIte]; rfl) (fun hc => ?_) (fun hc => ?_)
  · simp at hc; omega
  refine WP.skip (hK3 _ _ _ ?_)
  clear hK3 K3
  refine WP.seq_k fun K1 hK1 => WP.region hT rfl ?_
  simp only [↓opsA, ↓stepA, ↓callA, ev, Env.get_put_some, ↓e_move, ↓e_assign, ↓thenA, reduceIte, Nat.reduceEqDiff, ↓reduceIte]
  refine hK1 _ _ _ ?_
  clear hK1 K1
  refine WP.ret ?_
  simp only [Env.get_put_some, reduceIte, Option.map_some, ↓reduceIte, retA, resA]
  refine ⟨_, rfl, ret_p (Left.upd (Nat.le_refl _) (Left.refl hlt)) (.int _ _) ?_⟩
  have he : k + (wa.sum : Nat) + (wb.sum : Nat) = k + ((wa.sum + wb.sum : Nat) : Int) := by omega
  simp only [resV]
  rw [he]
  exact hK
end
end Go.Proofs.Ytplkjfnjdekgpaa
