/- Row 5: marks, and the law. Own work. -/
import Derived.Test.YtplkjfnjdekgpaaR12
namespace Go.Proofs.Ytplkjfnjdekgpaa
open Go

def HeInts (x : AV) (w : Nat) (k : Int) : Prop := ∃ c B wb, x = .agg [c, B] ∧ HdS 1 HeInt wb B 0 k ∧ w = wb.sum ∧ wb.length ≤ 9223372036854775806

theorem sum_const {α : Type} (c : Nat) (l : List α) : (l.map fun _ => c).sum = c * l.length := by
  induction l with
  | nil => rfl
  | cons a l ih => simp only [List.map_cons, List.sum_cons, List.length_cons, ih]; rw [Nat.mul_add]; omega

theorem sum4 (l : List (List ActD)) : (l.map fun s => (s.map fun _ => 4).sum).sum ≤ 4 * sizL sizAct l := by
  unfold sizL
  have : (l.map fun s => (s.map fun _ => 4).sum).sum = 4 * (l.map sizAct).sum := by
    induction l with
    | nil => rfl
    | cons a l ih =>
      simp only [List.map_cons, List.sum_cons, ih]
      rw [sum_const]
      have := siz_zero a
      unfold sizAct
      rw [this]; omega
  omega

section
variable {h : Heap} {n : Nat} {K : AV → Heap → Nat → Prop}

theorem m33 {x' : AV} {b : IResD} (hx : IResR x' b) : MarkC Try.prog 33 HeInts x' (b.list.map fun _ => 1).sum := by
  obtain ⟨B', rfl, hB⟩ := hx
  intro h n K x I k ht hk hkw hK
  obtain ⟨cs, rfl, hl⟩ := ht.aggE
  cases hl with
  | cons u _ _ _ I0 J0 hu hl hd0 =>
  obtain ⟨rfl, rfl⟩ := hu.int
  cases hl with
  | cons B _ _ _ IB J2 hBt hl hdB =>
  cases hl with
  | nil =>
  simp only [List.append_nil, List.nil_append] at *
  refine CA.conv (CA.enter (N := 10) (rs := [.tmp 4]) hT Try.call33 Try.func33 rfl rfl (by simp) rfl fun hlt => ?_)
  have hBl : ∀ i, i ∈ IB → i < n := fun i hi => by obtain ⟨b, hb⟩ := hBt.some i hi; exact hlt i b hb
  have cB := hBt.slOne hB
  have nB : n ∉ IB := fun hm => by have := hBl n hm; omega
  refine WP.seq_k fun K1 hK1 => WP.region hT rfl ?_
  simp only [↓opsA, ↓stepA, ↓callA, ev, Env.get_envOf, ↓e_assign, ↓e_box, ofVal, ↓thenA, Nat.pos_of_neZero, good_agg, AV.cells_agg, Nat.reduceAdd, true_and, List.getElem?_cons_zero, Option.getD_some, List.length_cons, List.length_nil, Nat.zero_add, T_50]
  refine hK1 _ _ _ ?_
  clear hK1 K1
  refine WP.seq_k fun K1 hK1 => WP.region hT rfl ?_
  simp only [↓opsA, ↓stepA, ↓callA, List.map_cons, List.map_nil, ev, Env.get_put_some, Env.get_envOf, ↓e_move, ↓e_assign, ↓e_load, ↓e_fieldAddr, rdSl_sl, ↓thenA, Heap.upd_get, AV.cells_agg, reduceIte, Nat.reduceEqDiff, true_and, List.getElem?_cons_zero, List.getElem?_cons_succ, Option.getD_some, List.length_cons, List.length_nil, Nat.zero_add, List.drop_zero, List.take_succ_cons, List.take_zero, List.append_nil, Nat.lt_add_one, ↓reduceIte, Nat.le_refl, T_37, T_50, pt_37, cellOk]
  refine m27 hB _ _ _ B IB k (hBt.keep fun i hi => Heap.upd_ne _ _ (by have := hBl i hi; omega)) hk (by omega) fun B'' h3 n3 hn3 tB3 fr3 hHB => ?_
  refine hK1 _ _ _ ?_
  clear hK1 K1
  refine WP.seq_k fun K1 hK1 => WP.region hT rfl ?_
  simp only [↓opsA, ↓stepA, ↓callA, ev, Env.get_put_some, ↓e_move, ↓e_assign, ↓thenA, reduceIte, ↓reduceIte]
  refine hK1 _ _ _ ?_
  clear hK1 K1
  refine WP.ret ?_
  simp only [Env.get_put_some, reduceIte, Option.map_some, ↓reduceIte, retA, resA]
  obtain ⟨eb, rb, ob, lb, db⟩ := hHB
  let g : Heap := fun id => if id = n then none else h3 id
  have g0 : ∀ id, id ≠ n → g id = h3 id := fun id hid => by simp only [g]; rw [if_neg hid]
  refine ⟨_, rfl, _, g, n3, .keep _ _ _ _ (fun id x hx => ?_), ?_⟩
  · simp only [g] at hx
    split at hx
    · cases hx
    · exact hx
  refine hK (.agg [.int .i64 b.code, B'']) g n3 (by omega) (.agg _ _ _ ?_) (fun id hid => ?_) ⟨_, B'', _, rfl, ⟨eb, rb, ob, lb, db⟩, rfl, ?_⟩
  · exact TreeL.cons (.int .i64 b.code) (.int .i64 b.code) _ _ [] _ (Tree.ofPlain1 rfl) (TreeL.one (tB3.keep (g := g) fun i hi => g0 i (by have := hBl i hi; omega))) (fun i hi => by cases hi)
  · by_cases hn : id = n
    · subst hn
      simp only [g, if_true]
      exact (Heap.below.none hlt (Nat.le_refl _)).symm
    · rw [g0 id hn, fr3 id hid, Heap.upd_ne _ _ hn]
  · rw [sum_const] at hkw
    simp only [List.length_map]
    omega

theorem h34 {x : AV} {w : Nat} {k : Int} (hk0 : 0 ≤ k) (hkw : k + w ≤ 4611686018427387904) (hx : HeInts x w k) : HeldBy Try.prog 34 x w k := by
  obtain ⟨c, B, wb, rfl, hB, rfl, lb⟩ := hx
  intro h n K hK
  refine CA.conv (CA.enter (N := 12) (rs := [.tmp 4]) hT Try.call34 Try.func34 rfl rfl (by simp) rfl fun hlt => ?_)
  have cB := one_cells hB.choose_spec.2.1
  refine WP.seq_k fun K1 hK1 => WP.region hT rfl ?_
  simp only [↓opsA, ↓stepA, ↓callA, ev, Env.get_envOf, ↓e_assign, ↓e_box, ofVal, ↓thenA, Nat.pos_of_neZero, good_agg, AV.cells_agg, Nat.reduceAdd, true_and, List.getElem?_cons_zero, Option.getD_some, List.length_cons, List.length_nil, Nat.zero_add, T_50]
  refine hK1 _ _ _ ?_
  clear hK1 K1
  refine WP.seq_k fun K1 hK1 => WP.region hT rfl ?_
  simp only [↓opsA, ↓stepA, ↓callA, List.map_cons, List.map_nil, ev, Env.get_put_some, Env.get_envOf, ↓e_move, ↓e_assign, ↓e_load, ↓e_fieldAddr, rdSl_sl, ↓thenA, Heap.upd_get, AV.cells_agg, reduceIte, Nat.reduceEqDiff, true_and, List.getElem?_cons_zero, List.getElem?_cons_succ, Option.getD_some, List.length_cons, List.length_nil, Nat.zero_add, List.drop_zero, List.take_succ_cons, List.take_zero, List.append_nil, Nat.lt_add_one, ↓reduceIte, Nat.le_refl, T_37, T_50, pt_37, cellOk]
  refine h62 (by omega) (by omega) lb hB _ _ _ (hK1 _ _ _ ?_)
  clear hK1 K1
  refine WP.seq_k fun K3 hK3 => ?_
  refine WP.seq_k fun K1 hK1 => WP.region hT rfl ?_
  simp only [↓opsA, ↓stepA, ↓callA, ev, Env.get_put_some, ↓e_move, ↓e_binOp, b_lss, ofVal, ↓thenA, reduceIte, ↓reduceIte]
  refine hK1 _ _ _ ?_
  clear hK1 K1
  refine WP.cond (by simp only [ev, Env.get_put_some, ↓reduceIte]; rfl) (fun hc => ?_) (fun hc => ?_)
  · simp at hc; omega
  refine WP.skip (hK3 _ _ _ ?_)
  clear hK3 K3
  refine WP.seq_k fun K1 hK1 => WP.region hT rfl ?_
  simp only [↓opsA, ↓stepA, ↓callA, ev, Env.get_put_some, ↓e_move, ↓e_assign, ↓thenA, reduceIte, Nat.reduceEqDiff, ↓reduceIte]
  refine hK1 _ _ _ ?_
  clear hK1 K1
  refine WP.ret ?_
  simp only [Env.get_put_some, reduceIte, Option.map_some, ↓reduceIte, retA, resA]
  exact ⟨_, rfl, ret_p (Left.upd (Nat.le_refl _) (Left.refl hlt)) (.int _ _) hK⟩

theorem c32 {x y : AV} {a b : IResD} (hx : IResR x a) (hy : IResR y b) (hk : K (.bool (decide (a = b))) h n) : CA Try.prog 32 [x, y] h n K := by
  obtain ⟨B, rfl, hB⟩ := hx
  obtain ⟨B2, rfl, hB2⟩ := hy
  refine CA.conv (CA.enter (N := 16) (rs := [.tmp 4]) hT Try.call32 Try.func32 rfl rfl (by simp) rfl fun hlt => ?_)
  have hd : decide (a = b) = (decide (a.code = b.code) && decide (a.list = b.list)) := by
    cases a; cases b; simp [IResD.mk.injEq]
  rw [hd] at hk
  refine WP.seq_k fun K1 hK1 => WP.region hT rfl ?_
  simp only [↓opsA, ↓stepA, ↓callA, ev, Env.get_put_some, Env.get_envOf, ↓e_assign, ↓e_box, ofVal, ↓thenA, Nat.pos_of_neZero, good_agg, AV.cells_agg, reduceIte, Nat.reduceEqDiff, Nat.reduceAdd, Nat.add_assoc, true_and, List.getElem?_cons_zero, List.getElem?_cons_succ, Option.getD_some, List.length_cons, List.length_nil, Nat.zero_add, ↓reduceIte, T_50]
  refine hK1 _ _ _ ?_
  clear hK1 K1
  refine WP.seq_k fun K3 hK3 => ?_
  refine WP.seq_k fun K1 hK1 => WP.region hT rfl ?_
  simp only [↓opsA, ↓stepA, ↓callA, ev, Env.get_put_some, ↓e_binOp, ↓e_load, ↓e_fieldAddr, b_neq, rdSl_sl, ↓thenA, Heap.upd_get, AV.cells_agg, reduceIte, Nat.reduceEqDiff, true_and, List.getElem?_cons_zero, List.length_cons, List.length_nil, Nat.zero_add, Nat.add_zero, List.drop_zero, List.take_succ_cons, List.take_zero, Nat.left_eq_add, Nat.one_ne_zero, Nat.lt_add_one, ↓reduceIte, Nat.le_refl, T_2, T_50, pt_2, cellOk]
  refine hK1 _ _ _ ?_
  clear hK1 K1
  refine WP.cond (by simp only [ev, Env.get_put_some, ↓reduceIte]; rfl) (fun hc => ?_) (fun hc => ?_)
  · refine WP.seq_k fun K1 hK1 => WP.region hT rfl ?_
    simp only [↓opsA, ↓stepA, ↓callA, ev, ↓e_assign, ofVal, ↓thenA]
    refine hK1 _ _ _ ?_
    clear hK1 K1
    refine WP.ret ?_
    simp only [Env.get_put_some, ↓thenA, reduceIte, Option.map_some, ↓reduceIte, retA, resA]
    refine ⟨_, rfl, ret_p (Left.upd (by omega) (Left.upd (Nat.le_refl _) (Left.refl hlt))) (.bool _) ?_⟩
    have : a.code ≠ b.code := by simpa using hc
    simpa [resV, this] using hk
  have hce : a.code = b.code := by simpa using hc
  refine WP.skip (hK3 _ _ _ ?_)
  clear hK3 K3
  refine WP.seq_k fun K3 hK3 => ?_
  refine WP.seq_k fun K1 hK1 => WP.region hT rfl ?_
  simp only [↓opsA, ↓stepA, ↓callA, List.map_cons, List.map_nil, ev, Env.get_put_some, ↓e_unOp, ↓e_load, ↓e_fieldAddr, rdSl_sl, ↓thenA, Heap.upd_get, AV.cells_agg, reduceIte, Nat.reduceEqDiff, true_and, List.getElem?_cons_zero, List.getElem?_cons_succ, List.length_cons, List.length_nil, Nat.zero_add, List.drop_zero, List.take_succ_cons, List.take_zero, List.append_nil, Nat.left_eq_add, Nat.one_ne_zero, Nat.lt_add_one, ↓reduceIte, Nat.le_refl, T_37, T_50, pt_37, cellOk]
  refine c25 hB hB2 ?_
  refine hK1 _ _ _ ?_
  clear hK1 K1
  refine WP.cond (by simp only [ev, Env.get_put_some, ↓reduceIte]; rfl) (fun hc => ?_) (fun hc => ?_)
  · refine WP.seq_k fun K1 hK1 => WP.region hT rfl ?_
    simp only [↓opsA, ↓stepA, ↓callA, ev, ↓e_assign, ofVal, ↓thenA]
    refine hK1 _ _ _ ?_
    clear hK1 K1
    refine WP.ret ?_
    simp only [Env.get_put_some, ↓thenA, reduceIte, Option.map_some, ↓reduceIte, retA, resA]
    refine ⟨_, rfl, ret_p (Left.upd (by omega) (Left.upd (Nat.le_refl _) (Left.refl hlt))) (.bool _) ?_⟩
    have : a.list ≠ b.list := by simpa using hc
    simpa [resV, this] using hk
  have hwe : a.list = b.list := by simpa using hc
  refine WP.skip (hK3 _ _ _ ?_)
  clear hK3 K3
  refine WP.seq_k fun K1 hK1 => WP.region hT rfl ?_
  simp only [↓opsA, ↓stepA, ↓callA, ev, ↓e_assign, ofVal, ↓thenA]
  refine hK1 _ _ _ ?_
  clear hK1 K1
  refine WP.ret ?_
  simp only [Env.get_put_some, reduceIte, Option.map_some, ↓reduceIte, retA, resA]
  refine ⟨_, rfl, ret_p (Left.upd (by omega) (Left.upd (Nat.le_refl _) (Left.refl hlt))) (.bool _) ?_⟩
  simpa [resV, hce, hwe] using hk

theorem early_len (w : Int) : ∀ (l : List Int) (s : List Int × Nat), (l.foldl (earlyStep w) s).1.length ≤ s.1.length + l.length + s.2
  | [], s => by simp
  | p :: l, s => by
    have := early_len w l (earlyStep w s p)
    have h2 : (earlyStep w s p).1.length + (earlyStep w s p).2 ≤ s.1.length + 1 + s.2 := by
      unfold earlyStep
      split <;> simp <;> omega
    simp only [List.foldl_cons, List.length_cons]
    omega

theorem early_small (l : List (List ActD)) (picks : List Int) (w : Int) : (earlyF l picks w).list.length ≤ 2 * picks.length := by
  unfold earlyF
  split
  · simp
  · split
    · simp
    · have := early_len w picks ([], picks.countP (fun p => decide (p = w)))
      have h2 := List.countP_le_length (p := fun p => decide (p = w)) (l := picks)
      simp only [List.length_nil] at this
      simp only
      omega
end
end Go.Proofs.Ytplkjfnjdekgpaa
