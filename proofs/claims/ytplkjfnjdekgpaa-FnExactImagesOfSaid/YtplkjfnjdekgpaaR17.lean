/- Row 6: what is wrong with a disk, the program's. Own work. -/
import Derived.Test.YtplkjfnjdekgpaaR16
namespace Go.Proofs.Ytplkjfnjdekgpaa
open Go

section
variable {h : Heap} {n : Nat} {K : AV → Heap → Nat → Prop}

theorem c90 {x : AV} {l : List Int} (hx : ByteSR x l) (hk : K (.bool (decide (l.length ≠ 48))) h n) : CA Try.prog 90 [x] h n K := by
  obtain ⟨es, hes, hal, hml, _, _⟩ := hx
  have hel := all2_length hal
  refine CA.conv (CA.enter (N := 6) (rs := [.tmp 2]) hT Try.call90 Try.func90 rfl rfl (by simp) rfl fun hlt => ?_)
  refine WP.seq_k fun K1 hK1 => WP.region hT rfl ?_
  simp only [↓opsA, ↓stepA, ↓callA, ev, ↓e_assign, ofVal, ↓thenA]
  refine hK1 _ _ _ ?_
  clear hK1 K1
  refine WP.seq_k fun K1 hK1 => WP.region hT rfl ?_
  simp only [↓opsA, ↓stepA, ↓e_len1, ↓callA, ev, Env.get_put_some, Env.get_envOf, ↓e_move, ↓e_assign, ↓e_binOp, b_neq, ofVal, ↓thenA, reduceIte, Nat.reduceEqDiff, List.getElem?_cons_zero, Option.getD_some, ↓reduceIte, T_5, T_113, rdSl_emp hes]
  refine hK1 _ _ _ ?_
  clear hK1 K1
  refine WP.ret ?_
  simp only [Env.get_put_some, reduceIte, Option.map_some, ↓reduceIte, retA, resA]
  refine ⟨_, rfl, ret_p (Left.refl hlt) (.bool _) ?_⟩
  have : decide ((es.length : Int) ≠ 48) = decide (l.length ≠ 48) := by rw [hel]; exact decide_eq_decide.2 (by omega)
  simpa [resV, this] using hk

theorem c96 {x : AV} {l : List (List Int)} (hx : ByteSSR x l) (hk : K (.int .i64 (idxV (l.findIdx? fun p => decide (p.length ≠ 48)))) h n) : CA Try.prog 96 [x, .fn 90 []] h n K :=
  idxF_gen (tf := 121) hT Try.call96 Try.func96 rfl rfl rfl rfl tyByteS_113 hx (fun _ _ _ _ hR hk => c90 hR hk) hk

theorem c89 {x : AV} {l : List (List Int)} (hx : ByteSSR x l) (hk : K (.bool (l.any fun p => decide (p.length ≠ 48))) h n) : CA Try.prog 89 [x, .fn 90 []] h n K :=
  conF_gen hT Try.call89 Try.func89 rfl rfl rfl hx (fun _ hk => c96 hx hk) hk

theorem c73 {x : AV} {d : DiskD} {p : Int} (hx : DiskR x d) (h8 : d.pages.length ≤ 8) (hk : K (.bool (within p 0 ((d.pages.length : Int) - 1))) h n) : CA Try.prog 73 [x, .int .i64 p] h n K := by
  obtain ⟨xp, xl, rfl, hp, hl⟩ := hx
  have zp := one_cells hp.isOne
  obtain ⟨ps, rp, ap, mp, _, _⟩ := hp
  have lp := all2_length ap
  refine CA.conv (CA.enter (N := 11) (rs := [.tmp 4]) hT Try.call73 Try.func73 rfl rfl (by simp) rfl fun hlt => ?_)
  have hnp : IntKind.i64.wrap ((ps.length : Int) - 1) = (d.pages.length : Int) - 1 := by rw [wrap_in (by omega) (by omega)]; omega
  refine WP.seq_k fun K1 hK1 => WP.region hT rfl ?_
  simp only [↓opsA, ↓stepA, ↓callA, ev, Env.get_envOf, ↓e_assign, ↓e_box, ofVal, ↓thenA, Nat.pos_of_neZero, good_agg, AV.cells_agg, Nat.reduceAdd, true_and, List.getElem?_cons_zero, Option.getD_some, List.length_cons, List.length_nil, Nat.zero_add, T_65]
  refine hK1 _ _ _ ?_
  clear hK1 K1
  refine WP.seq_k fun K1 hK1 => WP.region hT rfl ?_
  simp only [↓opsA, ↓stepA, ↓e_len1, ↓callA, List.map_cons, List.map_nil, ev, Env.get_put_some, Env.get_envOf, ↓e_move, ↓e_assign, ↓e_binOp, ↓e_load, ↓e_fieldAddr, b_sub, rdSl_sl, ofVal, ↓thenA, Heap.upd_get, AV.cells_agg, reduceIte, Nat.reduceEqDiff, true_and, List.getElem?_cons_zero, List.getElem?_cons_succ, Option.getD_some, List.length_cons, List.length_nil, Nat.zero_add, Nat.add_zero, List.drop_zero, List.take_succ_cons, List.take_zero, List.append_nil, Nat.lt_add_one, ↓reduceIte, Nat.le_refl, T_55, T_113, T_65, pt_55, cellOk, rdSl_emp rp, hnp]
  refine c53 ?_
  refine hK1 _ _ _ ?_
  clear hK1 K1
  refine WP.ret ?_
  simp only [Env.get_put_some, reduceIte, Option.map_some, ↓reduceIte, retA, resA]
  exact ⟨_, rfl, ret_p (Left.upd (Nat.le_refl _) (Left.refl hlt)) (.bool _) hk⟩

theorem c68 {id : Nat} {xp xl : AV} {d : DiskD} {p : Int} (hb : h id = some [.agg [xp, xl]]) (hp : ByteSSR xp d.pages) (h8 : d.pages.length ≤ 8) (hk : K (.bool (within p 0 ((d.pages.length : Int) - 1))) h n) : CA Try.prog 68 [.ep 2 (.sl 2 id 0 1 1 true) 0 0, .int .i64 p] h n K := by
  have zp := one_cells hp.isOne
  obtain ⟨ps, rp, ap, mp, _, _⟩ := hp
  have lp := all2_length ap
  refine CA.conv (CA.enter (N := 13) (rs := [.tmp 4]) hT Try.call68 Try.func68 rfl rfl (by simp) rfl fun hlt => ?_)
  have hnp : IntKind.i64.wrap ((ps.length : Int) - 1) = (d.pages.length : Int) - 1 := by rw [wrap_in (by omega) (by omega)]; omega
  refine WP.seq_k fun K1 hK1 => WP.region hT rfl ?_
  simp only [↓opsA, ↓stepA, ↓callA, ev, ↓e_assign, ofVal, ↓thenA]
  refine hK1 _ _ _ ?_
  clear hK1 K1
  refine WP.seq_k fun K1 hK1 => WP.region hT rfl ?_
  simp only [↓opsA, ↓stepA, ↓e_len1, ↓callA, List.map_cons, List.map_nil, ev, Env.get_put_some, Env.get_envOf, ↓e_move, ↓e_assign, ↓e_binOp, ↓e_nilCheck, ↓e_load, ↓e_fieldAddr, b_sub, rdSl_sl, ofVal, ↓thenA, AV.cells_agg, reduceIte, Nat.reduceEqDiff, true_and, List.getElem?_cons_zero, List.getElem?_cons_succ, Option.getD_some, List.length_cons, List.length_nil, Nat.zero_add, Nat.add_zero, List.drop_zero, List.take_succ_cons, List.take_zero, List.append_nil, Nat.lt_add_one, ↓reduceIte, Nat.le_refl, T_55, T_113, T_65, pt_55, cellOk, rdSl_emp rp, hnp, hb]
  refine c49 ?_
  refine hK1 _ _ _ ?_
  clear hK1 K1
  refine WP.ret ?_
  simp only [Env.get_put_some, reduceIte, Option.map_some, ↓reduceIte, retA, resA]
  exact ⟨_, rfl, ret_p (Left.refl hlt) (.bool _) hk⟩
end
end Go.Proofs.Ytplkjfnjdekgpaa
