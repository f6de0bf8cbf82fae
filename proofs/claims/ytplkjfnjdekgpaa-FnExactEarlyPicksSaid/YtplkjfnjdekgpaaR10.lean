/- Row 5: the reference's early picks. Own work. -/
import Derived.Test.YtplkjfnjdekgpaaR8
namespace Go.Proofs.Ytplkjfnjdekgpaa
open Go

structure IResD where
  code : Int
  list : List Int
deriving DecidableEq

def IResR (e : AV) (a : IResD) : Prop := ∃ A, e = .agg [.int .i64 a.code, A] ∧ IntsR A a.list

/-- One pick taken: w's go all to the first one's place. -/
def earlyStep (w : Int) (s : List Int × Nat) (p : Int) : List Int × Nat := if p ≠ w then (s.1 ++ [p], s.2) else (s.1 ++ List.replicate s.2 w, 0)

def earlyF (l : List (List ActD)) (picks : List Int) (w : Int) : IResD :=
  if askedF l picks ≠ 0 then ⟨askedF l picks, []⟩ else if within w 0 ((l.length : Int) - 1) = false then ⟨3, []⟩ else ⟨0, (picks.foldl (earlyStep w) ([], picks.countP (fun p => decide (p = w)))).1⟩

/-- How a growing list of integers lies in the heap. -/
structure OInv (n0 m : Nat) (h h' : Heap) (n' i7 : Nat) (A : AV) (es : List AV) : Prop where
  r7 : h' i7 = some [.agg [.int .i64 0, A]]
  oA : OwnR h' m n' 1 A es
  bel : ∀ id, id < n0 → h' id = h id
  le : m ≤ n'

section
variable {h : Heap} {n : Nat} {K : AV → Heap → Nat → Prop}

theorem ints_done {n0 m n' : Nat} {h' h'' : Heap} {A : AV} {l : List Int} (oA : OwnR h' m n' 1 A (l.map intAV)) (hle : m ≤ n') (hl : l.length ≤ 1048576) (hok : ∀ w, w ∈ l → I64 w) (hlt : ∀ id b, h id = some b → id < n0) (hm : n0 ≤ m)
    (hs : ∀ id, m ≤ id → h'' id = h' id) (hb : ∀ id, id < n0 → h'' id = h id) (hk : ∀ r h' n', OwnRes IResR h n0 r ⟨0, l⟩ h' n' → K r h' n') : ∃ r2 h2 n2, Conv n0 h (.agg [.int .i64 0, A]) h'' n' r2 h2 n2 ∧ K r2 h2 n2 := by
  obtain ⟨A', I, tA, fA, iA⟩ := oA.tree (fun e he => by
    obtain ⟨a, _, rfl⟩ := List.mem_map.1 he
    exact plain_lt rfl)
  let g : Heap := fun id => if id < n0 ∨ id ∈ I then h'' id else none
  have hgI : ∀ id, id ∈ I → g id = h' id := fun id hid => by
    simp only [g]
    rw [if_pos (.inr hid)]
    exact hs id (iA id hid).1
  refine ⟨_, g, n', .keep _ _ _ _ (fun id b hb => ?_), hk _ _ _ ⟨⟨.agg [.int .i64 0, A'], I, ?_, ⟨A', rfl, ?_⟩, fun id hid => ?_, fun id hid hni => ?_⟩, fun id hid => ?_, by omega⟩⟩
  · simp only [g] at hb
    split at hb
    · exact hb
    · cases hb
  · refine .agg _ _ _ ?_
    have h1 := TreeL.one (tA.keep (g := g) fun id hid => hgI id hid)
    exact TreeL.cons (.int .i64 0) (.int .i64 0) [A] [A'] [] I (Tree.ofPlain1 rfl) h1 (fun k hk => by cases hk)
  · exact slr_of fA (by show l.length ≤ maxLen; unfold maxLen; omega) (fun a ha => ⟨rfl, hok a ha⟩) tyInt_2.lt
  · have := iA id hid; omega
  · simp only [g]
    rw [if_neg]
    rintro (hq | hq)
    · omega
    · exact hni hq
  · simp only [g]
    rw [if_pos (.inl hid)]
    exact hb id hid

theorem ires_nil {c : Int} : IResR (.agg [.int .i64 c, .nils]) ⟨c, []⟩ := ⟨.nils, rfl, ⟨[], rfl, .nil, Nat.zero_le _, fun _ => .nils, rfl⟩⟩
theorem ires_atom {c : Int} : (AV.agg [.int .i64 c, .nils]).Lt 0 ∧ NoRo (.agg [.int .i64 c, .nils]) := by
  constructor
  · rw [lt_agg]; intro u hu; simp at hu; rcases hu with rfl | rfl <;> constructor
  · refine .agg _ fun i u hu => ?_
    have := List.mem_of_getElem? hu
    simp at this; rcases this with rfl | rfl <;> constructor

/-- What an early list keeps to. -/
structure EOk (picks : List Int) (w : Int) (c i : Nat) (s : List Int × Nat) : Prop where
  len : s.1.length + s.2 ≤ i + c
  ok : ∀ p, p ∈ s.1 → I64 p

theorem EOk.step {picks : List Int} {w : Int} {c i : Nat} {s : List Int × Nat} {p : Int} (h : EOk picks w c i s) (hp : I64 p) (hw : I64 w) : EOk picks w c (i + 1) (earlyStep w s p) := by
  have := h.len
  unfold earlyStep
  split
  · refine ⟨by simp; omega, fun q hq => ?_⟩
    rcases List.mem_append.1 hq with hq | hq
    · exact h.ok q hq
    · rw [List.mem_singleton.1 hq]; exact hp
  · refine ⟨by simp; omega, fun q hq => ?_⟩
    rcases List.mem_append.1 hq with hq | hq
    · exact h.ok q hq
    · rw [(List.mem_replicate.1 hq).2]; exact hw

theorem c30 {x y : AV} {l : List (List ActD)} {picks : List Int} {w : Int} (hx : ActSSR x l) (hy : IntsR y picks) (hw : I64 w) (hk : ∀ r h' n', OwnRes IResR h n r (earlyF l picks w) h' n' → K r h' n') : CA Try.prog 30 [x, y, .int .i64 w] h n K := by
  have hx0 := hx
  have hy0 := hy
  obtain ⟨es, hes, hal, hml, _, _⟩ := hx
  obtain ⟨ws, hws, hwl, hml2, _, _⟩ := hy
  have hel := all2_length hal
  have hwlen := all2_length hwl
  unfold maxLen at hml hml2
  refine CA.conv (CA.enter (N := 73) (rs := [.cell 6 50]) hT Try.call30 Try.func30 rfl rfl (by simp) rfl fun hlt => ?_)
  refine WP.seq_k fun K1 hK1 => WP.region hT rfl ?_
  simp only [↓opsA, ↓stepA, ↓callA, ↓e_alloc, ↓thenA, Nat.pos_of_neZero, true_and, T_50]
  refine hK1 _ _ _ ?_
  clear hK1 K1
  refine WP.seq_k fun K1 hK1 => ?_
  refine WP.seq_k fun K2 hK2 => WP.region hT rfl ?_
  simp only [↓opsA, ↓stepA, ↓callA, List.map_cons, List.map_nil, ev, Env.get_put_some, Env.get_envOf, ↓e_move, ↓e_assign, ↓thenA, reduceIte, Nat.reduceEqDiff, List.getElem?_cons_zero, List.getElem?_cons_succ, Option.getD_some, List.append_nil, ↓reduceIte]
  refine c57 hx0 hy0 (hK2 _ _ _ ?_)
  clear hK2 K2
  refine WP.seq_k fun K1 hK1 => WP.region hT rfl ?_
  simp only [↓opsA, ↓stepA, ↓callA, ev, Env.get_put_some, ↓e_move, ↓e_binOp, b_neq, ofVal, ↓thenA, reduceIte, ↓reduceIte]
  refine hK1 _ _ _ ?_
  clear hK1 K1
  refine WP.cond (by simp only [ev, Env.get_put_some, ↓reduceIte]; rfl) (fun hc0 => ?_) (fun hc0 => ?_)
  · refine WP.seq_k fun K1 hK1 => WP.region hT rfl ?_
    simp only [↓opsA, ↓stepA, ↓callA, ev, Env.get_put_some, Env.put_none, ↓e_move, ↓e_store, ↓e_build, setPart_agg, ↓thenA, Heap.upd_get, Heap.upd_upd, Nat.pos_of_neZero, good_int, good_agg, AV.cells_int, AV.cells_agg, reduceIte, Nat.reduceEqDiff, Nat.reduceLeDiff, Nat.reduceAdd, true_and, List.getElem?_cons_zero, List.length_cons, List.length_nil, List.set_cons_zero, Nat.zero_add, Nat.add_zero, List.drop_zero, List.take_zero, List.drop_succ_cons, List.drop_nil, List.cons_append, List.nil_append, List.append_nil, decide_true, Nat.lt_add_one, ↓reduceIte, Nat.le_refl, T_2, T_37, T_50, buildP_cons, buildP_nil, List.all_cons, List.all_nil, Bool.and_true]
    refine hK1 _ _ _ ?_
    clear hK1 K1
    refine WP.ret ?_
    simp only [↓thenA]
    refine ret_cell (sz := 2) (id := n) rfl (Heap.upd_same _ _ _) rfl rfl ?_
    have hmF : earlyF l picks w = ⟨askedF l picks, []⟩ := by unfold earlyF; rw [if_pos (by simpa using hc0)]
    rw [hmF] at hk
    exact ret_own_atom hlt (fun id hid => Heap.upd_ne _ _ (by omega)) (by omega) ires_nil ires_atom.1 ires_atom.2 hk
  refine WP.skip (hK1 _ _ _ ?_)
  clear hK1 K1
  have ha0 : askedF l picks = 0 := by simpa using hc0
  obtain ⟨h80, hl1, hl5, hwho⟩ := asked_who ha0
  have hlen1 : IntKind.i64.wrap ((es.length : Int) - 1) = (l.length : Int) - 1 := by rw [wrap_in (by omega) (by omega)]; omega
  refine WP.seq_k fun K1 hK1 => ?_
  refine WP.seq_k fun K2 hK2 => WP.region hT rfl ?_
  simp only [↓opsA, ↓stepA, ↓e_len1, ↓callA, List.map_cons, List.map_nil, ev, Env.get_put_some, Env.get_envOf, ↓e_move, ↓e_binOp, ↓e_unOp, b_sub, ofVal, ↓thenA, reduceIte, Nat.reduceEqDiff, List.getElem?_cons_zero, List.getElem?_cons_succ, Option.getD_some, List.append_nil, ↓reduceIte, T_31, T_38, rdSl_emp hes, hlen1]
  refine c49 ?_
  simp only [u_not]
  refine hK2 _ _ _ ?_
  clear hK2 K2
  refine WP.cond (by simp only [ev, Env.get_put_some, ↓reduceIte]; rfl) (fun hc1 => ?_) (fun hc1 => ?_)
  · refine WP.seq_k fun K1 hK1 => WP.region hT rfl ?_
    simp only [↓opsA, ↓stepA, ↓callA, ev, Env.get_put_some, Env.put_none, ↓e_store, ↓e_build, setPart_agg, ofVal, ↓thenA, Heap.upd_get, Heap.upd_upd, Nat.pos_of_neZero, good_int, good_agg, AV.cells_int, AV.cells_agg, reduceIte, Nat.reduceEqDiff, Nat.reduceLeDiff, Nat.reduceAdd, true_and, List.getElem?_cons_zero, List.length_cons, List.length_nil, List.set_cons_zero, Nat.zero_add, Nat.add_zero, List.drop_zero, List.take_zero, List.drop_succ_cons, List.drop_nil, List.cons_append, List.nil_append, List.append_nil, decide_true, Nat.lt_add_one, ↓reduceIte, Nat.le_refl, T_2, T_37, T_50, buildP_cons, buildP_nil, List.all_cons, List.all_nil, Bool.and_true]
    refine hK1 _ _ _ ?_
    clear hK1 K1
    refine WP.ret ?_
    simp only [↓thenA]
    refine ret_cell (sz := 2) (id := n) rfl (Heap.upd_same _ _ _) rfl rfl ?_
    have hmF : earlyF l picks w = ⟨3, []⟩ := by unfold earlyF; rw [if_neg (by simp [ha0]), if_pos (by simpa using hc1)]
    rw [hmF] at hk
    exact ret_own_atom hlt (fun id hid => Heap.upd_ne _ _ (by omega)) (by omega) ires_nil ires_atom.1 ires_atom.2 hk
  refine WP.skip (hK1 _ _ _ ?_)
  clear hK1 K1
  have hmF : earlyF l picks w = ⟨0, (picks.foldl (earlyStep w) ([], picks.countP (fun p => decide (p = w)))).1⟩ := by unfold earlyF; rw [if_neg (by simp [ha0]), if_neg (by simpa using hc1)]
  rw [hmF] at hk
  -- the count
  refine WP.seq_k fun K1 hK1 => WP.region hT rfl ?_
  simp only [↓opsA, ↓stepA, ↓callA, ev, ↓e_assign, ofVal, ↓thenA]
  refine hK1 _ _ _ ?_
  clear hK1 K1
  refine WP.seq_k fun K1 hK1 => ?_
  refine WP.seq_k fun K1 hK1 => WP.region hT rfl ?_
  simp only [↓opsA, ↓stepA, ↓callA, ev, ↓e_assign, ofVal, ↓thenA]
  refine hK1 _ _ _ ?_
  clear hK1 K1
  refine WP.block (WP.loop (fun mm E h' n' => ∃ i, mm = picks.length - i ∧ i ≤ picks.length ∧ h.upd n [.agg [.int .i64 0, .nils]] = h' ∧ n + 1 = n' ∧ E.get 0 = x ∧ E.get 1 = y ∧ E.get 2 = .int .i64 w ∧ E.get 6 = .ep 2 (.sl 2 n 0 1 1 true) 0 0 ∧ E.get 8 = .int .i64 ((picks.take i).countP (fun p => decide (p = w)) : Nat) ∧ E.get 9 = .int .i64 i) picks.length ?_ ?_)
  · exact ⟨0, by omega, Nat.zero_le _, rfl, rfl, rfl, rfl, rfl, rfl, rfl, rfl⟩
  rintro mm E h' n' ⟨i, rfl, hi, rfl, rfl, e0, e1, e2, e6, e8, e9⟩
  refine WP.seq_k fun K6 hK6 => ?_
  refine WP.seq_k fun K7 hK7 => WP.region hT rfl ?_
  simp only [↓opsA, ↓stepA, ↓e_len1, ↓callA, ev, Env.get_put_some, ↓e_move, ↓e_binOp, b_lss, ↓thenA, reduceIte, Nat.reduceEqDiff, ↓reduceIte, T_2, T_37, rdSl_emp hws, e1, e9]
  refine hK7 _ _ _ ?_
  clear hK7 K7
  have hcl : ((picks.take i).countP (fun p => decide (p = w))) ≤ i := by
    have := List.countP_le_length (p := fun p => decide (p = w)) (l := picks.take i)
    simp at this; omega
  refine WP.cond (by simp only [ev, Env.get_put_some, ↓reduceIte]; rfl) (fun hc2 => ?_) (fun hc2 => ?_)
  · have hil : i < picks.length := by simp at hc2; omega
    obtain ⟨b, p, hb, hp, hR2⟩ := all2_at hwl hil
    obtain ⟨rfl, hpok⟩ := hR2
    refine WP.skip (hK6 _ _ _ ?_)
    clear hK6 K6
    refine WP.seq_k fun K6 hK6 => WP.block ?_
    refine WP.seq_k fun K1 hK1 => WP.region hT rfl ?_
    simp only [↓opsA, ↓stepA, ↓callA, Int.toNat_natCast, ev, Env.get_put_some, ↓e_move, ↓e_binOp, ↓e_load, ↓e_indexAddr, b_eql, ↓thenA, AV.cells_int, reduceIte, Nat.reduceEqDiff, true_and, List.getElem?_cons_zero, Nat.lt_add_one, ↓reduceIte, T_2, T_37, rdSl_emp hws, e1, e2, e9, hb, pt_2, cellOk]
    refine ⟨by omega, by omega, hK1 _ _ _ ?_⟩
    clear hK1 K1
    have hcs : (picks.take (i + 1)).countP (fun p => decide (p = w)) = (picks.take i).countP (fun p => decide (p = w)) + (if p = w then 1 else 0) := by
      rw [List.take_add_one, hp, List.countP_append]; simp [List.countP_cons]
    refine WP.cond (by simp only [ev, Env.get_put_some, ↓reduceIte]; rfl) (fun hc3 => ?_) (fun hc3 => ?_)
    · have hpw : p = w := by simpa using hc3
      refine WP.region hT rfl ?_
      simp only [↓opsA, ↓stepA, ↓callA, ev, Env.get_put_some, ↓e_move, ↓e_assign, ↓e_binOp, b_add, ofVal, ↓thenA, ↓blockA, reduceIte, Nat.reduceEqDiff, ↓reduceIte, e8]
      refine hK6 _ _ _ ?_
      clear hK6 K6
      refine WP.region hT rfl ?_
      simp only [↓opsA, ↓stepA, ↓callA, ev, Env.get_put_some, ↓e_move, ↓e_assign, ↓e_binOp, b_add, ofVal, ↓thenA, reduceIte, Nat.reduceEqDiff, true_and, ↓reduceIte, e9]
      refine ⟨picks.length - (i + 1), by omega, i + 1, rfl, hil, ?_, ?_, ?_, ?_, ?_, ?_⟩
      · simpa [Env.get, Env.put] using e0
      · simpa [Env.get, Env.put] using e1
      · simpa [Env.get, Env.put] using e2
      · simpa [Env.get, Env.put] using e6
      · rw [wrap_in (by omega) (by omega), hcs, if_pos hpw]
        rfl
      · rw [wrap_in (by omega) (by omega)]
        rfl
    · have hpw : p ≠ w := by simpa using hc3
      refine WP.skip ?_
      simp only [↓thenA, ↓blockA]
      refine hK6 _ _ _ ?_
      clear hK6 K6
      refine WP.region hT rfl ?_
      simp only [↓opsA, ↓stepA, ↓callA, ev, Env.get_put_some, ↓e_move, ↓e_assign, ↓e_binOp, b_add, ofVal, ↓thenA, reduceIte, Nat.reduceEqDiff, true_and, ↓reduceIte, e9]
      refine ⟨picks.length - (i + 1), by omega, i + 1, rfl, hil, ?_, ?_, ?_, ?_, ?_, ?_⟩
      · simpa [Env.get, Env.put] using e0
      · simpa [Env.get, Env.put] using e1
      · simpa [Env.get, Env.put] using e2
      · simpa [Env.get, Env.put] using e6
      · rw [hcs, if_neg hpw]; simpa [Env.get, Env.put] using e8
      · rw [wrap_in (by omega) (by omega)]
        rfl
  have hil : i = picks.length := by simp at hc2; omega
  subst hil
  rw [List.take_of_length_le (Nat.le_refl _)] at e8 hcl
  refine WP.exit ?_
  simp only [↓thenA, ↓blockA, reduceIte, ↓reduceIte]
  refine hK1 _ _ _ ?_
  clear hK6 K6 hK1 K1
  generalize hcnt : picks.countP (fun p => decide (p = w)) = cnt at *
  refine WP.seq_k fun K1 hK1 => WP.region hT rfl ?_
  simp only [↓opsA, ↓stepA, ↓callA, ev, Env.get_put_some, Env.put_none, ↓e_alloc, ↓e_store, ↓e_build, setPart_agg, ↓thenA, Heap.upd_get, Heap.upd_upd, Nat.pos_of_neZero, good_agg, AV.cells_agg, reduceIte, Nat.reduceEqDiff, Nat.reduceAdd, Nat.add_assoc, true_and, List.getElem?_cons_zero, List.length_cons, List.length_nil, List.set_cons_zero, Nat.zero_add, Nat.add_zero, List.take_zero, List.drop_succ_cons, List.drop_nil, List.nil_append, List.append_nil, decide_true, Nat.lt_add_one, ↓reduceIte, Nat.le_refl, T_2, T_37, T_50, buildP_nil, List.all_cons, List.all_nil, Bool.and_true]
  refine hK1 _ _ _ ?_
  clear hK1 K1
  refine WP.seq_k fun K1 hK1 => ?_
  refine WP.seq_k fun K1 hK1 => WP.region hT rfl ?_
  simp only [↓opsA, ↓stepA, ↓callA, ev, ↓e_assign, ofVal, ↓thenA]
  refine hK1 _ _ _ ?_
  clear hK1 K1
  refine WP.block (WP.loop (fun mm E h' n' => ∃ i A, mm = picks.length - i ∧ i ≤ picks.length ∧ EOk picks w cnt i ((picks.take i).foldl (earlyStep w) ([], cnt)) ∧ OInv n (n + 2) h h' n' (n + 1) A (((picks.take i).foldl (earlyStep w) ([], cnt)).1.map intAV) ∧ h' n = some [.agg [.int .i64 0, .nils]] ∧
    E.get 1 = y ∧ E.get 2 = .int .i64 w ∧ E.get 6 = .ep 2 (.sl 2 n 0 1 1 true) 0 0 ∧ E.get 8 = .int .i64 (((picks.take i).foldl (earlyStep w) ([], cnt)).2 : Nat) ∧ E.get 10 = .ep 2 (.sl 2 (n + 1) 0 1 1 true) 0 0 ∧ E.get 11 = .int .i64 i) picks.length ?_ ?_)
  · refine ⟨0, .nils, by omega, Nat.zero_le _, ⟨by simp, fun p hp => by simp at hp⟩, ⟨Heap.upd_same _ _ _, .inl ⟨rfl, rfl⟩, fun id hid => by rw [Heap.upd_ne _ _ (by omega), Heap.upd_ne _ _ (by omega)], Nat.le_refl _⟩, ?_, ?_, ?_, ?_, ?_, rfl, rfl⟩
    · rw [Heap.upd_ne _ _ (by omega), Heap.upd_same]
    · simpa [Env.get, Env.put] using e1
    · simpa [Env.get, Env.put] using e2
    · simpa [Env.get, Env.put] using e6
    · simpa [Env.get, Env.put] using e8
  clear e0 e1 e2 e6 e8 e9
  rintro mm E h' n' ⟨i, A, rfl, hi, hok, hI, hcell, e1, e2, e6, e8, e10, e11⟩
  generalize hS : (picks.take i).foldl (earlyStep w) ([], cnt) = s at *
  have hlen := hok.len
  have hle := hI.le
  refine WP.seq_k fun K6 hK6 => ?_
  refine WP.seq_k fun K1 hK1 => WP.region hT rfl ?_
  simp only [↓opsA, ↓stepA, ↓e_len1, ↓callA, ev, Env.get_put_some, ↓e_move, ↓e_binOp, b_lss, ↓thenA, reduceIte, Nat.reduceEqDiff, ↓reduceIte, T_2, T_37, rdSl_emp hws, e1, e11]
  refine hK1 _ _ _ ?_
  clear hK1 K1
  refine WP.cond (by simp only [ev, Env.get_put_some, ↓reduceIte]; rfl) (fun hc3 => ?_) (fun hc3 => ?_)
  · have hil : i < picks.length := by simp at hc3; omega
    obtain ⟨b, p, hb, hp, hR2⟩ := all2_at hwl hil
    obtain ⟨rfl, hpok⟩ := hR2
    have hnext : (picks.take (i + 1)).foldl (earlyStep w) ([], cnt) = earlyStep w s p := by
      rw [List.take_add_one, hp, List.foldl_append, hS]; rfl
    refine WP.skip (hK6 _ _ _ ?_)
    clear hK6 K6
    refine WP.seq_k fun K6 hK6 => WP.block ?_
    refine WP.seq_k fun K7 hK7 => ?_
    refine WP.seq_k fun K1 hK1 => WP.region hT rfl ?_
    simp only [↓opsA, ↓stepA, ↓callA, Int.toNat_natCast, ev, Env.get_put_some, ↓e_move, ↓e_binOp, ↓e_load, ↓e_indexAddr, b_neq, ↓thenA, AV.cells_int, reduceIte, Nat.reduceEqDiff, true_and, List.getElem?_cons_zero, Nat.lt_add_one, ↓reduceIte, T_2, T_37, rdSl_emp hws, e1, e2, e11, hb, pt_2, cellOk]
    refine ⟨by omega, by omega, hK1 _ _ _ ?_⟩
    clear hK1 K1
    refine WP.cond (by simp only [ev, Env.get_put_some, ↓reduceIte]; rfl) (fun hc4 => ?_) (fun hc4 => ?_)
    · have hpw : p ≠ w := by simpa using hc4
      have hstep : earlyStep w s p = (s.1 ++ [p], s.2) := by unfold earlyStep; rw [if_pos hpw]
      refine WP.seq_k fun K8 hK8 => WP.drawL hT hM [(0, 0), (1, 1), (2, 0), (3, 0), (4, 0), (5, 0), (6, 2), (7, 2), (8, 0), (9, 2)] [7, 9] h' (by kernel_rfl) rfl (Heap.Sub.refl _) fun hlt' => ?_
      simp only [↓planL, List.contains_nil, List.contains_cons, Bool.or_false, ↓stepA, ↓e_append1, ↓callA, Int.toNat_natCast, ev, Env.get_put_some, Env.put_none, ↓e_move, ↓e_load, ↓e_store, ↓e_fieldAddr, ↓e_indexAddr, rdSl_sl, ↓thenA, good_int, AV.cells_int, AV.cells_agg, reduceIte, Nat.reduceEqDiff, Nat.reduceLeDiff, Nat.reduceAdd, true_and, List.getElem?_cons_zero, List.getElem?_cons_succ, List.length_cons, List.length_nil, Nat.zero_add, Nat.add_zero, List.drop_zero, List.take_succ_cons, List.take_zero, Nat.lt_add_one, ↓reduceIte, Nat.le_refl, T_2, T_37, T_50, rdSl_emp hws, e1, e10, e11, hb, pt_2, pt_37, cellOk, hI.r7, e_bs1, List.contains_cons, List.contains_nil, Bool.or_false, Bool.or_true, Nat.reduceBEq, Bool.or_self]
      refine ⟨by omega, by omega, Heap.Sub.fresh hlt', 2, rfl, OwnR.push (n0 := n + 2) rfl (by decide) hI.oA (by simp [T_2]; omega) (by simp; omega) hI.le fun h2 o2 s2 u2 => ?_⟩
      have q7 : h2 (n + 1) = some [.agg [.int .i64 0, A]] := by rw [s2 _ (by omega)]; exact hI.r7
      simp only [setPart_agg, good_sl, AV.cells_sl, AV.cells_agg, Nat.reduceAdd, true_and, List.getElem?_cons_zero, List.length_cons, List.length_nil, List.set_cons_zero, Nat.zero_add, List.take_succ_cons, List.take_zero, List.drop_succ_cons, List.drop_nil, List.cons_append, List.nil_append, List.append_nil, Nat.le_refl, T_2, q7]
      refine hK8 _ _ _ ?_
      clear hK8 K8
      refine WP.exit ?_
      simp only [↓thenA, ↓blockA, reduceIte, ↓reduceIte]
      refine hK6 _ _ _ ?_
      clear hK7 K7 hK6 K6
      refine WP.region hT rfl ?_
      simp only [↓opsA, ↓stepA, ↓callA, ev, Env.get_put_some, ↓e_move, ↓e_assign, ↓e_binOp, b_add, ofVal, ↓thenA, Heap.upd_get, reduceIte, Nat.reduceEqDiff, Nat.left_eq_add, Nat.one_ne_zero, ↓reduceIte, e11]
      refine ⟨picks.length - (i + 1), by omega, i + 1, .sl 1 (n' + 1) 0 ((s.1.map intAV).length + 1) ((s.1.map intAV).length + 1) false, rfl, hil, by rw [hnext]; exact hok.step hpok hw, ?_, ?_, ?_, ?_, ?_, ?_, ?_, ?_⟩
      · rw [hnext, hstep]
        refine ⟨Heap.upd_same _ _ _, ?_, fun id hid => ?_, by omega⟩
        · rw [List.map_append]; exact o2.low (by omega)
        · rw [Heap.upd_ne _ _ (by omega), s2 id (by omega)]; exact hI.bel id hid
      · rw [s2 n (by omega)]; exact hcell
      · simpa [Env.get, Env.put] using e1
      · simpa [Env.get, Env.put] using e2
      · simpa [Env.get, Env.put] using e6
      · rw [hnext, hstep]; simpa [Env.get, Env.put] using e8
      · simpa [Env.get, Env.put] using e10
      · rw [wrap_in (by omega) (by omega)]
        rfl
    · have hpw : p = w := by simpa using hc4
      have hstep : earlyStep w s p = (s.1 ++ List.replicate s.2 w, 0) := by unfold earlyStep; rw [if_neg (by simpa using hpw)]
      refine WP.skip (hK7 _ _ _ ?_)
      clear hK7 K7
      refine WP.block (WP.loop (fun mm E2 h2 n2 => ∃ A2, mm ≤ s.2 ∧ OInv n (n + 2) h h2 n2 (n + 1) A2 ((s.1 ++ List.replicate (s.2 - mm) w).map intAV) ∧ h2 n = some [.agg [.int .i64 0, .nils]] ∧
        E2.get 1 = y ∧ E2.get 2 = .int .i64 w ∧ E2.get 6 = .ep 2 (.sl 2 n 0 1 1 true) 0 0 ∧ E2.get 8 = .int .i64 mm ∧ E2.get 10 = .ep 2 (.sl 2 (n + 1) 0 1 1 true) 0 0 ∧ E2.get 11 = .int .i64 i) s.2 ?_ ?_)
      · refine ⟨A, Nat.le_refl _, by rw [Nat.sub_self, List.replicate_zero, List.append_nil]; exact hI, hcell, ?_, ?_, ?_, ?_, ?_, ?_⟩
        · simpa [Env.get, Env.put] using e1
        · simpa [Env.get, Env.put] using e2
        · simpa [Env.get, Env.put] using e6
        · simpa [Env.get, Env.put] using e8
        · simpa [Env.get, Env.put] using e10
        · simpa [Env.get, Env.put] using e11
      clear e1 e2 e6 e8 e10 e11
      rintro mm E2 h2 n2 ⟨A2, hmm, hI2, hcell2, e1, e2, e6, e8, e10, e11⟩
      have hle2 := hI2.le
      refine WP.seq_k fun K7 hK7 => ?_
      refine WP.seq_k fun K1 hK1 => WP.region hT rfl ?_
      simp only [↓opsA, ↓stepA, ↓callA, ev, Env.get_put_some, ↓e_move, ↓e_binOp, b_gtr, ofVal, ↓thenA, reduceIte, ↓reduceIte, e8]
      refine hK1 _ _ _ ?_
      clear hK1 K1
      refine WP.cond (by simp only [ev, Env.get_put_some, ↓reduceIte]; rfl) (fun hc5 => ?_) (fun hc5 => ?_)
      · have hm0 : 0 < mm := by simp at hc5; omega
        refine WP.skip (hK7 _ _ _ ?_)
        clear hK7 K7
        refine WP.seq_k fun K8 hK8 => WP.block ?_
        refine WP.region hT rfl ?_
        simp only [↓opsA, ↓stepA, ↓e_append1, ↓callA, ev, Env.get_put_some, Env.put_none, ↓e_move, ↓e_load, ↓e_store, ↓e_fieldAddr, rdSl_sl, ↓thenA, ↓blockA, good_int, AV.cells_int, AV.cells_agg, reduceIte, Nat.reduceEqDiff, Nat.reduceLeDiff, Nat.reduceAdd, true_and, List.getElem?_cons_zero, List.getElem?_cons_succ, List.length_cons, List.length_nil, Nat.zero_add, Nat.add_zero, List.drop_zero, List.take_succ_cons, List.take_zero, Nat.lt_add_one, ↓reduceIte, Nat.le_refl, T_2, T_37, T_50, e2, e10, pt_37, cellOk, hI2.r7, e_bs1]
        refine ⟨2, rfl, OwnR.push (n0 := n + 2) rfl (by decide) hI2.oA (by simp [T_2]; omega) (by simp; omega) hI2.le fun h3 o3 s3 u3 => ?_⟩
        have q7 : h3 (n + 1) = some [.agg [.int .i64 0, A2]] := by rw [s3 _ (by omega)]; exact hI2.r7
        simp only [setPart_agg, good_sl, AV.cells_sl, AV.cells_agg, Nat.reduceAdd, true_and, List.getElem?_cons_zero, List.length_cons, List.length_nil, List.set_cons_zero, Nat.zero_add, List.take_succ_cons, List.take_zero, List.drop_succ_cons, List.drop_nil, List.cons_append, List.nil_append, List.append_nil, Nat.le_refl, T_2, q7]
        refine hK8 _ _ _ ?_
        clear hK8 K8
        refine WP.region hT rfl ?_
        simp only [↓opsA, ↓stepA, ↓callA, ev, Env.get_put_some, ↓e_move, ↓e_assign, ↓e_binOp, b_sub, ofVal, ↓thenA, Heap.upd_get, reduceIte, Nat.reduceEqDiff, Nat.left_eq_add, Nat.one_ne_zero, ↓reduceIte, e8]
        refine ⟨mm - 1, by omega, .sl 1 (n2 + 1) 0 (((s.1 ++ List.replicate (s.2 - mm) w).map intAV).length + 1) (((s.1 ++ List.replicate (s.2 - mm) w).map intAV).length + 1) false, by omega, ?_, ?_, ?_, ?_, ?_, ?_, ?_, ?_⟩
        · have hrep : s.2 - (mm - 1) = (s.2 - mm) + 1 := by omega
          have hmp : (s.1 ++ List.replicate (s.2 - mm) w ++ [w]).map intAV = (s.1 ++ List.replicate (s.2 - mm) w).map intAV ++ [intAV w] := List.map_append
          rw [hrep, List.replicate_succ', ← List.append_assoc]
          refine ⟨Heap.upd_same _ _ _, by rw [hmp]; exact o3.low (id := n + 1) (by omega), fun id hid => ?_, by omega⟩
          rw [Heap.upd_ne _ _ (by omega), s3 id (by omega)]; exact hI2.bel id hid
        · rw [s3 n (by omega)]; exact hcell2
        · simpa [Env.get, Env.put] using e1
        · simpa [Env.get, Env.put] using e2
        · simpa [Env.get, Env.put] using e6
        · rw [wrap_in (by omega) (by omega)]
          congr 1; omega
        · simpa [Env.get, Env.put] using e10
        · simpa [Env.get, Env.put] using e11
      · have hm0 : mm = 0 := by simp at hc5; omega
        subst hm0
        rw [Nat.sub_zero] at hI2
        refine WP.exit ?_
        simp only [↓thenA, ↓blockA, reduceIte, ↓reduceIte]
        refine hK6 _ _ _ ?_
        clear hK7 K7 hK6 K6
        refine WP.region hT rfl ?_
        simp only [↓opsA, ↓stepA, ↓callA, ev, Env.get_put_some, ↓e_move, ↓e_assign, ↓e_binOp, b_add, ofVal, ↓thenA, reduceIte, Nat.reduceEqDiff, ↓reduceIte, e11]
        refine ⟨picks.length - (i + 1), by omega, i + 1, A2, rfl, hil, by rw [hnext]; exact hok.step hpok hw, ?_, ?_, ?_, ?_, ?_, ?_, ?_, ?_⟩
        · rw [hnext, hstep]; exact hI2
        · exact hcell2
        · simpa [Env.get, Env.put] using e1
        · simpa [Env.get, Env.put] using e2
        · simpa [Env.get, Env.put] using e6
        · rw [hnext, hstep]; simpa [Env.get, Env.put] using e8
        · simpa [Env.get, Env.put] using e10
        · rw [wrap_in (by omega) (by omega)]
          rfl
  · have hil : i = picks.length := by simp at hc3; omega
    subst hil
    rw [List.take_of_length_le (Nat.le_refl _)] at hS
    subst hS
    refine WP.exit ?_
    simp only [↓thenA, ↓blockA, reduceIte, ↓reduceIte]
    refine hK1 _ _ _ ?_
    clear hK6 K6 hK1 K1
    refine WP.seq_k fun K1 hK1 => WP.region hT rfl ?_
    simp only [↓opsA, ↓stepA, ↓callA, ev, Env.get_put_some, Env.put_none, ↓e_load, ↓e_store, rdSl_sl, setPart_agg, ↓thenA, Nat.pos_of_neZero, good_agg, AV.cells_agg, reduceIte, Nat.reduceEqDiff, Nat.reduceAdd, true_and, List.getElem?_cons_zero, List.length_cons, List.length_nil, List.set_cons_zero, Nat.zero_add, Nat.add_zero, List.drop_zero, List.take_succ_cons, List.take_zero, List.drop_succ_cons, List.drop_nil, List.nil_append, List.append_nil, decide_true, ↓reduceIte, Nat.le_refl, T_50, e6, e10, hI.r7, hcell, pt_50, cellOk]
    refine hK1 _ _ _ ?_
    refine WP.ret ?_
    refine ret_cell (sz := 2) (id := n) e6 (Heap.upd_same _ _ _) rfl rfl ?_
    exact ints_done hI.oA hI.le (by omega) hok.ok hlt (by omega) (fun id hid => Heap.upd_ne _ _ (by omega)) (fun id hid => by rw [Heap.upd_ne _ _ (by omega)]; exact hI.bel id hid) hk
end
end Go.Proofs.Ytplkjfnjdekgpaa
