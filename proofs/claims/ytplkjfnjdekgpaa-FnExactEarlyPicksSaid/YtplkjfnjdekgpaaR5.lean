/- Row 4: the reference's merge. Own work. -/
import Derived.Test.YtplkjfnjdekgpaaR4
import Derived.Test.YtplkjfnjdekgpaaLtAid
namespace Go.Proofs.Ytplkjfnjdekgpaa
open Go

structure MResD where
  code : Int
  acts : List ActD
  who : List Int
deriving DecidableEq

def MResR (e : AV) (a : MResD) : Prop := ∃ A B, e = .agg [.int .i64 a.code, A, B] ∧ ActsR A a.acts ∧ IntsR B a.who

def mergeF (l : List (List ActD)) (who : List Int) : MResD :=
  if askedF l who ≠ 0 then ⟨askedF l who, [], []⟩ else let s := who.foldl (mergeStep l) (merge0 l); ⟨0, s.acts, s.by_⟩

def actAV (a : ActD) : AV := .agg [.int .i64 a.kind, .int .i64 a.txn, .int .i64 a.key, .int .i64 a.value]
def intAV (a : Int) : AV := .int .i64 a
def natAV (a : Nat) : AV := .int .i64 a

/-- How a merge's state lies in the heap. -/
structure MInv (n0 m : Nat) (h h' : Heap) (n' i7 it ix : Nat) (A B : AV) (s : MergeS) : Prop where
  r7 : h' i7 = some [.agg [.int .i64 0, A, B]]
  rt : h' it = some (s.txns.map intAV)
  rx : h' ix = some (s.nexts.map natAV)
  oA : OwnR h' m n' 4 A (s.acts.map actAV)
  oB : OwnR h' m n' 1 B (s.by_.map intAV)
  AB : ∀ k, A.idIs k → ¬ B.idIs k
  bel : ∀ id, id < n0 → h' id = h id
  le : m ≤ n'

theorem asked_who {l : List (List ActD)} {who : List Int} (h : askedF l who = 0) : who.length ≤ 80 ∧ 1 ≤ l.length ∧ l.length ≤ 5 ∧ ∀ w, w ∈ who → 0 ≤ w ∧ w < l.length := by
  unfold askedF at h
  split at h
  · contradiction
  · rename_i hf
    have hf' : sessFault l = 0 := by simpa using hf
    obtain ⟨h1, h5⟩ := fault_len hf'
    split at h
    · cases h
    · rename_i h80
      split at h
      · cases h
      · rename_i hany
        refine ⟨by omega, h1, h5, fun w hw => ?_⟩
        have : within w 0 ((l.length : Int) - 1) = true := by
          cases hq : within w 0 ((l.length : Int) - 1) with
          | true => rfl
          | false => exact absurd (List.any_eq_true.2 ⟨w, hw, by rw [hq]; rfl⟩) hany
        unfold within at this
        simp at this
        omega

theorem acts_ok {x : AV} {l : List (List ActD)} (hx : ActSSR x l) : ∀ s, s ∈ l → ∀ a, a ∈ s → a.ok := by
  obtain ⟨es, _, hal, _, _, _⟩ := hx
  intro s hs a ha
  obtain ⟨i, hi⟩ := List.mem_iff_getElem?.1 hs
  have hil := (List.getElem?_eq_some_iff.1 hi).1
  obtain ⟨e, s', _, h2, h3⟩ := all2_at hal hil
  rw [hi] at h2
  obtain rfl := Option.some.inj h2
  obtain ⟨fs, _, hfl, _, _, _⟩ := h3
  obtain ⟨j, hj⟩ := List.mem_iff_getElem?.1 ha
  obtain ⟨e2, a', _, g2, g3⟩ := all2_at hfl (List.getElem?_eq_some_iff.1 hj).1
  rw [hj] at g2
  obtain rfl := Option.some.inj g2
  exact g3.2

section
variable {h : Heap} {n : Nat} {K : AV → Heap → Nat → Prop}

/-- The result of a merge, at the end. -/
theorem merge_done {n0 m n' i7 it ix : Nat} {h' h'' : Heap} {A B : AV} {s : MergeS} {l : List (List ActD)} {i : Nat} (hI : MInv n0 m h h' n' i7 it ix A B s) (ho : MOk l i s) (hi : i ≤ 80) (hlt : ∀ id b, h id = some b → id < n0) (hm : n0 ≤ m)
    (hs : ∀ id, id < n0 ∨ m ≤ id → h'' id = h' id) (hk : ∀ r h' n', OwnRes MResR h n0 r ⟨0, s.acts, s.by_⟩ h' n' → K r h' n') : ∃ r2 h2 n2, Conv n0 h (.agg [.int .i64 0, A, B]) h'' n' r2 h2 n2 ∧ K r2 h2 n2 := by
  have hla := ho.la
  have hlb := ho.lb
  have hle := hI.le
  obtain ⟨A', I, tA, fA, iA⟩ := (hI.oA).tree (fun e he => by
    obtain ⟨a, _, rfl⟩ := List.mem_map.1 he
    have hp : ∀ u, u ∈ [AV.int .i64 a.kind, .int .i64 a.txn, .int .i64 a.key, .int .i64 a.value] → u.plain = true := by
      intro u hu; simp at hu; rcases hu with rfl | rfl | rfl | rfl <;> rfl
    have ht : Tree Heap.emp (actAV a) (actAV a) [] := Tree.ofPlain hp
    exact ⟨.agg _ fun i u hu => (plain_lt (hp u (List.mem_of_getElem? hu))).1, ht.noRo⟩)
  obtain ⟨B', J, tB, fB, iB⟩ := (hI.oB).tree (fun e he => by
    obtain ⟨a, _, rfl⟩ := List.mem_map.1 he
    exact plain_lt rfl)
  let g : Heap := fun id => if id < n0 ∨ id ∈ I ++ J then h'' id else none
  have hgI : ∀ id, id ∈ I ++ J → g id = h' id := fun id hid => by
    simp only [g]
    rw [if_pos (.inr hid)]
    refine hs id (.inr ?_)
    rcases List.mem_append.1 hid with hq | hq
    · exact (iA id hq).1
    · exact (iB id hq).1
  refine ⟨_, g, n', .keep _ _ _ _ (fun id b hb => ?_), hk _ _ _ ⟨⟨.agg [.int .i64 0, A', B'], I ++ J, ?_, ⟨A', B', rfl, ?_, ?_⟩, fun id hid => ?_, fun id hid hni => ?_⟩, fun id hid => ?_, by omega⟩⟩
  · simp only [g] at hb
    split at hb
    · exact hb
    · cases hb
  · refine .agg _ _ _ ?_
    have h1 := TreeL.one (tB.keep (g := g) fun id hid => hgI id (List.mem_append_right _ hid))
    have h2 := TreeL.cons A A' [B] [B'] I J (tA.keep (g := g) fun id hid => hgI id (List.mem_append_left _ hid)) h1 (fun k hk hk2 => hI.AB k (iA k hk).2.2 (iB k hk2).2.2)
    have h3 := TreeL.cons (.int .i64 0) (.int .i64 0) [A, B] [A', B'] [] (I ++ J) (Tree.ofPlain1 rfl) h2 (fun k hk => by cases hk)
    exact h3
  · exact slr_of fA (by show s.acts.length ≤ maxLen; unfold maxLen; omega) (fun a ha => ⟨rfl, ho.oa a ha⟩) tyAct_81.lt
  · exact slr_of fB (by show s.by_.length ≤ maxLen; unfold maxLen; omega) (fun a ha => ⟨rfl, ho.ob a ha⟩) tyInt_2.lt
  · rcases List.mem_append.1 hid with hq | hq
    · have := iA id hq; omega
    · have := iB id hq; omega
  · simp only [g]
    rw [if_neg]
    rintro (hq | hq)
    · omega
    · exact hni hq
  · simp only [g]
    rw [if_pos (.inl hid), hs id (.inl hid)]
    exact hI.bel id hid

/-- Both rows grown by one. -/
theorem MInv.two {n0 m n' n1 i7 it ix lA lB : Nat} {h h' h1 h2 h3 : Heap} {A B rowX : AV} {s s' : MergeS} {a : ActD} {w : Int} (hI : MInv n0 m h h' n' i7 it ix A B s) (g7 : n0 ≤ i7 ∧ i7 < m) (gt : it < m ∧ it ≠ i7) (gx : ix < m ∧ ix ≠ i7) (hm : n0 ≤ m) (hn : n' ≤ n1)
    (k1 : ∀ id, m ≤ id → id < n' → h1 id = h' id) (o2 : OwnR h2 m (n1 + 2) 4 (.sl 4 (n1 + 1) 0 lA lA false) (s.acts.map actAV ++ [actAV a])) (s2 : ∀ id, id < m → h2 id = h1 id) (u2 : ∀ id, id < n1 → ¬ A.idIs id → h2 id = h1 id)
    (o3 : OwnR h3 m (n1 + 4) 1 (.sl 1 (n1 + 3) 0 lB lB false) (s.by_.map intAV ++ [intAV w])) (s3 : ∀ id, id < m → h3 id = (h2.upd i7 [rowX]) id) (u3 : ∀ id, id < n1 + 2 → ¬ B.idIs id → h3 id = (h2.upd i7 [rowX]) id)
    (ht : h1 it = some (s'.txns.map intAV)) (hx : h1 ix = some (s'.nexts.map natAV)) (hb : ∀ id, id < n0 → h1 id = h id) (ha : s'.acts = s.acts ++ [a]) (hw : s'.by_ = s.by_ ++ [w]) :
    MInv n0 m h (h3.upd i7 [.agg [.int .i64 0, .sl 4 (n1 + 1) 0 lA lA false, .sl 1 (n1 + 3) 0 lB lB false]]) (n1 + 4) i7 it ix (.sl 4 (n1 + 1) 0 lA lA false) (.sl 1 (n1 + 3) 0 lB lB false) s' := by
  have hle := hI.le
  have st : ∀ id, id < m → id ≠ i7 → (h3.upd i7 [.agg [.int .i64 0, .sl 4 (n1 + 1) 0 lA lA false, .sl 1 (n1 + 3) 0 lB lB false]]) id = h1 id := fun id h1 h2 => by
    rw [Heap.upd_ne _ _ h2, s3 id h1, Heap.upd_ne _ _ h2, s2 id h1]
  refine ⟨Heap.upd_same _ _ _, by rw [st it gt.1 gt.2]; exact ht, by rw [st ix gx.1 gx.2]; exact hx, ?_, ?_, ?_, fun id hid => ?_, by omega⟩
  · rw [ha, List.map_append]
    refine (o2.keep (by omega) fun k hk => ?_).low g7.2
    have hk' : n1 + 1 = k := hk
    rw [u3 k (by omega) (fun hq => by have := hI.oB.id_lt hq; omega), Heap.upd_ne _ _ (by omega)]
  · rw [hw, List.map_append]
    exact o3.low g7.2
  · intro k hk hq
    have hk' : n1 + 1 = k := hk
    have hq' : n1 + 3 = k := hq
    omega
  · rw [st id (by omega) (by omega)]; exact hb id hid

theorem c21 {x y : AV} {l : List (List ActD)} {who : List Int} (hx : ActSSR x l) (hy : IntsR y who) (hk : ∀ r h' n', OwnRes MResR h n r (mergeF l who) h' n' → K r h' n') : CA Try.prog 21 [x, y] h n K := by
  have hx0 := hx
  have hy0 := hy
  obtain ⟨es, hes, hal, hml, _, _⟩ := hx
  obtain ⟨ws, hws, hwl, hml2, _, _⟩ := hy
  have hel := all2_length hal
  have hwlen := all2_length hwl
  unfold maxLen at hml hml2
  refine CA.conv (CA.enter (N := 104) (rs := [.cell 4 40]) hT Try.call21 Try.func21 rfl rfl (by simp) rfl fun hlt => ?_)
  refine WP.seq_k fun K1 hK1 => WP.region hT rfl ?_
  simp only [↓opsA, ↓stepA, ↓callA, ↓e_alloc, ↓thenA, Nat.pos_of_neZero, true_and, T_40]
  refine hK1 _ _ _ ?_
  clear hK1 K1
  refine WP.seq_k fun K1 hK1 => ?_
  refine WP.seq_k fun K2 hK2 => WP.region hT rfl ?_
  simp only [↓opsA, ↓stepA, ↓callA, List.map_cons, List.map_nil, ev, Env.get_put_some, Env.get_envOf, ↓e_move, ↓e_assign, ↓thenA, reduceIte, Nat.reduceEqDiff, List.getElem?_cons_zero, List.getElem?_cons_succ, Option.getD_some, List.append_nil, ↓reduceIte]
  refine c57 hx0 hy0 (hK2 _ _ _ ?_)
  clear hK2 K2
  refine WP.seq_k fun K1 hK1 => WP.region hT rfl ?_
  simp only [↓opsA, ↓stepA, ↓callA, ev, Env.get_put_some, ↓e_move, ↓e_binOp, b_neq, ofVal, ↓thenA, reduceIte, ↓reduceIte]
  refine hK1 _ _ _ ?_
  clear hK1 K1
  refine WP.cond (by simp only [ev, Env.get_put_some, ↓reduceIte]; rfl) (fun hc0 => ?_) (fun hc0 => ?_)
  · refine WP.seq_k fun K1 hK1 => WP.region hT rfl ?_
    simp only [↓opsA, ↓stepA, ↓callA, ev, Env.get_put_some, Env.put_none, ↓e_move, ↓e_store, ↓e_build, setPart_agg, ↓thenA, Heap.upd_get, Heap.upd_upd, Nat.pos_of_neZero, good_int, good_agg, AV.cells_int, AV.cells_agg, reduceIte, Nat.reduceEqDiff, Nat.reduceLeDiff, Nat.reduceAdd, true_and, List.getElem?_cons_zero, List.length_cons, List.length_nil, List.set_cons_zero, Nat.zero_add, Nat.add_zero, List.drop_zero, List.take_zero, List.drop_succ_cons, List.drop_nil, List.cons_append, List.nil_append, List.append_nil, decide_true, Nat.lt_add_one, ↓reduceIte, Nat.le_refl, T_2, T_38, T_37, T_40, buildP_cons, buildP_nil, List.all_cons, List.all_nil, Bool.and_true]
    refine hK1 _ _ _ ?_
    clear hK1 K1
    refine WP.ret ?_
    simp only [↓thenA]
    refine ret_cell (sz := 3) (id := n) rfl (Heap.upd_same _ _ _) rfl rfl ?_
    have hmF : mergeF l who = ⟨askedF l who, [], []⟩ := by unfold mergeF; rw [if_pos (by simpa using hc0)]
    rw [hmF] at hk
    refine ret_own_atom hlt (fun id hid => Heap.upd_ne _ _ (by omega)) (by omega) ⟨.nils, .nils, rfl, ⟨[], rfl, .nil, Nat.zero_le _, fun _ => .nils, rfl⟩, ⟨[], rfl, .nil, Nat.zero_le _, fun _ => .nils, rfl⟩⟩ ?_ ?_ hk
    · rw [lt_agg]; intro u hu; simp at hu; rcases hu with rfl | rfl <;> constructor
    · refine .agg _ fun i u hu => ?_
      have := List.mem_of_getElem? hu
      simp at this; rcases this with rfl | rfl <;> constructor
  refine WP.skip (hK1 _ _ _ ?_)
  clear hK1 K1
  have ha0 : askedF l who = 0 := by simpa using hc0
  obtain ⟨h80, hl1, hl5, hwho⟩ := asked_who ha0
  have hmF : mergeF l who = ⟨0, (who.foldl (mergeStep l) (merge0 l)).acts, (who.foldl (mergeStep l) (merge0 l)).by_⟩ := by unfold mergeF; rw [if_neg (by simp [ha0])]
  rw [hmF] at hk
  refine WP.seq_k fun K1 hK1 => WP.region hT rfl ?_
  simp only [↓opsA, ↓stepA, ↓callA, ev, Env.get_put_some, Env.put_none, ↓e_alloc, ↓e_store, ↓e_build, setPart_agg, ↓thenA, Heap.upd_get, Heap.upd_upd, Nat.pos_of_neZero, good_agg, AV.cells_agg, reduceIte, Nat.reduceEqDiff, Nat.reduceAdd, Nat.add_assoc, true_and, List.getElem?_cons_zero, List.length_cons, List.length_nil, List.set_cons_zero, Nat.zero_add, Nat.add_zero, List.take_zero, List.drop_succ_cons, List.drop_nil, List.nil_append, List.append_nil, decide_true, Nat.lt_add_one, ↓reduceIte, Nat.le_refl, T_2, T_38, T_37, T_40, buildP_nil, List.all_cons, List.all_nil, Bool.and_true]
  refine hK1 _ _ _ ?_
  clear hK1 K1
  refine WP.seq_k fun K1 hK1 => WP.region hT rfl ?_
  simp only [↓opsA, ↓stepA, ↓e_len1, ↓callA, Int.toNat_natCast, ev, Env.get_put_some, Env.get_envOf, ↓e_move, ↓e_assign, ↓e_makeSlice, ↓thenA, reduceIte, Nat.reduceEqDiff, Nat.reduceAdd, Nat.add_assoc, true_and, List.getElem?_cons_zero, Option.getD_some, Nat.lt_add_one, ↓reduceIte, T_2, T_31, T_38, T_37, rdSl_emp hes]
  refine ⟨by omega, by omega, by omega, by omega, hK1 _ _ _ ?_⟩
  clear hK1 K1
  refine WP.seq_k fun K1 hK1 => WP.region hT rfl ?_
  simp only [↓opsA, ↓stepA, ↓e_len1, ↓callA, Int.toNat_natCast, ev, Env.get_put_some, Env.get_envOf, ↓e_move, ↓e_assign, ↓e_makeSlice, ↓thenA, reduceIte, Nat.reduceEqDiff, Nat.reduceAdd, Nat.add_assoc, true_and, List.getElem?_cons_zero, Option.getD_some, Nat.lt_add_one, ↓reduceIte, T_3, T_31, T_38, T_89, rdSl_emp hes]
  refine ⟨by omega, by omega, by omega, by omega, hK1 _ _ _ ?_⟩
  clear hK1 K1
  refine WP.seq_k fun K1 hK1 => WP.region hT rfl ?_
  simp only [↓opsA, ↓stepA, ↓callA, ev, ↓e_assign, ofVal, ↓thenA]
  refine hK1 _ _ _ ?_
  clear hK1 K1
  refine WP.seq_k fun K1 hK1 => ?_
  refine WP.seq_k fun K1 hK1 => WP.region hT rfl ?_
  simp only [↓opsA, ↓stepA, ↓callA, ev, ↓e_assign, ofVal, ↓thenA]
  refine hK1 _ _ _ ?_
  clear hK1 K1
  refine WP.block (WP.loop (fun mm E h' n' => ∃ i A B, mm = who.length - i ∧ i ≤ who.length ∧ MOk l i ((who.take i).foldl (mergeStep l) (merge0 l)) ∧ MInv n (n + 4) h h' n' (n + 1) (n + 2) (n + 3) A B ((who.take i).foldl (mergeStep l) (merge0 l)) ∧ h' n = some [.agg [.int .i64 0, .nils, .nils]] ∧
    E.get 0 = x ∧ E.get 1 = y ∧ E.get 4 = .ep 3 (.sl 3 n 0 1 1 true) 0 0 ∧ E.get 6 = .ep 3 (.sl 3 (n + 1) 0 1 1 true) 0 0 ∧ E.get 7 = .sl 1 (n + 2) 0 l.length l.length true ∧ E.get 8 = .sl 1 (n + 3) 0 l.length l.length true ∧ E.get 9 = .int .i64 ((who.take i).foldl (mergeStep l) (merge0 l)).nt ∧ E.get 10 = .int .i64 i) who.length ?_ ?_)
  · refine ⟨0, .nils, .nils, by omega, Nat.zero_le _, MOk.zero l, ⟨?_, ?_, ?_, .inl ⟨rfl, rfl⟩, .inl ⟨rfl, rfl⟩, fun _ h => h.elim, fun id hid => ?_, Nat.le_refl _⟩, ?_, rfl, rfl, rfl, rfl, ?_, ?_, rfl, rfl⟩
    · simp [Heap.upd_get]
    · simp [Heap.upd_get, merge0, hel, intAV]
    · simp [merge0, hel, natAV]
    · rw [Heap.upd_ne _ _ (by omega), Heap.upd_ne _ _ (by omega), Heap.upd_ne _ _ (by omega), Heap.upd_ne _ _ (by omega)]
    · simp [Heap.upd_get]
    · simp [Env.get, Env.put, hel]
    · simp [Env.get, Env.put, hel]
  rintro mm E h' n' ⟨i, A, B, rfl, hi, hok, hI, hcell, e0, e1, e4, e6, e7, e8, e9, e10⟩
  generalize hS : (who.take i).foldl (mergeStep l) (merge0 l) = s at *
  refine WP.seq_k fun K6 hK6 => ?_
  refine WP.seq_k fun K1 hK1 => WP.region hT rfl ?_
  simp only [↓opsA, ↓stepA, ↓e_len1, ↓callA, ev, Env.get_put_some, ↓e_move, ↓e_binOp, b_lss, ↓thenA, reduceIte, Nat.reduceEqDiff, ↓reduceIte, T_2, T_37, rdSl_emp hws, e1, e10]
  refine hK1 _ _ _ ?_
  clear hK1 K1
  refine WP.cond (by simp only [ev, Env.get_put_some, ↓reduceIte]; rfl) (fun hc2 => ?_) (fun hc2 => ?_)
  · have hil : i < who.length := by simp at hc2; omega
    obtain ⟨b, w, hb, hw, hR2⟩ := all2_at hwl hil
    obtain ⟨rfl, hwok⟩ := hR2
    have hwr := hwho w (List.mem_of_getElem? hw)
    have hla := hok.la
    have hlb := hok.lb
    have hwlt : w.toNat < s.txns.length := by rw [hok.lt]; omega
    have hwln : w.toNat < s.nexts.length := by rw [hok.ln]; omega
    have hnext : (who.take (i + 1)).foldl (mergeStep l) (merge0 l) = mergeStep l s w := by
      rw [List.take_add_one, hw, List.foldl_append, hS]; rfl
    refine WP.skip (hK6 _ _ _ ?_)
    clear hK6 K6
    refine WP.seq_k fun K10 hK10 => WP.block (WP.seq_k fun K11 hK11 => WP.region hT rfl ?_)
    simp only [↓opsA, ↓stepA, ↓callA, Int.toNat_natCast, ev, Env.get_put_some, ↓e_move, ↓e_assign, ↓e_load, ↓e_indexAddr, ↓thenA, AV.cells_int, reduceIte, Nat.reduceEqDiff, true_and, List.getElem?_cons_zero, Nat.lt_add_one, ↓reduceIte, T_2, T_37, rdSl_emp hws, e1, e10, hb, cellOk, pt_2]
    refine ⟨by omega, by omega, hK11 _ _ _ ?_⟩
    clear hK11 K11
    have hdt : (List.map intAV s.txns)[w.toNat]? = some (.int .i64 (s.txns.getD w.toNat 0)) := by
      rw [List.getElem?_map, List.getD_eq_getElem?_getD, List.getElem?_eq_getElem hwlt]; rfl
    have htk : List.take l.length (List.map intAV s.txns) = List.map intAV s.txns := List.take_of_length_le (by simp [hok.lt])
    have htl : l.length ≤ (List.map intAV s.txns).length := by simp [hok.lt]
    have hdn : (List.map natAV s.nexts)[w.toNat]? = some (.int .i64 (s.nexts.getD w.toNat 0 : Nat)) := by
      rw [List.getElem?_map, List.getD_eq_getElem?_getD, List.getElem?_eq_getElem hwln]; rfl
    have hnk : List.take l.length (List.map natAV s.nexts) = List.map natAV s.nexts := List.take_of_length_le (by simp [hok.ln])
    have hnl : l.length ≤ (List.map natAV s.nexts).length := by simp [hok.ln]
    refine WP.seq_k fun K11 hK11 => ?_
    refine WP.seq_k fun K1 hK1 => WP.region hT rfl ?_
    simp only [↓opsA, ↓stepA, ↓callA, ev, Env.get_put_some, ↓e_move, ↓e_binOp, ↓e_load, ↓e_indexAddr, b_eql, rdSl_sl, ofVal, ↓thenA, AV.cells_int, reduceIte, Nat.reduceEqDiff, true_and, List.getElem?_cons_zero, Nat.zero_add, List.drop_zero, Nat.lt_add_one, ↓reduceIte, T_2, T_37, e7, hI.rt, hdt, htk, pt_2, cellOk, eq_true htl]
    refine ⟨by omega, by simp [hok.lt]; omega, hK1 _ _ _ ?_⟩
    clear hK1 K1
    refine WP.cond (by simp only [ev, Env.get_put_some, ↓reduceIte]; rfl) (fun hc3 => ?_) (fun hc3 => ?_)
    · have h0 : s.txns.getD w.toNat 0 = 0 := by simpa using hc3
      have hstep : mergeStep l s w = ⟨s.txns.set w.toNat s.nt, s.nexts, s.nt + 1, s.acts ++ [beginAct], s.by_ ++ [w]⟩ := by unfold mergeStep; rw [if_pos h0]
      refine WP.seq_k fun K1 hK1 => WP.region hT rfl ?_
      simp only [↓opsA, ↓stepA, ↓callA, ev, Env.get_put_some, Env.put_none, ↓e_move, ↓e_store, ↓e_indexAddr, rdSl_sl, setPart_int, ↓thenA, good_int, AV.cells_int, reduceIte, Nat.reduceEqDiff, true_and, List.length_cons, List.length_nil, Nat.zero_add, List.drop_zero, Nat.lt_add_one, ↓reduceIte, Nat.le_refl, T_2, T_37, e7, e9, hI.rt, hdt, htk, eq_true htl]
      refine ⟨by omega, by simp [hok.lt]; omega, hK1 _ _ _ ?_⟩
      clear hK1 K1
      refine WP.seq_k fun K1 hK1 => WP.region hT rfl ?_
      simp only [↓opsA, ↓stepA, ↓callA, ev, Env.get_put_some, ↓e_move, ↓e_assign, ↓e_binOp, b_add, ofVal, ↓thenA, reduceIte, Nat.reduceEqDiff, ↓reduceIte, e9]
      refine hK1 _ _ _ ?_
      clear hK1 K1
      refine WP.seq_k fun K1 hK1 => WP.region hT rfl ?_
      simp only [↓opsA, ↓stepA, ↓e_append1, ↓callA, ev, Env.get_put_some, Env.put_none, ↓e_load, ↓e_store, ↓e_fieldAddr, ↓e_build, rdSl_sl, ofVal, ↓thenA, Heap.upd_get, Nat.pos_of_neZero, good_int, good_agg, AV.cells_int, AV.cells_agg, reduceIte, Nat.reduceEqDiff, Nat.reduceLeDiff, Nat.reduceAdd, true_and, List.getElem?_cons_zero, List.getElem?_cons_succ, List.length_cons, List.length_nil, Nat.zero_add, Nat.add_zero, List.drop_zero, List.take_succ_cons, List.take_zero, List.drop_succ_cons, List.cons_append, List.nil_append, decide_true, Nat.lt_add_one, ↓reduceIte, Nat.le_refl, Nat.add_left_cancel_iff, T_81, T_2, T_38, T_40, hI.r7, e6, e_bs1, buildP_cons, buildP_nil, List.all_cons, List.all_nil, Bool.and_true, pt_38, cellOk]
      refine ⟨81, rfl, OwnR.push (n0 := n + 4) rfl (by decide) (hI.oA.low (by omega)) (by simp [T_81]; omega) (by simp; omega) hI.le fun h2 o2 s2 u2 => ?_⟩
      have q7 : h2 (n + 1) = some [.agg [.int .i64 0, A, B]] := by rw [s2 _ (by omega), Heap.upd_ne _ _ (by omega)]; exact hI.r7
      simp only [setPart_agg, good_sl, AV.cells_sl, AV.cells_agg, Nat.reduceLeDiff, Nat.reduceAdd, true_and, List.getElem?_cons_zero, List.length_cons, List.length_nil, List.set_cons_zero, Nat.zero_add, List.drop_zero, List.take_succ_cons, List.take_zero, List.drop_succ_cons, List.cons_append, List.nil_append, T_81, q7]
      refine hK1 _ _ _ ?_
      clear hK1 K1
      have oB2 : OwnR (h2.upd (n + 1) [.agg [.int .i64 0, .sl 4 (n' + 1) 0 ((s.acts.map actAV).length + 1) ((s.acts.map actAV).length + 1) false, B]]) (n + 4) (n' + 2) 1 B (s.by_.map intAV) :=
        (hI.oB.keep (by omega) fun k hk => by
          have hkl := hI.oB.id_lt hk
          rw [u2 k (by omega) (fun hq => hI.AB k hq hk), Heap.upd_ne _ _ (by omega)]).low (by omega)
      refine WP.seq_k fun K1 hK1 => WP.region hT rfl ?_
      simp only [↓opsA, ↓stepA, ↓e_append1, ↓callA, ev, Env.get_put_some, Env.put_none, ↓e_move, ↓e_load, ↓e_store, ↓e_fieldAddr, rdSl_sl, ↓thenA, Heap.upd_get, good_int, AV.cells_int, AV.cells_agg, reduceIte, Nat.reduceEqDiff, Nat.reduceLeDiff, Nat.reduceAdd, Nat.add_assoc, true_and, List.getElem?_cons_zero, List.getElem?_cons_succ, List.length_cons, List.length_nil, Nat.zero_add, Nat.add_zero, List.drop_zero, List.take_succ_cons, List.take_zero, Nat.lt_add_one, ↓reduceIte, Nat.le_refl, T_2, T_37, T_40, e6, e_bs1, pt_37, cellOk]
      refine ⟨2, rfl, OwnR.push (n0 := n + 4) rfl (by decide) oB2 (by simp [T_2]; omega) (by simp; omega) (by have := hI.le; omega) fun h3 o3 s3 u3 => ?_⟩
      have q7' : h3 (n + 1) = some [.agg [.int .i64 0, .sl 4 (n' + 1) 0 ((s.acts.map actAV).length + 1) ((s.acts.map actAV).length + 1) false, B]] := by rw [s3 _ (by omega), Heap.upd_same]
      simp only [setPart_agg, good_sl, AV.cells_sl, AV.cells_agg, Nat.reduceAdd, Nat.add_assoc, true_and, List.getElem?_cons_zero, List.length_cons, List.length_nil, List.set_cons_zero, Nat.zero_add, List.take_succ_cons, List.take_zero, List.drop_succ_cons, List.drop_nil, List.cons_append, List.nil_append, List.append_nil, Nat.le_refl, T_2, q7']
      refine hK1 _ _ _ ?_
      clear hK1 K1
      refine WP.exit ?_
      simp only [↓thenA, ↓blockA, reduceIte, ↓reduceIte]
      refine hK10 _ _ _ ?_
      clear hK11 K11 hK10 K10
      refine WP.region hT rfl ?_
      simp only [↓opsA, ↓stepA, ↓callA, ev, Env.get_put_some, ↓e_move, ↓e_assign, ↓e_binOp, b_add, ofVal, ↓thenA, Heap.upd_get, reduceIte, Nat.reduceEqDiff, Nat.left_eq_add, Nat.one_ne_zero, ↓reduceIte, e10]
      have hle := hI.le
      have hcell3 : h3 n = some [.agg [.int .i64 0, .nils, .nils]] := by rw [s3 _ (by omega), Heap.upd_ne _ _ (by omega), s2 _ (by omega), Heap.upd_ne _ _ (by omega)]; exact hcell
      refine ⟨who.length - (i + 1), by omega, i + 1, .sl 4 (n' + 1) 0 ((s.acts.map actAV).length + 1) ((s.acts.map actAV).length + 1) false, .sl 1 (n' + 3) 0 ((s.by_.map intAV).length + 1) ((s.by_.map intAV).length + 1) false, rfl, hil, by rw [hnext]; exact hok.step (by omega) hwr hl5 (acts_ok hx0), ?_, ?_, ?_, ?_, ?_, ?_, ?_, ?_, ?_, ?_⟩
      · rw [hnext, hstep]
        exact hI.two (h1 := h'.upd (n + 2) ((s.txns.map intAV).set w.toNat (.int .i64 s.nt))) (a := beginAct) (w := w) ⟨by omega, by omega⟩ ⟨by omega, by omega⟩ ⟨by omega, by omega⟩ (by omega) (Nat.le_refl _) (fun id h1 h2 => Heap.upd_ne _ _ (by omega)) o2 s2 u2 o3 s3 u3
          (by rw [Heap.upd_same]; simp [intAV, List.map_set]) (by rw [Heap.upd_ne _ _ (by omega)]; exact hI.rx) (fun id hid => by rw [Heap.upd_ne _ _ (by omega)]; exact hI.bel id hid) rfl rfl
      · exact hcell3
      · simpa [Env.get, Env.put] using e0
      · simpa [Env.get, Env.put] using e1
      · simpa [Env.get, Env.put] using e4
      · simpa [Env.get, Env.put] using e6
      · simpa [Env.get, Env.put] using e7
      · simpa [Env.get, Env.put] using e8
      · rw [hnext, hstep]
        have := hok.n2
        have := hok.ni
        rw [wrap_in (by omega) (by omega)]
      · rw [wrap_in (by omega) (by omega)]
        rfl
    · have h0 : s.txns.getD w.toNat 0 ≠ 0 := by simpa using hc3
      refine WP.skip (hK11 _ _ _ ?_)
      clear hK11 K11
      obtain ⟨sv, sl, hsv, hsl, hSl⟩ := all2_at hal (i := w.toNat) (by omega)
      have hgl : l.getD w.toNat [] = sl := getD_of hsl
      have hps := tyActs_38.part sv sl hSl
      obtain ⟨fs, hfs, hfl, hfml, _, _⟩ := hSl
      have hfsl := all2_length hfl
      unfold maxLen at hfml
      refine WP.seq_k fun K11 hK11 => WP.drawL hT hM [(0, 0), (1, 0), (2, 1), (3, 1), (4, 0), (5, 0), (6, 0), (7, 0), (8, 0), (9, 0)] [] h' (by kernel_rfl) rfl (Heap.Sub.refl _) fun _ => ?_
      simp only [↓planL, ↓stepA, ↓e_len1, ↓callA, ev, Env.get_put_some, ↓e_move, ↓e_binOp, ↓e_load, ↓e_indexAddr, b_lss, rdSl_sl, ↓thenA, AV.cells_int, reduceIte, Nat.reduceEqDiff, true_and, List.getElem?_cons_zero, List.getElem?_cons_succ, Nat.zero_add, List.drop_zero, Nat.lt_add_one, ↓reduceIte, T_81, T_3, T_31, T_38, T_89, e0, e8, hI.rx, hdn, hnk, pt_3, cellOk, eq_true hnl, rdSl_emp hes, hsv, hps, rdSl_emp hfs]
      refine ⟨by omega, by simp [hok.ln]; omega, by omega, by omega, hK11 _ _ _ ?_⟩
      clear hK11 K11
      refine WP.cond (by simp only [ev, Env.get_put_some, ↓reduceIte]; rfl) (fun hc4 => ?_) (fun hc4 => ?_)
      · have hkl : s.nexts.getD w.toNat 0 < sl.length := by simp at hc4; simpa using (by omega : s.nexts[w.toNat]?.getD 0 < sl.length)
        obtain ⟨av, a, hav, hac, haR, haok⟩ := all2_at hfl hkl
        subst haR
        have hstep : mergeStep l s w = ⟨s.txns, s.nexts.set w.toNat (s.nexts.getD w.toNat 0 + 1), s.nt, s.acts ++ [⟨a.kind, s.txns.getD w.toNat 0, a.key, a.value⟩], s.by_ ++ [w]⟩ := by
          unfold mergeStep; rw [if_neg h0, hgl, hac]
        refine WP.seq_k fun K1 hK1 => WP.drawL hT hM [(0, 0), (1, 0), (2, 0), (3, 0), (4, 0), (5, 0), (6, 1), (7, 1), (8, 0), (9, 0), (10, 2), (11, 2)] [] h' (by kernel_rfl) rfl (Heap.Sub.refl _) fun hlt' => ?_
        simp only [↓planL, List.contains_nil, Bool.or_false, ↓stepA, ↓callA, Int.toNat_natCast, ev, Env.get_put_some, Env.put_none, ↓e_move, ↓e_alloc, ↓e_load, ↓e_store, ↓e_indexAddr, rdSl_sl, setPart_agg, ↓thenA, Heap.upd_get, Heap.upd_upd, Nat.pos_of_neZero, good_agg, AV.cells_int, AV.cells_agg, reduceIte, Nat.reduceEqDiff, Nat.reduceAdd, true_and, List.getElem?_cons_zero, List.getElem?_cons_succ, List.length_cons, List.length_nil, List.set_cons_zero, Nat.zero_add, Nat.add_zero, List.drop_zero, List.take_succ_cons, List.take_zero, List.drop_succ_cons, List.drop_nil, List.nil_append, List.append_nil, decide_true, Nat.lt_add_one, ↓reduceIte, Nat.le_refl, T_81, T_3, T_31, T_38, T_89, e0, e8, hI.rx, hdn, hnk, pt_3, cellOk, eq_true hnl, rdSl_emp hes, hsv, hps, rdSl_emp hfs, hav, pt_81, List.contains_nil]
        have hle := hI.le
        have f1 : (n + 1 = n') = False := eq_false (by omega)
        have f2 : (n + 2 = n') = False := eq_false (by omega)
        have f3 : (n + 3 = n') = False := eq_false (by omega)
        have f3' : (n' = n + 3) = False := eq_false (by omega)
        refine ⟨by omega, by omega, by omega, by simp [hok.ln]; omega, by omega, by omega, Heap.Sub.fresh hlt', Heap.Sub.fresh hlt', hK1 _ _ _ ?_⟩
        clear hK1 K1
        refine WP.seq_k fun K1 hK1 => WP.region hT rfl ?_
        simp only [↓opsA, ↓stepA, ↓callA, ev, Env.get_put_some, Env.put_none, ↓e_move, ↓e_load, ↓e_store, ↓e_fieldAddr, ↓e_indexAddr, rdSl_sl, setPart_agg, ↓thenA, Heap.upd_get, Heap.upd_upd, good_int, AV.cells_int, AV.cells_agg, reduceIte, Nat.reduceEqDiff, Nat.reduceLeDiff, Nat.reduceAdd, true_and, List.getElem?_cons_zero, List.getElem?_cons_succ, List.length_cons, List.length_nil, List.set_cons_zero, Nat.zero_add, Nat.add_zero, List.drop_zero, List.take_succ_cons, List.take_zero, List.drop_succ_cons, List.cons_append, List.nil_append, Nat.lt_add_one, ↓reduceIte, T_81, T_2, T_37, e7, hI.rt, hdt, htk, pt_2, cellOk, eq_true htl, f2]
        refine ⟨by omega, by simp [hok.lt]; omega, hK1 _ _ _ ?_⟩
        clear hK1 K1
        refine WP.seq_k fun K1 hK1 => WP.region hT rfl ?_
        simp only [↓opsA, ↓stepA, ↓callA, ev, Env.get_put_some, Env.put_none, ↓e_move, ↓e_binOp, ↓e_load, ↓e_store, ↓e_indexAddr, b_add, rdSl_sl, setPart_int, ofVal, ↓thenA, Heap.upd_get, good_int, AV.cells_int, reduceIte, Nat.reduceEqDiff, true_and, List.getElem?_cons_zero, List.length_cons, List.length_nil, Nat.zero_add, List.drop_zero, Nat.lt_add_one, ↓reduceIte, Nat.le_refl, T_3, T_89, e8, hI.rx, hdn, hnk, pt_3, cellOk, eq_true hnl, f3]
        refine ⟨by omega, by simp [hok.ln]; omega, by omega, by simp [hok.ln]; omega, hK1 _ _ _ ?_⟩
        clear hK1 K1
        refine WP.seq_k fun K1 hK1 => WP.region hT rfl ?_
        simp only [↓opsA, ↓stepA, ↓e_append1, ↓callA, ev, Env.get_put_some, Env.put_none, ↓e_load, ↓e_store, ↓e_fieldAddr, rdSl_sl, ↓thenA, Heap.upd_get, Nat.pos_of_neZero, good_agg, AV.cells_agg, reduceIte, Nat.reduceEqDiff, Nat.reduceLeDiff, Nat.reduceAdd, Nat.add_assoc, true_and, List.getElem?_cons_zero, List.getElem?_cons_succ, List.length_cons, List.length_nil, Nat.zero_add, Nat.add_zero, List.drop_zero, List.take_succ_cons, List.take_zero, decide_true, Nat.lt_add_one, ↓reduceIte, Nat.le_refl, Nat.add_left_cancel_iff, T_81, T_38, T_40, hI.r7, e6, e_bs1, pt_38, pt_81, cellOk, f1, f3']
        refine ⟨81, rfl, OwnR.push (n0 := n + 4) rfl (by decide) (hI.oA.keep (by omega) fun k hk => ?_) (by simp [T_81]; omega) (by simp; omega) (by omega) fun h2 o2 s2 u2 => ?_⟩
        · have := hI.oA.id_lt hk
          rw [Heap.upd_ne _ _ (by omega), Heap.upd_ne _ _ (by omega)]
        have q7 : h2 (n + 1) = some [.agg [.int .i64 0, A, B]] := by rw [s2 _ (by omega), Heap.upd_ne _ _ (by omega), Heap.upd_ne _ _ (by omega)]; exact hI.r7
        simp only [setPart_agg, good_sl, AV.cells_sl, AV.cells_agg, Nat.reduceLeDiff, Nat.reduceAdd, Nat.add_assoc, true_and, List.getElem?_cons_zero, List.length_cons, List.length_nil, List.set_cons_zero, Nat.zero_add, List.drop_zero, List.take_succ_cons, List.take_zero, List.drop_succ_cons, List.cons_append, List.nil_append, T_81, q7]
        refine hK1 _ _ _ ?_
        clear hK1 K1
        have oB2 : OwnR (h2.upd (n + 1) [.agg [.int .i64 0, .sl 4 (n' + 2) 0 ((s.acts.map actAV).length + 1) ((s.acts.map actAV).length + 1) false, B]]) (n + 4) (n' + 3) 1 B (s.by_.map intAV) :=
          (hI.oB.keep (by omega) fun k hk => by
            have hkl := hI.oB.id_lt hk
            rw [u2 k (by omega) (fun hq => hI.AB k hq hk), Heap.upd_ne _ _ (by omega), Heap.upd_ne _ _ (by omega)]).low (by omega)
        refine WP.region hT rfl ?_
        simp only [↓opsA, ↓stepA, ↓e_append1, ↓callA, ev, Env.get_put_some, Env.put_none, ↓e_move, ↓e_load, ↓e_store, ↓e_fieldAddr, rdSl_sl, ↓thenA, ↓blockA, Heap.upd_get, good_int, AV.cells_int, AV.cells_agg, reduceIte, Nat.reduceEqDiff, Nat.reduceLeDiff, Nat.reduceAdd, Nat.add_assoc, true_and, List.getElem?_cons_zero, List.getElem?_cons_succ, List.length_cons, List.length_nil, Nat.zero_add, Nat.add_zero, List.drop_zero, List.take_succ_cons, List.take_zero, Nat.lt_add_one, ↓reduceIte, Nat.le_refl, T_2, T_37, T_40, e6, e_bs1, pt_37, cellOk]
        refine ⟨2, rfl, OwnR.push (n0 := n + 4) rfl (by decide) oB2 (by simp [T_2]; omega) (by simp; omega) (by omega) fun h3 o3 s3 u3 => ?_⟩
        have q7' : h3 (n + 1) = some [.agg [.int .i64 0, .sl 4 (n' + 2) 0 ((s.acts.map actAV).length + 1) ((s.acts.map actAV).length + 1) false, B]] := by rw [s3 _ (by omega), Heap.upd_same]
        simp only [setPart_agg, good_sl, AV.cells_sl, AV.cells_agg, Nat.reduceAdd, Nat.add_assoc, true_and, List.getElem?_cons_zero, List.length_cons, List.length_nil, List.set_cons_zero, Nat.zero_add, List.take_succ_cons, List.take_zero, List.drop_succ_cons, List.drop_nil, List.cons_append, List.nil_append, List.append_nil, Nat.le_refl, T_2, q7']
        refine hK10 _ _ _ ?_
        clear hK10 K10
        refine WP.region hT rfl ?_
        simp only [↓opsA, ↓stepA, ↓callA, ev, Env.get_put_some, ↓e_move, ↓e_assign, ↓e_binOp, b_add, ofVal, ↓thenA, Heap.upd_get, reduceIte, Nat.reduceEqDiff, Nat.left_eq_add, Nat.one_ne_zero, ↓reduceIte, e10]
        have hnx := hok.nx _ (getD_mem (d := 0) hwln)
        have hcell3 : h3 n = some [.agg [.int .i64 0, .nils, .nils]] := by rw [s3 _ (by omega), Heap.upd_ne _ _ (by omega), s2 _ (by omega), Heap.upd_ne _ _ (by omega), Heap.upd_ne _ _ (by omega)]; exact hcell
        refine ⟨who.length - (i + 1), by omega, i + 1, .sl 4 (n' + 2) 0 ((s.acts.map actAV).length + 1) ((s.acts.map actAV).length + 1) false, .sl 1 (n' + 4) 0 ((s.by_.map intAV).length + 1) ((s.by_.map intAV).length + 1) false, rfl, hil, by rw [hnext]; exact hok.step (by omega) hwr hl5 (acts_ok hx0), ?_, ?_, ?_, ?_, ?_, ?_, ?_, ?_, ?_, ?_⟩
        · rw [hnext, hstep]
          exact hI.two (n1 := n' + 1) (h1 := (h'.upd n' [actAV ⟨a.kind, s.txns.getD w.toNat 0, a.key, a.value⟩]).upd (n + 3) ((s.nexts.map natAV).set w.toNat (.int .i64 (IntKind.i64.wrap ((s.nexts.getD w.toNat 0 : Nat) + 1))))) (a := ⟨a.kind, s.txns.getD w.toNat 0, a.key, a.value⟩) (w := w) ⟨by omega, by omega⟩ ⟨by omega, by omega⟩ ⟨by omega, by omega⟩ (by omega) (by omega) (fun id h1 h2 => by rw [Heap.upd_ne _ _ (by omega), Heap.upd_ne _ _ (by omega)]) o2 s2 u2 o3 s3 u3
            (by rw [Heap.upd_ne _ _ (by omega), Heap.upd_ne _ _ (by omega)]; exact hI.rt) (by rw [Heap.upd_same, wrap_in (by omega) (by omega)]; simp [natAV, List.map_set]) (fun id hid => by rw [Heap.upd_ne _ _ (by omega), Heap.upd_ne _ _ (by omega)]; exact hI.bel id hid) rfl rfl
        · exact hcell3
        · simpa [Env.get, Env.put] using e0
        · simpa [Env.get, Env.put] using e1
        · simpa [Env.get, Env.put] using e4
        · simpa [Env.get, Env.put] using e6
        · simpa [Env.get, Env.put] using e7
        · simpa [Env.get, Env.put] using e8
        · rw [hnext, hstep]
          simpa [Env.get, Env.put] using e9
        · rw [wrap_in (by omega) (by omega)]
          rfl
      · have hstep : mergeStep l s w = s := by
          unfold mergeStep; rw [if_neg h0, hgl]
          rw [List.getElem?_eq_none (by simp at hc4; simpa using (by omega : sl.length ≤ s.nexts[w.toNat]?.getD 0))]
        refine WP.skip ?_
        simp only [↓thenA, ↓blockA]
        refine hK10 _ _ _ ?_
        clear hK10 K10
        refine WP.region hT rfl ?_
        simp only [↓opsA, ↓stepA, ↓callA, ev, Env.get_put_some, ↓e_move, ↓e_assign, ↓e_binOp, b_add, ofVal, ↓thenA, reduceIte, Nat.reduceEqDiff, ↓reduceIte, e10]
        refine ⟨who.length - (i + 1), by omega, i + 1, A, B, rfl, hil, by rw [hnext]; exact hok.step (by omega) hwr hl5 (acts_ok hx0), ?_, ?_, ?_, ?_, ?_, ?_, ?_, ?_, ?_, ?_⟩
        · rw [hnext, hstep]; exact hI
        · exact hcell
        · simpa [Env.get, Env.put] using e0
        · simpa [Env.get, Env.put] using e1
        · simpa [Env.get, Env.put] using e4
        · simpa [Env.get, Env.put] using e6
        · simpa [Env.get, Env.put] using e7
        · simpa [Env.get, Env.put] using e8
        · rw [hnext, hstep]
          simpa [Env.get, Env.put] using e9
        · rw [wrap_in (by omega) (by omega)]
          rfl
  · have hil : i = who.length := by simp at hc2; omega
    subst hil
    rw [List.take_of_length_le (Nat.le_refl _)] at hS
    subst hS
    refine WP.exit ?_
    simp only [↓thenA, ↓blockA, reduceIte, ↓reduceIte]
    refine hK1 _ _ _ ?_
    clear hK6 K6 hK1 K1
    have hle := hI.le
    refine WP.seq_k fun K1 hK1 => WP.region hT rfl ?_
    simp only [↓opsA, ↓stepA, ↓callA, ev, Env.get_put_some, Env.put_none, ↓e_load, ↓e_store, rdSl_sl, setPart_agg, ↓thenA, Nat.pos_of_neZero, good_agg, AV.cells_agg, reduceIte, Nat.reduceEqDiff, Nat.reduceAdd, true_and, List.getElem?_cons_zero, List.length_cons, List.length_nil, List.set_cons_zero, Nat.zero_add, Nat.add_zero, List.drop_zero, List.take_succ_cons, List.take_zero, List.drop_succ_cons, List.drop_nil, List.nil_append, List.append_nil, decide_true, ↓reduceIte, Nat.le_refl, T_40, e4, e6, hI.r7, hcell, pt_40, cellOk]
    refine hK1 _ _ _ ?_
    refine WP.ret ?_
    refine ret_cell (sz := 3) (id := n) e4 (Heap.upd_same _ _ _) rfl rfl ?_
    exact merge_done hI hok h80 hlt (by omega) (fun id hid => Heap.upd_ne _ _ (by omega)) hk

end
end Go.Proofs.Ytplkjfnjdekgpaa
