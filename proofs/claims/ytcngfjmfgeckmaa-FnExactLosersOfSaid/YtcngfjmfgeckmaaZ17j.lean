import Derived.ProofKit
import Derived.Deep.Slices
import Derived.Test.YtcngfjmfgeckmaaZ17i
set_option linter.unusedSimpArgs false
set_option linter.unusedVariables false
set_option linter.unusedSectionVars false
namespace Go.Proofs.Ytcngfjmfgeckmaa
open Go
section
variable {fu : Nat}
def txnsOf (l : List RecD) (k : Int) : List Int := (l.filter fun x => decide (x.kind = k)).map (·.txn)
theorem txnsOf_len (l : List RecD) (k : Int) : (txnsOf l k).length ≤ l.length := by unfold txnsOf; rw [List.length_map]; exact List.length_filter_le _ _
theorem txnsOf_take {l : List RecD} {i : Nat} {r : RecD} (k : Int) (hr : l[i]? = some r) : txnsOf (l.take (i + 1)) k = txnsOf (l.take i) k ++ (if r.kind = k then [r.txn] else []) := by
  unfold txnsOf
  rw [List.take_add_one, hr]
  by_cases h : r.kind = k <;> simp [List.filter_append, h]
def riseI : List Int → Int → List Int
  | [], v => [v]
  | a :: l, v => if a < v then a :: riseI l v else if a = v then a :: l else v :: a :: l
def rankI : List Int → Int → Nat
  | [], _ => 0
  | a :: l, v => if a < v then rankI l v + 1 else 0
theorem rankI_le (v : Int) : ∀ l : List Int, rankI l v ≤ l.length
  | [] => Nat.le_refl _
  | a :: l => by
    unfold rankI
    split
    · exact Nat.succ_le_succ (rankI_le v l)
    · exact Nat.zero_le _
theorem riseI_rank (v : Int) : ∀ l : List Int, riseI l v = if l[rankI l v]? = some v then l else l.take (rankI l v) ++ [v] ++ l.drop (rankI l v)
  | [] => rfl
  | a :: l => by
    have ih := riseI_rank v l
    unfold riseI rankI
    by_cases h : a < v
    · rw [if_pos h, if_pos h, ih]
      simp only [List.getElem?_cons_succ]
      split <;> simp
    · rw [if_neg h, if_neg h]
      by_cases h2 : a = v <;> simp [h2]
theorem rankI_iter {l : List Int} {v : Int} (hl : l.length ≤ 1000000) : ∀ (m i : Nat), i ≤ l.length → l.length - i < m → iterN (fun (s : Int) => m_s_l1Rise_a5 fu l v s) m (i : Int) = some (Sum.inl ((i + rankI (l.drop i) v : Nat) : Int)) := by
  intro m
  induction m with
  | zero => intro i _ h; omega
  | succ m ih =>
    intro i hi hm
    unfold iterN
    by_cases hlt : i < l.length
    · have hge := List.getElem?_eq_getElem hlt
      rw [List.drop_eq_getElem_cons hlt]
      by_cases hk : l[i] < v
      · have step : m_s_l1Rise_a5 fu l v (i : Int) = some (Sum.inl ((i + 1 : Nat) : Int)) := by
          unfold m_s_l1Rise_a5 m_s_l1Rise_a4
          rw [if_pos (decide_eq_true (Int.ofNat_lt.2 hlt)), atL_nat, hge, Option.bind_some, if_pos (decide_eq_true hk), wrap_succ (by omega)]
        simp only [step]
        rw [ih (i + 1) hlt (by omega), rankI, if_pos hk]
        congr 3; omega
      · have step : m_s_l1Rise_a5 fu l v (i : Int) = some (Sum.inr (Sum.inl (i : Int))) := by
          unfold m_s_l1Rise_a5 m_s_l1Rise_a4
          rw [if_pos (decide_eq_true (Int.ofNat_lt.2 hlt)), atL_nat, hge, Option.bind_some, if_neg (by simp; omega)]
        simp only [step]
        rw [rankI, if_neg hk]
        rfl
    · have step : m_s_l1Rise_a5 fu l v (i : Int) = some (Sum.inr (Sum.inl (i : Int))) := by
        unfold m_s_l1Rise_a5 m_s_l1Rise_a4
        rw [if_neg (by simp; omega)]
        rfl
      simp only [step]
      rw [List.drop_of_length_le (by omega)]
      rfl
theorem appI_eq {l l2 : List Int} (h : l.length + l2.length ≤ 2000000) : appL 8 l l2 = some (l ++ l2) := by
  unfold appL roomL
  rw [if_pos (by simp; omega)]
theorem m_s_l1Rise_eq {l : List Int} {v : Int} (hl : l.length ≤ 1000000) (hfu : l.length < fu) : m_s_l1Rise fu l v = some (riseI l v) := by
  unfold m_s_l1Rise
  have h := rankI_iter (fu := fu) (l := l) (v := v) hl fu 0 (Nat.zero_le _) (by omega)
  rw [show ((0 : Nat) : Int) = 0 from rfl, List.drop_zero, Nat.zero_add] at h
  have hr := rankI_le v l
  rw [h, Option.bind_some, Sum.elim_inl]
  unfold m_s_l1Rise_a3 m_s_l1Rise_a2 m_s_l1Rise_a1
  have e1 : sliceL l 0 ((rankI l v : Nat) : Int) = some (l.take (rankI l v)) := by
    unfold sliceL
    rw [if_pos (by simp; omega)]
    simp
  have e2 : sliceL l ((rankI l v : Nat) : Int) (l.length : Int) = some (l.drop (rankI l v)) := by
    unfold sliceL
    rw [if_pos (by simp; omega)]
    simp only [Int.toNat_natCast]
    rw [List.take_of_length_le (by rw [List.length_drop]; exact Nat.le_refl _)]
  have l1 : (l.take (rankI l v)).length = rankI l v := by rw [List.length_take]; omega
  rw [e1, Option.bind_some, e2, Option.bind_some, appI_eq (by simp; omega), Option.bind_some, List.nil_append, snocL_eq (by omega), Option.bind_some, appI_eq (by simp; omega), Option.bind_some, riseI_rank]
  by_cases hlt : rankI l v < l.length
  · have hge := List.getElem?_eq_getElem hlt
    rw [if_pos (decide_eq_true (by omega)), atL_nat, hge, Option.bind_some]
    by_cases hq : l[rankI l v] = v
    · rw [if_pos (decide_eq_true hq), if_pos (by rw [hq])]
    · rw [if_neg (by simp [hq]), if_neg (by simp [hq])]
  · rw [if_neg (by simp; omega), if_neg (by decide), if_neg (by rw [List.getElem?_eq_none (by omega)]; simp)]
theorem riseI_len (v : Int) : ∀ l : List Int, (riseI l v).length ≤ l.length + 1
  | [] => Nat.le_refl _
  | a :: l => by
    have := riseI_len v l
    unfold riseI
    split <;> (try split) <;> simp <;> omega
theorem riseI_mem {v a : Int} : ∀ {l : List Int}, a ∈ riseI l v ↔ a = v ∨ a ∈ l
  | [] => by simp [riseI]
  | b :: l => by
    unfold riseI
    split
    · rw [List.mem_cons, riseI_mem, List.mem_cons]
      constructor
      · rintro (h | h | h) <;> simp [h]
      · rintro (h | h | h) <;> simp [h]
    · split
      · rename_i h2
        rw [List.mem_cons]
        constructor
        · intro h; exact .inr h
        · rintro (h | h)
          · exact .inl (h.trans h2.symm)
          · exact h
      · simp
theorem riseI_sorted {v : Int} : ∀ {l : List Int}, l.Pairwise (· < ·) → (riseI l v).Pairwise (· < ·)
  | [], _ => List.pairwise_singleton _ _
  | a :: l, h => by
    have h' := List.pairwise_cons.1 h
    unfold riseI
    split
    · rename_i h1
      refine List.pairwise_cons.2 ⟨fun x hx => ?_, riseI_sorted h'.2⟩
      rcases riseI_mem.1 hx with rfl | hx
      · exact h1
      · exact h'.1 x hx
    · split
      · exact h
      · refine List.pairwise_cons.2 ⟨fun x hx => ?_, h⟩
        rcases List.mem_cons.1 hx with rfl | hx
        · omega
        · have := h'.1 x hx; omega
def riseAll (l : List Int) : List Int := l.foldl riseI []
theorem riseAll_snoc (l : List Int) (v : Int) : riseAll (l ++ [v]) = riseI (riseAll l) v := by unfold riseAll; rw [List.foldl_append]; rfl
theorem riseAll_mem {l : List Int} : ∀ a, a ∈ riseAll l ↔ a ∈ l := by
  have key : ∀ (l acc : List Int) (a : Int), a ∈ l.foldl riseI acc ↔ a ∈ acc ∨ a ∈ l := by
    intro l
    induction l with
    | nil => intro acc a; simp
    | cons b l ih =>
      intro acc a
      rw [List.foldl_cons, ih, riseI_mem, List.mem_cons]
      constructor
      · rintro ((h | h) | h) <;> simp [h]
      · rintro (h | h | h) <;> simp [h]
  intro a
  have := key l [] a
  simpa [riseAll] using this
theorem riseAll_sorted (l : List Int) : (riseAll l).Pairwise (· < ·) := by
  have key : ∀ (l acc : List Int), acc.Pairwise (· < ·) → (l.foldl riseI acc).Pairwise (· < ·) := by
    intro l
    induction l with
    | nil => intro acc h; exact h
    | cons b l ih => intro acc h; exact ih _ (riseI_sorted h)
  exact key l [] List.Pairwise.nil
theorem riseAll_len (l : List Int) : (riseAll l).length ≤ l.length := by
  have key : ∀ (l acc : List Int), (l.foldl riseI acc).length ≤ acc.length + l.length := by
    intro l
    induction l with
    | nil => intro acc; simp
    | cons b l ih =>
      intro acc
      have := ih (riseI acc b)
      have := riseI_len b acc
      simp only [List.foldl_cons, List.length_cons]; omega
  have := key l []
  simpa [riseAll] using this
theorem sortI_pair (l : List Int) : (sortI l).Pairwise fun a b => a ≤ b := by
  have := List.pairwise_mergeSort (le := fun x y : Int => decide (x ≤ y)) (fun a b c h1 h2 => by simp only [decide_eq_true_eq] at *; omega) (fun a b => by simp only [Bool.or_eq_true, decide_eq_true_eq]; omega) l
  exact this.imp fun h => of_decide_eq_true h
theorem sorted_eq {a b : List Int} (hp : a.Perm b) (ha : a.Pairwise fun x y => x ≤ y) (hb : b.Pairwise fun x y => x ≤ y) : a = b :=
  List.Perm.eq_of_pairwise (le := fun x y : Int => x ≤ y) (fun x y _ _ h1 h2 => by omega) ha hb hp
theorem nodup_perm {a b : List Int} (ha : a.Nodup) (hb : b.Nodup) (h : ∀ x, x ∈ a ↔ x ∈ b) : a.Perm b := (List.perm_ext_iff_of_nodup ha hb).2 h
theorem rise_nodup {l : List Int} (h : l.Pairwise (· < ·)) : l.Nodup := h.imp fun h => by omega
theorem riseAll_sort {l : List Int} (hn : l.Nodup) : riseAll l = sortI l :=
  sorted_eq ((nodup_perm (rise_nodup (riseAll_sorted l)) hn fun x => riseAll_mem x).trans (List.mergeSort_perm l _).symm) ((riseAll_sorted l).imp fun h => by omega) (sortI_pair l)
theorem m_i_those_eq {l : List RecD} {k : Int} (hl : l.length ≤ 100000) (hfu : l.length < fu) : m_i_those fu l k = some (sortI (txnsOf l k)) := by
  have key : ∀ (m i : Nat), i ≤ l.length → l.length - i < m → iterN (fun (s : (List Int) × Int) => m_i_those_a3 fu l k s.1 s.2) m (txnsOf (l.take i) k, (i : Int)) = some (Sum.inl (txnsOf l k)) := by
    intro m
    induction m with
    | zero => intro i _ h; omega
    | succ m ih =>
      intro i hi hm
      unfold iterN
      by_cases hlt : i < l.length
      · have hge := List.getElem?_eq_getElem hlt
        have hle := txnsOf_len (l.take i) k
        rw [List.length_take] at hle
        have step : m_i_those_a3 fu l k (txnsOf (l.take i) k) (i : Int) = some (Sum.inl (txnsOf (l.take (i + 1)) k, ((i + 1 : Nat) : Int))) := by
          unfold m_i_those_a3 m_i_those_a2
          rw [if_pos (decide_eq_true (Int.ofNat_lt.2 hlt)), atL_nat, hge, Option.bind_some, snocL_eq (by omega), wrap_succ (by omega), txnsOf_take k hge]
          by_cases h : l[i].kind = k <;> simp [h]
        simp only [step]
        exact ih (i + 1) hlt (by omega)
      · have step : m_i_those_a3 fu l k (txnsOf (l.take i) k) (i : Int) = some (Sum.inr (Sum.inl (txnsOf l k))) := by
          unfold m_i_those_a3
          rw [if_neg (by simp; omega), List.take_of_length_le (by omega)]
        simp only [step]
  have h := key fu 0 (Nat.zero_le _) (by omega)
  unfold m_i_those m_i_those_a1
  rw [show (([] : List Int), (0 : Int)) = (txnsOf (l.take 0) k, ((0 : Nat) : Int)) from rfl, h]
  rfl
theorem m_s_l13Kinds_eq {l : List RecD} {k : Int} (hl : l.length ≤ 100000) (hfu : l.length < fu) : m_s_l13Kinds fu l k = some (riseAll (txnsOf l k)) := by
  have key : ∀ (m i : Nat), i ≤ l.length → l.length - i < m → iterN (fun (s : (List Int) × Int) => m_s_l13Kinds_a3 fu l k s.1 s.2) m (riseAll (txnsOf (l.take i) k), (i : Int)) = some (Sum.inl (riseAll (txnsOf l k))) := by
    intro m
    induction m with
    | zero => intro i _ h; omega
    | succ m ih =>
      intro i hi hm
      unfold iterN
      by_cases hlt : i < l.length
      · have hge := List.getElem?_eq_getElem hlt
        have hle := txnsOf_len (l.take i) k
        have hle2 := riseAll_len (txnsOf (l.take i) k)
        rw [List.length_take] at hle
        have step : m_s_l13Kinds_a3 fu l k (riseAll (txnsOf (l.take i) k)) (i : Int) = some (Sum.inl (riseAll (txnsOf (l.take (i + 1)) k), ((i + 1 : Nat) : Int))) := by
          unfold m_s_l13Kinds_a3 m_s_l13Kinds_a2
          rw [if_pos (decide_eq_true (Int.ofNat_lt.2 hlt)), atL_nat, hge, Option.bind_some, m_s_l1Rise_eq (by omega) (by omega), wrap_succ (by omega), txnsOf_take k hge]
          by_cases h : l[i].kind = k
          · simp [h, riseAll_snoc]
          · simp [h]
        simp only [step]
        exact ih (i + 1) hlt (by omega)
      · have step : m_s_l13Kinds_a3 fu l k (riseAll (txnsOf (l.take i) k)) (i : Int) = some (Sum.inr (Sum.inl (riseAll (txnsOf l k)))) := by
          unfold m_s_l13Kinds_a3
          rw [if_neg (by simp; omega), List.take_of_length_le (by omega)]
        simp only [step]
  have h := key fu 0 (Nat.zero_le _) (by omega)
  unfold m_s_l13Kinds m_s_l13Kinds_a1
  rw [show (([] : List Int), (0 : Int)) = (riseAll (txnsOf (l.take 0) k), ((0 : Nat) : Int)) from rfl, h]
  rfl
theorem once {l : List RecD} : ∀ {a : List RecD} {c : List CellD}, runC a c l = 0 → (txnsOf a 1).Nodup → (txnsOf a 3).Nodup → (txnsOf (a ++ l) 1).Nodup ∧ (txnsOf (a ++ l) 3).Nodup := by
  induction l with
  | nil => intro a c _ h1 h3; simpa using ⟨h1, h3⟩
  | cons r l ih =>
    intro a c h h1 h3
    unfold runC at h
    split at h
    · rename_i hq; exact absurd h hq
    split at h
    · rename_i hq; exact absurd h hq
    rename_i hf0 hn0
    have hn : nextC a c r = 0 := by simpa using hn0
    have ap : ∀ k, txnsOf (a ++ [r]) k = txnsOf a k ++ (if r.kind = k then [r.txn] else []) := fun k => by
      unfold txnsOf; by_cases hk : r.kind = k <;> simp [List.filter_append, hk]
    have hm : ∀ k t, t ∈ txnsOf a k → ∃ x, x ∈ a ∧ x.kind = k ∧ x.txn = t := fun k t ht => by
      unfold txnsOf at ht
      obtain ⟨x, hx, rfl⟩ := List.mem_map.1 ht
      obtain ⟨q1, q2⟩ := List.mem_filter.1 hx
      exact ⟨x, q1, of_decide_eq_true q2, rfl⟩
    have n1 : (txnsOf (a ++ [r]) 1).Nodup := by
      rw [ap]
      by_cases hk : r.kind = 1
      · rw [if_pos hk, List.nodup_append]
        refine ⟨h1, by simp, fun t ht t' ht' => ?_⟩
        obtain rfl := List.mem_singleton.1 ht'
        rintro rfl
        obtain ⟨x, q1, q2, q3⟩ := hm _ _ ht
        unfold nextC at hn
        rw [if_neg (by omega), if_pos hk, if_pos (List.any_eq_true.2 ⟨x, q1, decide_eq_true q3⟩)] at hn
        cases hn
      · rw [if_neg hk]; simpa using h1
    have n3 : (txnsOf (a ++ [r]) 3).Nodup := by
      rw [ap]
      by_cases hk : r.kind = 3
      · rw [if_pos hk, List.nodup_append]
        refine ⟨h3, by simp, fun t ht t' ht' => ?_⟩
        obtain rfl := List.mem_singleton.1 ht'
        rintro rfl
        obtain ⟨x, q1, q2, q3⟩ := hm _ _ ht
        unfold nextC at hn
        have hkk : kinds a r.txn [3, 4] = true := kinds_iff.2 ⟨x, q1, q3, by simp [q2]⟩
        rw [if_neg (by omega), if_neg (by omega), hkk, if_pos (by simp)] at hn
        cases hn
      · rw [if_neg hk]; simpa using h3
    have := ih h n1 n3
    rwa [List.append_assoc] at this
theorem runC_once {l : List RecD} (h : runC [] [] l = 0) : (txnsOf l 1).Nodup ∧ (txnsOf l 3).Nodup := by
  have := once h (by simp [txnsOf]) (by simp [txnsOf])
  simpa using this
end
end Go.Proofs.Ytcngfjmfgeckmaa
namespace Go.Proofs.Ytcngfjmfgeckmaa
open Go
def Int64SR : AV → List Int → Prop := SlR 1 Int64R
def wtInt64S (l : List Int) : Nat := (l.map wtInt).sum
structure IntsResultD where
  code : Int
  list : List Int
  deriving DecidableEq
def IntsResultR (e : AV) (a : IntsResultD) : Prop := ∃ x1, e = .agg [.int .i64 a.code, x1] ∧ I64 a.code ∧ Int64SR x1 a.list
def wsIntsResult (a : IntsResultD) : Nat := wtInt64S a.list
structure CellsResultD where
  code : Int
  cells : List CellD
  deriving DecidableEq
section
variable {h : Heap} {n : Nat} {K : AV → Heap → Nat → Prop}
theorem c61 {x y : AV} {l l2 : List Int} (hx : Int64SR x l) (hy : Int64SR y l2) (hk : K (.bool (decide (l = l2))) h n) : CA Try.prog 61 [x, y] h n K :=
  eqS0_gen hT hM Try.call61 Try.func61 rfl rfl rfl rfl tyInt_2 tyInt_2 hx hy (fun e e' a b K hR hR' hk => by obtain ⟨rfl, _⟩ := hR; obtain ⟨rfl, _⟩ := hR'; rw [b_neq]; exact hk) hk
theorem c21 {x y : AV} {a b : IntsResultD} (hx : IntsResultR x a) (hy : IntsResultR y b) (hk : K (.bool (decide (a = b))) h n) : CA Try.prog 21 [x, y] h n K := by
  obtain ⟨x1, rfl, h0, h1⟩ := hx
  obtain ⟨y1, rfl, j0, j1⟩ := hy
  have z1 := one_cells h1.isOne
  have zy1 := one_cells j1.isOne
  have hd : decide (a = b) = (decide (a.code = b.code) && decide (a.list = b.list)) := by cases a; cases b; simp [IntsResultD.mk.injEq]
  rw [hd] at hk
  refine CA.conv (CA.enter (N := 16) (rs := [.tmp 4]) hT Try.call21 Try.func21 rfl rfl (by simp) rfl fun hlt => ?_)
  refine WP.seq_k fun K1 hK1 => WP.region hT rfl ?_
  refine q_S ?_
  refine hK1 _ _ _ ?_
  clear hK1 K1
  refine WP.seq_k fun K3 hK3 => ?_
  refine WP.seq_k fun K1 hK1 => WP.region hT rfl ?_
  refine q_fS (And.intro z1 zy1) ?_
  refine hK1 _ _ _ ?_
  clear hK1 K1
  refine WP.cond (by simp only [ev, Env.get_put_some, ↓reduceIte]; rfl) (fun hc => ?_) (fun hc => ?_)
  · refine WP.seq_k fun K1 hK1 => WP.region hT rfl ?_
    refine q_S ?_
    refine hK1 _ _ _ ?_
    clear hK1 K1
    refine WP.ret ?_
    refine qr_S ?_
    refine ⟨_, rfl, ret_p (Left.upd (by omega) (Left.upd (Nat.le_refl _) (Left.refl hlt))) (.bool _) ?_⟩
    have hne : a.code ≠ b.code := by simpa using hc
    simpa [resV, hne] using hk
  have he0 : a.code = b.code := by simpa using hc
  refine WP.skip (hK3 _ _ _ ?_)
  clear hK3 K3 hc
  refine WP.seq_k fun K3 hK3 => ?_
  refine WP.seq_k fun K1 hK1 => WP.region hT rfl ?_
  refine q_fS (And.intro z1 zy1) ?_
  refine c61 h1 j1 ?_
  refine hK1 _ _ _ ?_
  clear hK1 K1
  refine WP.cond (by simp only [ev, Env.get_put_some, ↓reduceIte]; rfl) (fun hc => ?_) (fun hc => ?_)
  · refine WP.seq_k fun K1 hK1 => WP.region hT rfl ?_
    refine q_S ?_
    refine hK1 _ _ _ ?_
    clear hK1 K1
    refine WP.ret ?_
    refine qr_S ?_
    refine ⟨_, rfl, ret_p (Left.upd (by omega) (Left.upd (Nat.le_refl _) (Left.refl hlt))) (.bool _) ?_⟩
    have hne : a.list ≠ b.list := by simpa using hc
    simpa [resV, hne] using hk
  have he1 : a.list = b.list := by simpa using hc
  refine WP.skip (hK3 _ _ _ ?_)
  clear hK3 K3 hc
  refine WP.seq_k fun K1 hK1 => WP.region hT rfl ?_
  refine q_S ?_
  refine hK1 _ _ _ ?_
  clear hK1 K1
  refine WP.ret ?_
  refine qr_S ?_
  refine ⟨_, rfl, ret_p (Left.upd (by omega) (Left.upd (Nat.le_refl _) (Left.refl hlt))) (.bool _) ?_⟩
  simpa [resV, he0, he1] using hk
def HeRec (e : AV) (w : Nat) (k : Int) : Prop := w = 8 ∧ e = .agg [.int .i64 (k), .int .i64 (k + 1), .int .i64 (k + 1 + 1), .bool (decide ((k + 1 + 1 + 1).tmod 3 = 0)), .int .i64 (k + 1 + 1 + 1 + 1), .bool (decide ((k + 1 + 1 + 1 + 1 + 1).tmod 3 = 0)), .int .i64 (k + 1 + 1 + 1 + 1 + 1 + 1), .int .i64 (k + 1 + 1 + 1 + 1 + 1 + 1 + 1)]
theorem HeRec.ltn {e : AV} {w : Nat} {k : Int} (h : HeRec e w k) (m : Nat) : e.Lt m := by
  obtain ⟨_, rfl⟩ := h
  rw [lt_agg]; intro u hu
  simp only [List.mem_cons, List.not_mem_nil, or_false] at hu
  rcases hu with rfl | rfl | rfl | rfl | rfl | rfl | rfl | rfl
  · exact .int _ _
  · exact .int _ _
  · exact .int _ _
  · exact .bool _
  · exact .int _ _
  · exact .bool _
  · exact .int _ _
  · exact .int _ _
def HdRecS (y : AV) (w : Nat) (k : Int) : Prop := ∃ ws, w = ws.sum ∧ ws.length ≤ 9223372036854775807 ∧ HdS 8 HeRec ws y 0 k
theorem HdRecS.ltn {y : AV} {w : Nat} {k : Int} (h : HdRecS y w k) (n : Nat) : y.Lt n := by obtain ⟨_, _, _, _, _, _, h, _⟩ := h; exact h n
theorem HdRecS.isOne {y : AV} {w : Nat} {k : Int} (h : HdRecS y w k) : y.one = true := by obtain ⟨_, _, _, _, _, h, _, _⟩ := h; exact h
def HdInt64S (y : AV) (w : Nat) (k : Int) : Prop := ∃ ws, w = ws.sum ∧ ws.length ≤ 9223372036854775807 ∧ HdS 1 HeInt ws y 0 k
theorem HdInt64S.ltn {y : AV} {w : Nat} {k : Int} (h : HdInt64S y w k) (n : Nat) : y.Lt n := by obtain ⟨_, _, _, _, _, _, h, _⟩ := h; exact h n
theorem HdInt64S.isOne {y : AV} {w : Nat} {k : Int} (h : HdInt64S y w k) : y.one = true := by obtain ⟨_, _, _, _, _, h, _, _⟩ := h; exact h
def HeIntsResult (e : AV) (w : Nat) (k : Int) : Prop := ∃ (y1 : AV) (w1 : Nat), w = 1 + w1 ∧ e = .agg [.int .i64 (k), y1] ∧ HdInt64S y1 w1 (k + 1)
theorem HeIntsResult.ltn {e : AV} {w : Nat} {k : Int} (h : HeIntsResult e w k) (m : Nat) : e.Lt m := by
  obtain ⟨_, _, _, rfl, h1⟩ := h
  rw [lt_agg]; intro u hu
  simp only [List.mem_cons, List.not_mem_nil, or_false] at hu
  rcases hu with rfl | rfl
  · exact .int _ _
  · exact h1.ltn m
def HeCell (e : AV) (w : Nat) (k : Int) : Prop := w = 2 ∧ e = .agg [.int .i64 (k), .int .i64 (k + 1)]
theorem HeCell.ltn {e : AV} {w : Nat} {k : Int} (h : HeCell e w k) (m : Nat) : e.Lt m := by
  obtain ⟨_, rfl⟩ := h
  rw [lt_agg]; intro u hu
  simp only [List.mem_cons, List.not_mem_nil, or_false] at hu
  rcases hu with rfl | rfl
  · exact .int _ _
  · exact .int _ _
def HdCellS (y : AV) (w : Nat) (k : Int) : Prop := ∃ ws, w = ws.sum ∧ ws.length ≤ 9223372036854775807 ∧ HdS 2 HeCell ws y 0 k
theorem HdCellS.ltn {y : AV} {w : Nat} {k : Int} (h : HdCellS y w k) (n : Nat) : y.Lt n := by obtain ⟨_, _, _, _, _, _, h, _⟩ := h; exact h n
theorem HdCellS.isOne {y : AV} {w : Nat} {k : Int} (h : HdCellS y w k) : y.one = true := by obtain ⟨_, _, _, _, _, h, _, _⟩ := h; exact h
def HeCellsResult (e : AV) (w : Nat) (k : Int) : Prop := ∃ (y1 : AV) (w1 : Nat), w = 1 + w1 ∧ e = .agg [.int .i64 (k), y1] ∧ HdCellS y1 w1 (k + 1)
theorem HeCellsResult.ltn {e : AV} {w : Nat} {k : Int} (h : HeCellsResult e w k) (m : Nat) : e.Lt m := by
  obtain ⟨_, _, _, rfl, h1⟩ := h
  rw [lt_agg]; intro u hu
  simp only [List.mem_cons, List.not_mem_nil, or_false] at hu
  rcases hu with rfl | rfl
  · exact .int _ _
  · exact h1.ltn m
theorem m22 {x' : AV} {l : List RecD} (hx : RecSR x' l) : MarkC Try.prog 22 HdRecS x' (wtRecS l) := by
  obtain ⟨es, hes, hal, hml, _, _⟩ := id hx
  have hel := all2_length hal
  unfold maxLen at hml
  have hm : MarkC Try.prog 22 (HdS 8 HeRec (l.map wtRec)) x' (wtRecS l) := by
    refine markS_gen (ts := 36) (t := 76) (z := 20) (r := 72) (N := 73) (T := T) (U := RecR) (w := wtRec) hT Try.call22 Try.func22 rfl rfl (by decide) (by decide) rfl rfl (fun e w k he m => he.ltn m) hx (fun e' a _ hU => ?_)
    intro Q E h n id ex b i e J k hte hid hrow hbi hib hbl h0 h1 h5 hk hkw hK
    obtain ⟨rfl, c0, c1, c2, c3, c4, c5⟩ := hU
    obtain ⟨cs, rfl, hl⟩ := hte.aggE
    cases hl with
    | cons u0 _ _ _ I0 J0 t0 hl0 d0 =>
    obtain ⟨rfl, rfl⟩ := t0.int
    cases hl0 with
    | cons u1 _ _ _ I1 J1 t1 hl1 d1 =>
    obtain ⟨rfl, rfl⟩ := t1.int
    cases hl1 with
    | cons u2 _ _ _ I2 J2 t2 hl2 d2 =>
    obtain ⟨rfl, rfl⟩ := t2.int
    cases hl2 with
    | cons u3 _ _ _ I3 J3 t3 hl3 d3 =>
    obtain ⟨rfl, rfl⟩ := t3.bool
    cases hl3 with
    | cons u4 _ _ _ I4 J4 t4 hl4 d4 =>
    obtain ⟨rfl, rfl⟩ := t4.int
    cases hl4 with
    | cons u5 _ _ _ I5 J5 t5 hl5 d5 =>
    obtain ⟨rfl, rfl⟩ := t5.bool
    cases hl5 with
    | cons u6 _ _ _ I6 J6 t6 hl6 d6 =>
    obtain ⟨rfl, rfl⟩ := t6.int
    cases hl6 with
    | cons u7 _ _ _ I7 J7 t7 hl7 d7 =>
    obtain ⟨rfl, rfl⟩ := t7.int
    cases hl7 with
    | nil =>
    unfold wtRec at hkw
    have hl : List.take b.length b = b := by simp
    have hb0 : (0 : Int) ≤ i := by omega
    have hb1 : (i : Int) < b.length := by omega
    have hgs : ∀ e, (b.set i e)[i]? = some e := fun e => List.getElem?_set_self hib
    have hts : ∀ e, List.take b.length (b.set i e) = b.set i e := fun e => List.take_of_length_le (by simp)
    have wr0 : IntKind.i64.wrap (k + 1) = k + 1 := wrap_in (by omega) (by omega)
    refine WP.seq_k fun K1 hK1 => WP.region hT rfl ?_
    simp only [↓planL, ↓opsA, List.contains_nil, List.contains_cons, Bool.or_false, Bool.false_or, ↓stepA, ↓e_len1, ↓e_append1, ↓e_min1, ↓e_max1, ↓callA, List.toList_toArray, Int.toNat_natCast, List.map_cons, List.map_nil, ev, Env.get_put_some, Env.put_none, Env.get_envOf, ↓e_move, ↓e_assign, ↓e_alloc, ↓e_box, ↓e_binOp, ↓e_unOp, ↓e_nilCheck, ↓e_pick, ↓e_load, ↓e_store, ↓e_fieldAddr, ↓e_field, ↓e_indexAddr, ↓e_index, ↓e_extract, ↓e_convert, ↓e_makeSlice, ↓e_build, ↓e_buildSlice, ↓e_makeFunc, b_add, b_sub, b_mul, b_eql, b_neq, b_lss, b_leq, b_gtr, b_geq, b_and, b_or, b_quo, b_rem, b_shl, b_shr, b_seql, b_sneq, b_beql, b_bneq, u_not, u_neg, rdSl_ro, rdSl_nils, rdSl_sl, setPart_agg, setPart_bool, setPart_int, setPart_str, setPart_nils, setPart_ro, setPart_sl, ofVal, ↓thenA, ↓blockA, Heap.upd_get, Heap.upd_upd, Heap.upd_sort, Nat.add_lt_add_iff_left, Nat.lt_add_right_iff_pos, Nat.pos_of_neZero, good_bool, good_int, good_str, good_nils, good_ro, good_sl, good_ep, good_nilp, good_nilf, good_fn, good_agg, AV.cells_bool, AV.cells_int, AV.cells_str, AV.cells_nils, AV.cells_ro, AV.cells_sl, AV.cells_ep, AV.cells_nilp, AV.cells_nilf, AV.cells_fn, AV.cells_agg, reduceIte, Nat.reduceEqDiff, Nat.reduceLT, Nat.reduceLeDiff, Nat.reduceAdd, Nat.add_assoc, true_and, and_true, List.getElem?_cons_zero, List.getElem?_cons_succ, Option.getD_some, List.length_cons, List.length_nil, List.set_cons_zero, List.set_cons_succ, Nat.zero_add, Nat.add_zero, List.drop_zero, List.take_succ_cons, List.take_zero, List.drop_succ_cons, List.drop_nil, List.cons_append, List.nil_append, List.append_nil, Nat.add_eq, Nat.left_eq_add, Nat.add_eq_left, List.getElem?_nil, Nat.zero_lt_succ, decide_true, decide_false, Option.bind_some, Option.map_some, Nat.one_ne_zero, Nat.lt_add_one, ↓reduceIte, Nat.le_refl, Nat.add_left_cancel_iff, T_2, T_3, T_4, T_33, T_36, T_40, T_42, T_47, T_76, T_78, T_123, T_49, h0, h1, h5, hrow, hbi, hl, hgs, hts, List.length_set, List.set_set]
    refine ⟨hb0, hb1, hK1 _ _ _ ?_⟩
    clear hK1 K1
    refine WP.seq_k fun K1 hK1 => WP.region hT rfl ?_
    refine q_fS (And.intro h1 wr0) ?_
    refine hK1 _ _ _ ?_
    clear hK1 K1
    have wr1 : IntKind.i64.wrap (k + 1 + 1) = k + 1 + 1 := wrap_in (by omega) (by omega)
    refine WP.seq_k fun K1 hK1 => WP.region hT rfl ?_
    simp only [↓planL, ↓opsA, List.contains_nil, List.contains_cons, Bool.or_false, Bool.false_or, ↓stepA, ↓e_len1, ↓e_append1, ↓e_min1, ↓e_max1, ↓callA, List.toList_toArray, Int.toNat_natCast, List.map_cons, List.map_nil, ev, Env.get_put_some, Env.put_none, Env.get_envOf, ↓e_move, ↓e_assign, ↓e_alloc, ↓e_box, ↓e_binOp, ↓e_unOp, ↓e_nilCheck, ↓e_pick, ↓e_load, ↓e_store, ↓e_fieldAddr, ↓e_field, ↓e_indexAddr, ↓e_index, ↓e_extract, ↓e_convert, ↓e_makeSlice, ↓e_build, ↓e_buildSlice, ↓e_makeFunc, b_add, b_sub, b_mul, b_eql, b_neq, b_lss, b_leq, b_gtr, b_geq, b_and, b_or, b_quo, b_rem, b_shl, b_shr, b_seql, b_sneq, b_beql, b_bneq, u_not, u_neg, rdSl_ro, rdSl_nils, rdSl_sl, setPart_agg, setPart_bool, setPart_int, setPart_str, setPart_nils, setPart_ro, setPart_sl, ofVal, ↓thenA, ↓blockA, Heap.upd_get, Heap.upd_upd, Heap.upd_sort, Nat.add_lt_add_iff_left, Nat.lt_add_right_iff_pos, Nat.pos_of_neZero, good_bool, good_int, good_str, good_nils, good_ro, good_sl, good_ep, good_nilp, good_nilf, good_fn, good_agg, AV.cells_bool, AV.cells_int, AV.cells_str, AV.cells_nils, AV.cells_ro, AV.cells_sl, AV.cells_ep, AV.cells_nilp, AV.cells_nilf, AV.cells_fn, AV.cells_agg, reduceIte, Nat.reduceEqDiff, Nat.reduceLT, Nat.reduceLeDiff, Nat.reduceAdd, Nat.add_assoc, true_and, and_true, List.getElem?_cons_zero, List.getElem?_cons_succ, Option.getD_some, List.length_cons, List.length_nil, List.set_cons_zero, List.set_cons_succ, Nat.zero_add, Nat.add_zero, List.drop_zero, List.take_succ_cons, List.take_zero, List.drop_succ_cons, List.drop_nil, List.cons_append, List.nil_append, List.append_nil, Nat.add_eq, Nat.left_eq_add, Nat.add_eq_left, List.getElem?_nil, Nat.zero_lt_succ, decide_true, decide_false, Option.bind_some, Option.map_some, Nat.one_ne_zero, Nat.lt_add_one, ↓reduceIte, Nat.le_refl, Nat.add_left_cancel_iff, T_2, T_3, T_4, T_33, T_36, T_40, T_42, T_47, T_76, T_78, T_123, T_49, h0, h1, h5, hgs, hgs, hts, List.length_set, List.set_set]
    refine ⟨hb0, hb1, hK1 _ _ _ ?_⟩
    clear hK1 K1
    refine WP.seq_k fun K1 hK1 => WP.region hT rfl ?_
    refine q_fS (And.intro h1 wr1) ?_
    refine hK1 _ _ _ ?_
    clear hK1 K1
    have wr2 : IntKind.i64.wrap (k + 1 + 1 + 1) = k + 1 + 1 + 1 := wrap_in (by omega) (by omega)
    refine WP.seq_k fun K1 hK1 => WP.region hT rfl ?_
    simp only [↓planL, ↓opsA, List.contains_nil, List.contains_cons, Bool.or_false, Bool.false_or, ↓stepA, ↓e_len1, ↓e_append1, ↓e_min1, ↓e_max1, ↓callA, List.toList_toArray, Int.toNat_natCast, List.map_cons, List.map_nil, ev, Env.get_put_some, Env.put_none, Env.get_envOf, ↓e_move, ↓e_assign, ↓e_alloc, ↓e_box, ↓e_binOp, ↓e_unOp, ↓e_nilCheck, ↓e_pick, ↓e_load, ↓e_store, ↓e_fieldAddr, ↓e_field, ↓e_indexAddr, ↓e_index, ↓e_extract, ↓e_convert, ↓e_makeSlice, ↓e_build, ↓e_buildSlice, ↓e_makeFunc, b_add, b_sub, b_mul, b_eql, b_neq, b_lss, b_leq, b_gtr, b_geq, b_and, b_or, b_quo, b_rem, b_shl, b_shr, b_seql, b_sneq, b_beql, b_bneq, u_not, u_neg, rdSl_ro, rdSl_nils, rdSl_sl, setPart_agg, setPart_bool, setPart_int, setPart_str, setPart_nils, setPart_ro, setPart_sl, ofVal, ↓thenA, ↓blockA, Heap.upd_get, Heap.upd_upd, Heap.upd_sort, Nat.add_lt_add_iff_left, Nat.lt_add_right_iff_pos, Nat.pos_of_neZero, good_bool, good_int, good_str, good_nils, good_ro, good_sl, good_ep, good_nilp, good_nilf, good_fn, good_agg, AV.cells_bool, AV.cells_int, AV.cells_str, AV.cells_nils, AV.cells_ro, AV.cells_sl, AV.cells_ep, AV.cells_nilp, AV.cells_nilf, AV.cells_fn, AV.cells_agg, reduceIte, Nat.reduceEqDiff, Nat.reduceLT, Nat.reduceLeDiff, Nat.reduceAdd, Nat.add_assoc, true_and, and_true, List.getElem?_cons_zero, List.getElem?_cons_succ, Option.getD_some, List.length_cons, List.length_nil, List.set_cons_zero, List.set_cons_succ, Nat.zero_add, Nat.add_zero, List.drop_zero, List.take_succ_cons, List.take_zero, List.drop_succ_cons, List.drop_nil, List.cons_append, List.nil_append, List.append_nil, Nat.add_eq, Nat.left_eq_add, Nat.add_eq_left, List.getElem?_nil, Nat.zero_lt_succ, decide_true, decide_false, Option.bind_some, Option.map_some, Nat.one_ne_zero, Nat.lt_add_one, ↓reduceIte, Nat.le_refl, Nat.add_left_cancel_iff, T_2, T_3, T_4, T_33, T_36, T_40, T_42, T_47, T_76, T_78, T_123, T_49, h0, h1, h5, hgs, hgs, hts, List.length_set, List.set_set]
    refine ⟨hb0, hb1, hK1 _ _ _ ?_⟩
    clear hK1 K1
    refine WP.seq_k fun K1 hK1 => WP.region hT rfl ?_
    refine q_fS (And.intro h1 wr2) ?_
    refine hK1 _ _ _ ?_
    clear hK1 K1
    have wr3 : IntKind.i64.wrap (k + 1 + 1 + 1 + 1) = k + 1 + 1 + 1 + 1 := wrap_in (by omega) (by omega)
    refine WP.seq_k fun K1 hK1 => WP.region hT rfl ?_
    simp only [↓planL, ↓opsA, List.contains_nil, List.contains_cons, Bool.or_false, Bool.false_or, ↓stepA, ↓e_len1, ↓e_append1, ↓e_min1, ↓e_max1, ↓callA, List.toList_toArray, Int.toNat_natCast, List.map_cons, List.map_nil, ev, Env.get_put_some, Env.put_none, Env.get_envOf, ↓e_move, ↓e_assign, ↓e_alloc, ↓e_box, ↓e_binOp, ↓e_unOp, ↓e_nilCheck, ↓e_pick, ↓e_load, ↓e_store, ↓e_fieldAddr, ↓e_field, ↓e_indexAddr, ↓e_index, ↓e_extract, ↓e_convert, ↓e_makeSlice, ↓e_build, ↓e_buildSlice, ↓e_makeFunc, b_add, b_sub, b_mul, b_eql, b_neq, b_lss, b_leq, b_gtr, b_geq, b_and, b_or, b_quo, b_rem, b_shl, b_shr, b_seql, b_sneq, b_beql, b_bneq, u_not, u_neg, rdSl_ro, rdSl_nils, rdSl_sl, setPart_agg, setPart_bool, setPart_int, setPart_str, setPart_nils, setPart_ro, setPart_sl, ofVal, ↓thenA, ↓blockA, Heap.upd_get, Heap.upd_upd, Heap.upd_sort, Nat.add_lt_add_iff_left, Nat.lt_add_right_iff_pos, Nat.pos_of_neZero, good_bool, good_int, good_str, good_nils, good_ro, good_sl, good_ep, good_nilp, good_nilf, good_fn, good_agg, AV.cells_bool, AV.cells_int, AV.cells_str, AV.cells_nils, AV.cells_ro, AV.cells_sl, AV.cells_ep, AV.cells_nilp, AV.cells_nilf, AV.cells_fn, AV.cells_agg, reduceIte, Nat.reduceEqDiff, Nat.reduceLT, Nat.reduceLeDiff, Nat.reduceAdd, Nat.add_assoc, true_and, and_true, List.getElem?_cons_zero, List.getElem?_cons_succ, Option.getD_some, List.length_cons, List.length_nil, List.set_cons_zero, List.set_cons_succ, Nat.zero_add, Nat.add_zero, List.drop_zero, List.take_succ_cons, List.take_zero, List.drop_succ_cons, List.drop_nil, List.cons_append, List.nil_append, List.append_nil, Nat.add_eq, Nat.left_eq_add, Nat.add_eq_left, List.getElem?_nil, Nat.zero_lt_succ, decide_true, decide_false, Option.bind_some, Option.map_some, Nat.one_ne_zero, Nat.lt_add_one, ↓reduceIte, Nat.le_refl, Nat.add_left_cancel_iff, T_2, T_3, T_4, T_33, T_36, T_40, T_42, T_47, T_76, T_78, T_123, T_49, h0, h1, h5, hgs, hgs, hts, List.length_set, List.set_set]
    refine ⟨by decide, hb0, hb1, hK1 _ _ _ ?_⟩
    clear hK1 K1
    refine WP.seq_k fun K1 hK1 => WP.region hT rfl ?_
    refine q_fS (And.intro h1 wr3) ?_
    refine hK1 _ _ _ ?_
    clear hK1 K1
    have wr4 : IntKind.i64.wrap (k + 1 + 1 + 1 + 1 + 1) = k + 1 + 1 + 1 + 1 + 1 := wrap_in (by omega) (by omega)
    refine WP.seq_k fun K1 hK1 => WP.region hT rfl ?_
    simp only [↓planL, ↓opsA, List.contains_nil, List.contains_cons, Bool.or_false, Bool.false_or, ↓stepA, ↓e_len1, ↓e_append1, ↓e_min1, ↓e_max1, ↓callA, List.toList_toArray, Int.toNat_natCast, List.map_cons, List.map_nil, ev, Env.get_put_some, Env.put_none, Env.get_envOf, ↓e_move, ↓e_assign, ↓e_alloc, ↓e_box, ↓e_binOp, ↓e_unOp, ↓e_nilCheck, ↓e_pick, ↓e_load, ↓e_store, ↓e_fieldAddr, ↓e_field, ↓e_indexAddr, ↓e_index, ↓e_extract, ↓e_convert, ↓e_makeSlice, ↓e_build, ↓e_buildSlice, ↓e_makeFunc, b_add, b_sub, b_mul, b_eql, b_neq, b_lss, b_leq, b_gtr, b_geq, b_and, b_or, b_quo, b_rem, b_shl, b_shr, b_seql, b_sneq, b_beql, b_bneq, u_not, u_neg, rdSl_ro, rdSl_nils, rdSl_sl, setPart_agg, setPart_bool, setPart_int, setPart_str, setPart_nils, setPart_ro, setPart_sl, ofVal, ↓thenA, ↓blockA, Heap.upd_get, Heap.upd_upd, Heap.upd_sort, Nat.add_lt_add_iff_left, Nat.lt_add_right_iff_pos, Nat.pos_of_neZero, good_bool, good_int, good_str, good_nils, good_ro, good_sl, good_ep, good_nilp, good_nilf, good_fn, good_agg, AV.cells_bool, AV.cells_int, AV.cells_str, AV.cells_nils, AV.cells_ro, AV.cells_sl, AV.cells_ep, AV.cells_nilp, AV.cells_nilf, AV.cells_fn, AV.cells_agg, reduceIte, Nat.reduceEqDiff, Nat.reduceLT, Nat.reduceLeDiff, Nat.reduceAdd, Nat.add_assoc, true_and, and_true, List.getElem?_cons_zero, List.getElem?_cons_succ, Option.getD_some, List.length_cons, List.length_nil, List.set_cons_zero, List.set_cons_succ, Nat.zero_add, Nat.add_zero, List.drop_zero, List.take_succ_cons, List.take_zero, List.drop_succ_cons, List.drop_nil, List.cons_append, List.nil_append, List.append_nil, Nat.add_eq, Nat.left_eq_add, Nat.add_eq_left, List.getElem?_nil, Nat.zero_lt_succ, decide_true, decide_false, Option.bind_some, Option.map_some, Nat.one_ne_zero, Nat.lt_add_one, ↓reduceIte, Nat.le_refl, Nat.add_left_cancel_iff, T_2, T_3, T_4, T_33, T_36, T_40, T_42, T_47, T_76, T_78, T_123, T_49, h0, h1, h5, hgs, hgs, hts, List.length_set, List.set_set]
    refine ⟨hb0, hb1, hK1 _ _ _ ?_⟩
    clear hK1 K1
    refine WP.seq_k fun K1 hK1 => WP.region hT rfl ?_
    refine q_fS (And.intro h1 wr4) ?_
    refine hK1 _ _ _ ?_
    clear hK1 K1
    have wr5 : IntKind.i64.wrap (k + 1 + 1 + 1 + 1 + 1 + 1) = k + 1 + 1 + 1 + 1 + 1 + 1 := wrap_in (by omega) (by omega)
    refine WP.seq_k fun K1 hK1 => WP.region hT rfl ?_
    simp only [↓planL, ↓opsA, List.contains_nil, List.contains_cons, Bool.or_false, Bool.false_or, ↓stepA, ↓e_len1, ↓e_append1, ↓e_min1, ↓e_max1, ↓callA, List.toList_toArray, Int.toNat_natCast, List.map_cons, List.map_nil, ev, Env.get_put_some, Env.put_none, Env.get_envOf, ↓e_move, ↓e_assign, ↓e_alloc, ↓e_box, ↓e_binOp, ↓e_unOp, ↓e_nilCheck, ↓e_pick, ↓e_load, ↓e_store, ↓e_fieldAddr, ↓e_field, ↓e_indexAddr, ↓e_index, ↓e_extract, ↓e_convert, ↓e_makeSlice, ↓e_build, ↓e_buildSlice, ↓e_makeFunc, b_add, b_sub, b_mul, b_eql, b_neq, b_lss, b_leq, b_gtr, b_geq, b_and, b_or, b_quo, b_rem, b_shl, b_shr, b_seql, b_sneq, b_beql, b_bneq, u_not, u_neg, rdSl_ro, rdSl_nils, rdSl_sl, setPart_agg, setPart_bool, setPart_int, setPart_str, setPart_nils, setPart_ro, setPart_sl, ofVal, ↓thenA, ↓blockA, Heap.upd_get, Heap.upd_upd, Heap.upd_sort, Nat.add_lt_add_iff_left, Nat.lt_add_right_iff_pos, Nat.pos_of_neZero, good_bool, good_int, good_str, good_nils, good_ro, good_sl, good_ep, good_nilp, good_nilf, good_fn, good_agg, AV.cells_bool, AV.cells_int, AV.cells_str, AV.cells_nils, AV.cells_ro, AV.cells_sl, AV.cells_ep, AV.cells_nilp, AV.cells_nilf, AV.cells_fn, AV.cells_agg, reduceIte, Nat.reduceEqDiff, Nat.reduceLT, Nat.reduceLeDiff, Nat.reduceAdd, Nat.add_assoc, true_and, and_true, List.getElem?_cons_zero, List.getElem?_cons_succ, Option.getD_some, List.length_cons, List.length_nil, List.set_cons_zero, List.set_cons_succ, Nat.zero_add, Nat.add_zero, List.drop_zero, List.take_succ_cons, List.take_zero, List.drop_succ_cons, List.drop_nil, List.cons_append, List.nil_append, List.append_nil, Nat.add_eq, Nat.left_eq_add, Nat.add_eq_left, List.getElem?_nil, Nat.zero_lt_succ, decide_true, decide_false, Option.bind_some, Option.map_some, Nat.one_ne_zero, Nat.lt_add_one, ↓reduceIte, Nat.le_refl, Nat.add_left_cancel_iff, T_2, T_3, T_4, T_33, T_36, T_40, T_42, T_47, T_76, T_78, T_123, T_49, h0, h1, h5, hgs, hgs, hts, List.length_set, List.set_set]
    refine ⟨by decide, hb0, hb1, hK1 _ _ _ ?_⟩
    clear hK1 K1
    refine WP.seq_k fun K1 hK1 => WP.region hT rfl ?_
    refine q_fS (And.intro h1 wr5) ?_
    refine hK1 _ _ _ ?_
    clear hK1 K1
    have wr6 : IntKind.i64.wrap (k + 1 + 1 + 1 + 1 + 1 + 1 + 1) = k + 1 + 1 + 1 + 1 + 1 + 1 + 1 := wrap_in (by omega) (by omega)
    refine WP.seq_k fun K1 hK1 => WP.region hT rfl ?_
    simp only [↓planL, ↓opsA, List.contains_nil, List.contains_cons, Bool.or_false, Bool.false_or, ↓stepA, ↓e_len1, ↓e_append1, ↓e_min1, ↓e_max1, ↓callA, List.toList_toArray, Int.toNat_natCast, List.map_cons, List.map_nil, ev, Env.get_put_some, Env.put_none, Env.get_envOf, ↓e_move, ↓e_assign, ↓e_alloc, ↓e_box, ↓e_binOp, ↓e_unOp, ↓e_nilCheck, ↓e_pick, ↓e_load, ↓e_store, ↓e_fieldAddr, ↓e_field, ↓e_indexAddr, ↓e_index, ↓e_extract, ↓e_convert, ↓e_makeSlice, ↓e_build, ↓e_buildSlice, ↓e_makeFunc, b_add, b_sub, b_mul, b_eql, b_neq, b_lss, b_leq, b_gtr, b_geq, b_and, b_or, b_quo, b_rem, b_shl, b_shr, b_seql, b_sneq, b_beql, b_bneq, u_not, u_neg, rdSl_ro, rdSl_nils, rdSl_sl, setPart_agg, setPart_bool, setPart_int, setPart_str, setPart_nils, setPart_ro, setPart_sl, ofVal, ↓thenA, ↓blockA, Heap.upd_get, Heap.upd_upd, Heap.upd_sort, Nat.add_lt_add_iff_left, Nat.lt_add_right_iff_pos, Nat.pos_of_neZero, good_bool, good_int, good_str, good_nils, good_ro, good_sl, good_ep, good_nilp, good_nilf, good_fn, good_agg, AV.cells_bool, AV.cells_int, AV.cells_str, AV.cells_nils, AV.cells_ro, AV.cells_sl, AV.cells_ep, AV.cells_nilp, AV.cells_nilf, AV.cells_fn, AV.cells_agg, reduceIte, Nat.reduceEqDiff, Nat.reduceLT, Nat.reduceLeDiff, Nat.reduceAdd, Nat.add_assoc, true_and, and_true, List.getElem?_cons_zero, List.getElem?_cons_succ, Option.getD_some, List.length_cons, List.length_nil, List.set_cons_zero, List.set_cons_succ, Nat.zero_add, Nat.add_zero, List.drop_zero, List.take_succ_cons, List.take_zero, List.drop_succ_cons, List.drop_nil, List.cons_append, List.nil_append, List.append_nil, Nat.add_eq, Nat.left_eq_add, Nat.add_eq_left, List.getElem?_nil, Nat.zero_lt_succ, decide_true, decide_false, Option.bind_some, Option.map_some, Nat.one_ne_zero, Nat.lt_add_one, ↓reduceIte, Nat.le_refl, Nat.add_left_cancel_iff, T_2, T_3, T_4, T_33, T_36, T_40, T_42, T_47, T_76, T_78, T_123, T_49, h0, h1, h5, hgs, hgs, hts, List.length_set, List.set_set]
    refine ⟨hb0, hb1, hK1 _ _ _ ?_⟩
    clear hK1 K1
    refine WP.seq_k fun K1 hK1 => WP.region hT rfl ?_
    refine q_fS (And.intro h1 wr6) ?_
    refine hK1 _ _ _ ?_
    clear hK1 K1
    have wr7 : IntKind.i64.wrap (k + 1 + 1 + 1 + 1 + 1 + 1 + 1 + 1) = k + 1 + 1 + 1 + 1 + 1 + 1 + 1 + 1 := wrap_in (by omega) (by omega)
    refine WP.seq_k fun K1 hK1 => WP.region hT rfl ?_
    simp only [↓planL, ↓opsA, List.contains_nil, List.contains_cons, Bool.or_false, Bool.false_or, ↓stepA, ↓e_len1, ↓e_append1, ↓e_min1, ↓e_max1, ↓callA, List.toList_toArray, Int.toNat_natCast, List.map_cons, List.map_nil, ev, Env.get_put_some, Env.put_none, Env.get_envOf, ↓e_move, ↓e_assign, ↓e_alloc, ↓e_box, ↓e_binOp, ↓e_unOp, ↓e_nilCheck, ↓e_pick, ↓e_load, ↓e_store, ↓e_fieldAddr, ↓e_field, ↓e_indexAddr, ↓e_index, ↓e_extract, ↓e_convert, ↓e_makeSlice, ↓e_build, ↓e_buildSlice, ↓e_makeFunc, b_add, b_sub, b_mul, b_eql, b_neq, b_lss, b_leq, b_gtr, b_geq, b_and, b_or, b_quo, b_rem, b_shl, b_shr, b_seql, b_sneq, b_beql, b_bneq, u_not, u_neg, rdSl_ro, rdSl_nils, rdSl_sl, setPart_agg, setPart_bool, setPart_int, setPart_str, setPart_nils, setPart_ro, setPart_sl, ofVal, ↓thenA, ↓blockA, Heap.upd_get, Heap.upd_upd, Heap.upd_sort, Nat.add_lt_add_iff_left, Nat.lt_add_right_iff_pos, Nat.pos_of_neZero, good_bool, good_int, good_str, good_nils, good_ro, good_sl, good_ep, good_nilp, good_nilf, good_fn, good_agg, AV.cells_bool, AV.cells_int, AV.cells_str, AV.cells_nils, AV.cells_ro, AV.cells_sl, AV.cells_ep, AV.cells_nilp, AV.cells_nilf, AV.cells_fn, AV.cells_agg, reduceIte, Nat.reduceEqDiff, Nat.reduceLT, Nat.reduceLeDiff, Nat.reduceAdd, Nat.add_assoc, true_and, and_true, List.getElem?_cons_zero, List.getElem?_cons_succ, Option.getD_some, List.length_cons, List.length_nil, List.set_cons_zero, List.set_cons_succ, Nat.zero_add, Nat.add_zero, List.drop_zero, List.take_succ_cons, List.take_zero, List.drop_succ_cons, List.drop_nil, List.cons_append, List.nil_append, List.append_nil, Nat.add_eq, Nat.left_eq_add, Nat.add_eq_left, List.getElem?_nil, Nat.zero_lt_succ, decide_true, decide_false, Option.bind_some, Option.map_some, Nat.one_ne_zero, Nat.lt_add_one, ↓reduceIte, Nat.le_refl, Nat.add_left_cancel_iff, T_2, T_3, T_4, T_33, T_36, T_40, T_42, T_47, T_76, T_78, T_123, T_49, h0, h1, h5, hgs, hgs, hts, List.length_set, List.set_set]
    refine ⟨hb0, hb1, hK1 _ _ _ ?_⟩
    clear hK1 K1
    refine WP.region hT rfl ?_
    refine q_fS (And.intro h1 wr7) ?_
    refine hK _ _ _ (.agg [.int .i64 (k), .int .i64 (k + 1), .int .i64 (k + 1 + 1), .bool (decide ((k + 1 + 1 + 1).tmod 3 = 0)), .int .i64 (k + 1 + 1 + 1 + 1), .bool (decide ((k + 1 + 1 + 1 + 1 + 1).tmod 3 = 0)), .int .i64 (k + 1 + 1 + 1 + 1 + 1 + 1), .int .i64 (k + 1 + 1 + 1 + 1 + 1 + 1 + 1)]) _ (by omega) (.agg _ _ _ (TreeL.cons _ _ _ _ _ _ (Tree.ofPlain1 rfl) (TreeL.cons _ _ _ _ _ _ (Tree.ofPlain1 rfl) (TreeL.cons _ _ _ _ _ _ (Tree.ofPlain1 rfl) (TreeL.cons _ _ _ _ _ _ (Tree.ofPlain1 rfl) (TreeL.cons _ _ _ _ _ _ (Tree.ofPlain1 rfl) (TreeL.cons _ _ _ _ _ _ (Tree.ofPlain1 rfl) (TreeL.cons _ _ _ _ _ _ (Tree.ofPlain1 rfl) (TreeL.cons _ _ _ _ _ _ (Tree.ofPlain1 rfl) TreeL.nil d7) d6) d5) d4) d3) d2) d1) d0)) ⟨rfl, rfl⟩ (Heap.upd_same _ _ _) (fun j hj hnj => by rw [Heap.upd_ne _ _ hj]) ?_ ?_ ?_
    · simp [Env.get, Env.put]
    · have he : k + 1 + 1 + 1 + 1 + 1 + 1 + 1 + 1 = k + ((wtRec a : Nat) : Int) := by unfold wtRec; omega
      simp only [Env.get_put_some, ↓reduceIte, Nat.reduceEqDiff]
      rw [← he]
    · simpa [Env.get, Env.put] using h5
  exact hm.mono fun e k he => ⟨_, rfl, by rw [List.length_map]; omega, he⟩
theorem m62 {x' : AV} {l : List Int} (hx : Int64SR x' l) : MarkC Try.prog 62 HdInt64S x' (wtInt64S l) := by
  obtain ⟨es, hes, hal, hml, _, _⟩ := id hx
  have hel := all2_length hal
  unfold maxLen at hml
  have hm : MarkC Try.prog 62 (HdS 1 HeInt (l.map wtInt)) x' (wtInt64S l) := by
    refine markS_gen (ts := 40) (t := 2) (z := 6) (r := 18) (N := 19) (T := T) (U := Int64R) (w := wtInt) hT Try.call62 Try.func62 rfl rfl (by decide) (by decide) rfl rfl (fun e w k he m => by obtain ⟨_, rfl⟩ := he; exact .int _ _) hx (fun e' a _ hU => ?_)
    exact markInt_body (ts := 40) (t := 2) hT (by decide) rfl rfl rfl hU.1
  exact hm.mono fun e k he => ⟨_, rfl, by rw [List.length_map]; omega, he⟩
theorem h63 {x : AV} {w : Nat} {k : Int} (hk0 : 0 ≤ k) (hkw : k + w ≤ 4611686018427387904) (hx : HdInt64S x w k) : HeldBy Try.prog 63 x w k := by
  obtain ⟨ws, rfl, hlen, hx⟩ := hx
  refine heldS_gen (ts := 40) (t := 2) (z := 7) (r := 20) (N := 21) (T := T) hT Try.call63 Try.func63 rfl rfl (by decide) (by decide) rfl rfl ?_ hk0 hkw hlen hx
  exact heldInt_body (ts := 40) (t := 2) hT (by decide) rfl rfl rfl (fun _ => rfl)
def HsIntsResult (e : AV) (w : Nat) (k : Int) : Prop := ∃ (y0 y1 : AV) (w1 : Nat), e = .agg [y0, y1] ∧ w = w1 ∧ HdInt64S y1 w1 (k)
theorem m23 {x' : AV} {a : IntsResultD} (hx : IntsResultR x' a) : MarkC Try.prog 23 HsIntsResult x' (wsIntsResult a) := by
  obtain ⟨x1, rfl, c0, c1⟩ := hx
  intro h n K x I k ht hk hkw hK
  obtain ⟨cs, rfl, hl⟩ := ht.aggE
  cases hl with
  | cons u0 _ _ _ I0 J0 t0 hl0 d0 =>
  obtain ⟨rfl, rfl⟩ := t0.int
  cases hl0 with
  | cons u1 _ _ _ I1 J1 t1 hl1 d1 =>
  cases hl1 with
  | nil =>
  unfold wsIntsResult at hkw
  refine CA.conv (CA.enter (N := 10) (rs := [.tmp 4]) hT Try.call23 Try.func23 rfl rfl (by simp) rfl fun hlt => ?_)
  have z1 := t1.slOne c1
  have il1 : ∀ i, i ∈ I1 → i < n := fun i hi => by obtain ⟨b, hb⟩ := t1.some i hi; exact hlt i b hb
  have nn1 : n ∉ I1 := fun hm => by have := il1 n hm; omega
  refine WP.seq_k fun K1 hK1 => WP.region hT rfl ?_
  refine q_S ?_
  refine hK1 _ _ _ ?_
  clear hK1 K1
  refine WP.seq_k fun K1 hK1 => WP.region hT rfl ?_
  refine q_fS z1 ?_
  refine m62 c1 _ _ _ u1 I1 _ (t1.keep fun i hi => by rw [Heap.upd_ne _ _ (by have := il1 i hi; omega)]) (by omega) (by omega) fun y1 g1 n1 hn1 ty1 fr1 hH1 => ?_
  refine hK1 _ _ _ ?_
  clear hK1 K1
  have box1 : g1 n = some [.agg [.int .i64 a.code, u1]] := by rw [fr1 n nn1, Heap.upd_same]
  refine WP.seq_k fun K1 hK1 => WP.region hT rfl ?_
  refine q_S ?_
  refine hK1 _ _ _ ?_
  clear hK1 K1
  refine WP.ret ?_
  refine qr_S ?_
  let g : Heap := fun id => if id = n then none else g1 id
  have g0 : ∀ id, id ≠ n → g id = g1 id := fun id hid => by simp only [g]; rw [if_neg hid]
  refine ⟨_, rfl, _, g, n1, .keep _ _ _ _ (fun id x hx => ?_), ?_⟩
  · simp only [g] at hx
    split at hx
    · cases hx
    · exact hx
  have hfin := hK (.agg [.int .i64 a.code, y1]) g n1 (by omega) (.agg _ _ _ (TreeL.cons _ _ _ _ _ _ (Tree.ofPlain1 rfl) (TreeL.cons _ _ _ _ _ _ (ty1.keep fun i hi => g0 i (by have := il1 i hi; omega)) TreeL.nil d1) d0)) (fun id hid => ?_) ⟨.int .i64 a.code, y1, _, rfl, rfl, hH1⟩
  · have he : k + (wtInt64S a.list : Nat) = k + ((wsIntsResult a : Nat) : Int) := by unfold wsIntsResult; omega
    simp only [resV]
    rw [he]; exact hfin
  · by_cases hn : id = n
    · subst hn
      simp only [g, if_true]
      exact (Heap.below.none hlt (Nat.le_refl _)).symm
    · rw [g0 id hn, fr1 id (fun hm => hid (by simp [hm])), Heap.upd_ne _ _ hn]
theorem h24 {x : AV} {w : Nat} {k : Int} (hk0 : 0 ≤ k) (hkw : k + w ≤ 4611686018427387904) (hx : HsIntsResult x w k) : HeldBy Try.prog 24 x w k := by
  obtain ⟨y0, y1, w1, rfl, hw, c1⟩ := hx
  rw [hw] at hkw ⊢
  intro h n K hK
  have z1 := one_cells c1.isOne
  refine CA.conv (CA.enter (N := 12) (rs := [.tmp 4]) hT Try.call24 Try.func24 rfl rfl (by simp) rfl fun hlt => ?_)
  refine WP.seq_k fun K1 hK1 => WP.region hT rfl ?_
  refine q_S ?_
  refine hK1 _ _ _ ?_
  clear hK1 K1
  refine WP.seq_k fun K1 hK1 => WP.region hT rfl ?_
  refine q_fS z1 ?_
  refine h63 (by omega) (by omega) c1 _ _ _ (hK1 _ _ _ ?_)
  clear hK1 K1
  refine WP.seq_k fun K3 hK3 => ?_
  refine WP.seq_k fun K1 hK1 => WP.region hT rfl ?_
  refine q_S ?_
  refine hK1 _ _ _ ?_
  clear hK1 K1
  refine WP.cond (by simp only [ev, Env.get_put_some, ↓reduceIte]; rfl) (fun hc => ?_) (fun hc => ?_)
  · simp at hc; omega
  refine WP.skip (hK3 _ _ _ ?_)
  clear hK3 K3 hc
  refine WP.seq_k fun K1 hK1 => WP.region hT rfl ?_
  refine q_S ?_
  refine hK1 _ _ _ ?_
  clear hK1 K1
  refine WP.ret ?_
  refine qr_S ?_
  refine ⟨_, rfl, ret_p (Left.upd (Nat.le_refl _) (Left.refl hlt)) (.int _ _) ?_⟩
  have he : k + (w1 : Nat) = k + ((w1 : Nat) : Int) := by omega
  simp only [resV]
  rw [he]
  exact hK
end
end Go.Proofs.Ytcngfjmfgeckmaa
section
namespace Go.Proofs.Ytcngfjmfgeckmaa
open Go
set_option linter.unusedSimpArgs false
set_option linter.unusedVariables false
set_option maxRecDepth 20000
attribute [local irreducible] IntKind.wrap bitA
section
variable {h : Heap} {n : Nat} {K : AV → Heap → Nat → Prop}
end
end Go.Proofs.Ytcngfjmfgeckmaa
end
namespace Go.Proofs.Ytcngfjmfgeckmaa
open Go
section
variable {h : Heap} {n : Nat} {K : AV → Heap → Nat → Prop}
def soundP (l : List RecD) : Int := if 400 < l.length then 2 else runC [] [] l
theorem s_sound {x : AV} {l : List RecD} (hx : RecSR x l) (hk : I64 (soundP l) → K (.int .i64 (soundP l)) h n) : CA Try.prog 15 [x] h n K := by
  refine w_s_SoundRecs (SlR.toH hx) (fu := 100000) (r := soundP l) ?_ fun y hy => ?_
  · unfold m_s_SoundRecs
    rw [m_s_l13Sound_eq (by omega)]; rfl
  · obtain ⟨rfl, hi⟩ := hy
    exact hk hi
theorem i_sound {x : AV} {l : List RecD} (hx : RecSR x l) (hk : I64 (soundP l) → K (.int .i64 (soundP l)) h n) : CA Try.prog 17 [x] h n K := by
  refine w_i_SoundRecs (SlR.toH hx) (fu := 100000) (r := soundP l) (m_i_SoundRecs_eq (by omega)) fun y hy => ?_
  obtain ⟨rfl, hi⟩ := hy
  exact hk hi
theorem c4 {x : AV} {l : List RecD} (hx : RecSR x l) (hk : K (.bool true) h n) : CA Try.prog 4 [x] h n K := by
  refine CA.conv (CA.enter (N := 27) (rs := [.tmp 2]) hT Try.call4 Try.func4 rfl rfl (by simp) rfl fun hlt => ?_)
  refine WP.seq_k fun K1 hK1 => WP.region hT rfl ?_
  refine q_S ?_
  refine hK1 _ _ _ ?_
  clear hK1 K1
  refine WP.seq_k fun K1 hK1 => WP.region hT rfl ?_
  refine q_S ?_
  refine hK1 _ _ _ ?_
  clear hK1 K1
  refine WP.seq_k fun K1 hK1 => WP.region hT rfl ?_
  refine q_S ?_
  refine c14 hx (by omega) (by omega) (hK1 _ _ _ ?_)
  clear hK1 K1
  refine WP.seq_k fun K2 hK2 => ?_
  refine WP.seq_k fun K1 hK1 => WP.region hT rfl ?_
  refine q_S ?_
  refine hK1 _ _ _ ?_
  clear hK1 K1
  refine WP.cond (by simp only [ev, Env.get_put_some, ↓reduceIte]; rfl) (fun hc => ?_) (fun hc => ?_)
  · refine WP.seq_k fun K1 hK1 => WP.region hT rfl ?_
    refine q_S ?_
    refine hK1 _ _ _ ?_
    clear hK1 K1
    refine WP.ret ?_
    refine qr_S ?_
    exact ⟨_, rfl, ret_p (Left.refl hlt) (.bool _) hk⟩
  refine WP.skip (hK2 _ _ _ ?_)
  clear hK2 K2
  obtain ⟨b1, b2⟩ := left_nonneg (by omega) (of_decide_eq_false hc)
  have hl : sizRecS l ≤ 1048576 := by omega
  refine WP.seq_k fun K1 hK1 => WP.region hT rfl ?_
  refine q_S ?_
  refine c16 hx hl fun r1 hr1 => s_sound hr1 fun hi => (hK1 _ _ _ ?_)
  clear hK1 K1
  refine WP.seq_k fun K1 hK1 => WP.region hT rfl ?_
  refine q_S ?_
  refine c16 hx hl fun r2 hr2 => hK1 _ _ _ ?_
  clear hK1 K1
  refine WP.seq_k fun K1 hK1 => WP.region hT rfl ?_
  refine q_S ?_
  refine i_sound hr2 fun hi2 => (hK1 _ _ _ ?_)
  clear hK1 K1
  refine WP.seq_k fun K2 hK2 => ?_
  refine WP.seq_k fun K1 hK1 => WP.region hT rfl ?_
  refine q_S ?_
  refine hK1 _ _ _ ?_
  clear hK1 K1
  refine WP.cond (by simp only [ev, Env.get_put_some, ↓reduceIte]; rfl) (fun hc => ?_) (fun hc => ?_)
  · exfalso
    simp at hc
  refine WP.skip (hK2 _ _ _ ?_)
  clear hK2 K2
  refine WP.seq_k fun K2 hK2 => ?_
  refine WP.seq_k fun K1 hK1 => WP.region hT rfl ?_
  refine q_S ?_
  refine c16 hx hl fun r3 hr3 => c18 hr2 hr3 (hK1 _ _ _ ?_)
  clear hK1 K1
  refine WP.cond (by simp only [ev, Env.get_put_some, ↓reduceIte]; rfl) (fun hc => ?_) (fun hc => ?_)
  · exfalso
    simp at hc
  refine WP.skip (hK2 _ _ _ ?_)
  clear hK2 K2
  refine WP.seq_k fun K1 hK1 => WP.region hT rfl ?_
  refine q_S ?_
  refine hK1 _ _ _ ?_
  clear hK1 K1
  refine WP.ret ?_
  refine qr_S ?_
  exact ⟨_, rfl, ret_p (Left.refl hlt) (.bool _) hk⟩
end
end Go.Proofs.Ytcngfjmfgeckmaa
namespace Go.Proofs.Ytcngfjmfgeckmaa
open Go
theorem map_const_sum {α : Type} (c : Nat) (l : List α) : (l.map fun _ => c).sum = c * l.length := by
  induction l with
  | nil => rfl
  | cons a l ih => simp only [List.map_cons, List.sum_cons, List.length_cons, ih]; rw [Nat.mul_add]; omega
theorem sound_len {l : List RecD} (h : soundP l = 0) : l.length ≤ 400 ∧ runC [] [] l = 0 := by
  unfold soundP at h
  split at h
  · cases h
  · rename_i hq; exact ⟨by omega, h⟩
section
variable {fu : Nat} {h : Heap} {n : Nat} {K : AV → Heap → Nat → Prop}
theorem sortI_txns_len (l : List RecD) (k : Int) : (sortI (txnsOf l k)).length ≤ l.length := by rw [sortI_len]; exact txnsOf_len l k
end
end Go.Proofs.Ytcngfjmfgeckmaa
section
namespace Go.Proofs.Ytcngfjmfgeckmaa
open Go
section
variable {h : Heap} {n : Nat} {K : AV → Heap → Nat → Prop}
theorem filt_take {l : List Int} {p : Int → Bool} {j : Nat} {a : Int} (hj : l[j]? = some a) : (l.take (j + 1)).filter (fun a => !p a) = (l.take j).filter (fun a => !p a) ++ (if p a = true then [] else [a]) := by
  rw [List.take_add_one, hj, List.filter_append]
  cases hp : p a <;> simp [hp]
theorem filt_le {l : List Int} {p : Int → Bool} (j : Nat) (hj : j ≤ l.length) : ((l.take j).filter fun a => !p a).length ≤ j := by
  have := List.length_filter_le (fun a => !p a) (l.take j)
  rw [List.length_take] at this; omega
theorem filt_none {l : List Int} {p : Int → Bool} (h : l.findIdx? p = none) : l.filter (fun a => !p a) = l := by
  rw [List.findIdx?_eq_none_iff] at h
  exact List.filter_eq_self.2 fun a ha => by simp [h a ha]
theorem filt_first {l : List Int} {p : Int → Bool} {i : Nat} (h : l.findIdx? p = some i) : i < l.length ∧ (l.take (i + 1)).filter (fun a => !p a) = l.take i := by
  obtain ⟨h1, h2, h3⟩ := List.findIdx?_eq_some_iff_getElem.1 h
  refine ⟨h1, ?_⟩
  rw [filt_take (List.getElem?_eq_getElem h1), if_pos h2, List.append_nil]
  refine List.filter_eq_self.2 fun a ha => ?_
  obtain ⟨j, hj, rfl⟩ := List.mem_iff_getElem.1 ha
  rw [List.length_take] at hj
  rw [List.getElem_take]
  have := h3 j (by omega)
  simpa using this
set_option maxHeartbeats 1000000 in
theorem del_ints {id len : Nat} {ex : Bool} {l : List Int} {p : Int → Bool} {g : FuncId} {cap : List AV} (hid : id < n) (hb : h id = some (l.map (AV.int .i64))) (hl : l.length = len) (hm : len ≤ 140737488355328)
    (hidx : ∀ K : AV → Heap → Nat → Prop, K (.int .i64 (match l.findIdx? p with | some j => ((j : Nat) : Int) | none => -1)) h n → CA Try.prog 141 [.sl 1 id 0 len len ex, .fn g cap] h n K)
    (hcall : ∀ (B : List AV) (K : AV → Heap → Nat → Prop) (a : Int), a ∈ l → K (.bool (p a)) (h.upd id B) n → CA Try.prog g ([.int .i64 a] ++ cap) (h.upd id B) n K)
    (hk : K (.sl 1 id 0 (l.filter fun a => !p a).length (l.filter fun a => !p a).length false) (h.upd id ((l.filter fun a => !p a).map (AV.int .i64))) n) :
    CA Try.prog 113 [.sl 1 id 0 len len ex, .fn g cap] h n K := by
  refine CA.trim (CA.conv (CA.enter (N := 42) (rs := [.tmp 4]) hT Try.call113 Try.func113 rfl rfl (by simp) rfl fun hlt => ?_))
  refine WP.seq_k fun K0 hK0 => ?_
  refine WP.region hT rfl ?_
  simp only [go_sem, ↓reduceIte, reduceCtorEq, Nat.reduceEqDiff, Nat.reduceLT, Nat.reduceLeDiff, Nat.reduceAdd, Nat.reduceMul, Int.reduceLE]
  refine hK0 _ _ _ ?_
  clear hK0 K0
  refine WP.seq_k fun K0 hK0 => ?_
  refine WP.region hT rfl ?_
  simp only [go_sem, ↓reduceIte, reduceCtorEq, Nat.reduceEqDiff, Nat.reduceLT, Nat.reduceLeDiff, Nat.reduceAdd, Nat.reduceMul, Int.reduceLE]
  refine hidx _ ?_
  unfold sealK
  simp only [go_sem, ↓reduceIte, reduceCtorEq, Nat.reduceEqDiff, Nat.reduceLT, Nat.reduceLeDiff, Nat.reduceAdd, Nat.reduceMul, Int.reduceLE]
  refine hK0 _ _ _ ?_
  clear hK0 K0
  refine WP.seq_k fun K2 hK2 => ?_
  refine WP.seq_k fun K3 hK3 => ?_
  refine WP.region hT rfl ?_
  simp only [go_sem, ↓reduceIte, reduceCtorEq, Nat.reduceEqDiff, Nat.reduceLT, Nat.reduceLeDiff, Nat.reduceAdd, Nat.reduceMul, Int.reduceLE]
  refine hK3 _ _ _ ?_
  clear hK3 K3
  cases hf : l.findIdx? p with
  | none =>
    refine WP.cond (t := true) (by kernel_rfl) (fun _ => ?_) (fun hc => by cases hc)
    refine WP.seq_k fun K4 hK4 => ?_
    refine WP.region hT rfl ?_
    simp only [go_sem, ↓reduceIte, reduceCtorEq, Nat.reduceEqDiff, Nat.reduceLT, Nat.reduceLeDiff, Nat.reduceAdd, Nat.reduceMul, Int.reduceLE]
    refine hK4 _ _ _ ?_
    clear hK4 K4
    refine WP.ret ?_
    rw [filt_none hf] at hk
    refine ⟨_, rfl, _, _, _, .keep _ _ _ _ (fun _ _ h => h), 1, id, len, len, ex, _, rfl, hb, by rw [List.length_map]; omega, ?_⟩
    rw [List.take_of_length_le (by rw [List.length_map]; omega), ← hl]
    exact hk
  | some i0 =>
    obtain ⟨hi0, hfirst⟩ := filt_first hf
    refine WP.cond (t := false) ?_ (fun hc => by cases hc) (fun _ => ?_)
    · have : decide (((i0 : Nat) : Int) = -1) = false := decide_eq_false (by omega)
      simp only [ev, Env.get_put_some, ↓reduceIte, this]
    refine WP.skip ?_
    simp only [go_sem, ↓reduceIte, reduceCtorEq, Nat.reduceEqDiff, Nat.reduceLT, Nat.reduceLeDiff, Nat.reduceAdd, Nat.reduceMul, Int.reduceLE]
    refine hK2 _ _ _ ?_
    clear hK2 K2
    have w1 : IntKind.i64.wrap ((i0 : Int) + 1) = ((i0 + 1 : Nat) : Int) := by rw [wrap_in (by omega) (by omega)]; rfl
    refine WP.seq_k fun K4 hK4 => ?_
    refine WP.seq_k fun K2 hK2 => ?_
    refine WP.region hT rfl ?_
    simp only [go_sem, ↓reduceIte, reduceCtorEq, Nat.reduceEqDiff, Nat.reduceLT, Nat.reduceLeDiff, Nat.reduceAdd, Nat.reduceMul, Int.reduceLE, w1]
    refine hK2 _ _ _ ?_
    clear hK2 K2
    refine WP.block (WP.loop (fun m E h' n' => ∃ (B : List AV) (i j : Nat), m = len - j ∧ B.length = len ∧ i < j ∧ j ≤ len ∧ i = ((l.take j).filter fun a => !p a).length ∧ B.take i = ((l.take j).filter fun a => !p a).map (AV.int .i64) ∧ B.drop j = (l.drop j).map (AV.int .i64) ∧ (∀ e, e ∈ B → ∃ a, e = .int .i64 a) ∧ h.upd id B = h' ∧ n = n' ∧
      E.get 0 = .sl 1 id 0 len len ex ∧ E.get 1 = .fn g cap ∧ E.get 5 = .int .i64 i ∧ E.get 6 = .int .i64 j) (len - (i0 + 1)) ?_ ?_)
    · refine ⟨l.map (AV.int .i64), i0, i0 + 1, rfl, by rw [List.length_map]; exact hl, by omega, by omega, ?_, ?_, ?_, (fun e he => by obtain ⟨a, _, rfl⟩ := List.mem_map.1 he; exact ⟨a, rfl⟩), ?_, rfl, rfl, rfl, rfl, rfl⟩
      · rw [hfirst, List.length_take]; omega
      · rw [hfirst, List.map_take]
      · rw [List.map_drop]
      · funext x
        unfold Heap.upd
        split
        · rename_i hx; rw [hx, hb]
        · rfl
    rintro m E h' n' ⟨B, i, j, rfl, hBl, hij, hj, hi, hBt, hBd, hBa, rfl, rfl, e0, e1, e5, e6⟩
    have hbB : (h.upd id B) id = some B := Heap.upd_same _ _ _
    have htB : List.take len B = B := List.take_of_length_le (Nat.le_of_eq hBl)
    refine WP.seq_k fun K6 hK6 => ?_
    refine WP.seq_k fun K7 hK7 => ?_
    refine WP.region hT rfl ?_
    simp only [go_sem, ↓reduceIte, reduceCtorEq, Nat.reduceEqDiff, Nat.reduceLT, Nat.reduceLeDiff, Nat.reduceAdd, Nat.reduceMul, Int.reduceLE, e0, e6, hbB, htB, hBl]
    refine hK7 _ _ _ ?_
    clear hK7 K7
    refine WP.cond (t := decide ((j : Int) < len)) (by kernel_rfl) (fun hc => ?_) (fun hc => ?_)
    · have hjl : j < l.length := by have := of_decide_eq_true hc; omega
      refine WP.skip ?_
      simp only [go_sem, ↓reduceIte, reduceCtorEq, Nat.reduceEqDiff, Nat.reduceLT, Nat.reduceLeDiff, Nat.reduceAdd, Nat.reduceMul, Int.reduceLE]
      refine hK6 _ _ _ ?_
      clear hK6 K6
      have hge := List.getElem?_eq_getElem hjl
      have hBj : B[j]? = some (.int .i64 l[j]) := by
        have q : (B.drop j)[0]? = ((l.drop j).map (AV.int .i64))[0]? := by rw [hBd]
        rw [List.getElem?_drop, List.getElem?_map, List.getElem?_drop] at q
        simpa [hge] using q
      have hj0 : (0 : Int) ≤ j := by omega
      have hj1 : (j : Int) < B.length := by omega
      have hjn : (j : Int).toNat = j := Int.toNat_natCast j
      have w2 : IntKind.i64.wrap ((j : Int) + 1) = ((j + 1 : Nat) : Int) := by rw [wrap_in (by omega) (by omega)]; rfl
      have w3 : IntKind.i64.wrap ((i : Int) + 1) = ((i + 1 : Nat) : Int) := by rw [wrap_in (by omega) (by omega)]; rfl
      refine WP.seq_k fun K9 hK9 => ?_
      refine WP.block ?_
      refine WP.seq_k fun K10 hK10 => ?_
      refine WP.region hT rfl ?_
      simp only [go_sem, ↓reduceIte, reduceCtorEq, Nat.reduceEqDiff, Nat.reduceLT, Nat.reduceLeDiff, Nat.reduceAdd, Nat.reduceMul, Int.reduceLE, e0, e6, hbB, htB, hBl, hBj, hjn]
      refine ⟨hj0, by omega, ?_⟩
      refine hK10 _ _ _ ?_
      clear hK10 K10
      refine WP.seq_k fun K11 hK11 => ?_
      refine WP.region hT rfl ?_
      simp only [go_sem, ↓reduceIte, reduceCtorEq, Nat.reduceEqDiff, Nat.reduceLT, Nat.reduceLeDiff, Nat.reduceAdd, Nat.reduceMul, Int.reduceLE, e1]
      refine hcall B _ l[j] (List.getElem_mem hjl) ?_
      unfold sealK
      simp only [go_sem, ↓reduceIte, reduceCtorEq, Nat.reduceEqDiff, Nat.reduceLT, Nat.reduceLeDiff, Nat.reduceAdd, Nat.reduceMul, Int.reduceLE]
      refine hK11 _ _ _ ?_
      clear hK11 K11
      have hft := filt_take (p := p) hge
      have hlej := filt_le (l := l) (p := p) j (by omega)
      have step : ∀ (E' : Env) (B' : List AV) (i' : Nat), B'.length = len → i' < j + 1 → i' = ((l.take (j + 1)).filter fun a => !p a).length → B'.take i' = ((l.take (j + 1)).filter fun a => !p a).map (AV.int .i64) → B'.drop (j + 1) = (l.drop (j + 1)).map (AV.int .i64) → (∀ e, e ∈ B' → ∃ a, e = AV.int .i64 a) →
          E'.get 0 = .sl 1 id 0 len len ex → E'.get 1 = .fn g cap → E'.get 5 = .int .i64 i' → E'.get 6 = .int .i64 j → K9 E' (h.upd id B') n := by
        intro E' B' i' q1 q2 q3 q4 q5 q6 f0 f1 f5 f6
        refine hK9 _ _ _ ?_
        refine WP.region hT rfl ?_
        simp only [go_sem, ↓reduceIte, reduceCtorEq, Nat.reduceEqDiff, Nat.reduceLT, Nat.reduceLeDiff, Nat.reduceAdd, Nat.reduceMul, Int.reduceLE, f6, w2]
        refine ⟨len - (j + 1), by omega, B', i', j + 1, rfl, q1, q2, by omega, q3, q4, q5, q6, rfl, ?_, ?_, ?_, ?_⟩
        · simpa [Env.get, Env.put] using f0
        · simpa [Env.get, Env.put] using f1
        · simpa [Env.get, Env.put] using f5
        · simp [Env.get, Env.put]
      have hBd1 : B.drop (j + 1) = (l.drop (j + 1)).map (AV.int .i64) := by
        have q : (B.drop j).drop 1 = ((l.drop j).map (AV.int .i64)).drop 1 := by rw [hBd]
        rw [← List.map_drop, List.drop_drop, List.drop_drop] at q
        exact q
      cases hp : p l[j] with
      | true =>
        rw [if_pos hp, List.append_nil] at hft
        refine WP.cond (t := false) ?_ (fun hc => by cases hc) (fun _ => ?_)
        · simp only [ev, Env.get_put_some, ↓reduceIte, Nat.reduceEqDiff, hp, Bool.not_true]
        refine WP.skip ?_
        simp only [go_sem, ↓reduceIte, reduceCtorEq, Nat.reduceEqDiff, Nat.reduceLT, Nat.reduceLeDiff, Nat.reduceAdd, Nat.reduceMul, Int.reduceLE]
        refine step _ B i hBl (by omega) (by rw [hft]; exact hi) (by rw [hft]; exact hBt) hBd1 hBa ?_ ?_ ?_ ?_
        · simpa [Env.get, Env.put] using e0
        · simpa [Env.get, Env.put] using e1
        · simpa [Env.get, Env.put] using e5
        · simpa [Env.get, Env.put] using e6
      | false =>
        rw [if_neg (by rw [hp]; decide)] at hft
        refine WP.cond (t := true) ?_ (fun _ => ?_) (fun hc => by cases hc)
        · simp only [ev, Env.get_put_some, ↓reduceIte, Nat.reduceEqDiff, hp, Bool.not_false]
        refine WP.seq_k fun K12 hK12 => ?_
        refine WP.region hT rfl ?_
        have hi0' : (0 : Int) ≤ i := by omega
        have hin : (i : Int).toNat = i := Int.toNat_natCast i
        have hil : i < B.length := by omega
        obtain ⟨b0, hb0⟩ := hBa _ (List.getElem_mem hil)
        have hBi := List.getElem?_eq_getElem hil
        rw [hb0] at hBi
        simp only [go_sem, ↓reduceIte, reduceCtorEq, Nat.reduceEqDiff, Nat.reduceLT, Nat.reduceLeDiff, Nat.reduceAdd, Nat.reduceMul, Int.reduceLE, e0, e5, hbB, htB, hBl, hin, hBi]
        refine ⟨hi0', by omega, hK12 _ _ _ ?_⟩
        clear hK12 K12
        refine WP.region hT rfl ?_
        simp only [go_sem, ↓reduceIte, reduceCtorEq, Nat.reduceEqDiff, Nat.reduceLT, Nat.reduceLeDiff, Nat.reduceAdd, Nat.reduceMul, Int.reduceLE, e5, w3]
        rw [Heap.upd_upd]
        refine step _ (B.set i (.int .i64 l[j])) (i + 1) (by rw [List.length_set]; exact hBl) (by omega) (by rw [hft, List.length_append]; simp [← hi]) ?_ ?_ ?_ ?_ ?_ ?_ ?_
        · rw [List.take_add_one, List.take_set_of_le (Nat.le_refl i), List.getElem?_set_self hil, hBt, hft, List.map_append]; rfl
        · rw [List.drop_set_of_lt (by omega)]; exact hBd1
        · intro e he
          rcases List.mem_or_eq_of_mem_set he with he | rfl
          · exact hBa e he
          · exact ⟨_, rfl⟩
        · simpa [Env.get, Env.put] using e0
        · simpa [Env.get, Env.put] using e1
        · simp [Env.get, Env.put]
        · simpa [Env.get, Env.put] using e6
    · have hjl : j = len := by have := of_decide_eq_false hc; omega
      subst hjl
      have htl : l.take j = l := List.take_of_length_le (by omega)
      rw [htl] at hi hBt
      refine WP.exit ?_
      simp only [go_sem, ↓reduceIte, reduceCtorEq, Nat.reduceEqDiff, Nat.reduceLT, Nat.reduceLeDiff, Nat.reduceAdd, Nat.reduceMul, Int.reduceLE]
      refine hK4 _ _ _ ?_
      clear hK4 K4 hK6 K6
      refine WP.seq_k fun K13 hK13 => ?_
      refine WP.region hT rfl ?_
      simp only [go_sem, ↓reduceIte, reduceCtorEq, Nat.reduceEqDiff, Nat.reduceLT, Nat.reduceLeDiff, Nat.reduceAdd, Nat.reduceMul, Int.reduceLE, e0, e5]
      refine op_slice_sl i j j rfl rfl rfl (by decide) (fun hq => by cases hq) ⟨Int.natCast_nonneg _, rfl⟩ rfl rfl (by omega) (Nat.le_refl _) (Nat.le_refl _) ?_
      unfold sealK
      simp only [go_sem, ↓reduceIte, reduceCtorEq, Nat.reduceEqDiff, Nat.reduceLT, Nat.reduceLeDiff, Nat.reduceAdd, Nat.reduceMul, Int.reduceLE]
      refine ⟨2, rfl, by decide, rfl, B, hbB, by omega, ?_⟩
      unfold sealK
      simp only [go_sem, ↓reduceIte, reduceCtorEq, Nat.reduceEqDiff, Nat.reduceLT, Nat.reduceLeDiff, Nat.reduceAdd, Nat.reduceMul, Int.reduceLE]
      refine hK13 _ _ _ ?_
      clear hK13 K13
      refine WP.seq_k fun K14 hK14 => ?_
      refine WP.region hT rfl ?_
      simp only [go_sem, ↓reduceIte, reduceCtorEq, Nat.reduceEqDiff, Nat.reduceLT, Nat.reduceLeDiff, Nat.reduceAdd, Nat.reduceMul, Int.reduceLE, e0, e5]
      refine op_slice_sl 0 i j rfl rfl rfl (by decide) (fun hq => by cases hq) rfl ⟨Int.natCast_nonneg _, rfl⟩ rfl (Nat.zero_le _) (by omega) (Nat.le_refl _) ?_
      unfold sealK
      simp only [go_sem, ↓reduceIte, reduceCtorEq, Nat.reduceEqDiff, Nat.reduceLT, Nat.reduceLeDiff, Nat.reduceAdd, Nat.reduceMul, Int.reduceLE]
      refine hK14 _ _ _ ?_
      clear hK14 K14
      refine WP.ret ?_
      have hBil : (B.take i).length = i := by rw [List.length_take]; omega
      refine ⟨_, rfl, _, _, _, .keep _ _ _ _ (fun _ _ h => h), 1, id, i, j, _, _, rfl, Heap.upd_same _ _ _, ?_, ?_⟩
      · simp only [Nat.zero_add, List.length_append, hBil]; omega
      rw [Heap.upd_upd, Heap.upd_upd]
      rw [List.append_assoc]
      rw [List.take_left' hBil, hBt, hi]
      exact hk
end
end Go.Proofs.Ytcngfjmfgeckmaa
end
section
namespace Go.Proofs.Ytcngfjmfgeckmaa
open Go
set_option linter.unusedSimpArgs false
set_option linter.unusedVariables false
set_option maxRecDepth 20000
attribute [local irreducible] IntKind.wrap bitA
section
variable {h : Heap} {n : Nat} {K : AV → Heap → Nat → Prop}
def m_s_l13Losers_a1 (fu : Nat) (v327 : List Int) : Option (List Int) :=
  some v327
def m_s_l13Losers_a2 (fu : Nat) (v521 : Int) (v561 : List Int) (v566 : List Int) (v570 : List Int) : Option (((List Int) × (List Int) × (List Int) × Int) ⊕ ((List Int) ⊕ Option (List Int))) :=
  some (Sum.inl (v561, v566, v570, IntKind.i64.wrap (v521 + 1)))
def m_s_l13Losers_a3 (fu : Nat) (v510 : List Int) (v515 : List Int) (v519 : List Int) (v521 : Int) : Option (((List Int) × (List Int) × (List Int) × Int) ⊕ ((List Int) ⊕ Option (List Int))) :=
  (if (decide (v521 < (v515.length : Int))) = true then (Option.bind (atL v515 v521) fun a589 => (Option.bind (m_s_l1Has fu v519 a589) fun v597 => (if (!v597) = true then (Option.bind (snocL 8 v510 a589) fun v601 => (m_s_l13Losers_a2 fu v521 v601 v515 v519)) else (m_s_l13Losers_a2 fu v521 v510 v515 v519)))) else some (Sum.inr (Sum.inl v510)))
def m_s_l13Losers_a4 (fu : Nat) (v51 : List Int) (v55 : List Int) : Option (List Int) :=
  (Option.bind (iterN (fun (s : (List Int) × (List Int) × (List Int) × Int) => m_s_l13Losers_a3 fu s.1 s.2.1 s.2.2.1 s.2.2.2) fu (([] : List Int), v51, v55, 0)) fun q524 => Sum.elim (fun (b : (List Int)) => (m_s_l13Losers_a1 fu b)) (fun x => x) q524)
def m_s_l13Losers (fu : Nat) (v0 : List RecD) : Option (List Int) :=
  (Option.bind (m_s_l13Kinds fu v0 1) fun v24 => (Option.bind (m_s_l13Kinds fu v0 3) fun v606 => (Option.bind (m_s_l13Kinds fu v0 4) fun v611 => (Option.bind (appL 8 v606 v611) fun v619 => (m_s_l13Losers_a4 fu v24 v619)))))
set_option maxHeartbeats 2000000 in
theorem w_s_l13Losers_o {x0 : AV} {v0 : List RecD} (h0 : (SlH h n 8 RecR) x0 v0) {fu : Nat} {r : (List Int)} (hm : m_s_l13Losers fu v0 = some r) (hk : ∀ A rw, NOwn n 0 1 Int64R A rw r → K A (hp h n [rw]) (n + 1)) : CA Try.prog 64 [x0] h n K := by
 refine CA.enterQ (N := 36) (rs := [.tmp 2]) hT Try.call64 Try.func64 rfl rfl (of_decide_eq_true rfl) rfl fun hlt => ?_
 unfold m_s_l13Losers at hm
 obtain ⟨es11, a12, l13, b14, F15⟩ := sHo h0
 refine rg0 hT ?_
 obtain ⟨v24, q23, hm⟩ := obs hm
 refine WQ.sr hT rfl fun K17 hK17 => ?_
 refine sq F15 ?_
 refine w_s_l13Kinds_o (SlH.up h0 0) (i64c (a := 1) rfl) q23 (fun x25 rw26 h27 => ?_)
 refine sk (a5 F15 (nown_rd h27) (nown_len h27) (nown_cells h27) (nown_good h27)) ?_
 refine kn hK17 ?_
 clear hK17 K17
 refine WQ.seq_k fun K28 hK28 => ?_
 have j57 : ∀ (E' : Env) (h' : Heap) (n' : Nat) (x49 : AV) (rw50 : Option (List AV)) (v51 : List Int) (h52 : NOwn n 0 1 Int64R x49 rw50 v51) (x53 : AV) (rw54 : Option (List AV)) (v55 : List Int) (h56 : NOwn n 1 1 Int64R x53 rw54 v55), Norm n h E' h' n' (envZ [3, 4] [x49, x53]) (hp h n [rw50, rw54]) (n + 2) → (m_s_l13Losers_a4 fu v51 v55) = some r → K28 E' h' n' := by
  intro E59 H60 n61 x49 rw50 v51 h52 x53 rw54 v55 h56 N58 hm
  refine hK28 _ _ _ _ _ _ N58 ?_
  clear N58 hK28 K28
  unfold m_s_l13Losers_a4 at hm
  refine rg0 hT ?_
  refine WQ.seq_k fun K63 hK63 => ?_
  have j330 : ∀ (E' : Env) (h' : Heap) (n' : Nat) (es326 : List AV) (v327 : List Int) (a328 : All2 Int64R es326 v327) (b329 : es326.length ≤ 140737488355328), Norm n h E' h' n' (envZ [5] [(.sl 1 n 0 v327.length v327.length false)]) (hp h n [some es326]) (n + 1) → (m_s_l13Losers_a1 fu v327) = some r → K63 E' h' n' := by
   intro E332 H333 n334 es326 v327 a328 b329 N331 hm
   refine hK63 _ _ _ _ _ _ N331 ?_
   clear N331 hK63 K63
   unfold m_s_l13Losers_a1 at hm
   refine rg hT (a2 (all2_length a328) (own_take a328)) ?_
   refine WQ.norm (E2 := envZ [2] [(.sl 1 n 0 v327.length v327.length false)]) (h2 := hp h n [(some es326)]) (n2 := n + 1) ?_ (WQ.ret ⟨_, rfl, _, _, _, .keep _ _ _ _ (fun _ _ h => h), ?_⟩)
   exact nm [0] [2] [(.sl 1 n 0 v327.length v327.length false)] (rc (Rn.own (js := [0]) 0 0) rn) (RowsR.row 0 _ _ _ _ hp_get0 (RnL.all2 a328 int64_lt) RowsR.nil)
   exact hkN hk (m := v327) hm (nown_own a328 b329)
  clear hK63
  refine rg0 hT ?_
  refine WQ.block ?_
  obtain ⟨q524, hq525, hm⟩ := obs hm
  refine WQ.norm ?_ (WQ.iter (step := (fun (s : (List Int) × (List Int) × (List Int) × Int) => m_s_l13Losers_a3 fu s.1 s.2.1 s.2.2.1 s.2.2.2)) (fun (s : (List Int) × (List Int) × (List Int) × Int) E' h' n' => ∃ (es509 : List AV), ∃ (x513 : AV), ∃ (rw514 : Option (List AV)), ∃ (x517 : AV), ∃ (rw518 : Option (List AV)), All2 Int64R es509 s.1 ∧ es509.length ≤ 140737488355328 ∧ NOwn n 0 1 Int64R x513 rw514 s.2.1 ∧ NOwn n 1 1 Int64R x517 rw518 s.2.2.1 ∧ I64 s.2.2.2 ∧ (envZ [3, 4, 5, 6] [x513, x517, (.sl 1 (n + 2) 0 s.1.length s.1.length false), (.int .i64 s.2.2.2)]) = E' ∧ (hp h n [rw514, rw518, some es509]) = h' ∧ (n + 3) = n') hq525 ⟨([]), x49, rw50, x53, rw54, (show All2 Int64R [] [] from .nil), (of_decide_eq_true rfl), h52, h56, (i64c (a := 0) rfl), rfl, rfl, rfl⟩ ?_)
  exact nm [0, 1, 2] [3, 4, 5, 6] [x49, x53, (.sl 1 (n + 2) 0 0 0 true), (.int .i64 0)] (rc (nown_rn h52 rfl) (rc (nown_rn h56 rfl) (rc (Rn.ownF (js := [0, 1, 2]) 2 2) (rc rki rn)))) (RowsR.opt 0 _ _ _ (.inr hp_get0) (nown_rows (j := 0) h52 int64_lt) (RowsR.opt 1 _ _ _ (.inr (hp_get 1)) (nown_rows (j := 1) h56 int64_lt) (RowsR.row 2 _ _ _ _ (hp_get 2) (RnL.all2 (show All2 Int64R [] [] from .nil) int64_lt) RowsR.nil)))
  rintro ⟨v510, v515, v519, v521⟩ E' h' n' o523 ⟨es509, x513, rw514, x517, rw518, a511, b512, h516, h520, i522, rfl, rfl, rfl⟩ ho527 hf526
  replace a511 : All2 Int64R es509 v510 := a511
  replace b512 : es509.length ≤ 140737488355328 := b512
  replace h516 : NOwn n 0 1 Int64R x513 rw514 v515 := h516
  replace h520 : NOwn n 1 1 Int64R x517 rw518 v519 := h520
  replace i522 : I64 v521 := i522
  replace ho527 : m_s_l13Losers_a3 fu v510 v515 v519 v521 = some o523 := ho527
  unfold m_s_l13Losers_a3 at ho527
  show WQ Try.prog _ n h _ _ (envZ [3, 4, 5, 6] [x513, x517, (.sl 1 (n + 2) 0 v510.length v510.length false), (.int .i64 v521)]) (hp h n [rw514, rw518, some es509]) (n + 3)
  refine WQ.seq_k fun K528 hK528 => ?_
  refine rg hT (a4 (nown_rd h516) (nown_len h516) (nown_cells h516) (nown_good h516)) ?_
  refine cn ho527 (fun z532 ho527 => ?_) fun z532 ho527 => ?_
  refine WQ.skip ?_
  simp only [go_sem, ↓reduceIte, reduceCtorEq, Nat.reduceEqDiff, Nat.reduceLT, Nat.reduceLeDiff, Nat.reduceAdd, Nat.reduceMul, Int.reduceLE]
  refine kn hK528 ?_
  clear hK528 K528
  refine WQ.seq_k fun K533 hK533 => ?_
  have j572 : ∀ (E' : Env) (h' : Heap) (n' : Nat) (es560 : List AV) (v561 : List Int) (a562 : All2 Int64R es560 v561) (b563 : es560.length ≤ 140737488355328) (x564 : AV) (rw565 : Option (List AV)) (v566 : List Int) (h567 : NOwn n 0 1 Int64R x564 rw565 v566) (x568 : AV) (rw569 : Option (List AV)) (v570 : List Int) (h571 : NOwn n 1 1 Int64R x568 rw569 v570), Norm n h E' h' n' (envZ [3, 4, 5, 6] [x564, x568, (.sl 1 (n + 2) 0 v561.length v561.length false), (.int .i64 v521)]) (hp h n [rw565, rw569, some es560]) (n + 3) → (m_s_l13Losers_a2 fu v521 v561 v566 v570) = some o523 → K533 E' h' n' := by
   intro E574 H575 n576 es560 v561 a562 b563 x564 rw565 v566 h567 x568 rw569 v570 h571 N573 ho527
   refine hK533 _ _ _ _ _ _ N573 ?_
   clear N573 hK533 K533
   unfold m_s_l13Losers_a2 at ho527
   refine WQ.region hT rfl ?_
   refine sq0 ?_
   refine ⟨_, _, _, _, (Option.some.inj ho527).symm, ?_, es560, x564, rw565, x568, rw569, a562, b563, h567, h571, (rng_wrap64 _), rfl, rfl, rfl⟩
   exact nm [0, 1, 2] [3, 4, 5, 6] [x564, x568, (.sl 1 (n + 2) 0 v561.length v561.length false), (.int .i64 (IntKind.i64.wrap (v521 + 1)))] (rc (nown_rn h567 rfl) (rc (nown_rn h571 rfl) (rc (Rn.own (js := [0, 1, 2]) 2 2) (rc rki rn)))) (RowsR.opt 0 _ _ _ (.inr hp_get0) (nown_rows (j := 0) h567 int64_lt) (RowsR.opt 1 _ _ _ (.inr (hp_get 1)) (nown_rows (j := 1) h571 int64_lt) (RowsR.row 2 _ _ _ _ (hp_get 2) (RnL.all2 a562 int64_lt) RowsR.nil)))
  clear hK533
  refine WQ.block ?_
  refine WQ.seq_k fun K577 hK577 => ?_
  obtain ⟨a589, q590, ho527⟩ := obs ho527
  obtain ⟨e593, p591, h595⟩ := atk q590 (nown_all h516)
  obtain ⟨rfl, ia589⟩ := h595
  obtain ⟨v597, q596, ho527⟩ := obs ho527
  refine WQ.region hT rfl ?_
  refine sq (a5 (nown_rd h516) (nown_len h516) (nown_cells h516) (nown_good h516) (a5 (nown_rd h520) (nown_len h520) (nown_cells h520) (nown_good h520) p591)) ?_
  refine w_s_l1Has (nown_H (j := 1) (m := 3) h520 (hp_get 1) rfl) ia589 q596 (fun y598 h599 => ?_)
  obtain rfl := h599
  refine sk (a5 (nown_rd h516) (nown_len h516) (nown_cells h516) (nown_good h516) (a5 (nown_rd h520) (nown_len h520) (nown_cells h520) (nown_good h520) p591)) ?_
  refine kn hK577 ?_
  clear hK577 K577
  refine cn ho527 (fun z600 ho527 => ?_) fun z600 ho527 => ?_
  obtain ⟨v601, q602, ho527⟩ := obs ho527
  refine WQ.region hT rfl ?_
  refine sq (a5 (nown_rd h516) (nown_len h516) (nown_cells h516) (nown_good h516) (a3 (all2_length a511) (own_take a511) p591)) ?_
  refine ⟨2, rfl, app_mv1 (j := 2) rfl (of_decide_eq_true rfl) rfl ?_ ?_ (all2_length a511) q602 a511 (int64R ia589) ?_⟩
  exact sc (a5 (nown_rd h516) (nown_len h516) (nown_cells h516) (nown_good h516) (a3 (all2_length a511) (own_take a511) p591))
  exact sc0
  refine sk (a5 (nown_rd h516) (nown_len h516) (nown_cells h516) (nown_good h516) (a5 (all2_length (snoc_all2 q602 a511 (int64R ia589))) (own_take (snoc_all2 q602 a511 (int64R ia589))) (all2_length a511) (own_take a511) p591)) ?_
  refine j572 _ _ _ (es509 ++ [(.int .i64 a589)]) v601 (snoc_all2 q602 a511 (int64R ia589)) (snoc_len q602 a511 (int64R ia589)) x513 rw514 v515 h516 x517 rw518 v519 h520 ?_ ho527
  exact nm [0, 1, 4] [3, 4, 5, 6] [x513, x517, (.sl 1 (n + 4) 0 v601.length v601.length false), (.int .i64 v521)] (rc (nown_rn h516 rfl) (rc (nown_rn h520 rfl) (rc (Rn.own (js := [0, 1, 4]) 4 2) (rc rki rn)))) (RowsR.opt 0 _ _ _ (.inr hp_get0) (nown_rows (j := 0) h516 int64_lt) (RowsR.opt 1 _ _ _ (.inr (hp_get 1)) (nown_rows (j := 1) h520 int64_lt) (RowsR.row 4 _ _ _ _ (hp_get 4) (RnL.all2 (snoc_all2 q602 a511 (int64R ia589)) int64_lt) RowsR.nil)))
  refine WQ.skip ?_
  simp only [go_sem, ↓reduceIte, reduceCtorEq, Nat.reduceEqDiff, Nat.reduceLT, Nat.reduceLeDiff, Nat.reduceAdd, Nat.reduceMul, Int.reduceLE]
  refine j572 _ _ _ es509 v510 a511 b512 x513 rw514 v515 h516 x517 rw518 v519 h520 ?_ ho527
  exact nm [0, 1, 2] [3, 4, 5, 6] [x513, x517, (.sl 1 (n + 2) 0 v510.length v510.length false), (.int .i64 v521)] (rc (nown_rn h516 rfl) (rc (nown_rn h520 rfl) (rc (Rn.own (js := [0, 1, 2]) 2 2) (rc rki rn)))) (RowsR.opt 0 _ _ _ (.inr hp_get0) (nown_rows (j := 0) h516 int64_lt) (RowsR.opt 1 _ _ _ (.inr (hp_get 1)) (nown_rows (j := 1) h520 int64_lt) (RowsR.row 2 _ _ _ _ (hp_get 2) (RnL.all2 a511 int64_lt) RowsR.nil)))
  refine WQ.exit ?_
  simp only [go_sem, ↓reduceIte, reduceCtorEq, Nat.reduceEqDiff, Nat.reduceLT, Nat.reduceLeDiff, Nat.reduceAdd, Nat.reduceMul, Int.reduceLE]
  have e603 := hf526 _ (Option.some.inj ho527).symm
  rw [← e603] at hm
  refine j330 _ _ _ es509 v510 a511 b512 ?_ hm
  exact nm [2] [5] [(.sl 1 (n + 2) 0 v510.length v510.length false)] (rc (Rn.own (js := [2]) 2 0) rn) (RowsR.row 2 _ _ _ _ (hp_get 2) (RnL.all2 a511 int64_lt) RowsR.nil)
 clear hK28
 obtain ⟨v606, q605, hm⟩ := obs hm
 obtain ⟨v611, q610, hm⟩ := obs hm
 refine WQ.region hT rfl ?_
 refine sq F15 ?_
 refine w_s_l13Kinds_o (SlH.up h0 1) (i64c (a := 3) rfl) q605 (fun x607 rw608 h609 => ?_)
 replace h609 := nown_up (m := 1) h609
 refine sk (a5 F15 (nown_rd h609) (nown_len h609) (nown_cells h609) (nown_good h609)) ?_
 refine w_s_l13Kinds_o (SlH.up h0 2) (i64c (a := 4) rfl) q610 (fun x612 rw613 h614 => ?_)
 replace h614 := nown_up (m := 2) h614
 refine sk (a5 F15 (nown_rd h609) (nown_len h609) (nown_cells h609) (a5 (nown_good h609) (nown_rd h614) (nown_len h614) (nown_cells h614) (nown_good h614))) ?_
 rcases h609 with ⟨rfl, rfl, z615⟩ | ⟨es616, rfl, rfl, a617, b618⟩
 obtain ⟨v619, q620, hm⟩ := obs hm
 rcases nil_or v611 with z621 | z621
 refine ⟨2, rfl, app_nlN (sz := 1) rfl (of_decide_eq_true rfl) rfl ?_ q620 z615 (nown_all h614) z621 ?_⟩
 exact sc (a5 F15 (nown_rd h614) (nown_len h614) (nown_cells h614) (nown_good h614))
 try unfold sealK
 try simp only [go_sem, ↓reduceIte, reduceCtorEq, Nat.reduceEqDiff, Nat.reduceLT, Nat.reduceLeDiff, Nat.reduceAdd, Nat.reduceMul, Int.reduceLE, F15, nown_rd h614, nown_len h614, nown_cells h614, nown_good h614]
 refine j57 _ _ _ x25 rw26 v24 h27 .nils none v619 (nown_nil (appN_nil q620 z615 z621)) ?_ hm
 exact nm [0, 1001] [3, 4] [x25, .nils] (rc (nown_rn h27 rfl) (rc (.keep _ .nils) rn)) (RowsR.opt 0 _ _ _ (.inr hp_get0) (nown_rows (j := 0) h27 int64_lt) (RowsR.opt 1001 none _ _ (.inl rfl) (fun _ h => nomatch h) RowsR.nil))
 refine ⟨2, rfl, app_nlC (sz := 1) rfl (of_decide_eq_true rfl) rfl ?_ q620 z615 (nown_all h614) z621 ?_⟩
 exact sc (a5 F15 (nown_rd h614) (nown_len h614) (nown_cells h614) (nown_good h614))
 try unfold sealK
 try simp only [go_sem, ↓reduceIte, reduceCtorEq, Nat.reduceEqDiff, Nat.reduceLT, Nat.reduceLeDiff, Nat.reduceAdd, Nat.reduceMul, Int.reduceLE, F15, nown_rd h614, nown_len h614, nown_cells h614, nown_good h614, all2_length (app_all2 q620 (all2_of_nil z615) (nown_all h614)), own_take (app_all2 q620 (all2_of_nil z615) (nown_all h614))]
 refine j57 _ _ _ x25 rw26 v24 h27 (.sl 1 (n + 1) 0 v619.length v619.length false) (some ([] ++ (Option.getD rw613 []))) v619 (nown_own (app_all2 q620 (all2_of_nil z615) (nown_all h614)) (app_len q620 (all2_of_nil z615) (nown_all h614))) ?_ hm
 exact nm [0, 3] [3, 4] [x25, (.sl 1 (n + 3) 0 v619.length v619.length false)] (rc (nown_rn h27 rfl) (rc (Rn.own (js := [0, 3]) 3 1) rn)) (RowsR.opt 0 _ _ _ (.inr hp_get0) (nown_rows (j := 0) h27 int64_lt) (RowsR.row 3 _ _ _ _ (hp_get 3) (RnL.all2 (app_all2 q620 (all2_of_nil z615) (nown_all h614)) int64_lt) RowsR.nil))
 obtain ⟨v622, q623, hm⟩ := obs hm
 rcases nil_or v611 with z624 | z624
 refine ⟨2, rfl, app_mvN (j := 1) rfl (of_decide_eq_true rfl) rfl ?_ ?_ (all2_length a617) q623 a617 (nown_all h614) z624 ?_⟩
 exact sc (a5 F15 (all2_length a617) (own_take a617) (nown_rd h614) (a3 (nown_len h614) (nown_cells h614) (nown_good h614)))
 exact sc0
 try unfold sealK
 try simp only [go_sem, ↓reduceIte, reduceCtorEq, Nat.reduceEqDiff, Nat.reduceLT, Nat.reduceLeDiff, Nat.reduceAdd, Nat.reduceMul, Int.reduceLE, F15, all2_length a617, own_take a617, all2_length (app_all2n q623 z624 a617), own_take (app_all2n q623 z624 a617), nown_rd h614, nown_len h614, nown_cells h614, nown_good h614]
 refine j57 _ _ _ x25 rw26 v24 h27 (.sl 1 (n + 1) 0 v622.length v622.length false) (some es616) v622 (nown_own (app_all2n q623 z624 a617) b618) ?_ hm
 exact nm [0, 1] [3, 4] [x25, (.sl 1 (n + 1) 0 v622.length v622.length false)] (rc (nown_rn h27 rfl) (rc (Rn.own (js := [0, 1]) 1 1) rn)) (RowsR.opt 0 _ _ _ (.inr hp_get0) (nown_rows (j := 0) h27 int64_lt) (RowsR.row 1 _ _ _ _ (hp_get 1) (RnL.all2 (app_all2n q623 z624 a617) int64_lt) RowsR.nil))
 refine ⟨2, rfl, app_mvC (j := 1) rfl (of_decide_eq_true rfl) rfl ?_ ?_ (all2_length a617) q623 a617 (nown_all h614) z624 ?_⟩
 exact sc (a5 F15 (all2_length a617) (own_take a617) (nown_rd h614) (a3 (nown_len h614) (nown_cells h614) (nown_good h614)))
 exact sc0
 try unfold sealK
 try simp only [go_sem, ↓reduceIte, reduceCtorEq, Nat.reduceEqDiff, Nat.reduceLT, Nat.reduceLeDiff, Nat.reduceAdd, Nat.reduceMul, Int.reduceLE, F15, all2_length a617, own_take a617, nown_rd h614, nown_len h614, nown_cells h614, nown_good h614, all2_length (app_all2 q623 a617 (nown_all h614)), own_take (app_all2 q623 a617 (nown_all h614))]
 refine j57 _ _ _ x25 rw26 v24 h27 (.sl 1 (n + 1) 0 v622.length v622.length false) (some (es616 ++ (Option.getD rw613 []))) v622 (nown_own (app_all2 q623 a617 (nown_all h614)) (app_len q623 a617 (nown_all h614))) ?_ hm
 exact nm [0, 3] [3, 4] [x25, (.sl 1 (n + 3) 0 v622.length v622.length false)] (rc (nown_rn h27 rfl) (rc (Rn.own (js := [0, 3]) 3 1) rn)) (RowsR.opt 0 _ _ _ (.inr hp_get0) (nown_rows (j := 0) h27 int64_lt) (RowsR.row 3 _ _ _ _ (hp_get 3) (RnL.all2 (app_all2 q623 a617 (nown_all h614)) int64_lt) RowsR.nil))
end
end Go.Proofs.Ytcngfjmfgeckmaa
end
namespace Go.Proofs.Ytcngfjmfgeckmaa
open Go
section
variable {h : Heap} {n : Nat} {K : AV → Heap → Nat → Prop}
def delF (fu : Nat) (f : Int → Option Bool) (l : List Int) : Option (List Int) := if l.length < fu then (if (l.all fun a => (f a).isSome) = true then some (l.filter fun a => !((f a).getD false)) else none) else none
theorem delF_ok {fu : Nat} {f : Int → Option Bool} {l r : List Int} (hq : delF fu f l = some r) : l.length < fu ∧ (∀ a, a ∈ l → f a = some ((f a).getD false)) ∧ r = l.filter fun a => !((f a).getD false) := by
  unfold delF at hq
  split at hq
  · split at hq
    · rename_i h1 h2
      refine ⟨h1, fun a ha => ?_, (Option.some.inj hq).symm⟩
      have := List.all_eq_true.1 h2 a ha
      cases hf : f a with
      | none => rw [hf] at this; cases this
      | some b => rfl
    · cases hq
  · cases hq
theorem w_del {rows : List (Option (List AV))} {es : List AV} {v r : List Int} {id N len fu : Nat} {ex : Bool} {g : FuncId} {cap : List AV} {f : Int → Option Bool} (hq : delF fu f v = some r) (ha : All2 Int64R es v) (hg : hp h n rows id = some es) (hid : id < N) (hb : es.length ≤ 140737488355328) (hlen : es.length = len)
    (hidx : ∀ K : AV → Heap → Nat → Prop, K (.int .i64 (match v.findIdx? (fun a => (f a).getD false) with | some j => ((j : Nat) : Int) | none => -1)) (hp h n rows) N → CA Try.prog 141 [.sl 1 id 0 len len ex, .fn g cap] (hp h n rows) N K)
    (hcall : ∀ (B : List AV) (K : AV → Heap → Nat → Prop) (a : Int) (b : Bool), I64 a → f a = some b → K (.bool b) ((hp h n rows).upd id B) N → CA Try.prog g ([.int .i64 a] ++ cap) ((hp h n rows).upd id B) N K)
    (hk : ∀ es', All2 Int64R es' r → es'.length ≤ 140737488355328 → K (.sl 1 id 0 r.length r.length false) ((hp h n rows).upd id es') N) : CA Try.prog 113 [.sl 1 id 0 len len ex, .fn g cap] (hp h n rows) N K := by
  obtain ⟨h1, h2, rfl⟩ := delF_ok hq
  have he := all2_ints ha
  have hl := all2_length ha
  have hi := all2_i64 ha
  have hfl : (v.filter fun a => !((f a).getD false)).length ≤ v.length := List.length_filter_le _ _
  rw [he] at hg
  refine del_ints (p := fun a => (f a).getD false) hid hg (hl.symm.trans hlen) (by omega) hidx (fun B K a hm hK => hcall B K a _ (hi a hm) (h2 a hm) hK) (hk _ (ints_all2 fun a hm => hi a (List.mem_filter.1 hm).1) ?_)
  rw [List.length_map]; omega
theorem delF_nil {fu : Nat} {f : Int → Option Bool} {l r : List Int} (hq : delF fu f l = some r) (hz : l = []) : r = [] := by
  obtain ⟨_, _, rfl⟩ := delF_ok hq
  subst hz; rfl
theorem w_del_nil {H : Heap} {v : List Int} {N : Nat} {g : FuncId} {cap : List AV} {p : Int → Bool} (hz : v = []) (hidx : ∀ K : AV → Heap → Nat → Prop, K (.int .i64 (match v.findIdx? p with | some j => ((j : Nat) : Int) | none => -1)) H N → CA Try.prog 141 [.nils, .fn g cap] H N K)
    (hk : K .nils H N) : CA Try.prog 113 [.nils, .fn g cap] H N K := by
  subst hz
  refine CA.conv (CA.enter (N := 42) (rs := [.tmp 4]) hT Try.call113 Try.func113 rfl rfl (by simp) rfl fun hlt => ?_)
  refine WP.seq_k fun K0 hK0 => ?_
  refine WP.region hT rfl ?_
  simp only [go_sem, ↓reduceIte, reduceCtorEq, Nat.reduceEqDiff, Nat.reduceLT, Nat.reduceLeDiff, Nat.reduceAdd, Nat.reduceMul, Int.reduceLE]
  refine hK0 _ _ _ ?_
  clear hK0 K0
  refine WP.seq_k fun K0 hK0 => ?_
  refine WP.region hT rfl ?_
  simp only [go_sem, ↓reduceIte, reduceCtorEq, Nat.reduceEqDiff, Nat.reduceLT, Nat.reduceLeDiff, Nat.reduceAdd, Nat.reduceMul, Int.reduceLE]
  refine hidx _ ?_
  unfold sealK
  simp only [List.findIdx?_nil]
  simp only [go_sem, ↓reduceIte, reduceCtorEq, Nat.reduceEqDiff, Nat.reduceLT, Nat.reduceLeDiff, Nat.reduceAdd, Nat.reduceMul, Int.reduceLE]
  refine hK0 _ _ _ ?_
  clear hK0 K0
  refine WP.seq_k fun K2 hK2 => ?_
  refine WP.seq_k fun K3 hK3 => ?_
  refine WP.region hT rfl ?_
  simp only [go_sem, ↓reduceIte, reduceCtorEq, Nat.reduceEqDiff, Nat.reduceLT, Nat.reduceLeDiff, Nat.reduceAdd, Nat.reduceMul, Int.reduceLE]
  refine hK3 _ _ _ ?_
  clear hK3 K3
  refine WP.cond (t := true) (by kernel_rfl) (fun _ => ?_) (fun hc => by cases hc)
  refine WP.seq_k fun K4 hK4 => ?_
  refine WP.region hT rfl ?_
  simp only [go_sem, ↓reduceIte, reduceCtorEq, Nat.reduceEqDiff, Nat.reduceLT, Nat.reduceLeDiff, Nat.reduceAdd, Nat.reduceMul, Int.reduceLE]
  refine hK4 _ _ _ ?_
  clear hK4 K4
  refine WP.ret ?_
  exact ⟨_, rfl, _, _, _, .keep _ _ _ _ (fun _ _ h => h), hk⟩
theorem len_small0 {v : List Int} (hz : v = []) : v.length < 9223372036854775807 := by subst hz; decide
theorem len_small {es : List AV} {v : List Int} (ha : All2 Int64R es v) (hb : es.length ≤ 140737488355328) : v.length < 9223372036854775807 := by have := all2_length ha; omega
end
end Go.Proofs.Ytcngfjmfgeckmaa
section
namespace Go.Proofs.Ytcngfjmfgeckmaa
open Go
set_option linter.unusedSimpArgs false
set_option linter.unusedVariables false
set_option maxRecDepth 20000
attribute [local irreducible] IntKind.wrap bitA
section
variable {h : Heap} {n : Nat} {K : AV → Heap → Nat → Prop}
def m_i_losers_1 (fu : Nat) (v0 : Int) (vc0 : List RecD) : Option Bool :=
  (Option.bind (m_i_kindsOf fu vc0 v0 ([3, 4])) fun v23 => some v23)
set_option maxHeartbeats 2000000 in
theorem w_i_losers_1 {v0 : Int} (i0 : I64 v0) {xc0 : AV} {vc0 : List RecD} (hc0 : (SlH h n 8 RecR) xc0 vc0) {idc0 : Nat} (hidc0 : idc0 < n) (hbc0 : h idc0 = some [xc0]) {fu : Nat} {r : Bool} (hm : m_i_losers_1 fu v0 vc0 = some r) (hk : ∀ y, BoolR y r → K y h n) : CA Try.prog 114 [(.int .i64 v0), (.ep 1 (.sl 1 idc0 0 1 1 true) 0 0)] h n K := by
 refine CA.enterQ (N := 8) (rs := [.tmp 3]) hT Try.call114 Try.func114 rfl rfl (of_decide_eq_true rfl) rfl fun hlt => ?_
 unfold m_i_losers_1 at hm
 obtain ⟨es11, a12, l13, b14, F15⟩ := sHo hc0
 refine rg0 hT ?_
 obtain ⟨v23, q22, hm⟩ := obs hm
 refine WQ.sr hT rfl fun K17 hK17 => ?_
 refine sq (a3 (hpl h hidc0) hbc0 F15) ?_
 refine w_i_kindsOf (SlH.up hc0 1) i0 (slH_own (j := 0) (m := 1) hp_get0 (show All2 Int64R [(.int .i64 3), (.int .i64 4)] [3, 4] from (.cons (int64R (i64c (a := 3) rfl)) (.cons (int64R (i64c (a := 4) rfl)) .nil))) (of_decide_eq_true rfl) rfl rfl) q22 (fun y24 h25 => ?_)
 obtain rfl := h25
 refine sk (a3 (hpl h hidc0) hbc0 F15) ?_
 refine kn hK17 ?_
 clear hK17 K17
 exact rtB 3 hlt hk (a := v23) hm
def m_g_IndexFunc_int64__i_losers_1_a1 (fu : Nat) : Option Int :=
  some (-1)
def m_g_IndexFunc_int64__i_losers_1_a2 (fu : Nat) (v0 : List Int) (vk10 : List RecD) (v322 : Int) : Option (Int ⊕ (Unit ⊕ Option Int)) :=
  (if (decide (v322 < (v0.length : Int))) = true then (Option.bind (atL v0 v322) fun a373 => (Option.bind (m_i_losers_1 fu a373 vk10) fun v381 => (if v381 = true then some (Sum.inr (Sum.inr (some v322))) else some (Sum.inl (IntKind.i64.wrap (v322 + 1)))))) else some (Sum.inr (Sum.inl ())))
def m_g_IndexFunc_int64__i_losers_1 (fu : Nat) (v0 : List Int) (vk10 : List RecD) : Option Int :=
  (Option.bind (iterN (fun (s : Int) => m_g_IndexFunc_int64__i_losers_1_a2 fu v0 vk10 s) fu 0) fun q325 => Sum.elim (fun (b : Unit) => (m_g_IndexFunc_int64__i_losers_1_a1 fu)) (fun x => x) q325)
set_option maxHeartbeats 2000000 in
theorem w_g_IndexFunc_int64__i_losers_1 {x0 : AV} {v0 : List Int} (h0 : (SlH h n 1 Int64R) x0 v0) {xk10 : AV} {vk10 : List RecD} (hk10 : (SlH h n 8 RecR) xk10 vk10) {idk10 : Nat} (hidk10 : idk10 < n) (hbk10 : h idk10 = some [xk10]) {fu : Nat} {r : Int} (hm : m_g_IndexFunc_int64__i_losers_1 fu v0 vk10 = some r) (hk : ∀ y, Int64R y r → K y h n) : CA Try.prog 141 [x0, (.fn 114 [(.ep 1 (.sl 1 idk10 0 1 1 true) 0 0)])] h n K := by
 refine CA.enterQ (N := 19) (rs := [.tmp 4]) hT Try.call141 Try.func141 rfl rfl (of_decide_eq_true rfl) rfl fun hlt => ?_
 unfold m_g_IndexFunc_int64__i_losers_1 at hm
 obtain ⟨es11, a12, l13, b14, F15⟩ := sHo h0
 obtain ⟨es16, a17, l18, b19, F20⟩ := sHo hk10
 refine rg0 hT ?_
 refine WQ.seq_k fun K22 hK22 => ?_
 have j199 : ∀ (E' : Env) (h' : Heap) (n' : Nat), Norm n h E' h' n' (envZ [] []) (hp h n []) n → (m_g_IndexFunc_int64__i_losers_1_a1 fu) = some r → K22 E' h' n' := by
  intro E201 H202 n203 N200 hm
  refine hK22 _ _ _ _ _ _ N200 ?_
  clear N200 hK22 K22
  unfold m_g_IndexFunc_int64__i_losers_1_a1 at hm
  refine rg0 hT ?_
  exact rtI 4 hlt hk (a := (-1)) hm (i64c (a := (-1)) rfl)
 clear hK22
 refine rg hT F15 ?_
 refine WQ.block ?_
 obtain ⟨q325, hq326, hm⟩ := obs hm
 refine WQ.norm ?_ (WQ.iter (step := (fun (s : Int) => m_g_IndexFunc_int64__i_losers_1_a2 fu v0 vk10 s)) (fun (s : Int) E' h' n' => I64 s ∧ (envZ [0, 1, 7, 8] [x0, (.fn 114 [(.ep 1 (.sl 1 idk10 0 1 1 true) 0 0)]), (.int .i64 (v0.length : Int)), (.int .i64 s)]) = E' ∧ (hp h n []) = h' ∧ n = n') hq326 ⟨(i64c (a := 0) rfl), rfl, rfl, rfl⟩ ?_)
 exact nm [] [0, 1, 7, 8] [x0, (.fn 114 [(.ep 1 (.sl 1 idk10 0 1 1 true) 0 0)]), (.int .i64 (v0.length : Int)), (.int .i64 0)] (rc (.keep _ (slH_lt h0)) (rc (.keep _ (lt_fn (ltL_cons (.ep _ _ _ _ (.sl _ _ _ _ _ _ hidk10)) ltL_nil))) (rc rki (rc rki rn)))) RowsR.nil
 rintro v322 E' h' n' o324 ⟨i323, rfl, rfl, rfl⟩ ho328 hf327
 replace i323 : I64 v322 := i323
 replace ho328 : m_g_IndexFunc_int64__i_losers_1_a2 fu v0 vk10 v322 = some o324 := ho328
 unfold m_g_IndexFunc_int64__i_losers_1_a2 at ho328
 show WQ Try.prog _ n h _ _ (envZ [0, 1, 7, 8] [x0, (.fn 114 [(.ep 1 (.sl 1 idk10 0 1 1 true) 0 0)]), (.int .i64 (v0.length : Int)), (.int .i64 v322)]) (hp h n []) n
 refine rg0 hT ?_
 refine WQ.seq_k fun K330 hK330 => ?_
 refine cn ho328 (fun z332 ho328 => ?_) fun z332 ho328 => ?_
 refine WQ.skip ?_
 simp only [go_sem, ↓reduceIte, reduceCtorEq, Nat.reduceEqDiff, Nat.reduceLT, Nat.reduceLeDiff, Nat.reduceAdd, Nat.reduceMul, Int.reduceLE]
 refine kn hK330 ?_
 clear hK330 K330
 refine WQ.seq_k fun K333 hK333 => ?_
 refine WQ.block ?_
 refine rg0 hT ?_
 refine WQ.seq_k fun K361 hK361 => ?_
 obtain ⟨a373, q374, ho328⟩ := obs ho328
 obtain ⟨e377, p375, h379⟩ := atk q374 a12
 obtain ⟨rfl, ia373⟩ := h379
 obtain ⟨v381, q380, ho328⟩ := obs ho328
 refine WQ.region hT rfl ?_
 refine sq (a5 F15 (hpl h hidk10) hbk10 F20 p375) ?_
 refine w_i_losers_1 ia373 (SlH.up hk10 0) hidk10 ((hp_low hidk10).trans hbk10) q380 (fun y382 h383 => ?_)
 obtain rfl := h383
 refine sk (a5 F15 (hpl h hidk10) hbk10 F20 p375) ?_
 refine kn hK361 ?_
 clear hK361 K361
 refine cn ho328 (fun z384 ho328 => ?_) fun z384 ho328 => ?_
 refine rg0 hT ?_
 have e386 := hf327 _ (Option.some.inj ho328).symm
 rw [← e386] at hm
 exact rtI 4 hlt hk (a := v322) hm i323
 refine WQ.skip ?_
 simp only [go_sem, ↓reduceIte, reduceCtorEq, Nat.reduceEqDiff, Nat.reduceLT, Nat.reduceLeDiff, Nat.reduceAdd, Nat.reduceMul, Int.reduceLE]
 refine kn hK333 ?_
 clear hK333 K333
 refine WQ.region hT rfl ?_
 refine sq0 ?_
 refine ⟨_, _, _, _, (Option.some.inj ho328).symm, ?_, (rng_wrap64 _), rfl, rfl, rfl⟩
 exact nm [] [0, 1, 7, 8] [x0, (.fn 114 [(.ep 1 (.sl 1 idk10 0 1 1 true) 0 0)]), (.int .i64 (v0.length : Int)), (.int .i64 (IntKind.i64.wrap (v322 + 1)))] (rc (.keep _ (slH_lt h0)) (rc (.keep _ (lt_fn (ltL_cons (.ep _ _ _ _ (.sl _ _ _ _ _ _ hidk10)) ltL_nil))) (rc rki (rc rki rn)))) RowsR.nil
 refine WQ.exit ?_
 simp only [go_sem, ↓reduceIte, reduceCtorEq, Nat.reduceEqDiff, Nat.reduceLT, Nat.reduceLeDiff, Nat.reduceAdd, Nat.reduceMul, Int.reduceLE]
 have e387 := hf327 _ (Option.some.inj ho328).symm
 rw [← e387] at hm
 refine j199 _ _ _  ?_ hm
 exact nm [] [] [] rn RowsR.nil
def m_i_losers_a1 (fu : Nat) (v39 : List Int) : Option (List Int) :=
  some v39
def m_i_losers (fu : Nat) (v0 : List RecD) : Option (List Int) :=
  (Option.bind (m_i_those fu v0 1) fun v47 => (Option.bind (delF fu (fun a => m_i_losers_1 fu a v0) v47) fun v55 => (m_i_losers_a1 fu v55)))
set_option maxHeartbeats 2000000 in
theorem w_i_losers_o {x0 : AV} {v0 : List RecD} (h0 : (SlH h n 8 RecR) x0 v0) {fu : Nat} {r : (List Int)} (hm : m_i_losers fu v0 = some r) (hk : ∀ A rw, NOwn n 0 1 Int64R A rw r → K A (hp h n [rw]) (n + 1)) : CA Try.prog 65 [x0] h n K := by
 refine CA.enterQ (N := 7) (rs := [.tmp 2]) hT Try.call65 Try.func65 rfl rfl (of_decide_eq_true rfl) rfl fun hlt => ?_
 unfold m_i_losers at hm
 obtain ⟨es11, a12, l13, b14, F15⟩ := sHo h0
 refine rg hT F15 ?_
 refine WQ.seq_k fun K17 hK17 => ?_
 have j41 : ∀ (E' : Env) (h' : Heap) (n' : Nat) (x37 : AV) (rw38 : Option (List AV)) (v39 : List Int) (h40 : NOwn n 0 1 Int64R x37 rw38 v39), Norm n h E' h' n' (envZ [2] [x37]) (hp h n [rw38]) (n + 1) → (m_i_losers_a1 fu v39) = some r → K17 E' h' n' := by
  intro E43 H44 n45 x37 rw38 v39 h40 N42 hm
  refine hK17 _ _ _ _ _ _ N42 ?_
  clear N42 hK17 K17
  unfold m_i_losers_a1 at hm
  refine WQ.norm (E2 := envZ [2] [x37]) (h2 := hp h n [rw38]) (n2 := n + 1) ?_ (WQ.ret ⟨_, rfl, _, _, _, .keep _ _ _ _ (fun _ _ h => h), ?_⟩)
  exact nm [0] [2] [x37] (rc (nown_rn h40 rfl) rn) (RowsR.opt 0 _ _ _ (.inr hp_get0) (nown_rows (j := 0) h40 int64_lt) RowsR.nil)
  exact hkN hk (m := v39) hm h40
 clear hK17
 obtain ⟨v47, q46, hm⟩ := obs hm
 refine WQ.region hT rfl ?_
 refine sq F15 ?_
 refine w_i_those_o (SlH.up h0 1) (i64c (a := 1) rfl) q46 (fun x48 rw49 h50 => ?_)
 replace h50 := nown_up (m := 1) h50
 refine sk (a5 F15 (nown_rd h50) (nown_len h50) (nown_cells h50) (nown_good h50)) ?_
 rcases h50 with ⟨rfl, rfl, z51⟩ | ⟨es52, rfl, rfl, a53, b54⟩
 obtain ⟨v55, q56, hm⟩ := obs hm
 refine w_del_nil z51 (fun K hK => w_g_IndexFunc_int64__i_losers_1 (slH_nilE z51) (SlH.up h0 2) (lt_row (j := 0) (m := 2) rfl) hp_get0 (idx_search (f := (fun a => m_i_losers_1 fu a v0)) (g := fun a => Option.getD ((fun a => m_i_losers_1 fu a v0) a) false) (delF_ok q56).2.1 (len_small0 z51) (delF_ok q56).1) (fun y hy => by obtain ⟨rfl, _⟩ := hy; exact hK)) ?_
 try unfold sealK
 try simp only [go_sem, ↓reduceIte, reduceCtorEq, Nat.reduceEqDiff, Nat.reduceLT, Nat.reduceLeDiff, Nat.reduceAdd, Nat.reduceMul, Int.reduceLE, F15]
 refine j41 _ _ _ .nils none v55 (nown_nil (delF_nil q56 z51)) ?_ hm
 exact nm [1000] [2] [.nils] (rc (.keep _ .nils) rn) (RowsR.opt 1000 none _ _ (.inl rfl) (fun _ h => nomatch h) RowsR.nil)
 obtain ⟨v60, q61, hm⟩ := obs hm
 refine w_del q61 a53 (hp_get 1) (lt_row (j := 1) (m := 2) rfl) b54 (all2_length a53) (fun K hK => w_g_IndexFunc_int64__i_losers_1 (slH_own (j := 1) (m := 2) (hp_get 1) a53 b54 (all2_length a53) rfl) (SlH.up h0 2) (lt_row (j := 0) (m := 2) rfl) hp_get0 (idx_search (f := (fun a => m_i_losers_1 fu a v0)) (g := fun a => Option.getD ((fun a => m_i_losers_1 fu a v0) a) false) (delF_ok q61).2.1 (len_small a53 b54) (delF_ok q61).1) (fun y hy => by obtain ⟨rfl, _⟩ := hy; exact hK)) (fun B K a b hi hf hK => by rw [hp_upd] at hK ⊢; exact w_i_losers_1 hi (SlH.up h0 2) (lt_row (j := 0) (m := 2) rfl) hp_get0 hf (fun y hy => by obtain rfl := hy; exact hK)) (fun es62 a63 b64 => ?_)
 try unfold sealK
 try simp only [go_sem, ↓reduceIte, reduceCtorEq, Nat.reduceEqDiff, Nat.reduceLT, Nat.reduceLeDiff, Nat.reduceAdd, Nat.reduceMul, Int.reduceLE, F15, all2_length a63, own_take a63]
 refine j41 _ _ _ (.sl 1 n 0 v60.length v60.length false) (some es62) v60 (nown_own a63 b64) ?_ hm
 exact nm [1] [2] [(.sl 1 (n + 1) 0 v60.length v60.length false)] (rc (Rn.own (js := [1]) 1 0) rn) (RowsR.row 1 _ _ _ _ (hp_get 1) (RnL.all2 a63 int64_lt) RowsR.nil)
end
end Go.Proofs.Ytcngfjmfgeckmaa
end
section
namespace Go.Proofs.Ytcngfjmfgeckmaa
open Go
set_option linter.unusedSimpArgs false
set_option linter.unusedVariables false
set_option maxRecDepth 20000
attribute [local irreducible] IntKind.wrap bitA
section
variable {h : Heap} {n : Nat} {K : AV → Heap → Nat → Prop}
def m_i_LosersOf (fu : Nat) (v0 : List RecD) : Option IntsResultD :=
  (Option.bind (m_i_SoundRecs fu v0) fun v39 => (if (decide (v39 ≠ 0)) = true then some (IntsResultD.mk v39 ([])) else (Option.bind (m_i_losers fu v0) fun v53 => some (IntsResultD.mk 0 v53))))
set_option maxHeartbeats 2000000 in
theorem w_i_LosersOf_o {x0 : AV} {v0 : List RecD} (h0 : (SlH h n 8 RecR) x0 v0) {fu : Nat} {r : IntsResultD} (hm : m_i_LosersOf fu v0 = some r) (hk : I64 r.code → ∀ A rw, NOwn n 0 1 Int64R A rw r.list → K (.agg [.int .i64 r.code, A]) (hp h n [rw]) (n + 1)) : CA Try.prog 26 [x0] h n K := by
 refine CA.cut (sz := 1) Try.call26 int64_lt ?_
 refine CA.enterQ (N := 13) (rs := [.cell 2 42]) hT Try.call26 Try.func26 rfl rfl (of_decide_eq_true rfl) rfl fun hlt => ?_
 unfold m_i_LosersOf at hm
 obtain ⟨es11, a12, l13, b14, F15⟩ := sHo h0
 refine rg0 hT ?_
 refine WQ.seq_k fun K17 hK17 => ?_
 obtain ⟨v39, q38, hm⟩ := obs hm
 refine WQ.sr hT rfl fun K32 hK32 => ?_
 refine sq F15 ?_
 refine w_i_SoundRecs (SlH.up h0 1) q38 (fun y40 h41 => ?_)
 obtain ⟨rfl, i42⟩ := h41
 refine sk F15 ?_
 refine kn hK32 ?_
 clear hK32 K32
 refine rg0 hT ?_
 refine cn hm (fun z44 hm => ?_) fun z44 hm => ?_
 refine rg0 hT ?_
 refine WQ.norm (E2 := envZ [2] [(.ep 2 (.sl 2 (n + 1) 0 1 1 true) 0 0)]) (h2 := hp h n [none, some [(.agg [(.int .i64 v39), .nils])]]) (n2 := n + 2) ?_ (WQ.ret ⟨[(.agg [(.int .i64 v39), .nils])], resA_cell rfl (hp_get 1) rfl rfl, _, _, _, .keep _ _ _ _ (fun _ _ h => h), _, .nils, none, _, _, (nown_nil rfl), rfl, lt_aggL (ltL_cons (.int _ _) (ltL_cons .nils ltL_nil)), rfl, rfl, ?_⟩)
 exact nm [1000, 0] [2] [(.ep 2 (.sl 2 n 0 1 1 true) 0 0)] (rc (Rn.ptr (js := [1000, 0]) 0 1) rn) (RowsR.opt 1000 none _ _ (.inl rfl) (fun _ h => nomatch h) (RowsR.row 0 _ _ _ _ hp_get0 (rc (Rn.agg' (rc rki (rc (.keep _ .nils) rn))) rn) RowsR.nil))
 obtain rfl := Option.some.inj hm
 exact hk i42 _ _ (nown_nil rfl)
 refine WQ.skip ?_
 simp only [go_sem, ↓reduceIte, reduceCtorEq, Nat.reduceEqDiff, Nat.reduceLT, Nat.reduceLeDiff, Nat.reduceAdd, Nat.reduceMul, Int.reduceLE]
 refine kn hK17 ?_
 clear hK17 K17
 obtain ⟨v53, q52, hm⟩ := obs hm
 refine WQ.sr hT rfl fun K46 hK46 => ?_
 refine sq F15 ?_
 refine w_i_losers_o (SlH.up h0 1) q52 (fun x54 rw55 h56 => ?_)
 replace h56 := nown_up (m := 1) h56
 refine sk (a5 F15 (nown_rd h56) (nown_len h56) (nown_cells h56) (nown_good h56)) ?_
 refine kn hK46 ?_
 clear hK46 K46
 obtain ⟨x57, h58, q59⟩ := nown_mv 0 h56
 refine WQ.norm (E2 := envZ [2] [(.ep 2 (.sl 2 (n + 1) 0 1 1 true) 0 0)]) (h2 := hp h n [rw55, some [(.agg [(.int .i64 0), x57])]]) (n2 := n + 2) ?_ (WQ.ret ⟨[(.agg [(.int .i64 0), x57])], resA_cell rfl (hp_get 1) rfl rfl, _, _, _, .keep _ _ _ _ (fun _ _ h => h), _, x57, rw55, _, _, h58, rfl, lt_aggL (ltL_cons (.int _ _) (ltL_cons (nown_lt h58) ltL_nil)), rfl, rfl, ?_⟩)
 exact nm [1, 0] [2] [(.ep 2 (.sl 2 n 0 1 1 true) 0 0)] (rc (Rn.ptr (js := [1, 0]) 0 1) rn) (RowsR.opt 1 _ _ _ (.inr (hp_get 1)) (nown_rows (j := 1) h56 int64_lt) (RowsR.row 0 _ _ _ _ hp_get0 (rc (Rn.agg' (rc rki (rc (q59 _ _ rfl) rn))) rn) RowsR.nil))
 obtain rfl := Option.some.inj hm
 exact hk (i64c (a := 0) rfl) _ _ h58
def m_s_LosersOf (fu : Nat) (v0 : List RecD) : Option IntsResultD :=
  (Option.bind (m_s_l13Sound fu v0) fun v39 => (if (decide (v39 ≠ 0)) = true then some (IntsResultD.mk v39 ([])) else (Option.bind (m_s_l13Losers fu v0) fun v53 => some (IntsResultD.mk 0 v53))))
set_option maxHeartbeats 2000000 in
theorem w_s_LosersOf_o {x0 : AV} {v0 : List RecD} (h0 : (SlH h n 8 RecR) x0 v0) {fu : Nat} {r : IntsResultD} (hm : m_s_LosersOf fu v0 = some r) (hk : I64 r.code → ∀ A rw, NOwn n 0 1 Int64R A rw r.list → K (.agg [.int .i64 r.code, A]) (hp h n [rw]) (n + 1)) : CA Try.prog 25 [x0] h n K := by
 refine CA.cut (sz := 1) Try.call25 int64_lt ?_
 refine CA.enterQ (N := 13) (rs := [.cell 2 42]) hT Try.call25 Try.func25 rfl rfl (of_decide_eq_true rfl) rfl fun hlt => ?_
 unfold m_s_LosersOf at hm
 obtain ⟨es11, a12, l13, b14, F15⟩ := sHo h0
 refine rg0 hT ?_
 refine WQ.seq_k fun K17 hK17 => ?_
 obtain ⟨v39, q38, hm⟩ := obs hm
 refine WQ.sr hT rfl fun K32 hK32 => ?_
 refine sq F15 ?_
 refine w_s_l13Sound (SlH.up h0 1) q38 (fun y40 h41 => ?_)
 obtain ⟨rfl, i42⟩ := h41
 refine sk F15 ?_
 refine kn hK32 ?_
 clear hK32 K32
 refine rg0 hT ?_
 refine cn hm (fun z44 hm => ?_) fun z44 hm => ?_
 refine rg0 hT ?_
 refine WQ.norm (E2 := envZ [2] [(.ep 2 (.sl 2 (n + 1) 0 1 1 true) 0 0)]) (h2 := hp h n [none, some [(.agg [(.int .i64 v39), .nils])]]) (n2 := n + 2) ?_ (WQ.ret ⟨[(.agg [(.int .i64 v39), .nils])], resA_cell rfl (hp_get 1) rfl rfl, _, _, _, .keep _ _ _ _ (fun _ _ h => h), _, .nils, none, _, _, (nown_nil rfl), rfl, lt_aggL (ltL_cons (.int _ _) (ltL_cons .nils ltL_nil)), rfl, rfl, ?_⟩)
 exact nm [1000, 0] [2] [(.ep 2 (.sl 2 n 0 1 1 true) 0 0)] (rc (Rn.ptr (js := [1000, 0]) 0 1) rn) (RowsR.opt 1000 none _ _ (.inl rfl) (fun _ h => nomatch h) (RowsR.row 0 _ _ _ _ hp_get0 (rc (Rn.agg' (rc rki (rc (.keep _ .nils) rn))) rn) RowsR.nil))
 obtain rfl := Option.some.inj hm
 exact hk i42 _ _ (nown_nil rfl)
 refine WQ.skip ?_
 simp only [go_sem, ↓reduceIte, reduceCtorEq, Nat.reduceEqDiff, Nat.reduceLT, Nat.reduceLeDiff, Nat.reduceAdd, Nat.reduceMul, Int.reduceLE]
 refine kn hK17 ?_
 clear hK17 K17
 obtain ⟨v53, q52, hm⟩ := obs hm
 refine WQ.sr hT rfl fun K46 hK46 => ?_
 refine sq F15 ?_
 refine w_s_l13Losers_o (SlH.up h0 1) q52 (fun x54 rw55 h56 => ?_)
 replace h56 := nown_up (m := 1) h56
 refine sk (a5 F15 (nown_rd h56) (nown_len h56) (nown_cells h56) (nown_good h56)) ?_
 refine kn hK46 ?_
 clear hK46 K46
 obtain ⟨x57, h58, q59⟩ := nown_mv 0 h56
 refine WQ.norm (E2 := envZ [2] [(.ep 2 (.sl 2 (n + 1) 0 1 1 true) 0 0)]) (h2 := hp h n [rw55, some [(.agg [(.int .i64 0), x57])]]) (n2 := n + 2) ?_ (WQ.ret ⟨[(.agg [(.int .i64 0), x57])], resA_cell rfl (hp_get 1) rfl rfl, _, _, _, .keep _ _ _ _ (fun _ _ h => h), _, x57, rw55, _, _, h58, rfl, lt_aggL (ltL_cons (.int _ _) (ltL_cons (nown_lt h58) ltL_nil)), rfl, rfl, ?_⟩)
 exact nm [1, 0] [2] [(.ep 2 (.sl 2 n 0 1 1 true) 0 0)] (rc (Rn.ptr (js := [1, 0]) 0 1) rn) (RowsR.opt 1 _ _ _ (.inr (hp_get 1)) (nown_rows (j := 1) h56 int64_lt) (RowsR.row 0 _ _ _ _ hp_get0 (rc (Rn.agg' (rc rki (rc (q59 _ _ rfl) rn))) rn) RowsR.nil))
 obtain rfl := Option.some.inj hm
 exact hk (i64c (a := 0) rfl) _ _ h58
theorem w_s_LosersOf {x0 : AV} {v0 : List RecD} (h0 : (SlH h n 8 RecR) x0 v0) {fu : Nat} {r : IntsResultD} (hm : m_s_LosersOf fu v0 = some r) (hk : ∀ y, IntsResultR y r → K y h n) : CA Try.prog 25 [x0] h n K :=
 CA.ofN1 (c := .int .i64 r.code) (fun m => .int _ _) Try.call25 int64_lt (fun K hk => w_s_LosersOf_o h0 hm hk) (fun hi y hy => hk _ ⟨y, rfl, hi, hy⟩)
end
end Go.Proofs.Ytcngfjmfgeckmaa
end
namespace Go.Proofs.Ytcngfjmfgeckmaa
open Go
section
variable {fu : Nat} {h : Heap} {n : Nat} {K : AV → Heap → Nat → Prop}
def losersL (l : List RecD) : List Int := (sortI (txnsOf l 1)).filter fun t => !kinds l t [3, 4]
theorem m_i_losers_1_eq {a : Int} {l : List RecD} (hl : l.length ≤ 100000) (hfu : 1000000 < fu) : m_i_losers_1 fu a l = some (kinds l a [3, 4]) := by
  unfold m_i_losers_1
  rw [m_i_kindsOf_eq (ks := [3, 4]) (by omega) (by omega) (by decide) (by simp; omega)]; rfl
theorem m_i_losers_eq {l : List RecD} (hl : l.length ≤ 100000) (hfu : 1000000 < fu) : m_i_losers fu l = some (losersL l) := by
  have h1 := sortI_txns_len l 1
  unfold m_i_losers losersL
  rw [m_i_those_eq (by omega) (by omega), Option.bind_some]
  have hf : (fun a => m_i_losers_1 fu a l) = fun a => some (kinds l a [3, 4]) := funext fun a => m_i_losers_1_eq hl hfu
  have hd : delF fu (fun a => m_i_losers_1 fu a l) (sortI (txnsOf l 1)) = some ((sortI (txnsOf l 1)).filter fun t => !kinds l t [3, 4]) := by
    rw [hf]
    unfold delF
    rw [if_pos (by omega), if_pos (by simp)]
    rfl
  rw [hd]; rfl
theorem mem_txns {l : List RecD} {k t : Int} : t ∈ txnsOf l k ↔ ∃ x, x ∈ l ∧ x.kind = k ∧ x.txn = t := by
  unfold txnsOf
  rw [List.mem_map]
  constructor
  · rintro ⟨x, hx, rfl⟩
    obtain ⟨q1, q2⟩ := List.mem_filter.1 hx
    exact ⟨x, q1, of_decide_eq_true q2, rfl⟩
  · rintro ⟨x, q1, q2, q3⟩
    exact ⟨x, List.mem_filter.2 ⟨q1, decide_eq_true q2⟩, q3⟩
theorem ended_any (l : List RecD) (t : Int) : ((riseAll (txnsOf l 3) ++ riseAll (txnsOf l 4)).any fun a => decide (a = t)) = kinds l t [3, 4] := by
  rw [Bool.eq_iff_iff, kinds_iff, List.any_eq_true]
  constructor
  · rintro ⟨a, ha, h⟩
    obtain rfl := of_decide_eq_true h
    rcases List.mem_append.1 ha with ha | ha
    · obtain ⟨x, q1, q2, q3⟩ := mem_txns.1 ((riseAll_mem a).1 ha)
      exact ⟨x, q1, q3, by simp [q2]⟩
    · obtain ⟨x, q1, q2, q3⟩ := mem_txns.1 ((riseAll_mem a).1 ha)
      exact ⟨x, q1, q3, by simp [q2]⟩
  · rintro ⟨x, q1, q2, q3⟩
    refine ⟨t, ?_, decide_eq_true rfl⟩
    rw [List.mem_append, riseAll_mem, riseAll_mem, mem_txns, mem_txns]
    simp only [List.mem_cons, List.not_mem_nil, or_false] at q3
    rcases q3 with q3 | q3
    · exact .inl ⟨x, q1, q3, q2⟩
    · exact .inr ⟨x, q1, q3, q2⟩
theorem m_s_l13Losers_eq {l : List RecD} (hl : l.length ≤ 100000) (hfu : 1000000 < fu) (h1 : (txnsOf l 1).Nodup) : m_s_l13Losers fu l = some (losersL l) := by
  have e1 := sortI_txns_len l 1
  have l3 := riseAll_len (txnsOf l 3)
  have l4 := riseAll_len (txnsOf l 4)
  have k3 := txnsOf_len l 3
  have k4 := txnsOf_len l 4
  unfold m_s_l13Losers losersL
  rw [m_s_l13Kinds_eq (by omega) (by omega), m_s_l13Kinds_eq (by omega) (by omega), m_s_l13Kinds_eq (by omega) (by omega), Option.bind_some, Option.bind_some, Option.bind_some, appI_eq (by omega), Option.bind_some, riseAll_sort h1]
  have hd : (riseAll (txnsOf l 3) ++ riseAll (txnsOf l 4)).length ≤ 200000 := by rw [List.length_append]; omega
  have hany := ended_any l
  generalize riseAll (txnsOf l 3) ++ riseAll (txnsOf l 4) = done at hd hany
  generalize sortI (txnsOf l 1) = b at e1
  have key : ∀ (m i : Nat), i ≤ b.length → b.length - i < m → iterN (fun (s : (List Int) × (List Int) × (List Int) × Int) => m_s_l13Losers_a3 fu s.1 s.2.1 s.2.2.1 s.2.2.2) m ((b.take i).filter (fun t => !kinds l t [3, 4]), b, done, (i : Int)) = some (Sum.inl (b.filter fun t => !kinds l t [3, 4])) := by
    intro m
    induction m with
    | zero => intro i _ h; omega
    | succ m ih =>
      intro i hi hm
      unfold iterN
      by_cases hlt : i < b.length
      · have hge := List.getElem?_eq_getElem hlt
        have hfl := List.length_filter_le (fun t => !kinds l t [3, 4]) (b.take i)
        rw [List.length_take] at hfl
        have step : m_s_l13Losers_a3 fu ((b.take i).filter (fun t => !kinds l t [3, 4])) b done (i : Int) = some (Sum.inl ((b.take (i + 1)).filter (fun t => !kinds l t [3, 4]), b, done, ((i + 1 : Nat) : Int))) := by
          unfold m_s_l13Losers_a3 m_s_l13Losers_a2
          rw [if_pos (decide_eq_true (Int.ofNat_lt.2 hlt)), atL_nat, hge, Option.bind_some, m_s_l1Has_eq (by omega) (by omega), Option.bind_some, hany, snocL_eq (by omega), wrap_succ (by omega), List.take_add_one, hge, List.filter_append]
          cases hk : kinds l b[i] [3, 4] <;> simp [hk]
        simp only [step]
        exact ih (i + 1) hlt (by omega)
      · have step : m_s_l13Losers_a3 fu ((b.take i).filter (fun t => !kinds l t [3, 4])) b done (i : Int) = some (Sum.inr (Sum.inl (b.filter fun t => !kinds l t [3, 4]))) := by
          unfold m_s_l13Losers_a3
          rw [if_neg (by simp; omega), List.take_of_length_le (by omega)]
        simp only [step]
  have hh := key fu 0 (Nat.zero_le _) (by omega)
  unfold m_s_l13Losers_a4 m_s_l13Losers_a1
  rw [show (([] : List Int), b, done, (0 : Int)) = ((b.take 0).filter (fun t => !kinds l t [3, 4]), b, done, ((0 : Nat) : Int)) from rfl, hh]
  rfl
def loseP (l : List RecD) : IntsResultD := if soundP l ≠ 0 then ⟨soundP l, []⟩ else ⟨0, losersL l⟩
theorem m_i_LosersOf_eq {l : List RecD} (hfu : 1000000 < fu) : m_i_LosersOf fu l = some (loseP l) := by
  unfold m_i_LosersOf loseP
  rw [m_i_SoundRecs_eq (by omega), Option.bind_some]
  show (if decide (soundP l ≠ 0) = true then some (IntsResultD.mk (soundP l) []) else _) = _
  by_cases hs : soundP l = 0
  · obtain ⟨h1, _⟩ := sound_len hs
    rw [if_neg (by simp [hs]), if_neg (by simp [hs]), m_i_losers_eq (by omega) (by omega)]; rfl
  · rw [if_pos (decide_eq_true hs), if_pos hs]
theorem m_s_LosersOf_eq {l : List RecD} (hfu : 1000000 < fu) : m_s_LosersOf fu l = some (loseP l) := by
  unfold m_s_LosersOf loseP
  rw [m_s_l13Sound_eq (by omega), Option.bind_some]
  show (if decide (soundP l ≠ 0) = true then some (IntsResultD.mk (soundP l) []) else _) = _
  by_cases hs : soundP l = 0
  · obtain ⟨h1, h2⟩ := sound_len hs
    rw [if_neg (by simp [hs]), if_neg (by simp [hs]), m_s_l13Losers_eq (by omega) (by omega) (runC_once h2).1]; rfl
  · rw [if_pos (decide_eq_true hs), if_pos hs]
theorem losersL_len (l : List RecD) : (losersL l).length ≤ l.length := Nat.le_trans (List.length_filter_le _ _) (sortI_txns_len l 1)
theorem loseP_small (l : List RecD) : wsIntsResult (loseP l) ≤ 2097152 := by
  unfold wsIntsResult wtInt64S wtInt loseP
  rw [map_const_sum]
  split
  · simp
  · rename_i hs
    have := (sound_len (by simpa using hs)).1
    have := losersL_len l
    simp only
    omega
theorem s_lose {x : AV} {l : List RecD} (hx : RecSR x l) (hk : ∀ y, IntsResultR y (loseP l) → K y h n) : CA Try.prog 25 [x] h n K :=
  w_s_LosersOf (SlR.toH hx) (fu := 10000000) (m_s_LosersOf_eq (by omega)) hk
theorem i_loseO {x : AV} {l : List RecD} (hx : RecSR x l) (hk : ∀ r h' n', OwnRes IntsResultR h n r (loseP l) h' n' → K r h' n') : CA Try.prog 26 [x] h n K :=
  CA.ownN1 (c := .int .i64 (loseP l).code) (.int _ _) (.int _ _) Try.call26 tyInt_2.lt (fun H e a he => by obtain ⟨rfl, _⟩ := he; exact .atom _ (.int _ _) (.int _ _)) (fun K hk => w_i_LosersOf_o (SlR.toH hx) (fu := 10000000) (m_i_LosersOf_eq (by omega)) hk) (fun hi y hy => ⟨y, rfl, hi, hy⟩) hk
end
end Go.Proofs.Ytcngfjmfgeckmaa
section
namespace Go.Proofs.Ytcngfjmfgeckmaa
open Go
section
variable {h : Heap} {n : Nat} {K : AV → Heap → Nat → Prop}
set_option maxHeartbeats 1000000 in
theorem c6 {x : AV} {l : List RecD} (hx : RecSR x l) (hk : K (.bool true) h n) : CA Try.prog 6 [x] h n K := by
  refine CA.conv (CA.enter (N := 69) (rs := [.tmp 2]) hT Try.call6 Try.func6 rfl rfl (by simp) rfl fun hlt => ?_)
  refine WP.seq_k fun K1 hK1 => WP.region hT rfl ?_
  refine q_S ?_
  refine hK1 _ _ _ ?_
  clear hK1 K1
  refine WP.seq_k fun K1 hK1 => WP.region hT rfl ?_
  refine q_S ?_
  refine hK1 _ _ _ ?_
  clear hK1 K1
  refine WP.seq_k fun K1 hK1 => WP.region hT rfl ?_
  refine q_S ?_
  refine c14 hx (by omega) (by omega) (hK1 _ _ _ ?_)
  clear hK1 K1
  refine WP.seq_k fun K3 hK3 => ?_
  refine WP.seq_k fun K1 hK1 => WP.region hT rfl ?_
  refine q_S ?_
  refine hK1 _ _ _ ?_
  clear hK1 K1
  refine WP.cond (by simp only [ev, Env.get_put_some, ↓reduceIte]; rfl) (fun hc => ?_) (fun hc => ?_)
  · refine WP.seq_k fun K1 hK1 => WP.region hT rfl ?_
    refine q_S ?_
    refine hK1 _ _ _ ?_
    clear hK1 K1
    refine WP.ret ?_
    refine qr_S ?_
    exact ⟨_, rfl, ret_p (Left.refl hlt) (.bool _) hk⟩
  refine WP.skip (hK3 _ _ _ ?_)
  clear hK3 K3
  obtain ⟨b1, b2⟩ := left_nonneg (by omega) (of_decide_eq_false hc)
  have hl : sizRecS l ≤ 1048576 := by omega
  have hsm : wsIntsResult (loseP l) ≤ 2097152 := loseP_small l
  have hs0 : wtRecS l ≤ 8388608 := by
    unfold wtRecS wtRec
    rw [map_const_sum]
    unfold sizRecS sizL at hl
    omega
  refine WP.seq_k fun K1 hK1 => WP.region hT rfl ?_
  refine Q_S ?_
  refine c16 hx hl fun r1 hr1 => ?_
  refine w_S ?_
  refine s_lose hr1 fun w0 hw0 => ?_
  obtain ⟨A0, rfl, hA00, hA0⟩ := id hw0
  refine w_S ?_
  refine hK1 _ _ _ ?_
  clear hK1 K1
  refine WP.seq_k fun K1 hK1 => WP.region hT rfl ?_
  refine Q_S ?_
  refine c16o hx hl fun x0 h2 n2 o2 => ?_
  refine w_S ?_
  refine hK1 _ _ _ ?_
  clear hK1 K1
  have l2 := o2.le
  have bw2 : h2 n = some [.agg [.int .i64 (loseP l).code, A0]] := by rw [o2.below n (by omega), Heap.upd_same]
  obtain ⟨x0', I0, t0, u0, i0⟩ := o2.frz0
  refine WP.seq_k fun K1 hK1 => WP.region hT rfl ?_
  refine Q_S ?_
  refine CA.lendOwn (args' := [x0']) Try.call26 rfl (frzL1 (.inr t0.frz00)) (fun K hk => i_loseO u0 hk) fun g0 h4 n4 o4 => ?_
  have l4 := o4.le
  have bw4 : h4 n = some [.agg [.int .i64 (loseP l).code, A0]] := by rw [o4.below n (by omega)]; exact bw2
  obtain ⟨g0', I2, t2, u2, i2⟩ := o4.frz0
  have t0 : Tree h4 x0 x0' I0 := t0.keep fun i hi => o4.below i (by have := i0 i hi; omega)
  obtain ⟨Ag', rfl, hAg0, hAg⟩ := id u2
  obtain ⟨gs, rfl, hgl⟩ := t2.aggE
  have gl3 : gs.length = 2 := by have := hgl.length; simpa using this.symm
  obtain ⟨ga, gb, rfl⟩ := len2 gl3
  refine w_S ?_
  refine hK1 _ _ _ ?_
  clear hK1 K1
  generalize hh5 : h4.upd n4 [.agg [ga, gb]] = h5
  have fr5 : ∀ id, id < n4 → h5 id = h4 id := fun id hid => by rw [← hh5, Heap.upd_ne _ _ (by omega)]
  have bg5 : h5 n4 = some [.agg [ga, gb]] := by rw [← hh5, Heap.upd_same]
  have bw5 : h5 n = some [.agg [.int .i64 (loseP l).code, A0]] := by rw [fr5 n (by omega)]; exact bw4
  have t0 : Tree h5 x0 x0' I0 := t0.keep fun i hi => fr5 i (by have := i0 i hi; omega)
  have t2 : Tree h5 (.agg [ga, gb]) (.agg [.int .i64 (loseP l).code, Ag']) I2 := t2.keep fun i hi => fr5 i (by have := i2 i hi; omega)
  clear hh5
  refine WP.seq_k fun K3 hK3 => ?_
  refine WP.seq_k fun K1 hK1 => WP.region hT rfl ?_
  refine Q_fS (And.intro bg5 bw5) ?_
  refine CA.lend (args' := [.agg [.int .i64 (loseP l).code, Ag'], .agg [.int .i64 (loseP l).code, A0]]) Try.call21 rfl (frzL2 (.inr t2.frz00) (.inl rfl)) (.bool _) (fun K hk => c21 u2 hw0 hk) ?_
  refine w_S ?_
  refine hK1 _ _ _ ?_
  clear hK1 K1
  refine WP.cond (by simp only [ev, Env.get_put_some, ↓reduceIte]; rfl) (fun hc => ?_) (fun hc => ?_)
  · simp at hc
  refine WP.skip (hK3 _ _ _ ?_)
  clear hK3 K3
  refine WP.seq_k fun K3 hK3 => ?_
  refine WP.seq_k fun K1 hK1 => WP.region hT rfl ?_
  refine Q_S ?_
  refine c16 hx hl fun r3 hr3 => ?_
  refine w_S ?_
  refine CA.lend (args' := [x0', r3]) Try.call18 rfl (frzL2 (.inr t0.frz00) (.inl rfl)) (.bool _) (fun K hk => c18 u0 hr3 hk) ?_
  refine w_S ?_
  refine hK1 _ _ _ ?_
  clear hK1 K1
  refine WP.cond (by simp only [ev, Env.get_put_some, ↓reduceIte]; rfl) (fun hc => ?_) (fun hc => ?_)
  · simp at hc
  refine WP.skip (hK3 _ _ _ ?_)
  clear hK3 K3
  refine WP.seq_k fun K1 hK1 => WP.region hT rfl ?_
  refine q_S ?_
  refine hK1 _ _ _ ?_
  clear hK1 K1
  refine WP.seq_k fun K1 hK1 => WP.region hT rfl ?_
  refine Q_S ?_
  refine m22 u0 _ _ _ x0 I0 1 t0 (by omega) (by omega) fun x0'' h6 n6 l6 t0'' fr6 _ => ?_
  refine w_S ?_
  refine hK1 _ _ _ ?_
  clear hK1 K1
  have bw6 : h6 n = some [.agg [.int .i64 (loseP l).code, A0]] := by rw [fr6 n (fun hm => by have := i0 n hm; omega)]; exact bw5
  have bg6 : h6 n4 = some [.agg [ga, gb]] := by rw [fr6 n4 (fun hm => by have := i0 n4 hm; omega)]; exact bg5
  have t2 : Tree h6 (.agg [ga, gb]) (.agg [.int .i64 (loseP l).code, Ag']) I2 := t2.keep fun i hi => fr6 i (fun hm => by have := i0 i hm; have := i2 i hi; omega)
  have hneg : decide ((1 : Int) + (wtRecS l : Nat) < 0) = false := decide_eq_false (by omega)
  refine WP.seq_k fun K3 hK3 => ?_
  refine WP.seq_k fun K1 hK1 => WP.region hT rfl ?_
  refine Q_fS (And.intro hneg (And.intro bg6 bw6)) ?_
  refine CA.lend (args' := [.agg [.int .i64 (loseP l).code, Ag'], .agg [.int .i64 (loseP l).code, A0]]) Try.call21 rfl (frzL2 (.inr t2.frz00) (.inl rfl)) (.bool _) (fun K hk => c21 u2 hw0 hk) ?_
  refine w_fS hneg ?_
  refine hK1 _ _ _ ?_
  clear hK1 K1
  refine WP.cond (by simp only [ev, Env.get_put_some, ↓reduceIte]; rfl) (fun hc => ?_) (fun hc => ?_)
  · simp at hc
  refine WP.skip (hK3 _ _ _ ?_)
  clear hK3 K3
  refine WP.seq_k fun K1 hK1 => WP.region hT rfl ?_
  refine q_S ?_
  refine hK1 _ _ _ ?_
  clear hK1 K1
  refine WP.seq_k fun K1 hK1 => WP.region hT rfl ?_
  refine Q_fS bg6 ?_
  refine m23 u2 _ _ _ _ I2 1 t2 (by omega) (by omega) fun g'' h8 n8 l8 t2'' fr8 hHg => ?_
  refine w_S ?_
  refine hK1 _ _ _ ?_
  clear hK1 K1
  have bw8 : h8 n = some [.agg [.int .i64 (loseP l).code, A0]] := by rw [fr8 n (fun hm => by have := i2 n hm; omega)]; exact bw6
  have bg8 : h8 n4 = some [.agg [ga, gb]] := by rw [fr8 n4 (fun hm => by have := i2 n4 hm; omega)]; exact bg6
  have hh : HeldBy Try.prog 24 g'' (wsIntsResult (loseP l)) 1 := h24 (by omega) (by omega) hHg
  have hneg2 : decide ((1 : Int) + (wsIntsResult (loseP l) : Nat) < 0) = false := decide_eq_false (by omega)
  refine WP.seq_k fun K1 hK1 => WP.region hT rfl ?_
  refine q_S ?_
  refine hK1 _ _ _ ?_
  clear hK1 K1
  refine WP.seq_k fun K1 hK1 => WP.region hT rfl ?_
  refine Q_fS bg8 ?_
  refine CA.lend (args' := [g'', .int .i64 1]) Try.call24 rfl (frzL2 (.inr t2''.frz00) (.inl rfl)) (.int _ _) (fun K hk => hh _ _ _ hk) ?_
  refine w_S ?_
  refine hK1 _ _ _ ?_
  clear hK1 K1
  refine WP.seq_k fun K3 hK3 => ?_
  refine WP.seq_k fun K1 hK1 => WP.region hT rfl ?_
  refine q_S ?_
  refine hK1 _ _ _ ?_
  clear hK1 K1
  refine WP.cond (by simp only [ev, Env.get_put_some, ↓reduceIte]; rfl) (fun hc => ?_) (fun hc => ?_)
  · rw [hneg2] at hc; cases hc
  refine WP.skip (hK3 _ _ _ ?_)
  clear hK3 K3
  refine WP.seq_k fun K3 hK3 => ?_
  refine WP.seq_k fun K1 hK1 => WP.region hT rfl ?_
  refine q_S ?_
  refine hK1 _ _ _ ?_
  clear hK1 K1
  refine WP.cond (by simp only [ev, Env.get_put_some, ↓reduceIte]; rfl) (fun hc => ?_) (fun hc => ?_)
  · simp at hc
  refine WP.skip (hK3 _ _ _ ?_)
  clear hK3 K3
  refine WP.seq_k fun K1 hK1 => WP.region hT rfl ?_
  refine Q_S ?_
  refine c16 hx hl fun r5 hr5 => ?_
  refine w_S ?_
  refine CA.ofOwn Try.call26 (fun K hk => i_loseO hr5 hk) fun h0 hh0 => ?_
  obtain ⟨A1, rfl, hA10, hA1⟩ := id hh0
  have f8 : (n = n8) = False := eq_false (by omega)
  have f9 : (n4 = n8) = False := eq_false (by omega)
  refine w_S ?_
  refine hK1 _ _ _ ?_
  clear hK1 K1
  refine WP.seq_k fun K3 hK3 => ?_
  refine WP.seq_k fun K1 hK1 => WP.region hT rfl ?_
  refine Q_fS (And.intro bw8 f8) ?_
  refine c21 hh0 hw0 ?_
  refine w_S ?_
  refine hK1 _ _ _ ?_
  clear hK1 K1
  refine WP.cond (by simp only [ev, Env.get_put_some, ↓reduceIte]; rfl) (fun hc => ?_) (fun hc => ?_)
  · simp at hc
  refine WP.skip (hK3 _ _ _ ?_)
  clear hK3 K3
  refine WP.seq_k fun K1 hK1 => WP.region hT rfl ?_
  refine q_S ?_
  refine hK1 _ _ _ ?_
  clear hK1 K1
  generalize hh9 : h8.upd n8 [.agg [.int .i64 (loseP l).code, A1]] = h9
  have t2'' : Tree h9 (.agg [ga, gb]) g'' I2 := t2''.keep fun i hi => by rw [← hh9, Heap.upd_ne _ _ (by have := i2 i hi; omega)]
  have fr9 : ∀ id, id < n8 → h9 id = h8 id := fun id hid => by rw [← hh9, Heap.upd_ne _ _ (by omega)]
  have bg9 : h9 n4 = some [.agg [ga, gb]] := by rw [← hh9, Heap.upd_ne _ _ (by omega)]; exact bg8
  clear hh9
  refine WP.seq_k fun K1 hK1 => WP.region hT rfl ?_
  refine Q_fS bg9 ?_
  refine CA.lend (args' := [g'', .int .i64 1]) Try.call24 rfl (frzL2 (.inr t2''.frz00) (.inl rfl)) (.int _ _) (fun K hk => hh _ _ _ hk) ?_
  refine w_S ?_
  refine hK1 _ _ _ ?_
  clear hK1 K1
  refine WP.seq_k fun K3 hK3 => ?_
  refine WP.seq_k fun K1 hK1 => WP.region hT rfl ?_
  refine q_S ?_
  refine hK1 _ _ _ ?_
  clear hK1 K1
  refine WP.cond (by simp only [ev, Env.get_put_some, ↓reduceIte]; rfl) (fun hc => ?_) (fun hc => ?_)
  · rw [hneg2] at hc; cases hc
  refine WP.skip (hK3 _ _ _ ?_)
  clear hK3 K3
  refine WP.seq_k fun K3 hK3 => ?_
  refine WP.seq_k fun K1 hK1 => WP.region hT rfl ?_
  refine q_S ?_
  refine hK1 _ _ _ ?_
  clear hK1 K1
  refine WP.cond (by simp only [ev, Env.get_put_some, ↓reduceIte]; rfl) (fun hc => ?_) (fun hc => ?_)
  · simp at hc
  refine WP.skip (hK3 _ _ _ ?_)
  clear hK3 K3
  refine WP.seq_k fun K1 hK1 => WP.region hT rfl ?_
  refine q_S ?_
  refine hK1 _ _ _ ?_
  clear hK1 K1
  refine WP.ret ?_
  refine qr_S ?_
  refine ⟨_, rfl, ret_p ⟨fun id b hb => ⟨hlt id b hb, ?_⟩, fun id b hb => .inl hb⟩ (.bool _) hk⟩
  have hid := hlt id b hb
  rw [fr9 id (by omega), fr8 id (fun hm => by have := i2 id hm; omega), fr6 id (fun hm => by have := i0 id hm; omega), fr5 id (by omega), o4.below id (by omega), o2.below id (by omega), Heap.upd_ne _ _ (by omega)]
  exact hb
end
end Go.Proofs.Ytcngfjmfgeckmaa
end
namespace Go.Proofs.Ytcngfjmfgeckmaa
open Go Go.ChangeShapes Go.WideShapes Go.ChangeAt Go.RowKit Go.Deep
def startCfg (W : World) : Cfg := ⟨fun _ => none, fun b => b < W.heap.size, W⟩
theorem start_hr (W : World) : HR (startCfg W) Heap.emp := ⟨fun id b hb => (by cases hb), fun i j bi bj x y h1 => (by cases h1), fun b hb => hb⟩
theorem start_fresh (W : World) : Fresh (startCfg W) 0 := fun _ _ => rfl
theorem below_of_ext {W : World} {c' : Cfg} {h' : Heap} {fr : Nat → Prop} (e : Ext (startCfg W) Heap.emp fr c' h') : Below W.heap.size W c'.w :=
  ⟨e.os, e.tape, e.output, e.size, fun k hk => e.frame k hk fun id blk x hb => (by cases hb)⟩
theorem law_calls {P : Program} {f : FuncId} {us : List AV} {vals : Array Value} {W : World} (hs : vals.size = us.length) (hv : ∀ (i : Nat) (u : AV) (v : Value), us[i]? = some u → vals[i]? = some v → VR (startCfg W) u v)
    (hc : CA P f us Heap.emp 0 (fun r _ _ => r = .bool true)) : Calls P f vals W (fun e w' => e = .returned (.bool true) ∧ Below W.heap.size W w') :=
  Calls.mono (hc.2 (startCfg W) vals (start_hr W) (start_fresh W) hs hv) fun e w' ⟨v, r, h', n', h1, ⟨c', h2, h3, h4, h5, h6, h7⟩, h8⟩ => by
    subst h1 h2 h8
    cases h6
    exact ⟨rfl, below_of_ext h3⟩
section
variable {H : Type} {enc : TypeId × Value → H} {P : Program} {W : World} {base : Nat} {spare : Nat → Bool} {held : Bool} {α : Type}
def Opn (enc : TypeId × Value → H) (P : Program) (W : World) (base : Nat) (spare : Nat → Bool) (held : Bool) (t : TypeId) (sz : Nat) (R : AV → α → Prop) : Prop :=
  ∀ (fuel : Nat) (cs : List Value) (x : DataW H × List MemPlace), DataW.trod enc P W base spare held fuel t cs = some x →
    ∃ u a, R u a ∧ u.cells.length = sz ∧ cs.length = sz ∧ (∀ x, x ∈ u.cells → x.one = true) ∧ ∀ (j : Nat) (u' : AV) (v : Value), u.cells[j]? = some u' → cs[j]? = some v → VR (startCfg W) u' v
theorem opn_one {t : TypeId} {R : AV → α → Prop} (h : ∀ (fuel : Nat) (cs : List Value) (x : DataW H × List MemPlace), DataW.trod enc P W base spare held fuel t cs = some x → ∃ u a v, R u a ∧ u.one = true ∧ cs = [v] ∧ VR (startCfg W) u v) : Opn enc P W base spare held t 1 R :=
  fun fuel cs x hx => by
    obtain ⟨u, a, v, h1, h2, rfl, h3⟩ := h fuel cs x hx
    have hc : u.cells = [u] := by cases u <;> first | rfl | (cases h2)
    refine ⟨u, a, h1, by rw [hc]; rfl, rfl, fun x hx => by rw [hc] at hx; rw [List.mem_singleton.1 hx]; exact h2, fun j u' v' hj hv => ?_⟩
    rw [hc] at hj
    cases j with
    | zero => simp only [List.getElem?_cons_zero, Option.some.injEq] at hj hv; subst hj; subst hv; exact h3
    | succ j => simp at hj
theorem opn_int {t : TypeId} {k : IntKind} (ht : P.underlying t = some (.int k)) : Opn enc P W base spare held t 1 (fun e a => e = .int k a ∧ (Lit.int k a).wf = true) :=
  opn_one fun fuel cs x hx => by
    obtain ⟨n, h1, _, h2⟩ := DataW.trod_int ht hx
    exact ⟨.int k n, n, .int k n, ⟨rfl, h2⟩, rfl, h1, .int _ _⟩
theorem opn_bool {t : TypeId} (ht : P.underlying t = some .bool) : Opn enc P W base spare held t 1 (fun e (a : Bool) => e = .bool a) :=
  opn_one fun fuel cs x hx => by
    obtain ⟨b, h1, _⟩ := DataW.trod_bool ht hx
    exact ⟨.bool b, b, .bool b, rfl, rfl, h1, .bool _⟩
theorem opn_mono {t : TypeId} {sz : Nat} {β : Type} {R : AV → α → Prop} {R' : AV → β → Prop} (h : Opn enc P W base spare held t sz R) (hr : ∀ u a, R u a → ∃ b, R' u b) : Opn enc P W base spare held t sz R' :=
  fun fuel cs x hx => by
    obtain ⟨u, a, h1, h2⟩ := h fuel cs x hx
    obtain ⟨b, hb⟩ := hr u a h1
    exact ⟨u, b, hb, h2⟩
theorem lists_of {β : Type} {Q : Nat → α → β → Prop} : ∀ (len : Nat), (∀ i, i < len → ∃ u a, Q i u a) → ∃ (es : List α) (l : List β), es.length = len ∧ l.length = len ∧ ∀ (i : Nat) u a, es[i]? = some u → l[i]? = some a → Q i u a
  | 0, _ => ⟨[], [], rfl, rfl, fun i u a h => by simp at h⟩
  | len + 1, h => by
    obtain ⟨es, l, h1, h2, h3⟩ := lists_of len (fun i hi => h i (by omega))
    obtain ⟨u, a, hq⟩ := h len (by omega)
    refine ⟨es ++ [u], l ++ [a], by simp [h1], by simp [h2], fun i u' a' hu ha => ?_⟩
    rcases Nat.lt_trichotomy i len with hlt | rfl | hgt
    · rw [List.getElem?_append_left (by omega)] at hu ha
      exact h3 i u' a' hu ha
    · rw [List.getElem?_append_right (by omega), h1, Nat.sub_self] at hu
      rw [List.getElem?_append_right (by omega), h2, Nat.sub_self] at ha
      simp only [List.getElem?_cons_zero, Option.some.injEq] at hu ha
      subst hu; subst ha; exact hq
    · rw [List.getElem?_eq_none (by simp; omega)] at hu; cases hu
theorem all2_of {β : Type} {Q : α → β → Prop} : ∀ (es : List α) (l : List β), es.length = l.length → (∀ (i : Nat) u a, es[i]? = some u → l[i]? = some a → Q u a) → All2 Q es l
  | [], [], _, _ => .nil
  | u :: es, a :: l, hl, h => .cons (h 0 u a rfl rfl) (all2_of es l (by simpa using hl) fun i u a h1 h2 => h (i + 1) u a (by simpa using h1) (by simpa using h2))
  | [], _ :: _, hl, _ => by simp at hl
  | _ :: _, [], hl, _ => by simp at hl
theorem opn_slice {t e : TypeId} {sz : Nat} {R : AV → α → Prop} (ht : P.underlying t = some (.slice e)) (hsz : P.cellsOf e = sz) (hpos : 0 < sz) (he : Opn enc P W base spare held e sz R) (hlt : ∀ u a n, R u a → u.Lt n) : Opn enc P W base spare held t 1 (SlR sz R) :=
  opn_one fun fuel cs x hx => by
    rcases open_slice ht hx with ⟨h1, _⟩ | ⟨a, len, cap, m, n, D, Pl, h1, hb, hl, hm, hmm, _, hel⟩
    · exact ⟨.nils, [], .slice none 0 0, ⟨[], rfl, .nil, Nat.zero_le _, fun n => .nils, rfl⟩, rfl, h1, .nils⟩
    · have hlm : len ≤ m := by rw [hmm]; split <;> omega
      obtain ⟨es, l, e1, e2, e3⟩ := lists_of (α := AV) (β := α) (Q := fun i u b => R u b ∧ u.cells.length = sz ∧ (∀ x, x ∈ u.cells → x.one = true) ∧ ∀ (j : Nat) (u' : AV), u.cells[j]? = some u' → ∃ v, W.cell? (a.add (i * sz + j)) = some v ∧ VR (startCfg W) u' v) len (fun i hi => by
        obtain ⟨cs', c1, c2⟩ := hel i (by omega)
        obtain ⟨u, b, k1, k2, k3, k4, k5⟩ := he n cs' _ c2
        refine ⟨u, b, k1, k2, k4, fun j u' hj => ?_⟩
        have hjl : j < cs'.length := by rw [k3, ← k2]; exact (List.getElem?_eq_some_iff.1 hj).1
        refine ⟨cs'[j], ?_, k5 j u' _ hj (List.getElem?_eq_getElem hjl)⟩
        rw [hsz] at c1
        obtain ⟨_, hlen, hat⟩ := World.cells?_some c1
        have := hat j (by omega)
        rw [add_add] at this
        rw [this]
        simp [hjl])
      have hall : All2 R es l := all2_of es l (by omega) fun i u b h1 h2 => (e3 i u b h1 h2).1
      have lget : ∀ (i : Nat) u, es[i]? = some u → ∃ b, l[i]? = some b := fun i u hu => by
        obtain ⟨b, hb, _⟩ := all2_get hall i u hu
        exact ⟨b, hb⟩
      refine ⟨.ro sz false es, l, .slice (some a) len cap, .mk_ro hall (by omega) hlt, rfl, h1, ?_⟩
      subst e1
      refine .ro sz false es a cap (fun i j => (W.cell? (a.add (i * sz + j))).getD Go.undef) hl hm (fun hq => by cases hq) (fun hne => ?_) (fun i u hu => ?_) (fun i u j u' hu hj => ?_) (fun i u j u' hu hj => ?_) (fun i u j u' hu hj => ?_)
      · have hl0 : 0 < es.length := by cases es with | nil => exact absurd rfl hne | cons => simp
        have hu := List.getElem?_eq_getElem hl0
        obtain ⟨b, hb⟩ := lget 0 _ hu
        have k := e3 0 _ b hu hb
        have hj : 0 < (es[0]'hl0).cells.length := by rw [k.2.1]; exact hpos
        obtain ⟨v, q1, _⟩ := k.2.2.2 0 _ (List.getElem?_eq_getElem hj)
        have := World.block_lt_of_cell? W _ q1
        rw [add_block] at this
        exact this
      · obtain ⟨b, hb⟩ := lget i u hu; exact (e3 i u b hu hb).2.1
      · obtain ⟨b, hb⟩ := lget i u hu; exact (e3 i u b hu hb).2.2.1 u' (List.mem_of_getElem? hj)
      · obtain ⟨b, hb⟩ := lget i u hu
        obtain ⟨v, q1, q2⟩ := (e3 i u b hu hb).2.2.2 j u' hj
        show W.cell? _ = _
        rw [q1]; rfl
      · obtain ⟨b, hb⟩ := lget i u hu
        obtain ⟨v, q1, q2⟩ := (e3 i u b hu hb).2.2.2 j u' hj
        simp only [q1, Option.getD_some]; exact q2
theorem SlR.one {sz : Nat} {R : AV → α → Prop} {u : AV} {l : List α} (h : SlR sz R u l) : u.one = true := by
  obtain ⟨_, _, _, _, _, h⟩ := h; exact h
structure Fld where
  t : TypeId
  sz : Nat
  q : AV → Prop
def layout : List Fld → Nat → List (Nat × TypeId)
  | [], _ => []
  | f :: r, o => (o, f.t) :: layout r (o + f.sz)
def total : List Fld → Nat
  | [] => 0
  | f :: r => f.sz + total r
def OpnQ (enc : TypeId × Value → H) (P : Program) (W : World) (base : Nat) (spare : Nat → Bool) (held : Bool) (f : Fld) : Prop := P.cellsOf f.t = f.sz ∧ Opn enc P W base spare held f.t f.sz (fun u (_ : Unit) => f.q u)
theorem fields_open {cs : List Value} {n : Nat} : ∀ (qs : List Fld) (fs : List Field) (o : Nat), (fs.map fun f => (f.offset, f.type)) = layout qs o → (∀ f, f ∈ qs → OpnQ enc P W base spare held f) →
    (∀ f, f ∈ fs → ∃ y, DataW.trod enc P W base spare held n f.type ((cs.drop f.offset).take (P.cellsOf f.type)) = some y) → cs.length = o + total qs →
    ∃ us : List AV, All2 (fun f u => f.q u ∧ u.cells.length = f.sz) qs us ∧ (us.flatMap AV.cells).length = total qs ∧ (∀ x, x ∈ us.flatMap AV.cells → x.one = true) ∧
      ∀ (j : Nat) (u' : AV) (v : Value), (us.flatMap AV.cells)[j]? = some u' → (cs.drop o)[j]? = some v → VR (startCfg W) u' v
  | [], fs, o, hl, _, _, _ => ⟨[], .nil, rfl, fun x hx => by simp at hx, fun j u' v h => by simp at h⟩
  | f :: qs, fs, o, hl, hq, ht, hc => by
    cases fs with
    | nil => simp [layout] at hl
    | cons g fs =>
      simp only [List.map_cons, layout, List.cons.injEq, Prod.mk.injEq] at hl
      obtain ⟨⟨g1, g2⟩, hl⟩ := hl
      obtain ⟨us, a1, a2, a3, a4⟩ := fields_open qs fs (o + f.sz) hl (fun f hf => hq f (by simp [hf])) (fun f hf => ht f (by simp [hf])) (by simp only [total] at hc; omega)
      obtain ⟨hsz, ho⟩ := hq f (by simp)
      obtain ⟨y, hy⟩ := ht g (by simp)
      rw [g1, g2, hsz] at hy
      obtain ⟨u, _, k1, k2, k3, k4, k5⟩ := ho n _ y hy
      refine ⟨u :: us, .cons ⟨k1, k2⟩ a1, by simp only [List.flatMap_cons, List.length_append, a2, k2, total], fun x hx => ?_, fun j u' v hj hv => ?_⟩
      · simp only [List.flatMap_cons, List.mem_append] at hx
        rcases hx with hx | hx
        · exact k4 x hx
        · exact a3 x hx
      · rw [List.flatMap_cons] at hj
        by_cases hlt : j < f.sz
        · rw [List.getElem?_append_left (by omega)] at hj
          refine k5 j u' v hj ?_
          rw [List.getElem?_take, if_pos hlt]; exact hv
        · rw [List.getElem?_append_right (by omega), k2] at hj
          refine a4 (j - f.sz) u' v hj ?_
          rw [List.getElem?_drop] at hv ⊢
          rw [← hv]; congr 1; omega
theorem opn_struct {t : TypeId} {F : Array Field} {R : AV → α → Prop} (qs : List Fld) (ht : P.underlying t = some (.struct F)) (hl : (F.toList.map fun f => (f.offset, f.type)) = layout qs 0) (hc : P.cellsOf t = total qs) (hq : ∀ f, f ∈ qs → OpnQ enc P W base spare held f)
    (hR : ∀ us : List AV, All2 (fun f u => f.q u ∧ u.cells.length = f.sz) qs us → ∃ a, R (.agg (us.flatMap AV.cells)) a) : Opn enc P W base spare held t (total qs) R := fun fuel cs x hx => by
  obtain ⟨xs, n, _, _, h3, h4, h5⟩ := DataW.trod_struct ht hx
  obtain ⟨us, a1, a2, a3, a4⟩ := fields_open (enc := enc) (base := base) (spare := spare) (held := held) (cs := cs) (n := n) qs F.toList 0 hl hq (fun f hf => by
    obtain ⟨i, hi⟩ := List.mem_iff_getElem?.1 hf
    have hi' : F[i]? = some f := by simpa using hi
    have hlt : i < xs.length := by rw [h4]; exact (Array.getElem?_eq_some_iff.1 hi').1
    exact ⟨xs[i], by rw [h5 i f hi', List.getElem?_eq_getElem hlt]⟩) (by rw [h3, hc]; omega)
  obtain ⟨a, ha⟩ := hR us a1
  exact ⟨_, a, ha, a2, by rw [h3, hc], a3, fun j u' v hj hv => a4 j u' v hj (by simpa using hv)⟩
def intF (t : TypeId) (k : IntKind) : Fld := ⟨t, 1, fun e => ∃ a, e = .int k a ∧ (Lit.int k a).wf = true⟩
theorem opnQ_int {t : TypeId} {k : IntKind} (ht : P.underlying t = some (.int k)) (hc : P.cellsOf t = 1) : OpnQ enc P W base spare held (intF t k) :=
  ⟨hc, opn_mono (opn_int ht) fun _ a h => ⟨(), a, h⟩⟩
theorem param_one {t : TypeId} {R : AV → α → Prop} (ho : Opn enc P W base spare held t 1 R) (hone : ∀ u a, R u a → u.one = true) {v : Value} {d : DataW H} {ps : List MemPlace} (hc : v.cells.toList = [v]) (hd : DataW.Trod enc P W base spare held t v d ps) :
    ∃ u a, R u a ∧ VR (startCfg W) u v := by
  obtain ⟨fuel, hf⟩ := hd
  obtain ⟨u, a, h1, h2, h3, h4, h5⟩ := ho fuel _ _ hf
  have hu := hone u a h1
  have hcu : u.cells = [u] := by cases u <;> first | rfl | (cases hu)
  exact ⟨u, a, h1, h5 0 u v (by rw [hcu]; rfl) (by rw [hc]; rfl)⟩
end
end Go.Proofs.Ytcngfjmfgeckmaa
namespace Go.Proofs.Ytcngfjmfgeckmaa
open Go Go.ChangeShapes Go.WideShapes Go.ChangeAt Go.RowKit Go.Deep
theorem ownKnob_2 : ownKnob Try.prog.godebug = none := by kernel_rfl
theorem laidOut_2 : laidOutB Try.prog = true := by kernel_rfl
theorem i64_of_wf {a : Int} (h : (Lit.int .i64 a).wf = true) : I64 a := by
  have h1 : IntKind.i64.min = -9223372036854775808 := by rfl
  have h2 : IntKind.i64.max = 9223372036854775807 := by rfl
  simp only [Lit.wf, h1, h2, Bool.and_eq_true, decide_eq_true_eq] at h
  unfold I64
  omega
section
variable {H : Type} {enc : TypeId × Value → H} {W : World} {base : Nat} {spare : Nat → Bool} {held : Bool}
def boolF (t : TypeId) : Fld := ⟨t, 1, fun e => ∃ a, e = .bool a⟩
theorem opnQ_bool {P : Program} {t : TypeId} (ht : P.underlying t = some .bool) (hc : P.cellsOf t = 1) : OpnQ enc P W base spare held (boolF t) := ⟨hc, opn_mono (opn_bool ht) fun _ a h => ⟨(), a, h⟩⟩
theorem opn_78 : Opn enc Try.prog W base spare held 78 8 RecR := by
  refine opn_struct [intF 2 .i64, intF 2 .i64, intF 2 .i64, boolF 4, intF 2 .i64, boolF 4, intF 2 .i64, intF 2 .i64] Try.underlying78 rfl (by kernel_rfl) (fun f hf => ?_) (fun us hus => ?_)
  · simp only [List.mem_cons, List.not_mem_nil, or_false] at hf
    rcases hf with rfl | rfl | rfl | rfl | rfl | rfl | rfl | rfl
    · exact opnQ_int Try.underlying2 (by kernel_rfl)
    · exact opnQ_int Try.underlying2 (by kernel_rfl)
    · exact opnQ_int Try.underlying2 (by kernel_rfl)
    · exact opnQ_bool Try.underlying4 (by kernel_rfl)
    · exact opnQ_int Try.underlying2 (by kernel_rfl)
    · exact opnQ_bool Try.underlying4 (by kernel_rfl)
    · exact opnQ_int Try.underlying2 (by kernel_rfl)
    · exact opnQ_int Try.underlying2 (by kernel_rfl)
  · cases hus with
    | cons h1 t1 => cases t1 with
      | cons h2 t2 => cases t2 with
        | cons h3 t3 => cases t3 with
          | cons h4 t4 => cases t4 with
            | cons h5 t5 => cases t5 with
              | cons h6 t6 => cases t6 with
                | cons h7 t7 => cases t7 with
                  | cons h8 t8 =>
                    cases t8
                    obtain ⟨⟨a1, rfl, w1⟩, _⟩ := h1
                    obtain ⟨⟨a2, rfl, w2⟩, _⟩ := h2
                    obtain ⟨⟨a3, rfl, w3⟩, _⟩ := h3
                    obtain ⟨⟨a4, rfl⟩, _⟩ := h4
                    obtain ⟨⟨a5, rfl, w5⟩, _⟩ := h5
                    obtain ⟨⟨a6, rfl⟩, _⟩ := h6
                    obtain ⟨⟨a7, rfl, w7⟩, _⟩ := h7
                    obtain ⟨⟨a8, rfl, w8⟩, _⟩ := h8
                    exact ⟨⟨a1, a2, a3, a4, a5, a6, a7, a8⟩, rfl, i64_of_wf w1, i64_of_wf w2, i64_of_wf w3, i64_of_wf w5, i64_of_wf w7, i64_of_wf w8⟩
theorem opn_33 : Opn enc Try.prog W base spare held 33 1 RecSR := opn_slice Try.underlying33 (by kernel_rfl) (by omega) opn_78 tyRec_78.lt
end
end Go.Proofs.Ytcngfjmfgeckmaa
