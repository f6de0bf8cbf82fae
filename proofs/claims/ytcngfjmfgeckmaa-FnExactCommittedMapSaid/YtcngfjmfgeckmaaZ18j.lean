import Derived.ProofKit
import Derived.Deep.Slices
import Derived.Test.YtcngfjmfgeckmaaZ18i
set_option linter.unusedSimpArgs false
set_option linter.unusedVariables false
set_option linter.unusedSectionVars false
namespace Go.Proofs.Ytcngfjmfgeckmaa
open Go
section
variable {fu : Nat}
def txnsOf (l : List RecD) (k : Int) : List Int := (l.filter fun x => decide (x.kind = k)).map (·.txn)
theorem txnsOf_len (l : List RecD) (k : Int) : (txnsOf l k).length ≤ l.length := by unfold txnsOf; rw [List.length_map]; exact List.length_filter_le _ _
theorem txnsOf_take {l : List RecD} {i : Nat} {r : RecD} (k : Int) (hr : l[i]? = some r) : txnsOf (l.take (i + 1)) k = txnsOf (l.take i) k ++ (if r.kind = k then [r.txn] else []) := by
  unfold txnsOf
  rw [List.take_add_one, hr]
  by_cases h : r.kind = k <;> simp [List.filter_append, h]
def riseI : List Int → Int → List Int
  | [], v => [v]
  | a :: l, v => if a < v then a :: riseI l v else if a = v then a :: l else v :: a :: l
def rankI : List Int → Int → Nat
  | [], _ => 0
  | a :: l, v => if a < v then rankI l v + 1 else 0
theorem rankI_le (v : Int) : ∀ l : List Int, rankI l v ≤ l.length
  | [] => Nat.le_refl _
  | a :: l => by
    unfold rankI
    split
    · exact Nat.succ_le_succ (rankI_le v l)
    · exact Nat.zero_le _
theorem riseI_rank (v : Int) : ∀ l : List Int, riseI l v = if l[rankI l v]? = some v then l else l.take (rankI l v) ++ [v] ++ l.drop (rankI l v)
  | [] => rfl
  | a :: l => by
    have ih := riseI_rank v l
    unfold riseI rankI
    by_cases h : a < v
    · rw [if_pos h, if_pos h, ih]
      simp only [List.getElem?_cons_succ]
      split <;> simp
    · rw [if_neg h, if_neg h]
      by_cases h2 : a = v <;> simp [h2]
theorem rankI_iter {l : List Int} {v : Int} (hl : l.length ≤ 1000000) : ∀ (m i : Nat), i ≤ l.length → l.length - i < m → iterN (fun (s : Int) => m_s_l1Rise_a5 fu l v s) m (i : Int) = some (Sum.inl ((i + rankI (l.drop i) v : Nat) : Int)) := by
  intro m
  induction m with
  | zero => intro i _ h; omega
  | succ m ih =>
    intro i hi hm
    unfold iterN
    by_cases hlt : i < l.length
    · have hge := List.getElem?_eq_getElem hlt
      rw [List.drop_eq_getElem_cons hlt]
      by_cases hk : l[i] < v
      · have step : m_s_l1Rise_a5 fu l v (i : Int) = some (Sum.inl ((i + 1 : Nat) : Int)) := by
          unfold m_s_l1Rise_a5 m_s_l1Rise_a4
          rw [if_pos (decide_eq_true (Int.ofNat_lt.2 hlt)), atL_nat, hge, Option.bind_some, if_pos (decide_eq_true hk), wrap_succ (by omega)]
        simp only [step]
        rw [ih (i + 1) hlt (by omega), rankI, if_pos hk]
        congr 3; omega
      · have step : m_s_l1Rise_a5 fu l v (i : Int) = some (Sum.inr (Sum.inl (i : Int))) := by
          unfold m_s_l1Rise_a5 m_s_l1Rise_a4
          rw [if_pos (decide_eq_true (Int.ofNat_lt.2 hlt)), atL_nat, hge, Option.bind_some, if_neg (by simp; omega)]
        simp only [step]
        rw [rankI, if_neg hk]
        rfl
    · have step : m_s_l1Rise_a5 fu l v (i : Int) = some (Sum.inr (Sum.inl (i : Int))) := by
        unfold m_s_l1Rise_a5 m_s_l1Rise_a4
        rw [if_neg (by simp; omega)]
        rfl
      simp only [step]
      rw [List.drop_of_length_le (by omega)]
      rfl
theorem appI_eq {l l2 : List Int} (h : l.length + l2.length ≤ 2000000) : appL 8 l l2 = some (l ++ l2) := by
  unfold appL roomL
  rw [if_pos (by simp; omega)]
theorem m_s_l1Rise_eq {l : List Int} {v : Int} (hl : l.length ≤ 1000000) (hfu : l.length < fu) : m_s_l1Rise fu l v = some (riseI l v) := by
  unfold m_s_l1Rise
  have h := rankI_iter (fu := fu) (l := l) (v := v) hl fu 0 (Nat.zero_le _) (by omega)
  rw [show ((0 : Nat) : Int) = 0 from rfl, List.drop_zero, Nat.zero_add] at h
  have hr := rankI_le v l
  rw [h, Option.bind_some, Sum.elim_inl]
  unfold m_s_l1Rise_a3 m_s_l1Rise_a2 m_s_l1Rise_a1
  have e1 : sliceL l 0 ((rankI l v : Nat) : Int) = some (l.take (rankI l v)) := by
    unfold sliceL
    rw [if_pos (by simp; omega)]
    simp
  have e2 : sliceL l ((rankI l v : Nat) : Int) (l.length : Int) = some (l.drop (rankI l v)) := by
    unfold sliceL
    rw [if_pos (by simp; omega)]
    simp only [Int.toNat_natCast]
    rw [List.take_of_length_le (by rw [List.length_drop]; exact Nat.le_refl _)]
  have l1 : (l.take (rankI l v)).length = rankI l v := by rw [List.length_take]; omega
  rw [e1, Option.bind_some, e2, Option.bind_some, appI_eq (by simp; omega), Option.bind_some, List.nil_append, snocL_eq (by omega), Option.bind_some, appI_eq (by simp; omega), Option.bind_some, riseI_rank]
  by_cases hlt : rankI l v < l.length
  · have hge := List.getElem?_eq_getElem hlt
    rw [if_pos (decide_eq_true (by omega)), atL_nat, hge, Option.bind_some]
    by_cases hq : l[rankI l v] = v
    · rw [if_pos (decide_eq_true hq), if_pos (by rw [hq])]
    · rw [if_neg (by simp [hq]), if_neg (by simp [hq])]
  · rw [if_neg (by simp; omega), if_neg (by decide), if_neg (by rw [List.getElem?_eq_none (by omega)]; simp)]
theorem riseI_len (v : Int) : ∀ l : List Int, (riseI l v).length ≤ l.length + 1
  | [] => Nat.le_refl _
  | a :: l => by
    have := riseI_len v l
    unfold riseI
    split <;> (try split) <;> simp <;> omega
theorem riseI_mem {v a : Int} : ∀ {l : List Int}, a ∈ riseI l v ↔ a = v ∨ a ∈ l
  | [] => by simp [riseI]
  | b :: l => by
    unfold riseI
    split
    · rw [List.mem_cons, riseI_mem, List.mem_cons]
      constructor
      · rintro (h | h | h) <;> simp [h]
      · rintro (h | h | h) <;> simp [h]
    · split
      · rename_i h2
        rw [List.mem_cons]
        constructor
        · intro h; exact .inr h
        · rintro (h | h)
          · exact .inl (h.trans h2.symm)
          · exact h
      · simp
theorem riseI_sorted {v : Int} : ∀ {l : List Int}, l.Pairwise (· < ·) → (riseI l v).Pairwise (· < ·)
  | [], _ => List.pairwise_singleton _ _
  | a :: l, h => by
    have h' := List.pairwise_cons.1 h
    unfold riseI
    split
    · rename_i h1
      refine List.pairwise_cons.2 ⟨fun x hx => ?_, riseI_sorted h'.2⟩
      rcases riseI_mem.1 hx with rfl | hx
      · exact h1
      · exact h'.1 x hx
    · split
      · exact h
      · refine List.pairwise_cons.2 ⟨fun x hx => ?_, h⟩
        rcases List.mem_cons.1 hx with rfl | hx
        · omega
        · have := h'.1 x hx; omega
def riseAll (l : List Int) : List Int := l.foldl riseI []
theorem riseAll_snoc (l : List Int) (v : Int) : riseAll (l ++ [v]) = riseI (riseAll l) v := by unfold riseAll; rw [List.foldl_append]; rfl
theorem riseAll_mem {l : List Int} : ∀ a, a ∈ riseAll l ↔ a ∈ l := by
  have key : ∀ (l acc : List Int) (a : Int), a ∈ l.foldl riseI acc ↔ a ∈ acc ∨ a ∈ l := by
    intro l
    induction l with
    | nil => intro acc a; simp
    | cons b l ih =>
      intro acc a
      rw [List.foldl_cons, ih, riseI_mem, List.mem_cons]
      constructor
      · rintro ((h | h) | h) <;> simp [h]
      · rintro (h | h | h) <;> simp [h]
  intro a
  have := key l [] a
  simpa [riseAll] using this
theorem riseAll_sorted (l : List Int) : (riseAll l).Pairwise (· < ·) := by
  have key : ∀ (l acc : List Int), acc.Pairwise (· < ·) → (l.foldl riseI acc).Pairwise (· < ·) := by
    intro l
    induction l with
    | nil => intro acc h; exact h
    | cons b l ih => intro acc h; exact ih _ (riseI_sorted h)
  exact key l [] List.Pairwise.nil
theorem riseAll_len (l : List Int) : (riseAll l).length ≤ l.length := by
  have key : ∀ (l acc : List Int), (l.foldl riseI acc).length ≤ acc.length + l.length := by
    intro l
    induction l with
    | nil => intro acc; simp
    | cons b l ih =>
      intro acc
      have := ih (riseI acc b)
      have := riseI_len b acc
      simp only [List.foldl_cons, List.length_cons]; omega
  have := key l []
  simpa [riseAll] using this
theorem sortI_pair (l : List Int) : (sortI l).Pairwise fun a b => a ≤ b := by
  have := List.pairwise_mergeSort (le := fun x y : Int => decide (x ≤ y)) (fun a b c h1 h2 => by simp only [decide_eq_true_eq] at *; omega) (fun a b => by simp only [Bool.or_eq_true, decide_eq_true_eq]; omega) l
  exact this.imp fun h => of_decide_eq_true h
theorem sorted_eq {a b : List Int} (hp : a.Perm b) (ha : a.Pairwise fun x y => x ≤ y) (hb : b.Pairwise fun x y => x ≤ y) : a = b :=
  List.Perm.eq_of_pairwise (le := fun x y : Int => x ≤ y) (fun x y _ _ h1 h2 => by omega) ha hb hp
theorem nodup_perm {a b : List Int} (ha : a.Nodup) (hb : b.Nodup) (h : ∀ x, x ∈ a ↔ x ∈ b) : a.Perm b := (List.perm_ext_iff_of_nodup ha hb).2 h
theorem rise_nodup {l : List Int} (h : l.Pairwise (· < ·)) : l.Nodup := h.imp fun h => by omega
theorem riseAll_sort {l : List Int} (hn : l.Nodup) : riseAll l = sortI l :=
  sorted_eq ((nodup_perm (rise_nodup (riseAll_sorted l)) hn fun x => riseAll_mem x).trans (List.mergeSort_perm l _).symm) ((riseAll_sorted l).imp fun h => by omega) (sortI_pair l)
theorem m_i_those_eq {l : List RecD} {k : Int} (hl : l.length ≤ 100000) (hfu : l.length < fu) : m_i_those fu l k = some (sortI (txnsOf l k)) := by
  have key : ∀ (m i : Nat), i ≤ l.length → l.length - i < m → iterN (fun (s : (List Int) × Int) => m_i_those_a3 fu l k s.1 s.2) m (txnsOf (l.take i) k, (i : Int)) = some (Sum.inl (txnsOf l k)) := by
    intro m
    induction m with
    | zero => intro i _ h; omega
    | succ m ih =>
      intro i hi hm
      unfold iterN
      by_cases hlt : i < l.length
      · have hge := List.getElem?_eq_getElem hlt
        have hle := txnsOf_len (l.take i) k
        rw [List.length_take] at hle
        have step : m_i_those_a3 fu l k (txnsOf (l.take i) k) (i : Int) = some (Sum.inl (txnsOf (l.take (i + 1)) k, ((i + 1 : Nat) : Int))) := by
          unfold m_i_those_a3 m_i_those_a2
          rw [if_pos (decide_eq_true (Int.ofNat_lt.2 hlt)), atL_nat, hge, Option.bind_some, snocL_eq (by omega), wrap_succ (by omega), txnsOf_take k hge]
          by_cases h : l[i].kind = k <;> simp [h]
        simp only [step]
        exact ih (i + 1) hlt (by omega)
      · have step : m_i_those_a3 fu l k (txnsOf (l.take i) k) (i : Int) = some (Sum.inr (Sum.inl (txnsOf l k))) := by
          unfold m_i_those_a3
          rw [if_neg (by simp; omega), List.take_of_length_le (by omega)]
        simp only [step]
  have h := key fu 0 (Nat.zero_le _) (by omega)
  unfold m_i_those m_i_those_a1
  rw [show (([] : List Int), (0 : Int)) = (txnsOf (l.take 0) k, ((0 : Nat) : Int)) from rfl, h]
  rfl
theorem m_s_l13Kinds_eq {l : List RecD} {k : Int} (hl : l.length ≤ 100000) (hfu : l.length < fu) : m_s_l13Kinds fu l k = some (riseAll (txnsOf l k)) := by
  have key : ∀ (m i : Nat), i ≤ l.length → l.length - i < m → iterN (fun (s : (List Int) × Int) => m_s_l13Kinds_a3 fu l k s.1 s.2) m (riseAll (txnsOf (l.take i) k), (i : Int)) = some (Sum.inl (riseAll (txnsOf l k))) := by
    intro m
    induction m with
    | zero => intro i _ h; omega
    | succ m ih =>
      intro i hi hm
      unfold iterN
      by_cases hlt : i < l.length
      · have hge := List.getElem?_eq_getElem hlt
        have hle := txnsOf_len (l.take i) k
        have hle2 := riseAll_len (txnsOf (l.take i) k)
        rw [List.length_take] at hle
        have step : m_s_l13Kinds_a3 fu l k (riseAll (txnsOf (l.take i) k)) (i : Int) = some (Sum.inl (riseAll (txnsOf (l.take (i + 1)) k), ((i + 1 : Nat) : Int))) := by
          unfold m_s_l13Kinds_a3 m_s_l13Kinds_a2
          rw [if_pos (decide_eq_true (Int.ofNat_lt.2 hlt)), atL_nat, hge, Option.bind_some, m_s_l1Rise_eq (by omega) (by omega), wrap_succ (by omega), txnsOf_take k hge]
          by_cases h : l[i].kind = k
          · simp [h, riseAll_snoc]
          · simp [h]
        simp only [step]
        exact ih (i + 1) hlt (by omega)
      · have step : m_s_l13Kinds_a3 fu l k (riseAll (txnsOf (l.take i) k)) (i : Int) = some (Sum.inr (Sum.inl (riseAll (txnsOf l k)))) := by
          unfold m_s_l13Kinds_a3
          rw [if_neg (by simp; omega), List.take_of_length_le (by omega)]
        simp only [step]
  have h := key fu 0 (Nat.zero_le _) (by omega)
  unfold m_s_l13Kinds m_s_l13Kinds_a1
  rw [show (([] : List Int), (0 : Int)) = (riseAll (txnsOf (l.take 0) k), ((0 : Nat) : Int)) from rfl, h]
  rfl
theorem once {l : List RecD} : ∀ {a : List RecD} {c : List CellD}, runC a c l = 0 → (txnsOf a 1).Nodup → (txnsOf a 3).Nodup → (txnsOf (a ++ l) 1).Nodup ∧ (txnsOf (a ++ l) 3).Nodup := by
  induction l with
  | nil => intro a c _ h1 h3; simpa using ⟨h1, h3⟩
  | cons r l ih =>
    intro a c h h1 h3
    unfold runC at h
    split at h
    · rename_i hq; exact absurd h hq
    split at h
    · rename_i hq; exact absurd h hq
    rename_i hf0 hn0
    have hn : nextC a c r = 0 := by simpa using hn0
    have ap : ∀ k, txnsOf (a ++ [r]) k = txnsOf a k ++ (if r.kind = k then [r.txn] else []) := fun k => by
      unfold txnsOf; by_cases hk : r.kind = k <;> simp [List.filter_append, hk]
    have hm : ∀ k t, t ∈ txnsOf a k → ∃ x, x ∈ a ∧ x.kind = k ∧ x.txn = t := fun k t ht => by
      unfold txnsOf at ht
      obtain ⟨x, hx, rfl⟩ := List.mem_map.1 ht
      obtain ⟨q1, q2⟩ := List.mem_filter.1 hx
      exact ⟨x, q1, of_decide_eq_true q2, rfl⟩
    have n1 : (txnsOf (a ++ [r]) 1).Nodup := by
      rw [ap]
      by_cases hk : r.kind = 1
      · rw [if_pos hk, List.nodup_append]
        refine ⟨h1, by simp, fun t ht t' ht' => ?_⟩
        obtain rfl := List.mem_singleton.1 ht'
        rintro rfl
        obtain ⟨x, q1, q2, q3⟩ := hm _ _ ht
        unfold nextC at hn
        rw [if_neg (by omega), if_pos hk, if_pos (List.any_eq_true.2 ⟨x, q1, decide_eq_true q3⟩)] at hn
        cases hn
      · rw [if_neg hk]; simpa using h1
    have n3 : (txnsOf (a ++ [r]) 3).Nodup := by
      rw [ap]
      by_cases hk : r.kind = 3
      · rw [if_pos hk, List.nodup_append]
        refine ⟨h3, by simp, fun t ht t' ht' => ?_⟩
        obtain rfl := List.mem_singleton.1 ht'
        rintro rfl
        obtain ⟨x, q1, q2, q3⟩ := hm _ _ ht
        unfold nextC at hn
        have hkk : kinds a r.txn [3, 4] = true := kinds_iff.2 ⟨x, q1, q3, by simp [q2]⟩
        rw [if_neg (by omega), if_neg (by omega), hkk, if_pos (by simp)] at hn
        cases hn
      · rw [if_neg hk]; simpa using h3
    have := ih h n1 n3
    rwa [List.append_assoc] at this
theorem runC_once {l : List RecD} (h : runC [] [] l = 0) : (txnsOf l 1).Nodup ∧ (txnsOf l 3).Nodup := by
  have := once h (by simp [txnsOf]) (by simp [txnsOf])
  simpa using this
end
end Go.Proofs.Ytcngfjmfgeckmaa
namespace Go.Proofs.Ytcngfjmfgeckmaa
open Go
structure IntsResultD where
  code : Int
  list : List Int
  deriving DecidableEq
structure CellsResultD where
  code : Int
  cells : List CellD
  deriving DecidableEq
def CellsResultR (e : AV) (a : CellsResultD) : Prop := ∃ x1, e = .agg [.int .i64 a.code, x1] ∧ I64 a.code ∧ CellSR x1 a.cells
theorem tyCellsResult_49 : TyR T 49 CellsResultR where
  pos := by decide
  cell := rfl
  zlen := rfl
  part e a h := by obtain ⟨_, rfl, _, _⟩ := h; rfl
  len e a h := by obtain ⟨_, rfl, _, _⟩ := h; rfl
  good e a h := by obtain ⟨_, rfl, _, _⟩ := h; rfl
  lt e a n h := by
    obtain ⟨x1, rfl, h0, h1⟩ := h
    rw [lt_agg]; intro u hu
    simp only [List.mem_cons, List.not_mem_nil, or_false] at hu
    rcases hu with rfl | rfl
    · exact .int _ _
    · exact SlR.ltn h1 n
  setz e a h := by obtain ⟨_, rfl, _, _⟩ := h; rfl
def wsCellsResult (a : CellsResultD) : Nat := wtCellS a.cells
theorem cellsResult_lt (e : AV) (a : CellsResultD) (n : Nat) (h : CellsResultR e a) : e.Lt n := tyCellsResult_49.lt _ _ _ h
section
variable {h : Heap} {n : Nat} {K : AV → Heap → Nat → Prop}
theorem c116 {x y : AV} {a b : CellD} (hx : CellR x a) (hy : CellR y b) (hk : K (.bool (decide (a = b))) h n) : CA Try.prog 116 [x, y] h n K := by
  obtain ⟨rfl, h0, h1⟩ := hx
  obtain ⟨rfl, j0, j1⟩ := hy
  have hd : decide (a = b) = (decide (a.key = b.key) && decide (a.value = b.value)) := by cases a; cases b; simp [CellD.mk.injEq]
  rw [hd] at hk
  refine CA.conv (CA.enter (N := 15) (rs := [.tmp 4]) hT Try.call116 Try.func116 rfl rfl (by simp) rfl fun hlt => ?_)
  refine WP.seq_k fun K1 hK1 => WP.region hT rfl ?_
  refine q_S ?_
  refine hK1 _ _ _ ?_
  clear hK1 K1
  refine WP.seq_k fun K3 hK3 => ?_
  refine WP.seq_k fun K1 hK1 => WP.region hT rfl ?_
  refine q_S ?_
  refine hK1 _ _ _ ?_
  clear hK1 K1
  refine WP.cond (by simp only [ev, Env.get_put_some, ↓reduceIte]; rfl) (fun hc => ?_) (fun hc => ?_)
  · refine WP.seq_k fun K1 hK1 => WP.region hT rfl ?_
    refine q_S ?_
    refine hK1 _ _ _ ?_
    clear hK1 K1
    refine WP.ret ?_
    refine qr_S ?_
    refine ⟨_, rfl, ret_p (Left.upd (by omega) (Left.upd (Nat.le_refl _) (Left.refl hlt))) (.bool _) ?_⟩
    have hne : a.key ≠ b.key := by simpa using hc
    simpa [resV, hne] using hk
  have he0 : a.key = b.key := by simpa using hc
  refine WP.skip (hK3 _ _ _ ?_)
  clear hK3 K3 hc
  refine WP.seq_k fun K3 hK3 => ?_
  refine WP.seq_k fun K1 hK1 => WP.region hT rfl ?_
  refine q_S ?_
  refine hK1 _ _ _ ?_
  clear hK1 K1
  refine WP.cond (by simp only [ev, Env.get_put_some, ↓reduceIte]; rfl) (fun hc => ?_) (fun hc => ?_)
  · refine WP.seq_k fun K1 hK1 => WP.region hT rfl ?_
    refine q_S ?_
    refine hK1 _ _ _ ?_
    clear hK1 K1
    refine WP.ret ?_
    refine qr_S ?_
    refine ⟨_, rfl, ret_p (Left.upd (by omega) (Left.upd (Nat.le_refl _) (Left.refl hlt))) (.bool _) ?_⟩
    have hne : a.value ≠ b.value := by simpa using hc
    simpa [resV, hne] using hk
  have he1 : a.value = b.value := by simpa using hc
  refine WP.skip (hK3 _ _ _ ?_)
  clear hK3 K3 hc
  refine WP.seq_k fun K1 hK1 => WP.region hT rfl ?_
  refine q_S ?_
  refine hK1 _ _ _ ?_
  clear hK1 K1
  refine WP.ret ?_
  refine qr_S ?_
  refine ⟨_, rfl, ret_p (Left.upd (by omega) (Left.upd (Nat.le_refl _) (Left.refl hlt))) (.bool _) ?_⟩
  simpa [resV, he0, he1] using hk
theorem c70 {x y : AV} {l l2 : List CellD} (hx : CellSR x l) (hy : CellSR y l2) (hk : K (.bool (decide (l = l2))) h n) : CA Try.prog 70 [x, y] h n K :=
  eqS_gen hT hM Try.call70 Try.func70 rfl rfl rfl rfl tyCell_123 tyCell_123 hx hy (fun h n K e e' a b hR hR' hk => c116 hR hR' hk) hk
theorem c29 {x y : AV} {a b : CellsResultD} (hx : CellsResultR x a) (hy : CellsResultR y b) (hk : K (.bool (decide (a = b))) h n) : CA Try.prog 29 [x, y] h n K := by
  obtain ⟨x1, rfl, h0, h1⟩ := hx
  obtain ⟨y1, rfl, j0, j1⟩ := hy
  have z1 := one_cells h1.isOne
  have zy1 := one_cells j1.isOne
  have hd : decide (a = b) = (decide (a.code = b.code) && decide (a.cells = b.cells)) := by cases a; cases b; simp [CellsResultD.mk.injEq]
  rw [hd] at hk
  refine CA.conv (CA.enter (N := 16) (rs := [.tmp 4]) hT Try.call29 Try.func29 rfl rfl (by simp) rfl fun hlt => ?_)
  refine WP.seq_k fun K1 hK1 => WP.region hT rfl ?_
  refine q_S ?_
  refine hK1 _ _ _ ?_
  clear hK1 K1
  refine WP.seq_k fun K3 hK3 => ?_
  refine WP.seq_k fun K1 hK1 => WP.region hT rfl ?_
  refine q_fS (And.intro z1 zy1) ?_
  refine hK1 _ _ _ ?_
  clear hK1 K1
  refine WP.cond (by simp only [ev, Env.get_put_some, ↓reduceIte]; rfl) (fun hc => ?_) (fun hc => ?_)
  · refine WP.seq_k fun K1 hK1 => WP.region hT rfl ?_
    refine q_S ?_
    refine hK1 _ _ _ ?_
    clear hK1 K1
    refine WP.ret ?_
    refine qr_S ?_
    refine ⟨_, rfl, ret_p (Left.upd (by omega) (Left.upd (Nat.le_refl _) (Left.refl hlt))) (.bool _) ?_⟩
    have hne : a.code ≠ b.code := by simpa using hc
    simpa [resV, hne] using hk
  have he0 : a.code = b.code := by simpa using hc
  refine WP.skip (hK3 _ _ _ ?_)
  clear hK3 K3 hc
  refine WP.seq_k fun K3 hK3 => ?_
  refine WP.seq_k fun K1 hK1 => WP.region hT rfl ?_
  refine q_fS (And.intro z1 zy1) ?_
  refine c70 h1 j1 ?_
  refine hK1 _ _ _ ?_
  clear hK1 K1
  refine WP.cond (by simp only [ev, Env.get_put_some, ↓reduceIte]; rfl) (fun hc => ?_) (fun hc => ?_)
  · refine WP.seq_k fun K1 hK1 => WP.region hT rfl ?_
    refine q_S ?_
    refine hK1 _ _ _ ?_
    clear hK1 K1
    refine WP.ret ?_
    refine qr_S ?_
    refine ⟨_, rfl, ret_p (Left.upd (by omega) (Left.upd (Nat.le_refl _) (Left.refl hlt))) (.bool _) ?_⟩
    have hne : a.cells ≠ b.cells := by simpa using hc
    simpa [resV, hne] using hk
  have he1 : a.cells = b.cells := by simpa using hc
  refine WP.skip (hK3 _ _ _ ?_)
  clear hK3 K3 hc
  refine WP.seq_k fun K1 hK1 => WP.region hT rfl ?_
  refine q_S ?_
  refine hK1 _ _ _ ?_
  clear hK1 K1
  refine WP.ret ?_
  refine qr_S ?_
  refine ⟨_, rfl, ret_p (Left.upd (by omega) (Left.upd (Nat.le_refl _) (Left.refl hlt))) (.bool _) ?_⟩
  simpa [resV, he0, he1] using hk
def HeRec (e : AV) (w : Nat) (k : Int) : Prop := w = 8 ∧ e = .agg [.int .i64 (k), .int .i64 (k + 1), .int .i64 (k + 1 + 1), .bool (decide ((k + 1 + 1 + 1).tmod 3 = 0)), .int .i64 (k + 1 + 1 + 1 + 1), .bool (decide ((k + 1 + 1 + 1 + 1 + 1).tmod 3 = 0)), .int .i64 (k + 1 + 1 + 1 + 1 + 1 + 1), .int .i64 (k + 1 + 1 + 1 + 1 + 1 + 1 + 1)]
theorem HeRec.ltn {e : AV} {w : Nat} {k : Int} (h : HeRec e w k) (m : Nat) : e.Lt m := by
  obtain ⟨_, rfl⟩ := h
  rw [lt_agg]; intro u hu
  simp only [List.mem_cons, List.not_mem_nil, or_false] at hu
  rcases hu with rfl | rfl | rfl | rfl | rfl | rfl | rfl | rfl
  · exact .int _ _
  · exact .int _ _
  · exact .int _ _
  · exact .bool _
  · exact .int _ _
  · exact .bool _
  · exact .int _ _
  · exact .int _ _
def HdRecS (y : AV) (w : Nat) (k : Int) : Prop := ∃ ws, w = ws.sum ∧ ws.length ≤ 9223372036854775807 ∧ HdS 8 HeRec ws y 0 k
theorem HdRecS.ltn {y : AV} {w : Nat} {k : Int} (h : HdRecS y w k) (n : Nat) : y.Lt n := by obtain ⟨_, _, _, _, _, _, h, _⟩ := h; exact h n
theorem HdRecS.isOne {y : AV} {w : Nat} {k : Int} (h : HdRecS y w k) : y.one = true := by obtain ⟨_, _, _, _, _, h, _, _⟩ := h; exact h
def HdInt64S (y : AV) (w : Nat) (k : Int) : Prop := ∃ ws, w = ws.sum ∧ ws.length ≤ 9223372036854775807 ∧ HdS 1 HeInt ws y 0 k
theorem HdInt64S.ltn {y : AV} {w : Nat} {k : Int} (h : HdInt64S y w k) (n : Nat) : y.Lt n := by obtain ⟨_, _, _, _, _, _, h, _⟩ := h; exact h n
theorem HdInt64S.isOne {y : AV} {w : Nat} {k : Int} (h : HdInt64S y w k) : y.one = true := by obtain ⟨_, _, _, _, _, h, _, _⟩ := h; exact h
def HeIntsResult (e : AV) (w : Nat) (k : Int) : Prop := ∃ (y1 : AV) (w1 : Nat), w = 1 + w1 ∧ e = .agg [.int .i64 (k), y1] ∧ HdInt64S y1 w1 (k + 1)
theorem HeIntsResult.ltn {e : AV} {w : Nat} {k : Int} (h : HeIntsResult e w k) (m : Nat) : e.Lt m := by
  obtain ⟨_, _, _, rfl, h1⟩ := h
  rw [lt_agg]; intro u hu
  simp only [List.mem_cons, List.not_mem_nil, or_false] at hu
  rcases hu with rfl | rfl
  · exact .int _ _
  · exact h1.ltn m
def HeCell (e : AV) (w : Nat) (k : Int) : Prop := w = 2 ∧ e = .agg [.int .i64 (k), .int .i64 (k + 1)]
theorem HeCell.ltn {e : AV} {w : Nat} {k : Int} (h : HeCell e w k) (m : Nat) : e.Lt m := by
  obtain ⟨_, rfl⟩ := h
  rw [lt_agg]; intro u hu
  simp only [List.mem_cons, List.not_mem_nil, or_false] at hu
  rcases hu with rfl | rfl
  · exact .int _ _
  · exact .int _ _
def HdCellS (y : AV) (w : Nat) (k : Int) : Prop := ∃ ws, w = ws.sum ∧ ws.length ≤ 9223372036854775807 ∧ HdS 2 HeCell ws y 0 k
theorem HdCellS.ltn {y : AV} {w : Nat} {k : Int} (h : HdCellS y w k) (n : Nat) : y.Lt n := by obtain ⟨_, _, _, _, _, _, h, _⟩ := h; exact h n
theorem HdCellS.isOne {y : AV} {w : Nat} {k : Int} (h : HdCellS y w k) : y.one = true := by obtain ⟨_, _, _, _, _, h, _, _⟩ := h; exact h
def HeCellsResult (e : AV) (w : Nat) (k : Int) : Prop := ∃ (y1 : AV) (w1 : Nat), w = 1 + w1 ∧ e = .agg [.int .i64 (k), y1] ∧ HdCellS y1 w1 (k + 1)
theorem HeCellsResult.ltn {e : AV} {w : Nat} {k : Int} (h : HeCellsResult e w k) (m : Nat) : e.Lt m := by
  obtain ⟨_, _, _, rfl, h1⟩ := h
  rw [lt_agg]; intro u hu
  simp only [List.mem_cons, List.not_mem_nil, or_false] at hu
  rcases hu with rfl | rfl
  · exact .int _ _
  · exact h1.ltn m
theorem m22 {x' : AV} {l : List RecD} (hx : RecSR x' l) : MarkC Try.prog 22 HdRecS x' (wtRecS l) := by
  obtain ⟨es, hes, hal, hml, _, _⟩ := id hx
  have hel := all2_length hal
  unfold maxLen at hml
  have hm : MarkC Try.prog 22 (HdS 8 HeRec (l.map wtRec)) x' (wtRecS l) := by
    refine markS_gen (ts := 36) (t := 76) (z := 20) (r := 72) (N := 73) (T := T) (U := RecR) (w := wtRec) hT Try.call22 Try.func22 rfl rfl (by decide) (by decide) rfl rfl (fun e w k he m => he.ltn m) hx (fun e' a _ hU => ?_)
    intro Q E h n id ex b i e J k hte hid hrow hbi hib hbl h0 h1 h5 hk hkw hK
    obtain ⟨rfl, c0, c1, c2, c3, c4, c5⟩ := hU
    obtain ⟨cs, rfl, hl⟩ := hte.aggE
    cases hl with
    | cons u0 _ _ _ I0 J0 t0 hl0 d0 =>
    obtain ⟨rfl, rfl⟩ := t0.int
    cases hl0 with
    | cons u1 _ _ _ I1 J1 t1 hl1 d1 =>
    obtain ⟨rfl, rfl⟩ := t1.int
    cases hl1 with
    | cons u2 _ _ _ I2 J2 t2 hl2 d2 =>
    obtain ⟨rfl, rfl⟩ := t2.int
    cases hl2 with
    | cons u3 _ _ _ I3 J3 t3 hl3 d3 =>
    obtain ⟨rfl, rfl⟩ := t3.bool
    cases hl3 with
    | cons u4 _ _ _ I4 J4 t4 hl4 d4 =>
    obtain ⟨rfl, rfl⟩ := t4.int
    cases hl4 with
    | cons u5 _ _ _ I5 J5 t5 hl5 d5 =>
    obtain ⟨rfl, rfl⟩ := t5.bool
    cases hl5 with
    | cons u6 _ _ _ I6 J6 t6 hl6 d6 =>
    obtain ⟨rfl, rfl⟩ := t6.int
    cases hl6 with
    | cons u7 _ _ _ I7 J7 t7 hl7 d7 =>
    obtain ⟨rfl, rfl⟩ := t7.int
    cases hl7 with
    | nil =>
    unfold wtRec at hkw
    have hl : List.take b.length b = b := by simp
    have hb0 : (0 : Int) ≤ i := by omega
    have hb1 : (i : Int) < b.length := by omega
    have hgs : ∀ e, (b.set i e)[i]? = some e := fun e => List.getElem?_set_self hib
    have hts : ∀ e, List.take b.length (b.set i e) = b.set i e := fun e => List.take_of_length_le (by simp)
    have wr0 : IntKind.i64.wrap (k + 1) = k + 1 := wrap_in (by omega) (by omega)
    refine WP.seq_k fun K1 hK1 => WP.region hT rfl ?_
    simp only [↓planL, ↓opsA, List.contains_nil, List.contains_cons, Bool.or_false, Bool.false_or, ↓stepA, ↓e_len1, ↓e_append1, ↓e_min1, ↓e_max1, ↓callA, List.toList_toArray, Int.toNat_natCast, List.map_cons, List.map_nil, ev, Env.get_put_some, Env.put_none, Env.get_envOf, ↓e_move, ↓e_assign, ↓e_alloc, ↓e_box, ↓e_binOp, ↓e_unOp, ↓e_nilCheck, ↓e_pick, ↓e_load, ↓e_store, ↓e_fieldAddr, ↓e_field, ↓e_indexAddr, ↓e_index, ↓e_extract, ↓e_convert, ↓e_makeSlice, ↓e_build, ↓e_buildSlice, ↓e_makeFunc, b_add, b_sub, b_mul, b_eql, b_neq, b_lss, b_leq, b_gtr, b_geq, b_and, b_or, b_quo, b_rem, b_shl, b_shr, b_seql, b_sneq, b_beql, b_bneq, u_not, u_neg, rdSl_ro, rdSl_nils, rdSl_sl, setPart_agg, setPart_bool, setPart_int, setPart_str, setPart_nils, setPart_ro, setPart_sl, ofVal, ↓thenA, ↓blockA, Heap.upd_get, Heap.upd_upd, Heap.upd_sort, Nat.add_lt_add_iff_left, Nat.lt_add_right_iff_pos, Nat.pos_of_neZero, good_bool, good_int, good_str, good_nils, good_ro, good_sl, good_ep, good_nilp, good_nilf, good_fn, good_agg, AV.cells_bool, AV.cells_int, AV.cells_str, AV.cells_nils, AV.cells_ro, AV.cells_sl, AV.cells_ep, AV.cells_nilp, AV.cells_nilf, AV.cells_fn, AV.cells_agg, reduceIte, Nat.reduceEqDiff, Nat.reduceLT, Nat.reduceLeDiff, Nat.reduceAdd, Nat.add_assoc, true_and, and_true, List.getElem?_cons_zero, List.getElem?_cons_succ, Option.getD_some, List.length_cons, List.length_nil, List.set_cons_zero, List.set_cons_succ, Nat.zero_add, Nat.add_zero, List.drop_zero, List.take_succ_cons, List.take_zero, List.drop_succ_cons, List.drop_nil, List.cons_append, List.nil_append, List.append_nil, Nat.add_eq, Nat.left_eq_add, Nat.add_eq_left, List.getElem?_nil, Nat.zero_lt_succ, decide_true, decide_false, Option.bind_some, Option.map_some, Nat.one_ne_zero, Nat.lt_add_one, ↓reduceIte, Nat.le_refl, Nat.add_left_cancel_iff, T_2, T_3, T_4, T_33, T_36, T_40, T_42, T_47, T_76, T_78, T_123, T_49, h0, h1, h5, hrow, hbi, hl, hgs, hts, List.length_set, List.set_set]
    refine ⟨hb0, hb1, hK1 _ _ _ ?_⟩
    clear hK1 K1
    refine WP.seq_k fun K1 hK1 => WP.region hT rfl ?_
    refine q_fS (And.intro h1 wr0) ?_
    refine hK1 _ _ _ ?_
    clear hK1 K1
    have wr1 : IntKind.i64.wrap (k + 1 + 1) = k + 1 + 1 := wrap_in (by omega) (by omega)
    refine WP.seq_k fun K1 hK1 => WP.region hT rfl ?_
    simp only [↓planL, ↓opsA, List.contains_nil, List.contains_cons, Bool.or_false, Bool.false_or, ↓stepA, ↓e_len1, ↓e_append1, ↓e_min1, ↓e_max1, ↓callA, List.toList_toArray, Int.toNat_natCast, List.map_cons, List.map_nil, ev, Env.get_put_some, Env.put_none, Env.get_envOf, ↓e_move, ↓e_assign, ↓e_alloc, ↓e_box, ↓e_binOp, ↓e_unOp, ↓e_nilCheck, ↓e_pick, ↓e_load, ↓e_store, ↓e_fieldAddr, ↓e_field, ↓e_indexAddr, ↓e_index, ↓e_extract, ↓e_convert, ↓e_makeSlice, ↓e_build, ↓e_buildSlice, ↓e_makeFunc, b_add, b_sub, b_mul, b_eql, b_neq, b_lss, b_leq, b_gtr, b_geq, b_and, b_or, b_quo, b_rem, b_shl, b_shr, b_seql, b_sneq, b_beql, b_bneq, u_not, u_neg, rdSl_ro, rdSl_nils, rdSl_sl, setPart_agg, setPart_bool, setPart_int, setPart_str, setPart_nils, setPart_ro, setPart_sl, ofVal, ↓thenA, ↓blockA, Heap.upd_get, Heap.upd_upd, Heap.upd_sort, Nat.add_lt_add_iff_left, Nat.lt_add_right_iff_pos, Nat.pos_of_neZero, good_bool, good_int, good_str, good_nils, good_ro, good_sl, good_ep, good_nilp, good_nilf, good_fn, good_agg, AV.cells_bool, AV.cells_int, AV.cells_str, AV.cells_nils, AV.cells_ro, AV.cells_sl, AV.cells_ep, AV.cells_nilp, AV.cells_nilf, AV.cells_fn, AV.cells_agg, reduceIte, Nat.reduceEqDiff, Nat.reduceLT, Nat.reduceLeDiff, Nat.reduceAdd, Nat.add_assoc, true_and, and_true, List.getElem?_cons_zero, List.getElem?_cons_succ, Option.getD_some, List.length_cons, List.length_nil, List.set_cons_zero, List.set_cons_succ, Nat.zero_add, Nat.add_zero, List.drop_zero, List.take_succ_cons, List.take_zero, List.drop_succ_cons, List.drop_nil, List.cons_append, List.nil_append, List.append_nil, Nat.add_eq, Nat.left_eq_add, Nat.add_eq_left, List.getElem?_nil, Nat.zero_lt_succ, decide_true, decide_false, Option.bind_some, Option.map_some, Nat.one_ne_zero, Nat.lt_add_one, ↓reduceIte, Nat.le_refl, Nat.add_left_cancel_iff, T_2, T_3, T_4, T_33, T_36, T_40, T_42, T_47, T_76, T_78, T_123, T_49, h0, h1, h5, hgs, hgs, hts, List.length_set, List.set_set]
    refine ⟨hb0, hb1, hK1 _ _ _ ?_⟩
    clear hK1 K1
    refine WP.seq_k fun K1 hK1 => WP.region hT rfl ?_
    refine q_fS (And.intro h1 wr1) ?_
    refine hK1 _ _ _ ?_
    clear hK1 K1
    have wr2 : IntKind.i64.wrap (k + 1 + 1 + 1) = k + 1 + 1 + 1 := wrap_in (by omega) (by omega)
    refine WP.seq_k fun K1 hK1 => WP.region hT rfl ?_
    simp only [↓planL, ↓opsA, List.contains_nil, List.contains_cons, Bool.or_false, Bool.false_or, ↓stepA, ↓e_len1, ↓e_append1, ↓e_min1, ↓e_max1, ↓callA, List.toList_toArray, Int.toNat_natCast, List.map_cons, List.map_nil, ev, Env.get_put_some, Env.put_none, Env.get_envOf, ↓e_move, ↓e_assign, ↓e_alloc, ↓e_box, ↓e_binOp, ↓e_unOp, ↓e_nilCheck, ↓e_pick, ↓e_load, ↓e_store, ↓e_fieldAddr, ↓e_field, ↓e_indexAddr, ↓e_index, ↓e_extract, ↓e_convert, ↓e_makeSlice, ↓e_build, ↓e_buildSlice, ↓e_makeFunc, b_add, b_sub, b_mul, b_eql, b_neq, b_lss, b_leq, b_gtr, b_geq, b_and, b_or, b_quo, b_rem, b_shl, b_shr, b_seql, b_sneq, b_beql, b_bneq, u_not, u_neg, rdSl_ro, rdSl_nils, rdSl_sl, setPart_agg, setPart_bool, setPart_int, setPart_str, setPart_nils, setPart_ro, setPart_sl, ofVal, ↓thenA, ↓blockA, Heap.upd_get, Heap.upd_upd, Heap.upd_sort, Nat.add_lt_add_iff_left, Nat.lt_add_right_iff_pos, Nat.pos_of_neZero, good_bool, good_int, good_str, good_nils, good_ro, good_sl, good_ep, good_nilp, good_nilf, good_fn, good_agg, AV.cells_bool, AV.cells_int, AV.cells_str, AV.cells_nils, AV.cells_ro, AV.cells_sl, AV.cells_ep, AV.cells_nilp, AV.cells_nilf, AV.cells_fn, AV.cells_agg, reduceIte, Nat.reduceEqDiff, Nat.reduceLT, Nat.reduceLeDiff, Nat.reduceAdd, Nat.add_assoc, true_and, and_true, List.getElem?_cons_zero, List.getElem?_cons_succ, Option.getD_some, List.length_cons, List.length_nil, List.set_cons_zero, List.set_cons_succ, Nat.zero_add, Nat.add_zero, List.drop_zero, List.take_succ_cons, List.take_zero, List.drop_succ_cons, List.drop_nil, List.cons_append, List.nil_append, List.append_nil, Nat.add_eq, Nat.left_eq_add, Nat.add_eq_left, List.getElem?_nil, Nat.zero_lt_succ, decide_true, decide_false, Option.bind_some, Option.map_some, Nat.one_ne_zero, Nat.lt_add_one, ↓reduceIte, Nat.le_refl, Nat.add_left_cancel_iff, T_2, T_3, T_4, T_33, T_36, T_40, T_42, T_47, T_76, T_78, T_123, T_49, h0, h1, h5, hgs, hgs, hts, List.length_set, List.set_set]
    refine ⟨hb0, hb1, hK1 _ _ _ ?_⟩
    clear hK1 K1
    refine WP.seq_k fun K1 hK1 => WP.region hT rfl ?_
    refine q_fS (And.intro h1 wr2) ?_
    refine hK1 _ _ _ ?_
    clear hK1 K1
    have wr3 : IntKind.i64.wrap (k + 1 + 1 + 1 + 1) = k + 1 + 1 + 1 + 1 := wrap_in (by omega) (by omega)
    refine WP.seq_k fun K1 hK1 => WP.region hT rfl ?_
    simp only [↓planL, ↓opsA, List.contains_nil, List.contains_cons, Bool.or_false, Bool.false_or, ↓stepA, ↓e_len1, ↓e_append1, ↓e_min1, ↓e_max1, ↓callA, List.toList_toArray, Int.toNat_natCast, List.map_cons, List.map_nil, ev, Env.get_put_some, Env.put_none, Env.get_envOf, ↓e_move, ↓e_assign, ↓e_alloc, ↓e_box, ↓e_binOp, ↓e_unOp, ↓e_nilCheck, ↓e_pick, ↓e_load, ↓e_store, ↓e_fieldAddr, ↓e_field, ↓e_indexAddr, ↓e_index, ↓e_extract, ↓e_convert, ↓e_makeSlice, ↓e_build, ↓e_buildSlice, ↓e_makeFunc, b_add, b_sub, b_mul, b_eql, b_neq, b_lss, b_leq, b_gtr, b_geq, b_and, b_or, b_quo, b_rem, b_shl, b_shr, b_seql, b_sneq, b_beql, b_bneq, u_not, u_neg, rdSl_ro, rdSl_nils, rdSl_sl, setPart_agg, setPart_bool, setPart_int, setPart_str, setPart_nils, setPart_ro, setPart_sl, ofVal, ↓thenA, ↓blockA, Heap.upd_get, Heap.upd_upd, Heap.upd_sort, Nat.add_lt_add_iff_left, Nat.lt_add_right_iff_pos, Nat.pos_of_neZero, good_bool, good_int, good_str, good_nils, good_ro, good_sl, good_ep, good_nilp, good_nilf, good_fn, good_agg, AV.cells_bool, AV.cells_int, AV.cells_str, AV.cells_nils, AV.cells_ro, AV.cells_sl, AV.cells_ep, AV.cells_nilp, AV.cells_nilf, AV.cells_fn, AV.cells_agg, reduceIte, Nat.reduceEqDiff, Nat.reduceLT, Nat.reduceLeDiff, Nat.reduceAdd, Nat.add_assoc, true_and, and_true, List.getElem?_cons_zero, List.getElem?_cons_succ, Option.getD_some, List.length_cons, List.length_nil, List.set_cons_zero, List.set_cons_succ, Nat.zero_add, Nat.add_zero, List.drop_zero, List.take_succ_cons, List.take_zero, List.drop_succ_cons, List.drop_nil, List.cons_append, List.nil_append, List.append_nil, Nat.add_eq, Nat.left_eq_add, Nat.add_eq_left, List.getElem?_nil, Nat.zero_lt_succ, decide_true, decide_false, Option.bind_some, Option.map_some, Nat.one_ne_zero, Nat.lt_add_one, ↓reduceIte, Nat.le_refl, Nat.add_left_cancel_iff, T_2, T_3, T_4, T_33, T_36, T_40, T_42, T_47, T_76, T_78, T_123, T_49, h0, h1, h5, hgs, hgs, hts, List.length_set, List.set_set]
    refine ⟨by decide, hb0, hb1, hK1 _ _ _ ?_⟩
    clear hK1 K1
    refine WP.seq_k fun K1 hK1 => WP.region hT rfl ?_
    refine q_fS (And.intro h1 wr3) ?_
    refine hK1 _ _ _ ?_
    clear hK1 K1
    have wr4 : IntKind.i64.wrap (k + 1 + 1 + 1 + 1 + 1) = k + 1 + 1 + 1 + 1 + 1 := wrap_in (by omega) (by omega)
    refine WP.seq_k fun K1 hK1 => WP.region hT rfl ?_
    simp only [↓planL, ↓opsA, List.contains_nil, List.contains_cons, Bool.or_false, Bool.false_or, ↓stepA, ↓e_len1, ↓e_append1, ↓e_min1, ↓e_max1, ↓callA, List.toList_toArray, Int.toNat_natCast, List.map_cons, List.map_nil, ev, Env.get_put_some, Env.put_none, Env.get_envOf, ↓e_move, ↓e_assign, ↓e_alloc, ↓e_box, ↓e_binOp, ↓e_unOp, ↓e_nilCheck, ↓e_pick, ↓e_load, ↓e_store, ↓e_fieldAddr, ↓e_field, ↓e_indexAddr, ↓e_index, ↓e_extract, ↓e_convert, ↓e_makeSlice, ↓e_build, ↓e_buildSlice, ↓e_makeFunc, b_add, b_sub, b_mul, b_eql, b_neq, b_lss, b_leq, b_gtr, b_geq, b_and, b_or, b_quo, b_rem, b_shl, b_shr, b_seql, b_sneq, b_beql, b_bneq, u_not, u_neg, rdSl_ro, rdSl_nils, rdSl_sl, setPart_agg, setPart_bool, setPart_int, setPart_str, setPart_nils, setPart_ro, setPart_sl, ofVal, ↓thenA, ↓blockA, Heap.upd_get, Heap.upd_upd, Heap.upd_sort, Nat.add_lt_add_iff_left, Nat.lt_add_right_iff_pos, Nat.pos_of_neZero, good_bool, good_int, good_str, good_nils, good_ro, good_sl, good_ep, good_nilp, good_nilf, good_fn, good_agg, AV.cells_bool, AV.cells_int, AV.cells_str, AV.cells_nils, AV.cells_ro, AV.cells_sl, AV.cells_ep, AV.cells_nilp, AV.cells_nilf, AV.cells_fn, AV.cells_agg, reduceIte, Nat.reduceEqDiff, Nat.reduceLT, Nat.reduceLeDiff, Nat.reduceAdd, Nat.add_assoc, true_and, and_true, List.getElem?_cons_zero, List.getElem?_cons_succ, Option.getD_some, List.length_cons, List.length_nil, List.set_cons_zero, List.set_cons_succ, Nat.zero_add, Nat.add_zero, List.drop_zero, List.take_succ_cons, List.take_zero, List.drop_succ_cons, List.drop_nil, List.cons_append, List.nil_append, List.append_nil, Nat.add_eq, Nat.left_eq_add, Nat.add_eq_left, List.getElem?_nil, Nat.zero_lt_succ, decide_true, decide_false, Option.bind_some, Option.map_some, Nat.one_ne_zero, Nat.lt_add_one, ↓reduceIte, Nat.le_refl, Nat.add_left_cancel_iff, T_2, T_3, T_4, T_33, T_36, T_40, T_42, T_47, T_76, T_78, T_123, T_49, h0, h1, h5, hgs, hgs, hts, List.length_set, List.set_set]
    refine ⟨hb0, hb1, hK1 _ _ _ ?_⟩
    clear hK1 K1
    refine WP.seq_k fun K1 hK1 => WP.region hT rfl ?_
    refine q_fS (And.intro h1 wr4) ?_
    refine hK1 _ _ _ ?_
    clear hK1 K1
    have wr5 : IntKind.i64.wrap (k + 1 + 1 + 1 + 1 + 1 + 1) = k + 1 + 1 + 1 + 1 + 1 + 1 := wrap_in (by omega) (by omega)
    refine WP.seq_k fun K1 hK1 => WP.region hT rfl ?_
    simp only [↓planL, ↓opsA, List.contains_nil, List.contains_cons, Bool.or_false, Bool.false_or, ↓stepA, ↓e_len1, ↓e_append1, ↓e_min1, ↓e_max1, ↓callA, List.toList_toArray, Int.toNat_natCast, List.map_cons, List.map_nil, ev, Env.get_put_some, Env.put_none, Env.get_envOf, ↓e_move, ↓e_assign, ↓e_alloc, ↓e_box, ↓e_binOp, ↓e_unOp, ↓e_nilCheck, ↓e_pick, ↓e_load, ↓e_store, ↓e_fieldAddr, ↓e_field, ↓e_indexAddr, ↓e_index, ↓e_extract, ↓e_convert, ↓e_makeSlice, ↓e_build, ↓e_buildSlice, ↓e_makeFunc, b_add, b_sub, b_mul, b_eql, b_neq, b_lss, b_leq, b_gtr, b_geq, b_and, b_or, b_quo, b_rem, b_shl, b_shr, b_seql, b_sneq, b_beql, b_bneq, u_not, u_neg, rdSl_ro, rdSl_nils, rdSl_sl, setPart_agg, setPart_bool, setPart_int, setPart_str, setPart_nils, setPart_ro, setPart_sl, ofVal, ↓thenA, ↓blockA, Heap.upd_get, Heap.upd_upd, Heap.upd_sort, Nat.add_lt_add_iff_left, Nat.lt_add_right_iff_pos, Nat.pos_of_neZero, good_bool, good_int, good_str, good_nils, good_ro, good_sl, good_ep, good_nilp, good_nilf, good_fn, good_agg, AV.cells_bool, AV.cells_int, AV.cells_str, AV.cells_nils, AV.cells_ro, AV.cells_sl, AV.cells_ep, AV.cells_nilp, AV.cells_nilf, AV.cells_fn, AV.cells_agg, reduceIte, Nat.reduceEqDiff, Nat.reduceLT, Nat.reduceLeDiff, Nat.reduceAdd, Nat.add_assoc, true_and, and_true, List.getElem?_cons_zero, List.getElem?_cons_succ, Option.getD_some, List.length_cons, List.length_nil, List.set_cons_zero, List.set_cons_succ, Nat.zero_add, Nat.add_zero, List.drop_zero, List.take_succ_cons, List.take_zero, List.drop_succ_cons, List.drop_nil, List.cons_append, List.nil_append, List.append_nil, Nat.add_eq, Nat.left_eq_add, Nat.add_eq_left, List.getElem?_nil, Nat.zero_lt_succ, decide_true, decide_false, Option.bind_some, Option.map_some, Nat.one_ne_zero, Nat.lt_add_one, ↓reduceIte, Nat.le_refl, Nat.add_left_cancel_iff, T_2, T_3, T_4, T_33, T_36, T_40, T_42, T_47, T_76, T_78, T_123, T_49, h0, h1, h5, hgs, hgs, hts, List.length_set, List.set_set]
    refine ⟨by decide, hb0, hb1, hK1 _ _ _ ?_⟩
    clear hK1 K1
    refine WP.seq_k fun K1 hK1 => WP.region hT rfl ?_
    refine q_fS (And.intro h1 wr5) ?_
    refine hK1 _ _ _ ?_
    clear hK1 K1
    have wr6 : IntKind.i64.wrap (k + 1 + 1 + 1 + 1 + 1 + 1 + 1) = k + 1 + 1 + 1 + 1 + 1 + 1 + 1 := wrap_in (by omega) (by omega)
    refine WP.seq_k fun K1 hK1 => WP.region hT rfl ?_
    simp only [↓planL, ↓opsA, List.contains_nil, List.contains_cons, Bool.or_false, Bool.false_or, ↓stepA, ↓e_len1, ↓e_append1, ↓e_min1, ↓e_max1, ↓callA, List.toList_toArray, Int.toNat_natCast, List.map_cons, List.map_nil, ev, Env.get_put_some, Env.put_none, Env.get_envOf, ↓e_move, ↓e_assign, ↓e_alloc, ↓e_box, ↓e_binOp, ↓e_unOp, ↓e_nilCheck, ↓e_pick, ↓e_load, ↓e_store, ↓e_fieldAddr, ↓e_field, ↓e_indexAddr, ↓e_index, ↓e_extract, ↓e_convert, ↓e_makeSlice, ↓e_build, ↓e_buildSlice, ↓e_makeFunc, b_add, b_sub, b_mul, b_eql, b_neq, b_lss, b_leq, b_gtr, b_geq, b_and, b_or, b_quo, b_rem, b_shl, b_shr, b_seql, b_sneq, b_beql, b_bneq, u_not, u_neg, rdSl_ro, rdSl_nils, rdSl_sl, setPart_agg, setPart_bool, setPart_int, setPart_str, setPart_nils, setPart_ro, setPart_sl, ofVal, ↓thenA, ↓blockA, Heap.upd_get, Heap.upd_upd, Heap.upd_sort, Nat.add_lt_add_iff_left, Nat.lt_add_right_iff_pos, Nat.pos_of_neZero, good_bool, good_int, good_str, good_nils, good_ro, good_sl, good_ep, good_nilp, good_nilf, good_fn, good_agg, AV.cells_bool, AV.cells_int, AV.cells_str, AV.cells_nils, AV.cells_ro, AV.cells_sl, AV.cells_ep, AV.cells_nilp, AV.cells_nilf, AV.cells_fn, AV.cells_agg, reduceIte, Nat.reduceEqDiff, Nat.reduceLT, Nat.reduceLeDiff, Nat.reduceAdd, Nat.add_assoc, true_and, and_true, List.getElem?_cons_zero, List.getElem?_cons_succ, Option.getD_some, List.length_cons, List.length_nil, List.set_cons_zero, List.set_cons_succ, Nat.zero_add, Nat.add_zero, List.drop_zero, List.take_succ_cons, List.take_zero, List.drop_succ_cons, List.drop_nil, List.cons_append, List.nil_append, List.append_nil, Nat.add_eq, Nat.left_eq_add, Nat.add_eq_left, List.getElem?_nil, Nat.zero_lt_succ, decide_true, decide_false, Option.bind_some, Option.map_some, Nat.one_ne_zero, Nat.lt_add_one, ↓reduceIte, Nat.le_refl, Nat.add_left_cancel_iff, T_2, T_3, T_4, T_33, T_36, T_40, T_42, T_47, T_76, T_78, T_123, T_49, h0, h1, h5, hgs, hgs, hts, List.length_set, List.set_set]
    refine ⟨hb0, hb1, hK1 _ _ _ ?_⟩
    clear hK1 K1
    refine WP.seq_k fun K1 hK1 => WP.region hT rfl ?_
    refine q_fS (And.intro h1 wr6) ?_
    refine hK1 _ _ _ ?_
    clear hK1 K1
    have wr7 : IntKind.i64.wrap (k + 1 + 1 + 1 + 1 + 1 + 1 + 1 + 1) = k + 1 + 1 + 1 + 1 + 1 + 1 + 1 + 1 := wrap_in (by omega) (by omega)
    refine WP.seq_k fun K1 hK1 => WP.region hT rfl ?_
    simp only [↓planL, ↓opsA, List.contains_nil, List.contains_cons, Bool.or_false, Bool.false_or, ↓stepA, ↓e_len1, ↓e_append1, ↓e_min1, ↓e_max1, ↓callA, List.toList_toArray, Int.toNat_natCast, List.map_cons, List.map_nil, ev, Env.get_put_some, Env.put_none, Env.get_envOf, ↓e_move, ↓e_assign, ↓e_alloc, ↓e_box, ↓e_binOp, ↓e_unOp, ↓e_nilCheck, ↓e_pick, ↓e_load, ↓e_store, ↓e_fieldAddr, ↓e_field, ↓e_indexAddr, ↓e_index, ↓e_extract, ↓e_convert, ↓e_makeSlice, ↓e_build, ↓e_buildSlice, ↓e_makeFunc, b_add, b_sub, b_mul, b_eql, b_neq, b_lss, b_leq, b_gtr, b_geq, b_and, b_or, b_quo, b_rem, b_shl, b_shr, b_seql, b_sneq, b_beql, b_bneq, u_not, u_neg, rdSl_ro, rdSl_nils, rdSl_sl, setPart_agg, setPart_bool, setPart_int, setPart_str, setPart_nils, setPart_ro, setPart_sl, ofVal, ↓thenA, ↓blockA, Heap.upd_get, Heap.upd_upd, Heap.upd_sort, Nat.add_lt_add_iff_left, Nat.lt_add_right_iff_pos, Nat.pos_of_neZero, good_bool, good_int, good_str, good_nils, good_ro, good_sl, good_ep, good_nilp, good_nilf, good_fn, good_agg, AV.cells_bool, AV.cells_int, AV.cells_str, AV.cells_nils, AV.cells_ro, AV.cells_sl, AV.cells_ep, AV.cells_nilp, AV.cells_nilf, AV.cells_fn, AV.cells_agg, reduceIte, Nat.reduceEqDiff, Nat.reduceLT, Nat.reduceLeDiff, Nat.reduceAdd, Nat.add_assoc, true_and, and_true, List.getElem?_cons_zero, List.getElem?_cons_succ, Option.getD_some, List.length_cons, List.length_nil, List.set_cons_zero, List.set_cons_succ, Nat.zero_add, Nat.add_zero, List.drop_zero, List.take_succ_cons, List.take_zero, List.drop_succ_cons, List.drop_nil, List.cons_append, List.nil_append, List.append_nil, Nat.add_eq, Nat.left_eq_add, Nat.add_eq_left, List.getElem?_nil, Nat.zero_lt_succ, decide_true, decide_false, Option.bind_some, Option.map_some, Nat.one_ne_zero, Nat.lt_add_one, ↓reduceIte, Nat.le_refl, Nat.add_left_cancel_iff, T_2, T_3, T_4, T_33, T_36, T_40, T_42, T_47, T_76, T_78, T_123, T_49, h0, h1, h5, hgs, hgs, hts, List.length_set, List.set_set]
    refine ⟨hb0, hb1, hK1 _ _ _ ?_⟩
    clear hK1 K1
    refine WP.region hT rfl ?_
    refine q_fS (And.intro h1 wr7) ?_
    refine hK _ _ _ (.agg [.int .i64 (k), .int .i64 (k + 1), .int .i64 (k + 1 + 1), .bool (decide ((k + 1 + 1 + 1).tmod 3 = 0)), .int .i64 (k + 1 + 1 + 1 + 1), .bool (decide ((k + 1 + 1 + 1 + 1 + 1).tmod 3 = 0)), .int .i64 (k + 1 + 1 + 1 + 1 + 1 + 1), .int .i64 (k + 1 + 1 + 1 + 1 + 1 + 1 + 1)]) _ (by omega) (.agg _ _ _ (TreeL.cons _ _ _ _ _ _ (Tree.ofPlain1 rfl) (TreeL.cons _ _ _ _ _ _ (Tree.ofPlain1 rfl) (TreeL.cons _ _ _ _ _ _ (Tree.ofPlain1 rfl) (TreeL.cons _ _ _ _ _ _ (Tree.ofPlain1 rfl) (TreeL.cons _ _ _ _ _ _ (Tree.ofPlain1 rfl) (TreeL.cons _ _ _ _ _ _ (Tree.ofPlain1 rfl) (TreeL.cons _ _ _ _ _ _ (Tree.ofPlain1 rfl) (TreeL.cons _ _ _ _ _ _ (Tree.ofPlain1 rfl) TreeL.nil d7) d6) d5) d4) d3) d2) d1) d0)) ⟨rfl, rfl⟩ (Heap.upd_same _ _ _) (fun j hj hnj => by rw [Heap.upd_ne _ _ hj]) ?_ ?_ ?_
    · simp [Env.get, Env.put]
    · have he : k + 1 + 1 + 1 + 1 + 1 + 1 + 1 + 1 = k + ((wtRec a : Nat) : Int) := by unfold wtRec; omega
      simp only [Env.get_put_some, ↓reduceIte, Nat.reduceEqDiff]
      rw [← he]
    · simpa [Env.get, Env.put] using h5
  exact hm.mono fun e k he => ⟨_, rfl, by rw [List.length_map]; omega, he⟩
theorem h63 {x : AV} {w : Nat} {k : Int} (hk0 : 0 ≤ k) (hkw : k + w ≤ 4611686018427387904) (hx : HdInt64S x w k) : HeldBy Try.prog 63 x w k := by
  obtain ⟨ws, rfl, hlen, hx⟩ := hx
  refine heldS_gen (ts := 40) (t := 2) (z := 7) (r := 20) (N := 21) (T := T) hT Try.call63 Try.func63 rfl rfl (by decide) (by decide) rfl rfl ?_ hk0 hkw hlen hx
  exact heldInt_body (ts := 40) (t := 2) hT (by decide) rfl rfl rfl (fun _ => rfl)
theorem m71 {x' : AV} {l : List CellD} (hx : CellSR x' l) : MarkC Try.prog 71 HdCellS x' (wtCellS l) := by
  obtain ⟨es, hes, hal, hml, _, _⟩ := id hx
  have hel := all2_length hal
  unfold maxLen at hml
  have hm : MarkC Try.prog 71 (HdS 2 HeCell (l.map wtCell)) x' (wtCellS l) := by
    refine markS_gen (ts := 47) (t := 123) (z := 8) (r := 26) (N := 27) (T := T) (U := CellR) (w := wtCell) hT Try.call71 Try.func71 rfl rfl (by decide) (by decide) rfl rfl (fun e w k he m => he.ltn m) hx (fun e' a _ hU => ?_)
    intro Q E h n id ex b i e J k hte hid hrow hbi hib hbl h0 h1 h5 hk hkw hK
    obtain ⟨rfl, c0, c1⟩ := hU
    obtain ⟨cs, rfl, hl⟩ := hte.aggE
    cases hl with
    | cons u0 _ _ _ I0 J0 t0 hl0 d0 =>
    obtain ⟨rfl, rfl⟩ := t0.int
    cases hl0 with
    | cons u1 _ _ _ I1 J1 t1 hl1 d1 =>
    obtain ⟨rfl, rfl⟩ := t1.int
    cases hl1 with
    | nil =>
    unfold wtCell at hkw
    have hl : List.take b.length b = b := by simp
    have hb0 : (0 : Int) ≤ i := by omega
    have hb1 : (i : Int) < b.length := by omega
    have hgs : ∀ e, (b.set i e)[i]? = some e := fun e => List.getElem?_set_self hib
    have hts : ∀ e, List.take b.length (b.set i e) = b.set i e := fun e => List.take_of_length_le (by simp)
    have wr0 : IntKind.i64.wrap (k + 1) = k + 1 := wrap_in (by omega) (by omega)
    refine WP.seq_k fun K1 hK1 => WP.region hT rfl ?_
    simp only [↓planL, ↓opsA, List.contains_nil, List.contains_cons, Bool.or_false, Bool.false_or, ↓stepA, ↓e_len1, ↓e_append1, ↓e_min1, ↓e_max1, ↓callA, List.toList_toArray, Int.toNat_natCast, List.map_cons, List.map_nil, ev, Env.get_put_some, Env.put_none, Env.get_envOf, ↓e_move, ↓e_assign, ↓e_alloc, ↓e_box, ↓e_binOp, ↓e_unOp, ↓e_nilCheck, ↓e_pick, ↓e_load, ↓e_store, ↓e_fieldAddr, ↓e_field, ↓e_indexAddr, ↓e_index, ↓e_extract, ↓e_convert, ↓e_makeSlice, ↓e_build, ↓e_buildSlice, ↓e_makeFunc, b_add, b_sub, b_mul, b_eql, b_neq, b_lss, b_leq, b_gtr, b_geq, b_and, b_or, b_quo, b_rem, b_shl, b_shr, b_seql, b_sneq, b_beql, b_bneq, u_not, u_neg, rdSl_ro, rdSl_nils, rdSl_sl, setPart_agg, setPart_bool, setPart_int, setPart_str, setPart_nils, setPart_ro, setPart_sl, ofVal, ↓thenA, ↓blockA, Heap.upd_get, Heap.upd_upd, Heap.upd_sort, Nat.add_lt_add_iff_left, Nat.lt_add_right_iff_pos, Nat.pos_of_neZero, good_bool, good_int, good_str, good_nils, good_ro, good_sl, good_ep, good_nilp, good_nilf, good_fn, good_agg, AV.cells_bool, AV.cells_int, AV.cells_str, AV.cells_nils, AV.cells_ro, AV.cells_sl, AV.cells_ep, AV.cells_nilp, AV.cells_nilf, AV.cells_fn, AV.cells_agg, reduceIte, Nat.reduceEqDiff, Nat.reduceLT, Nat.reduceLeDiff, Nat.reduceAdd, Nat.add_assoc, true_and, and_true, List.getElem?_cons_zero, List.getElem?_cons_succ, Option.getD_some, List.length_cons, List.length_nil, List.set_cons_zero, List.set_cons_succ, Nat.zero_add, Nat.add_zero, List.drop_zero, List.take_succ_cons, List.take_zero, List.drop_succ_cons, List.drop_nil, List.cons_append, List.nil_append, List.append_nil, Nat.add_eq, Nat.left_eq_add, Nat.add_eq_left, List.getElem?_nil, Nat.zero_lt_succ, decide_true, decide_false, Option.bind_some, Option.map_some, Nat.one_ne_zero, Nat.lt_add_one, ↓reduceIte, Nat.le_refl, Nat.add_left_cancel_iff, T_2, T_3, T_4, T_33, T_36, T_40, T_42, T_47, T_76, T_78, T_123, T_49, h0, h1, h5, hrow, hbi, hl, hgs, hts, List.length_set, List.set_set]
    refine ⟨hb0, hb1, hK1 _ _ _ ?_⟩
    clear hK1 K1
    refine WP.seq_k fun K1 hK1 => WP.region hT rfl ?_
    refine q_fS (And.intro h1 wr0) ?_
    refine hK1 _ _ _ ?_
    clear hK1 K1
    have wr1 : IntKind.i64.wrap (k + 1 + 1) = k + 1 + 1 := wrap_in (by omega) (by omega)
    refine WP.seq_k fun K1 hK1 => WP.region hT rfl ?_
    simp only [↓planL, ↓opsA, List.contains_nil, List.contains_cons, Bool.or_false, Bool.false_or, ↓stepA, ↓e_len1, ↓e_append1, ↓e_min1, ↓e_max1, ↓callA, List.toList_toArray, Int.toNat_natCast, List.map_cons, List.map_nil, ev, Env.get_put_some, Env.put_none, Env.get_envOf, ↓e_move, ↓e_assign, ↓e_alloc, ↓e_box, ↓e_binOp, ↓e_unOp, ↓e_nilCheck, ↓e_pick, ↓e_load, ↓e_store, ↓e_fieldAddr, ↓e_field, ↓e_indexAddr, ↓e_index, ↓e_extract, ↓e_convert, ↓e_makeSlice, ↓e_build, ↓e_buildSlice, ↓e_makeFunc, b_add, b_sub, b_mul, b_eql, b_neq, b_lss, b_leq, b_gtr, b_geq, b_and, b_or, b_quo, b_rem, b_shl, b_shr, b_seql, b_sneq, b_beql, b_bneq, u_not, u_neg, rdSl_ro, rdSl_nils, rdSl_sl, setPart_agg, setPart_bool, setPart_int, setPart_str, setPart_nils, setPart_ro, setPart_sl, ofVal, ↓thenA, ↓blockA, Heap.upd_get, Heap.upd_upd, Heap.upd_sort, Nat.add_lt_add_iff_left, Nat.lt_add_right_iff_pos, Nat.pos_of_neZero, good_bool, good_int, good_str, good_nils, good_ro, good_sl, good_ep, good_nilp, good_nilf, good_fn, good_agg, AV.cells_bool, AV.cells_int, AV.cells_str, AV.cells_nils, AV.cells_ro, AV.cells_sl, AV.cells_ep, AV.cells_nilp, AV.cells_nilf, AV.cells_fn, AV.cells_agg, reduceIte, Nat.reduceEqDiff, Nat.reduceLT, Nat.reduceLeDiff, Nat.reduceAdd, Nat.add_assoc, true_and, and_true, List.getElem?_cons_zero, List.getElem?_cons_succ, Option.getD_some, List.length_cons, List.length_nil, List.set_cons_zero, List.set_cons_succ, Nat.zero_add, Nat.add_zero, List.drop_zero, List.take_succ_cons, List.take_zero, List.drop_succ_cons, List.drop_nil, List.cons_append, List.nil_append, List.append_nil, Nat.add_eq, Nat.left_eq_add, Nat.add_eq_left, List.getElem?_nil, Nat.zero_lt_succ, decide_true, decide_false, Option.bind_some, Option.map_some, Nat.one_ne_zero, Nat.lt_add_one, ↓reduceIte, Nat.le_refl, Nat.add_left_cancel_iff, T_2, T_3, T_4, T_33, T_36, T_40, T_42, T_47, T_76, T_78, T_123, T_49, h0, h1, h5, hgs, hgs, hts, List.length_set, List.set_set]
    refine ⟨hb0, hb1, hK1 _ _ _ ?_⟩
    clear hK1 K1
    refine WP.region hT rfl ?_
    refine q_fS (And.intro h1 wr1) ?_
    refine hK _ _ _ (.agg [.int .i64 (k), .int .i64 (k + 1)]) _ (by omega) (.agg _ _ _ (TreeL.cons _ _ _ _ _ _ (Tree.ofPlain1 rfl) (TreeL.cons _ _ _ _ _ _ (Tree.ofPlain1 rfl) TreeL.nil d1) d0)) ⟨rfl, rfl⟩ (Heap.upd_same _ _ _) (fun j hj hnj => by rw [Heap.upd_ne _ _ hj]) ?_ ?_ ?_
    · simp [Env.get, Env.put]
    · have he : k + 1 + 1 = k + ((wtCell a : Nat) : Int) := by unfold wtCell; omega
      simp only [Env.get_put_some, ↓reduceIte, Nat.reduceEqDiff]
      rw [← he]
    · simpa [Env.get, Env.put] using h5
  exact hm.mono fun e k he => ⟨_, rfl, by rw [List.length_map]; omega, he⟩
theorem h72 {x : AV} {w : Nat} {k : Int} (hk0 : 0 ≤ k) (hkw : k + w ≤ 4611686018427387904) (hx : HdCellS x w k) : HeldBy Try.prog 72 x w k := by
  obtain ⟨ws, rfl, hlen, hx⟩ := hx
  refine heldS_gen (ts := 47) (t := 123) (z := 10) (r := 30) (N := 31) (T := T) hT Try.call72 Try.func72 rfl rfl (by decide) (by decide) rfl rfl ?_ hk0 hkw hlen hx
  intro Q E h n x es i e w k hrd hi hel he h0 h1 h5 hk hkw hK
  obtain ⟨rfl, rfl⟩ := he
  have hrd : ∀ h, rdSl h 2 x = some es := hrd
  have hil : i < es.length := (List.getElem?_eq_some_iff.1 hi).1
  have hb0 : (0 : Int) ≤ i := by omega
  have hb1 : (i : Int) < es.length := by omega
  have wr0 : IntKind.i64.wrap (k + 1) = k + 1 := wrap_in (by omega) (by omega)
  refine WP.seq_k fun K3 hK3 => ?_
  refine WP.seq_k fun K1 hK1 => WP.region hT rfl ?_
  refine q_fS (And.intro h0 (And.intro h1 (And.intro h5 (And.intro hrd hi)))) ?_
  refine ⟨hb0, hb1, hK1 _ _ _ ?_⟩
  clear hK1 K1
  refine WP.cond (by simp only [ev, Env.get_put_some, ↓reduceIte]; rfl) (fun hc => ?_) (fun hc => ?_)
  · simp at hc
  refine WP.skip (hK3 _ _ _ ?_)
  clear hK3 K3 hc
  refine WP.seq_k fun K1 hK1 => WP.region hT rfl ?_
  refine q_fS (And.intro h1 wr0) ?_
  refine hK1 _ _ _ ?_
  clear hK1 K1
  have wr1 : IntKind.i64.wrap (k + 1 + 1) = k + 1 + 1 := wrap_in (by omega) (by omega)
  refine WP.seq_k fun K3 hK3 => ?_
  refine WP.seq_k fun K1 hK1 => WP.region hT rfl ?_
  refine q_fS (And.intro h0 (And.intro h1 (And.intro h5 (And.intro hrd (And.intro hi wr0))))) ?_
  refine ⟨hb0, hb1, hK1 _ _ _ ?_⟩
  clear hK1 K1
  refine WP.cond (by simp only [ev, Env.get_put_some, ↓reduceIte]; rfl) (fun hc => ?_) (fun hc => ?_)
  · simp at hc
  refine WP.skip (hK3 _ _ _ ?_)
  clear hK3 K3 hc
  refine WP.region hT rfl ?_
  refine q_fS (And.intro h1 (And.intro wr0 wr1)) ?_
  refine hK _ ?_ ?_ ?_
  · simpa [Env.get, Env.put] using h0
  · have he : k + 1 + 1 = k + ((2 : Nat) : Int) := by omega
    simp only [Env.get_put_some, ↓reduceIte, Nat.reduceEqDiff]
    rw [← he]
  · simpa [Env.get, Env.put] using h5
def HsCellsResult (e : AV) (w : Nat) (k : Int) : Prop := ∃ (y0 y1 : AV) (w1 : Nat), e = .agg [y0, y1] ∧ w = w1 ∧ HdCellS y1 w1 (k)
theorem m30 {x' : AV} {a : CellsResultD} (hx : CellsResultR x' a) : MarkC Try.prog 30 HsCellsResult x' (wsCellsResult a) := by
  obtain ⟨x1, rfl, c0, c1⟩ := hx
  intro h n K x I k ht hk hkw hK
  obtain ⟨cs, rfl, hl⟩ := ht.aggE
  cases hl with
  | cons u0 _ _ _ I0 J0 t0 hl0 d0 =>
  obtain ⟨rfl, rfl⟩ := t0.int
  cases hl0 with
  | cons u1 _ _ _ I1 J1 t1 hl1 d1 =>
  cases hl1 with
  | nil =>
  unfold wsCellsResult at hkw
  refine CA.conv (CA.enter (N := 10) (rs := [.tmp 4]) hT Try.call30 Try.func30 rfl rfl (by simp) rfl fun hlt => ?_)
  have z1 := t1.slOne c1
  have il1 : ∀ i, i ∈ I1 → i < n := fun i hi => by obtain ⟨b, hb⟩ := t1.some i hi; exact hlt i b hb
  have nn1 : n ∉ I1 := fun hm => by have := il1 n hm; omega
  refine WP.seq_k fun K1 hK1 => WP.region hT rfl ?_
  refine q_S ?_
  refine hK1 _ _ _ ?_
  clear hK1 K1
  refine WP.seq_k fun K1 hK1 => WP.region hT rfl ?_
  refine q_fS z1 ?_
  refine m71 c1 _ _ _ u1 I1 _ (t1.keep fun i hi => by rw [Heap.upd_ne _ _ (by have := il1 i hi; omega)]) (by omega) (by omega) fun y1 g1 n1 hn1 ty1 fr1 hH1 => ?_
  refine hK1 _ _ _ ?_
  clear hK1 K1
  have box1 : g1 n = some [.agg [.int .i64 a.code, u1]] := by rw [fr1 n nn1, Heap.upd_same]
  refine WP.seq_k fun K1 hK1 => WP.region hT rfl ?_
  refine q_S ?_
  refine hK1 _ _ _ ?_
  clear hK1 K1
  refine WP.ret ?_
  refine qr_S ?_
  let g : Heap := fun id => if id = n then none else g1 id
  have g0 : ∀ id, id ≠ n → g id = g1 id := fun id hid => by simp only [g]; rw [if_neg hid]
  refine ⟨_, rfl, _, g, n1, .keep _ _ _ _ (fun id x hx => ?_), ?_⟩
  · simp only [g] at hx
    split at hx
    · cases hx
    · exact hx
  have hfin := hK (.agg [.int .i64 a.code, y1]) g n1 (by omega) (.agg _ _ _ (TreeL.cons _ _ _ _ _ _ (Tree.ofPlain1 rfl) (TreeL.cons _ _ _ _ _ _ (ty1.keep fun i hi => g0 i (by have := il1 i hi; omega)) TreeL.nil d1) d0)) (fun id hid => ?_) ⟨.int .i64 a.code, y1, _, rfl, rfl, hH1⟩
  · have he : k + (wtCellS a.cells : Nat) = k + ((wsCellsResult a : Nat) : Int) := by unfold wsCellsResult; omega
    simp only [resV]
    rw [he]; exact hfin
  · by_cases hn : id = n
    · subst hn
      simp only [g, if_true]
      exact (Heap.below.none hlt (Nat.le_refl _)).symm
    · rw [g0 id hn, fr1 id (fun hm => hid (by simp [hm])), Heap.upd_ne _ _ hn]
theorem h31 {x : AV} {w : Nat} {k : Int} (hk0 : 0 ≤ k) (hkw : k + w ≤ 4611686018427387904) (hx : HsCellsResult x w k) : HeldBy Try.prog 31 x w k := by
  obtain ⟨y0, y1, w1, rfl, hw, c1⟩ := hx
  rw [hw] at hkw ⊢
  intro h n K hK
  have z1 := one_cells c1.isOne
  refine CA.conv (CA.enter (N := 12) (rs := [.tmp 4]) hT Try.call31 Try.func31 rfl rfl (by simp) rfl fun hlt => ?_)
  refine WP.seq_k fun K1 hK1 => WP.region hT rfl ?_
  refine q_S ?_
  refine hK1 _ _ _ ?_
  clear hK1 K1
  refine WP.seq_k fun K1 hK1 => WP.region hT rfl ?_
  refine q_fS z1 ?_
  refine h72 (by omega) (by omega) c1 _ _ _ (hK1 _ _ _ ?_)
  clear hK1 K1
  refine WP.seq_k fun K3 hK3 => ?_
  refine WP.seq_k fun K1 hK1 => WP.region hT rfl ?_
  refine q_S ?_
  refine hK1 _ _ _ ?_
  clear hK1 K1
  refine WP.cond (by simp only [ev, Env.get_put_some, ↓reduceIte]; rfl) (fun hc => ?_) (fun hc => ?_)
  · simp at hc; omega
  refine WP.skip (hK3 _ _ _ ?_)
  clear hK3 K3 hc
  refine WP.seq_k fun K1 hK1 => WP.region hT rfl ?_
  refine q_S ?_
  refine hK1 _ _ _ ?_
  clear hK1 K1
  refine WP.ret ?_
  refine qr_S ?_
  refine ⟨_, rfl, ret_p (Left.upd (Nat.le_refl _) (Left.refl hlt)) (.int _ _) ?_⟩
  have he : k + (w1 : Nat) = k + ((w1 : Nat) : Int) := by omega
  simp only [resV]
  rw [he]
  exact hK
end
end Go.Proofs.Ytcngfjmfgeckmaa
section
namespace Go.Proofs.Ytcngfjmfgeckmaa
open Go
set_option linter.unusedSimpArgs false
set_option linter.unusedVariables false
set_option maxRecDepth 20000
attribute [local irreducible] IntKind.wrap bitA
section
variable {h : Heap} {n : Nat} {K : AV → Heap → Nat → Prop}
end
end Go.Proofs.Ytcngfjmfgeckmaa
end
namespace Go.Proofs.Ytcngfjmfgeckmaa
open Go
section
variable {h : Heap} {n : Nat} {K : AV → Heap → Nat → Prop}
def soundP (l : List RecD) : Int := if 400 < l.length then 2 else runC [] [] l
theorem s_sound {x : AV} {l : List RecD} (hx : RecSR x l) (hk : I64 (soundP l) → K (.int .i64 (soundP l)) h n) : CA Try.prog 15 [x] h n K := by
  refine w_s_SoundRecs (SlR.toH hx) (fu := 100000) (r := soundP l) ?_ fun y hy => ?_
  · unfold m_s_SoundRecs
    rw [m_s_l13Sound_eq (by omega)]; rfl
  · obtain ⟨rfl, hi⟩ := hy
    exact hk hi
theorem i_sound {x : AV} {l : List RecD} (hx : RecSR x l) (hk : I64 (soundP l) → K (.int .i64 (soundP l)) h n) : CA Try.prog 17 [x] h n K := by
  refine w_i_SoundRecs (SlR.toH hx) (fu := 100000) (r := soundP l) (m_i_SoundRecs_eq (by omega)) fun y hy => ?_
  obtain ⟨rfl, hi⟩ := hy
  exact hk hi
theorem c4 {x : AV} {l : List RecD} (hx : RecSR x l) (hk : K (.bool true) h n) : CA Try.prog 4 [x] h n K := by
  refine CA.conv (CA.enter (N := 27) (rs := [.tmp 2]) hT Try.call4 Try.func4 rfl rfl (by simp) rfl fun hlt => ?_)
  refine WP.seq_k fun K1 hK1 => WP.region hT rfl ?_
  refine q_S ?_
  refine hK1 _ _ _ ?_
  clear hK1 K1
  refine WP.seq_k fun K1 hK1 => WP.region hT rfl ?_
  refine q_S ?_
  refine hK1 _ _ _ ?_
  clear hK1 K1
  refine WP.seq_k fun K1 hK1 => WP.region hT rfl ?_
  refine q_S ?_
  refine c14 hx (by omega) (by omega) (hK1 _ _ _ ?_)
  clear hK1 K1
  refine WP.seq_k fun K2 hK2 => ?_
  refine WP.seq_k fun K1 hK1 => WP.region hT rfl ?_
  refine q_S ?_
  refine hK1 _ _ _ ?_
  clear hK1 K1
  refine WP.cond (by simp only [ev, Env.get_put_some, ↓reduceIte]; rfl) (fun hc => ?_) (fun hc => ?_)
  · refine WP.seq_k fun K1 hK1 => WP.region hT rfl ?_
    refine q_S ?_
    refine hK1 _ _ _ ?_
    clear hK1 K1
    refine WP.ret ?_
    refine qr_S ?_
    exact ⟨_, rfl, ret_p (Left.refl hlt) (.bool _) hk⟩
  refine WP.skip (hK2 _ _ _ ?_)
  clear hK2 K2
  obtain ⟨b1, b2⟩ := left_nonneg (by omega) (of_decide_eq_false hc)
  have hl : sizRecS l ≤ 1048576 := by omega
  refine WP.seq_k fun K1 hK1 => WP.region hT rfl ?_
  refine q_S ?_
  refine c16 hx hl fun r1 hr1 => s_sound hr1 fun hi => (hK1 _ _ _ ?_)
  clear hK1 K1
  refine WP.seq_k fun K1 hK1 => WP.region hT rfl ?_
  refine q_S ?_
  refine c16 hx hl fun r2 hr2 => hK1 _ _ _ ?_
  clear hK1 K1
  refine WP.seq_k fun K1 hK1 => WP.region hT rfl ?_
  refine q_S ?_
  refine i_sound hr2 fun hi2 => (hK1 _ _ _ ?_)
  clear hK1 K1
  refine WP.seq_k fun K2 hK2 => ?_
  refine WP.seq_k fun K1 hK1 => WP.region hT rfl ?_
  refine q_S ?_
  refine hK1 _ _ _ ?_
  clear hK1 K1
  refine WP.cond (by simp only [ev, Env.get_put_some, ↓reduceIte]; rfl) (fun hc => ?_) (fun hc => ?_)
  · exfalso
    simp at hc
  refine WP.skip (hK2 _ _ _ ?_)
  clear hK2 K2
  refine WP.seq_k fun K2 hK2 => ?_
  refine WP.seq_k fun K1 hK1 => WP.region hT rfl ?_
  refine q_S ?_
  refine c16 hx hl fun r3 hr3 => c18 hr2 hr3 (hK1 _ _ _ ?_)
  clear hK1 K1
  refine WP.cond (by simp only [ev, Env.get_put_some, ↓reduceIte]; rfl) (fun hc => ?_) (fun hc => ?_)
  · exfalso
    simp at hc
  refine WP.skip (hK2 _ _ _ ?_)
  clear hK2 K2
  refine WP.seq_k fun K1 hK1 => WP.region hT rfl ?_
  refine q_S ?_
  refine hK1 _ _ _ ?_
  clear hK1 K1
  refine WP.ret ?_
  refine qr_S ?_
  exact ⟨_, rfl, ret_p (Left.refl hlt) (.bool _) hk⟩
end
end Go.Proofs.Ytcngfjmfgeckmaa
namespace Go.Proofs.Ytcngfjmfgeckmaa
open Go
theorem map_const_sum {α : Type} (c : Nat) (l : List α) : (l.map fun _ => c).sum = c * l.length := by
  induction l with
  | nil => rfl
  | cons a l ih => simp only [List.map_cons, List.sum_cons, List.length_cons, ih]; rw [Nat.mul_add]; omega
theorem sound_len {l : List RecD} (h : soundP l = 0) : l.length ≤ 400 ∧ runC [] [] l = 0 := by
  unfold soundP at h
  split at h
  · cases h
  · rename_i hq; exact ⟨by omega, h⟩
section
variable {fu : Nat} {h : Heap} {n : Nat} {K : AV → Heap → Nat → Prop}
theorem sortI_txns_len (l : List RecD) (k : Int) : (sortI (txnsOf l k)).length ≤ l.length := by rw [sortI_len]; exact txnsOf_len l k
end
end Go.Proofs.Ytcngfjmfgeckmaa
section
namespace Go.Proofs.Ytcngfjmfgeckmaa
open Go
set_option linter.unusedSimpArgs false
set_option linter.unusedVariables false
set_option maxRecDepth 20000
attribute [local irreducible] IntKind.wrap bitA
section
variable {h : Heap} {n : Nat} {K : AV → Heap → Nat → Prop}
def m_i_CommittedMap_a1 (fu : Nat) (v481 : List CellD) : Option CellsResultD :=
  some (CellsResultD.mk 0 v481)
def m_i_CommittedMap_a2 (fu : Nat) (v767 : Int) (v842 : List CellD) : Option (((List CellD) × Int) ⊕ ((List CellD) ⊕ Option CellsResultD)) :=
  some (Sum.inl (v842, IntKind.i64.wrap (v767 + 1)))
def m_i_CommittedMap_a3 (fu : Nat) (v767 : Int) (a863 : RecD) (v884 : List CellD) (v886 : Bool) : Option (((List CellD) × Int) ⊕ ((List CellD) ⊕ Option CellsResultD)) :=
  (if v886 = true then (m_i_CommittedMap_a2 fu v767 v884) else (if a863.has = true then (Option.bind (m_i_withCell fu v884 a863.key a863.new) fun v896 => (m_i_CommittedMap_a2 fu v767 v896)) else (Option.bind (m_i_without fu v884 a863.key) fun v904 => (m_i_CommittedMap_a2 fu v767 v904))))
def m_i_CommittedMap_a4 (fu : Nat) (v0 : List RecD) (v57 : List Int) (v765 : List CellD) (v767 : Int) : Option (((List CellD) × Int) ⊕ ((List CellD) ⊕ Option CellsResultD)) :=
  (if (decide (v767 < (v0.length : Int))) = true then (Option.bind (atL v0 v767) fun a863 => (if (decide (a863.kind ≠ 2)) = true then (m_i_CommittedMap_a3 fu v767 a863 v765 true) else (Option.bind (m_g_Contains_int64 fu v57 a863.txn) fun v913 => (m_i_CommittedMap_a3 fu v767 a863 v765 (!v913))))) else some (Sum.inr (Sum.inl v765)))
def m_i_CommittedMap (fu : Nat) (v0 : List RecD) : Option CellsResultD :=
  (Option.bind (m_i_SoundRecs fu v0) fun v39 => (if (decide (v39 ≠ 0)) = true then some (CellsResultD.mk v39 ([])) else (Option.bind (m_i_those fu v0 3) fun v57 => (Option.bind (iterN (fun (s : (List CellD) × Int) => m_i_CommittedMap_a4 fu v0 v57 s.1 s.2) fu (([] : List CellD), 0)) fun q770 => Sum.elim (fun (b : (List CellD)) => (m_i_CommittedMap_a1 fu b)) (fun x => x) q770))))
set_option maxHeartbeats 2000000 in
theorem w_i_CommittedMap_o {x0 : AV} {v0 : List RecD} (h0 : (SlH h n 8 RecR) x0 v0) {fu : Nat} {r : CellsResultD} (hm : m_i_CommittedMap fu v0 = some r) (hk : I64 r.code → ∀ A rw, NOwn n 0 2 CellR A rw r.cells → K (.agg [.int .i64 r.code, A]) (hp h n [rw]) (n + 1)) : CA Try.prog 28 [x0] h n K := by
 refine CA.cut (sz := 2) Try.call28 tyCell_123.lt ?_
 refine CA.enterQ (N := 50) (rs := [.cell 2 49]) hT Try.call28 Try.func28 rfl rfl (of_decide_eq_true rfl) rfl fun hlt => ?_
 unfold m_i_CommittedMap at hm
 obtain ⟨es11, a12, l13, b14, F15⟩ := sHo h0
 refine rg0 hT ?_
 refine WQ.seq_k fun K17 hK17 => ?_
 obtain ⟨v39, q38, hm⟩ := obs hm
 refine WQ.sr hT rfl fun K32 hK32 => ?_
 refine sq F15 ?_
 refine w_i_SoundRecs (SlH.up h0 1) q38 (fun y40 h41 => ?_)
 obtain ⟨rfl, i42⟩ := h41
 refine sk F15 ?_
 refine kn hK32 ?_
 clear hK32 K32
 refine rg0 hT ?_
 refine cn hm (fun z44 hm => ?_) fun z44 hm => ?_
 refine rg0 hT ?_
 refine WQ.norm (E2 := envZ [2] [(.ep 2 (.sl 2 (n + 1) 0 1 1 true) 0 0)]) (h2 := hp h n [none, some [(.agg [(.int .i64 v39), .nils])]]) (n2 := n + 2) ?_ (WQ.ret ⟨[(.agg [(.int .i64 v39), .nils])], resA_cell rfl (hp_get 1) rfl rfl, _, _, _, .keep _ _ _ _ (fun _ _ h => h), _, .nils, none, _, _, (nown_nil rfl), rfl, lt_aggL (ltL_cons (.int _ _) (ltL_cons .nils ltL_nil)), rfl, rfl, ?_⟩)
 exact nm [1000, 0] [2] [(.ep 2 (.sl 2 n 0 1 1 true) 0 0)] (rc (Rn.ptr (js := [1000, 0]) 0 1) rn) (RowsR.opt 1000 none _ _ (.inl rfl) (fun _ h => nomatch h) (RowsR.row 0 _ _ _ _ hp_get0 (rc (Rn.agg' (rc rki (rc (.keep _ .nils) rn))) rn) RowsR.nil))
 obtain rfl := Option.some.inj hm
 exact hk i42 _ _ (nown_nil rfl)
 refine WQ.skip ?_
 simp only [go_sem, ↓reduceIte, reduceCtorEq, Nat.reduceEqDiff, Nat.reduceLT, Nat.reduceLeDiff, Nat.reduceAdd, Nat.reduceMul, Int.reduceLE]
 refine kn hK17 ?_
 clear hK17 K17
 obtain ⟨v57, q56, hm⟩ := obs hm
 refine WQ.sr hT rfl fun K46 hK46 => ?_
 refine sq F15 ?_
 refine w_i_those (SlH.up h0 1) (i64c (a := 3) rfl) q56 (fun y58 h59 => ?_)
 obtain ⟨es60, a61, l62, b63, F64⟩ := sRo h59
 refine sk (a2 F15 F64) ?_
 refine kn hK46 ?_
 clear hK46 K46
 refine WQ.seq_k fun K65 hK65 => ?_
 have j483 : ∀ (E' : Env) (h' : Heap) (n' : Nat) (x479 : AV) (rw480 : Option (List AV)) (v481 : List CellD) (h482 : NOwn n 1 2 CellR x479 rw480 v481), Norm n h E' h' n' (envZ [2, 5] [(.ep 2 (.sl 2 n 0 1 1 true) 0 0), x479]) (hp h n [some [(.agg [(.int .i64 0), .nils])], rw480]) (n + 2) → (m_i_CommittedMap_a1 fu v481) = some r → K65 E' h' n' := by
  intro E485 H486 n487 x479 rw480 v481 h482 N484 hm
  refine hK65 _ _ _ _ _ _ N484 ?_
  clear N484 hK65 K65
  unfold m_i_CommittedMap_a1 at hm
  refine rg hT (a4 (nown_rd h482) (nown_len h482) (nown_cells h482) (nown_good h482)) ?_
  obtain ⟨x489, h490, q491⟩ := nown_mv 0 h482
  refine WQ.norm (E2 := envZ [2] [(.ep 2 (.sl 2 (n + 1) 0 1 1 true) 0 0)]) (h2 := hp h n [rw480, some [(.agg [(.int .i64 0), x489])]]) (n2 := n + 2) ?_ (WQ.ret ⟨[(.agg [(.int .i64 0), x489])], resA_cell rfl (hp_get 1) rfl rfl, _, _, _, .keep _ _ _ _ (fun _ _ h => h), _, x489, rw480, _, _, h490, rfl, lt_aggL (ltL_cons (.int _ _) (ltL_cons (nown_lt h490) ltL_nil)), rfl, rfl, ?_⟩)
  exact nm [1, 0] [2] [(.ep 2 (.sl 2 n 0 1 1 true) 0 0)] (rc (Rn.ptr (js := [1, 0]) 0 1) rn) (RowsR.opt 1 _ _ _ (.inr (hp_get 1)) (nown_rows (j := 1) h482 tyCell_123.lt) (RowsR.row 0 _ _ _ _ hp_get0 (rc (Rn.agg' (rc rki (rc (q491 _ _ rfl) rn))) rn) RowsR.nil))
  obtain rfl := Option.some.inj hm
  exact hk (i64c (a := 0) rfl) _ _ h490
 clear hK65
 refine rg hT F15 ?_
 refine WQ.block ?_
 obtain ⟨q770, hq771, hm⟩ := obs hm
 refine WQ.norm ?_ (WQ.iter (step := (fun (s : (List CellD) × Int) => m_i_CommittedMap_a4 fu v0 v57 s.1 s.2)) (fun (s : (List CellD) × Int) E' h' n' => ∃ (x763 : AV), ∃ (rw764 : Option (List AV)), NOwn n 1 2 CellR x763 rw764 s.1 ∧ I64 s.2 ∧ (envZ [2, 4, 5, 17, 18, 19] [(.ep 2 (.sl 2 n 0 1 1 true) 0 0), y58, x763, x0, (.int .i64 (v0.length : Int)), (.int .i64 s.2)]) = E' ∧ (hp h n [some [(.agg [(.int .i64 0), .nils])], rw764]) = h' ∧ (n + 2) = n') hq771 ⟨(.sl 2 (n + 1) 0 ([] : List CellD).length ([] : List CellD).length false), (some ([])), (nown_own (show All2 CellR [] [] from .nil) (of_decide_eq_true rfl)), (i64c (a := 0) rfl), rfl, rfl, rfl⟩ ?_)
 exact nm [0, 1] [2, 4, 5, 17, 18, 19] [(.ep 2 (.sl 2 n 0 1 1 true) 0 0), y58, (.sl 2 (n + 1) 0 0 0 true), x0, (.int .i64 (v0.length : Int)), (.int .i64 0)] (rc (Rn.ptr (js := [0, 1]) 0 0) (rc (.keep _ (slr_ltA _ _ _ h59)) (rc (Rn.ownF (js := [0, 1]) 1 1) (rc (.keep _ (slH_lt h0)) (rc rki (rc rki rn)))))) (RowsR.row 0 _ _ _ _ hp_get0 (rc (.keep _ (cellsResult_lt _ _ _ (show CellsResultR (.agg [(.int .i64 0), .nils]) (CellsResultD.mk 0 ([])) from ⟨.nils, rfl, (i64c (a := 0) rfl), slr_nil⟩))) rn) (RowsR.row 1 _ _ _ _ (hp_get 1) (RnL.all2 (show All2 CellR [] [] from .nil) tyCell_123.lt) RowsR.nil))
 rintro ⟨v765, v767⟩ E' h' n' o769 ⟨x763, rw764, h766, i768, rfl, rfl, rfl⟩ ho773 hf772
 replace h766 : NOwn n 1 2 CellR x763 rw764 v765 := h766
 replace i768 : I64 v767 := i768
 replace ho773 : m_i_CommittedMap_a4 fu v0 v57 v765 v767 = some o769 := ho773
 unfold m_i_CommittedMap_a4 at ho773
 show WQ Try.prog _ n h _ _ (envZ [2, 4, 5, 17, 18, 19] [(.ep 2 (.sl 2 n 0 1 1 true) 0 0), y58, x763, x0, (.int .i64 (v0.length : Int)), (.int .i64 v767)]) (hp h n [some [(.agg [(.int .i64 0), .nils])], rw764]) (n + 2)
 refine rg0 hT ?_
 refine WQ.seq_k fun K775 hK775 => ?_
 refine cn ho773 (fun z777 ho773 => ?_) fun z777 ho773 => ?_
 refine WQ.skip ?_
 simp only [go_sem, ↓reduceIte, reduceCtorEq, Nat.reduceEqDiff, Nat.reduceLT, Nat.reduceLeDiff, Nat.reduceAdd, Nat.reduceMul, Int.reduceLE]
 refine kn hK775 ?_
 clear hK775 K775
 refine WQ.seq_k fun K778 hK778 => ?_
 have j844 : ∀ (E' : Env) (h' : Heap) (n' : Nat) (x840 : AV) (rw841 : Option (List AV)) (v842 : List CellD) (h843 : NOwn n 1 2 CellR x840 rw841 v842), Norm n h E' h' n' (envZ [2, 4, 5, 17, 18, 19] [(.ep 2 (.sl 2 n 0 1 1 true) 0 0), y58, x840, x0, (.int .i64 (v0.length : Int)), (.int .i64 v767)]) (hp h n [some [(.agg [(.int .i64 0), .nils])], rw841]) (n + 2) → (m_i_CommittedMap_a2 fu v767 v842) = some o769 → K778 E' h' n' := by
  intro E846 H847 n848 x840 rw841 v842 h843 N845 ho773
  refine hK778 _ _ _ _ _ _ N845 ?_
  clear N845 hK778 K778
  unfold m_i_CommittedMap_a2 at ho773
  refine WQ.region hT rfl ?_
  refine sq0 ?_
  refine ⟨_, _, _, _, (Option.some.inj ho773).symm, ?_, x840, rw841, h843, (rng_wrap64 _), rfl, rfl, rfl⟩
  exact nm [0, 1] [2, 4, 5, 17, 18, 19] [(.ep 2 (.sl 2 n 0 1 1 true) 0 0), y58, x840, x0, (.int .i64 (v0.length : Int)), (.int .i64 (IntKind.i64.wrap (v767 + 1)))] (rc (Rn.ptr (js := [0, 1]) 0 0) (rc (.keep _ (slr_ltA _ _ _ h59)) (rc (nown_rn h843 rfl) (rc (.keep _ (slH_lt h0)) (rc rki (rc rki rn)))))) (RowsR.row 0 _ _ _ _ hp_get0 (rc (.keep _ (cellsResult_lt _ _ _ (show CellsResultR (.agg [(.int .i64 0), .nils]) (CellsResultD.mk 0 ([])) from ⟨.nils, rfl, (i64c (a := 0) rfl), slr_nil⟩))) rn) (RowsR.opt 1 _ _ _ (.inr (hp_get 1)) (nown_rows (j := 1) h843 tyCell_123.lt) RowsR.nil))
 clear hK778
 refine WQ.block ?_
 refine WQ.seq_k fun K849 hK849 => ?_
 obtain ⟨a863, q864, ho773⟩ := obs ho773
 obtain ⟨e867, p865, h869⟩ := atk q864 a12
 have gh869 := h869
 obtain ⟨rfl, i870, i871, i872, i873, i874, i875⟩ := h869
 refine WQ.region hT rfl ?_
 refine sq (a2 F15 p865) ?_
 refine kn hK849 ?_
 clear hK849 K849
 refine WQ.block ?_
 refine WQ.seq_k fun K876 hK876 => ?_
 have j887 : ∀ (E' : Env) (h' : Heap) (n' : Nat) (x882 : AV) (rw883 : Option (List AV)) (v884 : List CellD) (h885 : NOwn n 1 2 CellR x882 rw883 v884) (v886 : Bool), Norm n h E' h' n' (envZ [2, 4, 5, 7, 17, 18, 19, 27] [(.ep 2 (.sl 2 n 0 1 1 true) 0 0), y58, x882, (.ep 8 (.sl 8 (n + 2) 0 1 1 true) 0 0), x0, (.int .i64 (v0.length : Int)), (.int .i64 v767), (.bool v886)]) (hp h n [some [(.agg [(.int .i64 0), .nils])], rw883, some [(.agg [(.int .i64 a863.kind), (.int .i64 a863.txn), (.int .i64 a863.key), (.bool a863.had), (.int .i64 a863.old), (.bool a863.has), (.int .i64 a863.new), (.int .i64 a863.back)])]]) (n + 3) → (m_i_CommittedMap_a3 fu v767 a863 v884 v886) = some o769 → K876 E' h' n' := by
  intro E889 H890 n891 x882 rw883 v884 h885 v886 N888 ho773
  refine hK876 _ _ _ _ _ _ N888 ?_
  clear N888 hK876 K876
  unfold m_i_CommittedMap_a3 at ho773
  refine cn ho773 (fun z892 ho773 => ?_) fun z892 ho773 => ?_
  refine WQ.skip ?_
  simp only [go_sem, ↓reduceIte, reduceCtorEq, Nat.reduceEqDiff, Nat.reduceLT, Nat.reduceLeDiff, Nat.reduceAdd, Nat.reduceMul, Int.reduceLE]
  refine j844 _ _ _ x882 rw883 v884 h885 ?_ ho773
  exact nm [0, 1] [2, 4, 5, 17, 18, 19] [(.ep 2 (.sl 2 n 0 1 1 true) 0 0), y58, x882, x0, (.int .i64 (v0.length : Int)), (.int .i64 v767)] (rc (Rn.ptr (js := [0, 1]) 0 0) (rc (.keep _ (slr_ltA _ _ _ h59)) (rc (nown_rn h885 rfl) (rc (.keep _ (slH_lt h0)) (rc rki (rc rki rn)))))) (RowsR.row 0 _ _ _ _ hp_get0 (rc (.keep _ (cellsResult_lt _ _ _ (show CellsResultR (.agg [(.int .i64 0), .nils]) (CellsResultD.mk 0 ([])) from ⟨.nils, rfl, (i64c (a := 0) rfl), slr_nil⟩))) rn) (RowsR.opt 1 _ _ _ (.inr (hp_get 1)) (nown_rows (j := 1) h885 tyCell_123.lt) RowsR.nil))
  refine rg0 hT ?_
  refine cn ho773 (fun z894 ho773 => ?_) fun z894 ho773 => ?_
  obtain ⟨v896, q895, ho773⟩ := obs ho773
  refine WQ.region hT rfl ?_
  refine sq (a4 (nown_rd h885) (nown_len h885) (nown_cells h885) (nown_good h885)) ?_
  refine w_i_withCell_o (nown_H (j := 1) (m := 3) h885 (hp_get 1) rfl) i872 i874 q895 (fun x897 rw898 h899 => ?_)
  replace h899 := nown_up (m := 3) h899
  refine sk (a5 (nown_rd h899) (nown_len h899) (nown_cells h899) (nown_good h899) (a4 (nown_rd h885) (nown_len h885) (nown_cells h885) (nown_good h885))) ?_
  obtain ⟨x900, h901, q902⟩ := nown_mv 1 h899
  refine j844 _ _ _ x900 rw898 v896 h901 ?_ ho773
  exact nm [0, 3] [2, 4, 5, 17, 18, 19] [(.ep 2 (.sl 2 n 0 1 1 true) 0 0), y58, x897, x0, (.int .i64 (v0.length : Int)), (.int .i64 v767)] (rc (Rn.ptr (js := [0, 3]) 0 0) (rc (.keep _ (slr_ltA _ _ _ h59)) (rc (q902 _ _ rfl) (rc (.keep _ (slH_lt h0)) (rc rki (rc rki rn)))))) (RowsR.row 0 _ _ _ _ hp_get0 (rc (.keep _ (cellsResult_lt _ _ _ (show CellsResultR (.agg [(.int .i64 0), .nils]) (CellsResultD.mk 0 ([])) from ⟨.nils, rfl, (i64c (a := 0) rfl), slr_nil⟩))) rn) (RowsR.opt 3 _ _ _ (.inr (hp_get 3)) (nown_rows (j := 3) h899 tyCell_123.lt) RowsR.nil))
  obtain ⟨v904, q903, ho773⟩ := obs ho773
  refine WQ.region hT rfl ?_
  refine sq (a4 (nown_rd h885) (nown_len h885) (nown_cells h885) (nown_good h885)) ?_
  refine w_i_without_o (nown_H (j := 1) (m := 3) h885 (hp_get 1) rfl) i872 q903 (fun x905 rw906 h907 => ?_)
  replace h907 := nown_up (m := 3) h907
  refine sk (a5 (nown_rd h907) (nown_len h907) (nown_cells h907) (nown_good h907) (a4 (nown_rd h885) (nown_len h885) (nown_cells h885) (nown_good h885))) ?_
  obtain ⟨x908, h909, q910⟩ := nown_mv 1 h907
  refine j844 _ _ _ x908 rw906 v904 h909 ?_ ho773
  exact nm [0, 3] [2, 4, 5, 17, 18, 19] [(.ep 2 (.sl 2 n 0 1 1 true) 0 0), y58, x905, x0, (.int .i64 (v0.length : Int)), (.int .i64 v767)] (rc (Rn.ptr (js := [0, 3]) 0 0) (rc (.keep _ (slr_ltA _ _ _ h59)) (rc (q910 _ _ rfl) (rc (.keep _ (slH_lt h0)) (rc rki (rc rki rn)))))) (RowsR.row 0 _ _ _ _ hp_get0 (rc (.keep _ (cellsResult_lt _ _ _ (show CellsResultR (.agg [(.int .i64 0), .nils]) (CellsResultD.mk 0 ([])) from ⟨.nils, rfl, (i64c (a := 0) rfl), slr_nil⟩))) rn) (RowsR.opt 3 _ _ _ (.inr (hp_get 3)) (nown_rows (j := 3) h907 tyCell_123.lt) RowsR.nil))
 clear hK876
 rcases Bool.eq_false_or_eq_true (decide (a863.kind ≠ 2)) with z911 | z911
 replace ho773 := ifT z911 ho773
 refine WQ.region hT rfl ?_
 refine sq (a2 F64 (eqT z911)) ?_
 refine j887 _ _ _ x763 rw764 v765 h766 true ?_ ho773
 exact nm [0, 1, 2] [2, 4, 5, 7, 17, 18, 19, 27] [(.ep 2 (.sl 2 n 0 1 1 true) 0 0), y58, x763, (.ep 8 (.sl 8 (n + 2) 0 1 1 true) 0 0), x0, (.int .i64 (v0.length : Int)), (.int .i64 v767), (.bool true)] (rc (Rn.ptr (js := [0, 1, 2]) 0 0) (rc (.keep _ (slr_ltA _ _ _ h59)) (rc (nown_rn h766 rfl) (rc (Rn.ptr (js := [0, 1, 2]) 2 2) (rc (.keep _ (slH_lt h0)) (rc rki (rc rki (rc rkb rn)))))))) (RowsR.row 0 _ _ _ _ hp_get0 (rc (.keep _ (cellsResult_lt _ _ _ (show CellsResultR (.agg [(.int .i64 0), .nils]) (CellsResultD.mk 0 ([])) from ⟨.nils, rfl, (i64c (a := 0) rfl), slr_nil⟩))) rn) (RowsR.opt 1 _ _ _ (.inr (hp_get 1)) (nown_rows (j := 1) h766 tyCell_123.lt) (RowsR.row 2 _ _ _ _ (hp_get 2) (rc (.keep _ (tyRec_76.lt _ _ _ gh869)) rn) RowsR.nil)))
 replace ho773 := ifF z911 ho773
 obtain ⟨v913, q912, ho773⟩ := obs ho773
 refine WQ.region hT rfl ?_
 refine sq (a2 F64 (eqF z911)) ?_
 refine w_g_Contains_int64 (SlR.toH h59) i871 q912 (fun y914 h915 => ?_)
 obtain rfl := h915
 refine sk (a2 F64 (eqF z911)) ?_
 refine j887 _ _ _ x763 rw764 v765 h766 (!v913) ?_ ho773
 exact nm [0, 1, 2] [2, 4, 5, 7, 17, 18, 19, 27] [(.ep 2 (.sl 2 n 0 1 1 true) 0 0), y58, x763, (.ep 8 (.sl 8 (n + 2) 0 1 1 true) 0 0), x0, (.int .i64 (v0.length : Int)), (.int .i64 v767), (.bool (!v913))] (rc (Rn.ptr (js := [0, 1, 2]) 0 0) (rc (.keep _ (slr_ltA _ _ _ h59)) (rc (nown_rn h766 rfl) (rc (Rn.ptr (js := [0, 1, 2]) 2 2) (rc (.keep _ (slH_lt h0)) (rc rki (rc rki (rc rkb rn)))))))) (RowsR.row 0 _ _ _ _ hp_get0 (rc (.keep _ (cellsResult_lt _ _ _ (show CellsResultR (.agg [(.int .i64 0), .nils]) (CellsResultD.mk 0 ([])) from ⟨.nils, rfl, (i64c (a := 0) rfl), slr_nil⟩))) rn) (RowsR.opt 1 _ _ _ (.inr (hp_get 1)) (nown_rows (j := 1) h766 tyCell_123.lt) (RowsR.row 2 _ _ _ _ (hp_get 2) (rc (.keep _ (tyRec_76.lt _ _ _ gh869)) rn) RowsR.nil)))
 refine WQ.exit ?_
 simp only [go_sem, ↓reduceIte, reduceCtorEq, Nat.reduceEqDiff, Nat.reduceLT, Nat.reduceLeDiff, Nat.reduceAdd, Nat.reduceMul, Int.reduceLE]
 have e916 := hf772 _ (Option.some.inj ho773).symm
 rw [← e916] at hm
 refine j483 _ _ _ x763 rw764 v765 h766 ?_ hm
 exact nm [0, 1] [2, 5] [(.ep 2 (.sl 2 n 0 1 1 true) 0 0), x763] (rc (Rn.ptr (js := [0, 1]) 0 0) (rc (nown_rn h766 rfl) rn)) (RowsR.row 0 _ _ _ _ hp_get0 (rc (.keep _ (cellsResult_lt _ _ _ (show CellsResultR (.agg [(.int .i64 0), .nils]) (CellsResultD.mk 0 ([])) from ⟨.nils, rfl, (i64c (a := 0) rfl), slr_nil⟩))) rn) (RowsR.opt 1 _ _ _ (.inr (hp_get 1)) (nown_rows (j := 1) h766 tyCell_123.lt) RowsR.nil))
def m_s_CommittedMap_a1 (fu : Nat) (v725 : CellsResultD) : Option CellsResultD :=
  some v725
def m_s_CommittedMap_a2 (fu : Nat) (v1178 : Int) (v1294 : CellsResultD) : Option ((CellsResultD × Int) ⊕ (CellsResultD ⊕ Option CellsResultD)) :=
  some (Sum.inl (v1294, IntKind.i64.wrap (v1178 + 1)))
def m_s_CommittedMap_a3 (fu : Nat) (v1176 : CellsResultD) (v1178 : Int) (a1323 : RecD) (v1361 : Bool) : Option ((CellsResultD × Int) ⊕ (CellsResultD ⊕ Option CellsResultD)) :=
  (if v1361 = true then (m_s_CommittedMap_a2 fu v1178 v1176) else (Option.bind (m_s_l1Without fu v1176.cells a1323.key) fun v1379 => (if a1323.has = true then (Option.bind (m_s_l1With fu v1379 a1323.key a1323.new) fun v1390 => (m_s_CommittedMap_a2 fu v1178 (CellsResultD.mk v1176.code v1390))) else (m_s_CommittedMap_a2 fu v1178 (CellsResultD.mk v1176.code v1379)))))
def m_s_CommittedMap_a4 (fu : Nat) (v0 : List RecD) (v57 : List Int) (v1176 : CellsResultD) (v1178 : Int) : Option ((CellsResultD × Int) ⊕ (CellsResultD ⊕ Option CellsResultD)) :=
  (if (decide (v1178 < (v0.length : Int))) = true then (Option.bind (atL v0 v1178) fun a1323 => (if (decide (a1323.kind ≠ 2)) = true then (m_s_CommittedMap_a3 fu v1176 v1178 a1323 true) else (Option.bind (m_s_l1Has fu v57 a1323.txn) fun v1400 => (m_s_CommittedMap_a3 fu v1176 v1178 a1323 (!v1400))))) else some (Sum.inr (Sum.inl v1176)))
def m_s_CommittedMap (fu : Nat) (v0 : List RecD) : Option CellsResultD :=
  (Option.bind (m_s_l13Sound fu v0) fun v39 => (if (decide (v39 ≠ 0)) = true then some (CellsResultD.mk v39 ([])) else (Option.bind (m_s_l13Kinds fu v0 3) fun v57 => (Option.bind (iterN (fun (s : CellsResultD × Int) => m_s_CommittedMap_a4 fu v0 v57 s.1 s.2) fu (CellsResultD.mk 0 ([]), 0)) fun q1181 => Sum.elim (fun (b : CellsResultD) => (m_s_CommittedMap_a1 fu b)) (fun x => x) q1181))))
set_option maxHeartbeats 2000000 in
theorem w_s_CommittedMap {x0 : AV} {v0 : List RecD} (h0 : (SlH h n 8 RecR) x0 v0) {fu : Nat} {r : CellsResultD} (hm : m_s_CommittedMap fu v0 = some r) (hk : ∀ y, CellsResultR y r → K y h n) : CA Try.prog 27 [x0] h n K := by
 refine CA.enterQ (N := 54) (rs := [.cell 2 49]) hT Try.call27 Try.func27 rfl rfl (of_decide_eq_true rfl) rfl fun hlt => ?_
 unfold m_s_CommittedMap at hm
 obtain ⟨es11, a12, l13, b14, F15⟩ := sHo h0
 refine rg0 hT ?_
 refine WQ.seq_k fun K17 hK17 => ?_
 obtain ⟨v39, q38, hm⟩ := obs hm
 refine WQ.sr hT rfl fun K32 hK32 => ?_
 refine sq F15 ?_
 refine w_s_l13Sound (SlH.up h0 1) q38 (fun y40 h41 => ?_)
 obtain ⟨rfl, i42⟩ := h41
 refine sk F15 ?_
 refine kn hK32 ?_
 clear hK32 K32
 refine rg0 hT ?_
 refine cn hm (fun z44 hm => ?_) fun z44 hm => ?_
 refine rg0 hT ?_
 refine WQ.norm (E2 := envZ [2] [(.ep 2 (.sl 2 n 0 1 1 true) 0 0)]) (h2 := hp h n [some [(.agg [(.int .i64 v39), .nils])]]) (n2 := n + 1) ?_ (WQ.ret ?_)
 exact nm [0] [2] [(.ep 2 (.sl 2 n 0 1 1 true) 0 0)] (rc (Rn.ptr (js := [0]) 0 0) rn) (RowsR.row 0 _ _ _ _ hp_get0 (rc (.keep _ (cellsResult_lt _ _ _ (show CellsResultR (.agg [(.int .i64 v39), .nils]) (CellsResultD.mk v39 ([])) from ⟨.nils, rfl, i42, slr_nil⟩))) rn) RowsR.nil)
 refine ⟨_, resA_cell rfl hp_get0 rfl rfl, ret_hp hlt (cellsResult_lt _ _ _ (show CellsResultR (.agg [(.int .i64 v39), .nils]) (CellsResultD.mk v39 ([])) from ⟨.nils, rfl, i42, slr_nil⟩)) ?_⟩
 exact hkr hk (m := (CellsResultD.mk v39 ([]))) hm (show CellsResultR (.agg [(.int .i64 v39), .nils]) (CellsResultD.mk v39 ([])) from ⟨.nils, rfl, i42, slr_nil⟩)
 refine WQ.skip ?_
 simp only [go_sem, ↓reduceIte, reduceCtorEq, Nat.reduceEqDiff, Nat.reduceLT, Nat.reduceLeDiff, Nat.reduceAdd, Nat.reduceMul, Int.reduceLE]
 refine kn hK17 ?_
 clear hK17 K17
 obtain ⟨v57, q56, hm⟩ := obs hm
 refine WQ.sr hT rfl fun K46 hK46 => ?_
 refine sq F15 ?_
 refine w_s_l13Kinds (SlH.up h0 1) (i64c (a := 3) rfl) q56 (fun y58 h59 => ?_)
 obtain ⟨es60, a61, l62, b63, F64⟩ := sRo h59
 refine sk (a2 F15 F64) ?_
 refine kn hK46 ?_
 clear hK46 K46
 refine rg0 hT ?_
 refine WQ.seq_k fun K66 hK66 => ?_
 have j727 : ∀ (E' : Env) (h' : Heap) (n' : Nat) (x724 : AV) (v725 : CellsResultD) (h726 : CellsResultR x724 v725), Norm n h E' h' n' (envZ [2, 5] [(.ep 2 (.sl 2 n 0 1 1 true) 0 0), (.ep 2 (.sl 2 (n + 1) 0 1 1 true) 0 0)]) (hp h n [some [(.agg [(.int .i64 0), .nils])], some [x724]]) (n + 2) → (m_s_CommittedMap_a1 fu v725) = some r → K66 E' h' n' := by
  intro E729 H730 n731 x724 v725 h726 N728 hm
  refine hK66 _ _ _ _ _ _ N728 ?_
  clear N728 hK66 K66
  unfold m_s_CommittedMap_a1 at hm
  have gh726 := h726
  obtain ⟨x733, rfl, i732, h734⟩ := h726
  obtain ⟨es735, a736, l737, b738, F739⟩ := sRo h734
  refine rg hT F739 ?_
  refine WQ.norm (E2 := envZ [2] [(.ep 2 (.sl 2 n 0 1 1 true) 0 0)]) (h2 := hp h n [some [(.agg [(.int .i64 v725.code), x733])]]) (n2 := n + 1) ?_ (WQ.ret ?_)
  exact nm [0] [2] [(.ep 2 (.sl 2 n 0 1 1 true) 0 0)] (rc (Rn.ptr (js := [0]) 0 0) rn) (RowsR.row 0 _ _ _ _ hp_get0 (rc (.keep _ (cellsResult_lt _ _ _ gh726)) rn) RowsR.nil)
  refine ⟨_, resA_cell rfl hp_get0 rfl rfl, ret_hp hlt (cellsResult_lt _ _ _ gh726) ?_⟩
  exact hkr hk (m := v725) hm gh726
 clear hK66
 refine rg0 hT ?_
 refine WQ.block ?_
 obtain ⟨q1181, hq1182, hm⟩ := obs hm
 refine WQ.norm ?_ (WQ.iter (step := (fun (s : CellsResultD × Int) => m_s_CommittedMap_a4 fu v0 v57 s.1 s.2)) (fun (s : CellsResultD × Int) E' h' n' => ∃ (x1175 : AV), CellsResultR x1175 s.1 ∧ I64 s.2 ∧ (envZ [0, 2, 4, 5, 6] [x0, (.ep 2 (.sl 2 n 0 1 1 true) 0 0), y58, (.ep 2 (.sl 2 (n + 1) 0 1 1 true) 0 0), (.int .i64 s.2)]) = E' ∧ (hp h n [some [(.agg [(.int .i64 0), .nils])], some [x1175]]) = h' ∧ (n + 2) = n') hq1182 ⟨(.agg [(.int .i64 0), .nils]), (show CellsResultR (.agg [(.int .i64 0), .nils]) (CellsResultD.mk 0 ([])) from ⟨.nils, rfl, (i64c (a := 0) rfl), slr_nil⟩), (i64c (a := 0) rfl), rfl, rfl, rfl⟩ ?_)
 exact nm [0, 1] [0, 2, 4, 5, 6] [x0, (.ep 2 (.sl 2 n 0 1 1 true) 0 0), y58, (.ep 2 (.sl 2 (n + 1) 0 1 1 true) 0 0), (.int .i64 0)] (rc (.keep _ (slH_lt h0)) (rc (Rn.ptr (js := [0, 1]) 0 0) (rc (.keep _ (slr_ltA _ _ _ h59)) (rc (Rn.ptr (js := [0, 1]) 1 1) (rc rki rn))))) (RowsR.row 0 _ _ _ _ hp_get0 (rc (.keep _ (cellsResult_lt _ _ _ (show CellsResultR (.agg [(.int .i64 0), .nils]) (CellsResultD.mk 0 ([])) from ⟨.nils, rfl, (i64c (a := 0) rfl), slr_nil⟩))) rn) (RowsR.row 1 _ _ _ _ (hp_get 1) (rc (.keep _ (cellsResult_lt _ _ _ (show CellsResultR (.agg [(.int .i64 0), .nils]) (CellsResultD.mk 0 ([])) from ⟨.nils, rfl, (i64c (a := 0) rfl), slr_nil⟩))) rn) RowsR.nil))
 rintro ⟨v1176, v1178⟩ E' h' n' o1180 ⟨x1175, h1177, i1179, rfl, rfl, rfl⟩ ho1184 hf1183
 replace h1177 : CellsResultR x1175 v1176 := h1177
 replace i1179 : I64 v1178 := i1179
 replace ho1184 : m_s_CommittedMap_a4 fu v0 v57 v1176 v1178 = some o1180 := ho1184
 unfold m_s_CommittedMap_a4 at ho1184
 show WQ Try.prog _ n h _ _ (envZ [0, 2, 4, 5, 6] [x0, (.ep 2 (.sl 2 n 0 1 1 true) 0 0), y58, (.ep 2 (.sl 2 (n + 1) 0 1 1 true) 0 0), (.int .i64 v1178)]) (hp h n [some [(.agg [(.int .i64 0), .nils])], some [x1175]]) (n + 2)
 have gh1177 := h1177
 obtain ⟨x1186, rfl, i1185, h1187⟩ := h1177
 obtain ⟨es1188, a1189, l1190, b1191, F1192⟩ := sRo h1187
 refine WQ.seq_k fun K1193 hK1193 => ?_
 refine rg hT F15 ?_
 refine cn ho1184 (fun z1197 ho1184 => ?_) fun z1197 ho1184 => ?_
 refine WQ.skip ?_
 simp only [go_sem, ↓reduceIte, reduceCtorEq, Nat.reduceEqDiff, Nat.reduceLT, Nat.reduceLeDiff, Nat.reduceAdd, Nat.reduceMul, Int.reduceLE]
 refine kn hK1193 ?_
 clear hK1193 K1193
 refine WQ.seq_k fun K1198 hK1198 => ?_
 have j1296 : ∀ (E' : Env) (h' : Heap) (n' : Nat) (x1293 : AV) (v1294 : CellsResultD) (h1295 : CellsResultR x1293 v1294), Norm n h E' h' n' (envZ [0, 2, 4, 5, 6] [x0, (.ep 2 (.sl 2 n 0 1 1 true) 0 0), y58, (.ep 2 (.sl 2 (n + 1) 0 1 1 true) 0 0), (.int .i64 v1178)]) (hp h n [some [(.agg [(.int .i64 0), .nils])], some [x1293]]) (n + 2) → (m_s_CommittedMap_a2 fu v1178 v1294) = some o1180 → K1198 E' h' n' := by
  intro E1298 H1299 n1300 x1293 v1294 h1295 N1297 ho1184
  refine hK1198 _ _ _ _ _ _ N1297 ?_
  clear N1297 hK1198 K1198
  unfold m_s_CommittedMap_a2 at ho1184
  have gh1295 := h1295
  obtain ⟨x1302, rfl, i1301, h1303⟩ := h1295
  obtain ⟨es1304, a1305, l1306, b1307, F1308⟩ := sRo h1303
  refine WQ.region hT rfl ?_
  refine sq0 ?_
  refine ⟨_, _, _, _, (Option.some.inj ho1184).symm, ?_, (.agg [(.int .i64 v1294.code), x1302]), gh1295, (rng_wrap64 _), rfl, rfl, rfl⟩
  exact nm [0, 1] [0, 2, 4, 5, 6] [x0, (.ep 2 (.sl 2 n 0 1 1 true) 0 0), y58, (.ep 2 (.sl 2 (n + 1) 0 1 1 true) 0 0), (.int .i64 (IntKind.i64.wrap (v1178 + 1)))] (rc (.keep _ (slH_lt h0)) (rc (Rn.ptr (js := [0, 1]) 0 0) (rc (.keep _ (slr_ltA _ _ _ h59)) (rc (Rn.ptr (js := [0, 1]) 1 1) (rc rki rn))))) (RowsR.row 0 _ _ _ _ hp_get0 (rc (.keep _ (cellsResult_lt _ _ _ (show CellsResultR (.agg [(.int .i64 0), .nils]) (CellsResultD.mk 0 ([])) from ⟨.nils, rfl, (i64c (a := 0) rfl), slr_nil⟩))) rn) (RowsR.row 1 _ _ _ _ (hp_get 1) (rc (.keep _ (cellsResult_lt _ _ _ gh1295)) rn) RowsR.nil))
 clear hK1198
 refine WQ.block ?_
 refine WQ.seq_k fun K1309 hK1309 => ?_
 obtain ⟨a1323, q1324, ho1184⟩ := obs ho1184
 obtain ⟨e1327, p1325, h1329⟩ := atk q1324 a12
 have gh1329 := h1329
 obtain ⟨rfl, i1330, i1331, i1332, i1333, i1334, i1335⟩ := h1329
 refine WQ.region hT rfl ?_
 refine sq (a2 F15 p1325) ?_
 refine kn hK1309 ?_
 clear hK1309 K1309
 refine WQ.seq_k fun K1336 hK1336 => ?_
 refine WQ.seq_k fun K1355 hK1355 => ?_
 have j1362 : ∀ (E' : Env) (h' : Heap) (n' : Nat) (v1361 : Bool), Norm n h E' h' n' (envZ [0, 2, 4, 5, 6, 7, 36] [x0, (.ep 2 (.sl 2 n 0 1 1 true) 0 0), y58, (.ep 2 (.sl 2 (n + 1) 0 1 1 true) 0 0), (.int .i64 v1178), (.ep 8 (.sl 8 (n + 2) 0 1 1 true) 0 0), (.bool v1361)]) (hp h n [some [(.agg [(.int .i64 0), .nils])], some [(.agg [(.int .i64 v1176.code), x1186])], some [(.agg [(.int .i64 a1323.kind), (.int .i64 a1323.txn), (.int .i64 a1323.key), (.bool a1323.had), (.int .i64 a1323.old), (.bool a1323.has), (.int .i64 a1323.new), (.int .i64 a1323.back)])]]) (n + 3) → (m_s_CommittedMap_a3 fu v1176 v1178 a1323 v1361) = some o1180 → K1355 E' h' n' := by
  intro E1364 H1365 n1366 v1361 N1363 ho1184
  refine hK1355 _ _ _ _ _ _ N1363 ?_
  clear N1363 hK1355 K1355
  unfold m_s_CommittedMap_a3 at ho1184
  refine cn ho1184 (fun z1367 ho1184 => ?_) fun z1367 ho1184 => ?_
  refine WQ.exit ?_
  simp only [go_sem, ↓reduceIte, reduceCtorEq, Nat.reduceEqDiff, Nat.reduceLT, Nat.reduceLeDiff, Nat.reduceAdd, Nat.reduceMul, Int.reduceLE]
  refine j1296 _ _ _ (.agg [(.int .i64 v1176.code), x1186]) v1176 gh1177 ?_ ho1184
  exact nm [0, 1] [0, 2, 4, 5, 6] [x0, (.ep 2 (.sl 2 n 0 1 1 true) 0 0), y58, (.ep 2 (.sl 2 (n + 1) 0 1 1 true) 0 0), (.int .i64 v1178)] (rc (.keep _ (slH_lt h0)) (rc (Rn.ptr (js := [0, 1]) 0 0) (rc (.keep _ (slr_ltA _ _ _ h59)) (rc (Rn.ptr (js := [0, 1]) 1 1) (rc rki rn))))) (RowsR.row 0 _ _ _ _ hp_get0 (rc (.keep _ (cellsResult_lt _ _ _ (show CellsResultR (.agg [(.int .i64 0), .nils]) (CellsResultD.mk 0 ([])) from ⟨.nils, rfl, (i64c (a := 0) rfl), slr_nil⟩))) rn) (RowsR.row 1 _ _ _ _ (hp_get 1) (rc (.keep _ (cellsResult_lt _ _ _ gh1177)) rn) RowsR.nil))
  refine WQ.skip ?_
  simp only [go_sem, ↓reduceIte, reduceCtorEq, Nat.reduceEqDiff, Nat.reduceLT, Nat.reduceLeDiff, Nat.reduceAdd, Nat.reduceMul, Int.reduceLE]
  refine kn hK1336 ?_
  clear hK1336 K1336
  obtain ⟨v1379, q1378, ho1184⟩ := obs ho1184
  refine WQ.sr hT rfl fun K1368 hK1368 => ?_
  refine sq F1192 ?_
  refine w_s_l1Without (SlR.toH h1187) i1332 q1378 (fun y1380 h1381 => ?_)
  obtain ⟨es1382, a1383, l1384, b1385, F1386⟩ := sRo h1381
  refine sk (a2 F1386 F1192) ?_
  refine kn hK1368 ?_
  clear hK1368 K1368
  refine rg0 hT ?_
  refine cn ho1184 (fun z1388 ho1184 => ?_) fun z1388 ho1184 => ?_
  obtain ⟨v1390, q1389, ho1184⟩ := obs ho1184
  refine WQ.region hT rfl ?_
  refine sq F1386 ?_
  refine w_s_l1With (SlR.toH h1381) i1332 i1334 q1389 (fun y1391 h1392 => ?_)
  obtain ⟨es1393, a1394, l1395, b1396, F1397⟩ := sRo h1392
  refine sk (a2 F1397 F1386) ?_
  refine j1296 _ _ _ (.agg [(.int .i64 v1176.code), y1391]) (CellsResultD.mk v1176.code v1390) (show CellsResultR (.agg [(.int .i64 v1176.code), y1391]) (CellsResultD.mk v1176.code v1390) from ⟨y1391, rfl, i1185, h1392⟩) ?_ ho1184
  exact nm [0, 1] [0, 2, 4, 5, 6] [x0, (.ep 2 (.sl 2 n 0 1 1 true) 0 0), y58, (.ep 2 (.sl 2 (n + 1) 0 1 1 true) 0 0), (.int .i64 v1178)] (rc (.keep _ (slH_lt h0)) (rc (Rn.ptr (js := [0, 1]) 0 0) (rc (.keep _ (slr_ltA _ _ _ h59)) (rc (Rn.ptr (js := [0, 1]) 1 1) (rc rki rn))))) (RowsR.row 0 _ _ _ _ hp_get0 (rc (.keep _ (cellsResult_lt _ _ _ (show CellsResultR (.agg [(.int .i64 0), .nils]) (CellsResultD.mk 0 ([])) from ⟨.nils, rfl, (i64c (a := 0) rfl), slr_nil⟩))) rn) (RowsR.row 1 _ _ _ _ (hp_get 1) (rc (.keep _ (cellsResult_lt _ _ _ (show CellsResultR (.agg [(.int .i64 v1176.code), y1391]) (CellsResultD.mk v1176.code v1390) from ⟨y1391, rfl, i1185, h1392⟩))) rn) RowsR.nil))
  refine WQ.skip ?_
  simp only [go_sem, ↓reduceIte, reduceCtorEq, Nat.reduceEqDiff, Nat.reduceLT, Nat.reduceLeDiff, Nat.reduceAdd, Nat.reduceMul, Int.reduceLE]
  refine j1296 _ _ _ (.agg [(.int .i64 v1176.code), y1380]) (CellsResultD.mk v1176.code v1379) (show CellsResultR (.agg [(.int .i64 v1176.code), y1380]) (CellsResultD.mk v1176.code v1379) from ⟨y1380, rfl, i1185, h1381⟩) ?_ ho1184
  exact nm [0, 1] [0, 2, 4, 5, 6] [x0, (.ep 2 (.sl 2 n 0 1 1 true) 0 0), y58, (.ep 2 (.sl 2 (n + 1) 0 1 1 true) 0 0), (.int .i64 v1178)] (rc (.keep _ (slH_lt h0)) (rc (Rn.ptr (js := [0, 1]) 0 0) (rc (.keep _ (slr_ltA _ _ _ h59)) (rc (Rn.ptr (js := [0, 1]) 1 1) (rc rki rn))))) (RowsR.row 0 _ _ _ _ hp_get0 (rc (.keep _ (cellsResult_lt _ _ _ (show CellsResultR (.agg [(.int .i64 0), .nils]) (CellsResultD.mk 0 ([])) from ⟨.nils, rfl, (i64c (a := 0) rfl), slr_nil⟩))) rn) (RowsR.row 1 _ _ _ _ (hp_get 1) (rc (.keep _ (cellsResult_lt _ _ _ (show CellsResultR (.agg [(.int .i64 v1176.code), y1380]) (CellsResultD.mk v1176.code v1379) from ⟨y1380, rfl, i1185, h1381⟩))) rn) RowsR.nil))
 clear hK1355
 rcases Bool.eq_false_or_eq_true (decide (a1323.kind ≠ 2)) with z1398 | z1398
 replace ho1184 := ifT z1398 ho1184
 refine WQ.region hT rfl ?_
 refine sq (a2 F64 (eqT z1398)) ?_
 refine j1362 _ _ _ true ?_ ho1184
 exact nm [0, 1, 2] [0, 2, 4, 5, 6, 7, 36] [x0, (.ep 2 (.sl 2 n 0 1 1 true) 0 0), y58, (.ep 2 (.sl 2 (n + 1) 0 1 1 true) 0 0), (.int .i64 v1178), (.ep 8 (.sl 8 (n + 2) 0 1 1 true) 0 0), (.bool true)] (rc (.keep _ (slH_lt h0)) (rc (Rn.ptr (js := [0, 1, 2]) 0 0) (rc (.keep _ (slr_ltA _ _ _ h59)) (rc (Rn.ptr (js := [0, 1, 2]) 1 1) (rc rki (rc (Rn.ptr (js := [0, 1, 2]) 2 2) (rc rkb rn))))))) (RowsR.row 0 _ _ _ _ hp_get0 (rc (.keep _ (cellsResult_lt _ _ _ (show CellsResultR (.agg [(.int .i64 0), .nils]) (CellsResultD.mk 0 ([])) from ⟨.nils, rfl, (i64c (a := 0) rfl), slr_nil⟩))) rn) (RowsR.row 1 _ _ _ _ (hp_get 1) (rc (.keep _ (cellsResult_lt _ _ _ gh1177)) rn) (RowsR.row 2 _ _ _ _ (hp_get 2) (rc (.keep _ (tyRec_76.lt _ _ _ gh1329)) rn) RowsR.nil)))
 replace ho1184 := ifF z1398 ho1184
 obtain ⟨v1400, q1399, ho1184⟩ := obs ho1184
 refine WQ.region hT rfl ?_
 refine sq (a2 F64 (eqF z1398)) ?_
 refine w_s_l1Has (SlR.toH h59) i1331 q1399 (fun y1401 h1402 => ?_)
 obtain rfl := h1402
 refine sk (a2 F64 (eqF z1398)) ?_
 refine j1362 _ _ _ (!v1400) ?_ ho1184
 exact nm [0, 1, 2] [0, 2, 4, 5, 6, 7, 36] [x0, (.ep 2 (.sl 2 n 0 1 1 true) 0 0), y58, (.ep 2 (.sl 2 (n + 1) 0 1 1 true) 0 0), (.int .i64 v1178), (.ep 8 (.sl 8 (n + 2) 0 1 1 true) 0 0), (.bool (!v1400))] (rc (.keep _ (slH_lt h0)) (rc (Rn.ptr (js := [0, 1, 2]) 0 0) (rc (.keep _ (slr_ltA _ _ _ h59)) (rc (Rn.ptr (js := [0, 1, 2]) 1 1) (rc rki (rc (Rn.ptr (js := [0, 1, 2]) 2 2) (rc rkb rn))))))) (RowsR.row 0 _ _ _ _ hp_get0 (rc (.keep _ (cellsResult_lt _ _ _ (show CellsResultR (.agg [(.int .i64 0), .nils]) (CellsResultD.mk 0 ([])) from ⟨.nils, rfl, (i64c (a := 0) rfl), slr_nil⟩))) rn) (RowsR.row 1 _ _ _ _ (hp_get 1) (rc (.keep _ (cellsResult_lt _ _ _ gh1177)) rn) (RowsR.row 2 _ _ _ _ (hp_get 2) (rc (.keep _ (tyRec_76.lt _ _ _ gh1329)) rn) RowsR.nil)))
 refine WQ.exit ?_
 simp only [go_sem, ↓reduceIte, reduceCtorEq, Nat.reduceEqDiff, Nat.reduceLT, Nat.reduceLeDiff, Nat.reduceAdd, Nat.reduceMul, Int.reduceLE]
 have e1403 := hf1183 _ (Option.some.inj ho1184).symm
 rw [← e1403] at hm
 refine j727 _ _ _ (.agg [(.int .i64 v1176.code), x1186]) v1176 gh1177 ?_ hm
 exact nm [0, 1] [2, 5] [(.ep 2 (.sl 2 n 0 1 1 true) 0 0), (.ep 2 (.sl 2 (n + 1) 0 1 1 true) 0 0)] (rc (Rn.ptr (js := [0, 1]) 0 0) (rc (Rn.ptr (js := [0, 1]) 1 1) rn)) (RowsR.row 0 _ _ _ _ hp_get0 (rc (.keep _ (cellsResult_lt _ _ _ (show CellsResultR (.agg [(.int .i64 0), .nils]) (CellsResultD.mk 0 ([])) from ⟨.nils, rfl, (i64c (a := 0) rfl), slr_nil⟩))) rn) (RowsR.row 1 _ _ _ _ (hp_get 1) (rc (.keep _ (cellsResult_lt _ _ _ gh1177)) rn) RowsR.nil))
end
end Go.Proofs.Ytcngfjmfgeckmaa
end
namespace Go.Proofs.Ytcngfjmfgeckmaa
open Go
section
variable {fu : Nat} {h : Heap} {n : Nat} {K : AV → Heap → Nat → Prop}
theorem runC_fine : ∀ {l : List RecD} {a : List RecD} {c : List CellD}, runC a c l = 0 → ∀ r, r ∈ l → Fine r
  | [], _, _, _, r, hr => by simp at hr
  | x :: l, a, c, h, r, hr => by
    unfold runC at h
    split at h
    · rename_i hq; exact absurd h hq
    rename_i hf
    split at h
    · rename_i hq; exact absurd h hq
    rcases List.mem_cons.1 hr with rfl | hr
    · exact fine_of (by simpa using hf)
    · exact runC_fine h r hr
def wonN (won : List Int) (c : List CellD) (r : RecD) : List CellD := if (decide (r.kind = 2) && won.any fun a => decide (a = r.txn)) = true then (if r.has = true then insC c r.key r.new else delC c r.key) else c
def wonAll (won : List Int) (l : List RecD) : List CellD := l.foldl (wonN won) []
theorem wonAll_take {l : List RecD} {i : Nat} {r : RecD} (won : List Int) (hr : l[i]? = some r) : wonAll won (l.take (i + 1)) = wonN won (wonAll won (l.take i)) r := by
  unfold wonAll
  rw [List.take_add_one, hr, List.foldl_append]; rfl
theorem wonN_ok {won : List Int} {c : List CellD} {r : RecD} (hf : Fine r) (hr : rise c) (hk : keysOk c) : rise (wonN won c r) ∧ keysOk (wonN won c r) ∧ (wonN won c r).length ≤ c.length + 1 := by
  have := hf.key
  unfold wonN
  split
  · split
    · exact ⟨insC_rise hr, insC_keys hk (by omega), insC_len⟩
    · exact ⟨delC_rise hr, delC_keys hk, Nat.le_succ_of_le delC_len⟩
  · exact ⟨hr, hk, Nat.le_succ _⟩
theorem wonAll_ok (won : List Int) {l : List RecD} (hl : ∀ r, r ∈ l → Fine r) : ∀ i, i ≤ l.length → rise (wonAll won (l.take i)) ∧ keysOk (wonAll won (l.take i)) ∧ (wonAll won (l.take i)).length ≤ i := by
  intro i
  induction i with
  | zero => intro _; exact ⟨List.Pairwise.nil, fun c hc => by simp [wonAll] at hc, Nat.le_refl _⟩
  | succ i ih =>
    intro hi
    obtain ⟨h1, h2, h3⟩ := ih (by omega)
    have hge := List.getElem?_eq_getElem (show i < l.length by omega)
    rw [wonAll_take won hge]
    obtain ⟨q1, q2, q3⟩ := wonN_ok (won := won) (hl _ (List.getElem_mem (show i < l.length by omega))) h1 h2
    exact ⟨q1, q2, by omega⟩
def commP (l : List RecD) : CellsResultD := if soundP l ≠ 0 then ⟨soundP l, []⟩ else ⟨0, wonAll (sortI (txnsOf l 3)) l⟩
theorem contains_sym (won : List Int) (t : Int) : (won.any fun a => decide (t = a)) = won.any fun a => decide (a = t) := by
  congr 1; funext a; exact decide_eq_decide.2 eq_comm
theorem m_i_CommittedMap_eq {l : List RecD} (hfu : 1000 < fu) : m_i_CommittedMap fu l = some (commP l) := by
  unfold m_i_CommittedMap commP
  rw [m_i_SoundRecs_eq hfu, Option.bind_some]
  show (if decide (soundP l ≠ 0) = true then some (CellsResultD.mk (soundP l) []) else _) = _
  by_cases hs : soundP l = 0
  · obtain ⟨h1, h2⟩ := sound_len hs
    have hf := runC_fine h2
    have hwl := sortI_txns_len l 3
    rw [if_neg (by simp [hs]), if_neg (by simp [hs]), m_i_those_eq (by omega) (by omega), Option.bind_some]
    generalize sortI (txnsOf l 3) = won at hwl
    have key : ∀ (m i : Nat), i ≤ l.length → l.length - i < m → iterN (fun (s : (List CellD) × Int) => m_i_CommittedMap_a4 fu l won s.1 s.2) m (wonAll won (l.take i), (i : Int)) = some (Sum.inl (wonAll won l)) := by
      intro m
      induction m with
      | zero => intro i _ h; omega
      | succ m ih =>
        intro i hi hm
        obtain ⟨q1, q2, q3⟩ := wonAll_ok won hf i hi
        unfold iterN
        by_cases hlt : i < l.length
        · have hge := List.getElem?_eq_getElem hlt
          have hkey := (hf _ (List.getElem_mem hlt)).key
          have step : m_i_CommittedMap_a4 fu l won (wonAll won (l.take i)) (i : Int) = some (Sum.inl (wonAll won (l.take (i + 1)), ((i + 1 : Nat) : Int))) := by
            unfold m_i_CommittedMap_a4 m_i_CommittedMap_a3 m_i_CommittedMap_a2
            rw [if_pos (decide_eq_true (Int.ofNat_lt.2 hlt)), atL_nat, hge, Option.bind_some, m_g_Contains_int64_eq (by omega) (by omega), Option.bind_some, contains_sym, m_i_withCell_eq q1 q2 (by omega) (by omega) (by omega), m_i_without_eq q1 q2 (by omega) (by omega) (by omega), Option.bind_some, Option.bind_some, wrap_succ (by omega), withC_ins, withoutC_del, wonAll_take won hge]
            unfold wonN
            generalize l[i] = r
            by_cases hk : r.kind = 2
            · cases won.any fun a => decide (a = r.txn) <;> cases r.has <;> simp [hk]
            · simp [hk]
          simp only [step]
          exact ih (i + 1) hlt (by omega)
        · have step : m_i_CommittedMap_a4 fu l won (wonAll won (l.take i)) (i : Int) = some (Sum.inr (Sum.inl (wonAll won l))) := by
            unfold m_i_CommittedMap_a4
            rw [if_neg (by simp; omega), List.take_of_length_le (by omega)]
          simp only [step]
    have hh := key fu 0 (Nat.zero_le _) (by omega)
    rw [show (([] : List CellD), (0 : Int)) = (wonAll won (l.take 0), ((0 : Nat) : Int)) from rfl, hh]
    rfl
  · rw [if_pos (decide_eq_true hs), if_pos hs]
theorem m_s_CommittedMap_eq {l : List RecD} (hfu : 1000 < fu) : m_s_CommittedMap fu l = some (commP l) := by
  unfold m_s_CommittedMap commP
  rw [m_s_l13Sound_eq hfu, Option.bind_some]
  show (if decide (soundP l ≠ 0) = true then some (CellsResultD.mk (soundP l) []) else _) = _
  by_cases hs : soundP l = 0
  · obtain ⟨h1, h2⟩ := sound_len hs
    have hf := runC_fine h2
    have hwl := sortI_txns_len l 3
    rw [if_neg (by simp [hs]), if_neg (by simp [hs]), m_s_l13Kinds_eq (by omega) (by omega), Option.bind_some, riseAll_sort (runC_once h2).2]
    generalize sortI (txnsOf l 3) = won at hwl
    have key : ∀ (m i : Nat), i ≤ l.length → l.length - i < m → iterN (fun (s : CellsResultD × Int) => m_s_CommittedMap_a4 fu l won s.1 s.2) m (CellsResultD.mk 0 (wonAll won (l.take i)), (i : Int)) = some (Sum.inl (CellsResultD.mk 0 (wonAll won l))) := by
      intro m
      induction m with
      | zero => intro i _ h; omega
      | succ m ih =>
        intro i hi hm
        obtain ⟨q1, q2, q3⟩ := wonAll_ok won hf i hi
        unfold iterN
        by_cases hlt : i < l.length
        · have hge := List.getElem?_eq_getElem hlt
          have step : m_s_CommittedMap_a4 fu l won (CellsResultD.mk 0 (wonAll won (l.take i))) (i : Int) = some (Sum.inl (CellsResultD.mk 0 (wonAll won (l.take (i + 1))), ((i + 1 : Nat) : Int))) := by
            unfold m_s_CommittedMap_a4 m_s_CommittedMap_a3 m_s_CommittedMap_a2
            rw [if_pos (decide_eq_true (Int.ofNat_lt.2 hlt)), atL_nat, hge, Option.bind_some, m_s_l1Has_eq (by omega) (by omega), Option.bind_some, wrap_succ (by omega), wonAll_take won hge]
            simp only []
            rw [without_del q1 (by omega) (by omega), Option.bind_some, with_ins q1 (by omega) (by omega), Option.bind_some]
            unfold wonN
            generalize l[i] = r
            by_cases hk : r.kind = 2
            · cases won.any fun a => decide (a = r.txn) <;> cases r.has <;> simp [hk]
            · simp [hk]
          simp only [step]
          exact ih (i + 1) hlt (by omega)
        · have step : m_s_CommittedMap_a4 fu l won (CellsResultD.mk 0 (wonAll won (l.take i))) (i : Int) = some (Sum.inr (Sum.inl (CellsResultD.mk 0 (wonAll won l)))) := by
            unfold m_s_CommittedMap_a4
            rw [if_neg (by simp; omega), List.take_of_length_le (by omega)]
          simp only [step]
    have hh := key fu 0 (Nat.zero_le _) (by omega)
    rw [show (CellsResultD.mk 0 ([] : List CellD), (0 : Int)) = (CellsResultD.mk 0 (wonAll won (l.take 0)), ((0 : Nat) : Int)) from rfl, hh]
    rfl
  · rw [if_pos (decide_eq_true hs), if_pos hs]
theorem commP_small (l : List RecD) : wsCellsResult (commP l) ≤ 2097152 := by
  unfold wsCellsResult wtCellS wtCell commP
  rw [map_const_sum]
  split
  · simp
  · rename_i hs
    obtain ⟨h1, h2⟩ := sound_len (by simpa using hs)
    have := (wonAll_ok (sortI (txnsOf l 3)) (runC_fine h2) l.length (Nat.le_refl _)).2.2
    rw [List.take_length] at this
    simp only
    omega
theorem s_comm {x : AV} {l : List RecD} (hx : RecSR x l) (hk : ∀ y, CellsResultR y (commP l) → K y h n) : CA Try.prog 27 [x] h n K :=
  w_s_CommittedMap (SlR.toH hx) (fu := 100000) (m_s_CommittedMap_eq (by omega)) hk
theorem i_commO {x : AV} {l : List RecD} (hx : RecSR x l) (hk : ∀ r h' n', OwnRes CellsResultR h n r (commP l) h' n' → K r h' n') : CA Try.prog 28 [x] h n K :=
  CA.ownN1 (c := .int .i64 (commP l).code) (.int _ _) (.int _ _) Try.call28 tyCell_123.lt (fun H e a he => by
    obtain ⟨rfl, _, _⟩ := he
    have := Tree.agg (h := H) [.int .i64 a.key, .int .i64 a.value] [.int .i64 a.key, .int .i64 a.value] ([] ++ ([] ++ [])) (.cons _ _ _ _ [] _ (.atom _ (.int _ _) (.int _ _)) (.cons _ _ _ _ [] [] (.atom _ (.int _ _) (.int _ _)) .nil (fun i hi => by cases hi)) (fun i hi => by cases hi))
    exact this) (fun K hk => w_i_CommittedMap_o (SlR.toH hx) (fu := 100000) (m_i_CommittedMap_eq (by omega)) hk) (fun hi y hy => ⟨y, rfl, hi, hy⟩) hk
end
end Go.Proofs.Ytcngfjmfgeckmaa
section
namespace Go.Proofs.Ytcngfjmfgeckmaa
open Go
section
variable {h : Heap} {n : Nat} {K : AV → Heap → Nat → Prop}
set_option maxHeartbeats 1000000 in
theorem c7 {x : AV} {l : List RecD} (hx : RecSR x l) (hk : K (.bool true) h n) : CA Try.prog 7 [x] h n K := by
  refine CA.conv (CA.enter (N := 69) (rs := [.tmp 2]) hT Try.call7 Try.func7 rfl rfl (by simp) rfl fun hlt => ?_)
  refine WP.seq_k fun K1 hK1 => WP.region hT rfl ?_
  refine q_S ?_
  refine hK1 _ _ _ ?_
  clear hK1 K1
  refine WP.seq_k fun K1 hK1 => WP.region hT rfl ?_
  refine q_S ?_
  refine hK1 _ _ _ ?_
  clear hK1 K1
  refine WP.seq_k fun K1 hK1 => WP.region hT rfl ?_
  refine q_S ?_
  refine c14 hx (by omega) (by omega) (hK1 _ _ _ ?_)
  clear hK1 K1
  refine WP.seq_k fun K3 hK3 => ?_
  refine WP.seq_k fun K1 hK1 => WP.region hT rfl ?_
  refine q_S ?_
  refine hK1 _ _ _ ?_
  clear hK1 K1
  refine WP.cond (by simp only [ev, Env.get_put_some, ↓reduceIte]; rfl) (fun hc => ?_) (fun hc => ?_)
  · refine WP.seq_k fun K1 hK1 => WP.region hT rfl ?_
    refine q_S ?_
    refine hK1 _ _ _ ?_
    clear hK1 K1
    refine WP.ret ?_
    refine qr_S ?_
    exact ⟨_, rfl, ret_p (Left.refl hlt) (.bool _) hk⟩
  refine WP.skip (hK3 _ _ _ ?_)
  clear hK3 K3
  obtain ⟨b1, b2⟩ := left_nonneg (by omega) (of_decide_eq_false hc)
  have hl : sizRecS l ≤ 1048576 := by omega
  have hsm : wsCellsResult (commP l) ≤ 2097152 := commP_small l
  have hs0 : wtRecS l ≤ 8388608 := by
    unfold wtRecS wtRec
    rw [map_const_sum]
    unfold sizRecS sizL at hl
    omega
  refine WP.seq_k fun K1 hK1 => WP.region hT rfl ?_
  refine Q_S ?_
  refine c16 hx hl fun r1 hr1 => ?_
  refine w_S ?_
  refine s_comm hr1 fun w0 hw0 => ?_
  obtain ⟨A0, rfl, hA00, hA0⟩ := id hw0
  refine w_S ?_
  refine hK1 _ _ _ ?_
  clear hK1 K1
  refine WP.seq_k fun K1 hK1 => WP.region hT rfl ?_
  refine Q_S ?_
  refine c16o hx hl fun x0 h2 n2 o2 => ?_
  refine w_S ?_
  refine hK1 _ _ _ ?_
  clear hK1 K1
  have l2 := o2.le
  have bw2 : h2 n = some [.agg [.int .i64 (commP l).code, A0]] := by rw [o2.below n (by omega), Heap.upd_same]
  obtain ⟨x0', I0, t0, u0, i0⟩ := o2.frz0
  refine WP.seq_k fun K1 hK1 => WP.region hT rfl ?_
  refine Q_S ?_
  refine CA.lendOwn (args' := [x0']) Try.call28 rfl (frzL1 (.inr t0.frz00)) (fun K hk => i_commO u0 hk) fun g0 h4 n4 o4 => ?_
  have l4 := o4.le
  have bw4 : h4 n = some [.agg [.int .i64 (commP l).code, A0]] := by rw [o4.below n (by omega)]; exact bw2
  obtain ⟨g0', I2, t2, u2, i2⟩ := o4.frz0
  have t0 : Tree h4 x0 x0' I0 := t0.keep fun i hi => o4.below i (by have := i0 i hi; omega)
  obtain ⟨Ag', rfl, hAg0, hAg⟩ := id u2
  obtain ⟨gs, rfl, hgl⟩ := t2.aggE
  have gl3 : gs.length = 2 := by have := hgl.length; simpa using this.symm
  obtain ⟨ga, gb, rfl⟩ := len2 gl3
  refine w_S ?_
  refine hK1 _ _ _ ?_
  clear hK1 K1
  generalize hh5 : h4.upd n4 [.agg [ga, gb]] = h5
  have fr5 : ∀ id, id < n4 → h5 id = h4 id := fun id hid => by rw [← hh5, Heap.upd_ne _ _ (by omega)]
  have bg5 : h5 n4 = some [.agg [ga, gb]] := by rw [← hh5, Heap.upd_same]
  have bw5 : h5 n = some [.agg [.int .i64 (commP l).code, A0]] := by rw [fr5 n (by omega)]; exact bw4
  have t0 : Tree h5 x0 x0' I0 := t0.keep fun i hi => fr5 i (by have := i0 i hi; omega)
  have t2 : Tree h5 (.agg [ga, gb]) (.agg [.int .i64 (commP l).code, Ag']) I2 := t2.keep fun i hi => fr5 i (by have := i2 i hi; omega)
  clear hh5
  refine WP.seq_k fun K3 hK3 => ?_
  refine WP.seq_k fun K1 hK1 => WP.region hT rfl ?_
  refine Q_fS (And.intro bg5 bw5) ?_
  refine CA.lend (args' := [.agg [.int .i64 (commP l).code, Ag'], .agg [.int .i64 (commP l).code, A0]]) Try.call29 rfl (frzL2 (.inr t2.frz00) (.inl rfl)) (.bool _) (fun K hk => c29 u2 hw0 hk) ?_
  refine w_S ?_
  refine hK1 _ _ _ ?_
  clear hK1 K1
  refine WP.cond (by simp only [ev, Env.get_put_some, ↓reduceIte]; rfl) (fun hc => ?_) (fun hc => ?_)
  · simp at hc
  refine WP.skip (hK3 _ _ _ ?_)
  clear hK3 K3
  refine WP.seq_k fun K3 hK3 => ?_
  refine WP.seq_k fun K1 hK1 => WP.region hT rfl ?_
  refine Q_S ?_
  refine c16 hx hl fun r3 hr3 => ?_
  refine w_S ?_
  refine CA.lend (args' := [x0', r3]) Try.call18 rfl (frzL2 (.inr t0.frz00) (.inl rfl)) (.bool _) (fun K hk => c18 u0 hr3 hk) ?_
  refine w_S ?_
  refine hK1 _ _ _ ?_
  clear hK1 K1
  refine WP.cond (by simp only [ev, Env.get_put_some, ↓reduceIte]; rfl) (fun hc => ?_) (fun hc => ?_)
  · simp at hc
  refine WP.skip (hK3 _ _ _ ?_)
  clear hK3 K3
  refine WP.seq_k fun K1 hK1 => WP.region hT rfl ?_
  refine q_S ?_
  refine hK1 _ _ _ ?_
  clear hK1 K1
  refine WP.seq_k fun K1 hK1 => WP.region hT rfl ?_
  refine Q_S ?_
  refine m22 u0 _ _ _ x0 I0 1 t0 (by omega) (by omega) fun x0'' h6 n6 l6 t0'' fr6 _ => ?_
  refine w_S ?_
  refine hK1 _ _ _ ?_
  clear hK1 K1
  have bw6 : h6 n = some [.agg [.int .i64 (commP l).code, A0]] := by rw [fr6 n (fun hm => by have := i0 n hm; omega)]; exact bw5
  have bg6 : h6 n4 = some [.agg [ga, gb]] := by rw [fr6 n4 (fun hm => by have := i0 n4 hm; omega)]; exact bg5
  have t2 : Tree h6 (.agg [ga, gb]) (.agg [.int .i64 (commP l).code, Ag']) I2 := t2.keep fun i hi => fr6 i (fun hm => by have := i0 i hm; have := i2 i hi; omega)
  have hneg : decide ((1 : Int) + (wtRecS l : Nat) < 0) = false := decide_eq_false (by omega)
  refine WP.seq_k fun K3 hK3 => ?_
  refine WP.seq_k fun K1 hK1 => WP.region hT rfl ?_
  refine Q_fS (And.intro hneg (And.intro bg6 bw6)) ?_
  refine CA.lend (args' := [.agg [.int .i64 (commP l).code, Ag'], .agg [.int .i64 (commP l).code, A0]]) Try.call29 rfl (frzL2 (.inr t2.frz00) (.inl rfl)) (.bool _) (fun K hk => c29 u2 hw0 hk) ?_
  refine w_fS hneg ?_
  refine hK1 _ _ _ ?_
  clear hK1 K1
  refine WP.cond (by simp only [ev, Env.get_put_some, ↓reduceIte]; rfl) (fun hc => ?_) (fun hc => ?_)
  · simp at hc
  refine WP.skip (hK3 _ _ _ ?_)
  clear hK3 K3
  refine WP.seq_k fun K1 hK1 => WP.region hT rfl ?_
  refine q_S ?_
  refine hK1 _ _ _ ?_
  clear hK1 K1
  refine WP.seq_k fun K1 hK1 => WP.region hT rfl ?_
  refine Q_fS bg6 ?_
  refine m30 u2 _ _ _ _ I2 1 t2 (by omega) (by omega) fun g'' h8 n8 l8 t2'' fr8 hHg => ?_
  refine w_S ?_
  refine hK1 _ _ _ ?_
  clear hK1 K1
  have bw8 : h8 n = some [.agg [.int .i64 (commP l).code, A0]] := by rw [fr8 n (fun hm => by have := i2 n hm; omega)]; exact bw6
  have bg8 : h8 n4 = some [.agg [ga, gb]] := by rw [fr8 n4 (fun hm => by have := i2 n4 hm; omega)]; exact bg6
  have hh : HeldBy Try.prog 31 g'' (wsCellsResult (commP l)) 1 := h31 (by omega) (by omega) hHg
  have hneg2 : decide ((1 : Int) + (wsCellsResult (commP l) : Nat) < 0) = false := decide_eq_false (by omega)
  refine WP.seq_k fun K1 hK1 => WP.region hT rfl ?_
  refine q_S ?_
  refine hK1 _ _ _ ?_
  clear hK1 K1
  refine WP.seq_k fun K1 hK1 => WP.region hT rfl ?_
  refine Q_fS bg8 ?_
  refine CA.lend (args' := [g'', .int .i64 1]) Try.call31 rfl (frzL2 (.inr t2''.frz00) (.inl rfl)) (.int _ _) (fun K hk => hh _ _ _ hk) ?_
  refine w_S ?_
  refine hK1 _ _ _ ?_
  clear hK1 K1
  refine WP.seq_k fun K3 hK3 => ?_
  refine WP.seq_k fun K1 hK1 => WP.region hT rfl ?_
  refine q_S ?_
  refine hK1 _ _ _ ?_
  clear hK1 K1
  refine WP.cond (by simp only [ev, Env.get_put_some, ↓reduceIte]; rfl) (fun hc => ?_) (fun hc => ?_)
  · rw [hneg2] at hc; cases hc
  refine WP.skip (hK3 _ _ _ ?_)
  clear hK3 K3
  refine WP.seq_k fun K3 hK3 => ?_
  refine WP.seq_k fun K1 hK1 => WP.region hT rfl ?_
  refine q_S ?_
  refine hK1 _ _ _ ?_
  clear hK1 K1
  refine WP.cond (by simp only [ev, Env.get_put_some, ↓reduceIte]; rfl) (fun hc => ?_) (fun hc => ?_)
  · simp at hc
  refine WP.skip (hK3 _ _ _ ?_)
  clear hK3 K3
  refine WP.seq_k fun K1 hK1 => WP.region hT rfl ?_
  refine Q_S ?_
  refine c16 hx hl fun r5 hr5 => ?_
  refine w_S ?_
  refine CA.ofOwn Try.call28 (fun K hk => i_commO hr5 hk) fun h0 hh0 => ?_
  obtain ⟨A1, rfl, hA10, hA1⟩ := id hh0
  have f8 : (n = n8) = False := eq_false (by omega)
  have f9 : (n4 = n8) = False := eq_false (by omega)
  refine w_S ?_
  refine hK1 _ _ _ ?_
  clear hK1 K1
  refine WP.seq_k fun K3 hK3 => ?_
  refine WP.seq_k fun K1 hK1 => WP.region hT rfl ?_
  refine Q_fS (And.intro bw8 f8) ?_
  refine c29 hh0 hw0 ?_
  refine w_S ?_
  refine hK1 _ _ _ ?_
  clear hK1 K1
  refine WP.cond (by simp only [ev, Env.get_put_some, ↓reduceIte]; rfl) (fun hc => ?_) (fun hc => ?_)
  · simp at hc
  refine WP.skip (hK3 _ _ _ ?_)
  clear hK3 K3
  refine WP.seq_k fun K1 hK1 => WP.region hT rfl ?_
  refine q_S ?_
  refine hK1 _ _ _ ?_
  clear hK1 K1
  generalize hh9 : h8.upd n8 [.agg [.int .i64 (commP l).code, A1]] = h9
  have t2'' : Tree h9 (.agg [ga, gb]) g'' I2 := t2''.keep fun i hi => by rw [← hh9, Heap.upd_ne _ _ (by have := i2 i hi; omega)]
  have fr9 : ∀ id, id < n8 → h9 id = h8 id := fun id hid => by rw [← hh9, Heap.upd_ne _ _ (by omega)]
  have bg9 : h9 n4 = some [.agg [ga, gb]] := by rw [← hh9, Heap.upd_ne _ _ (by omega)]; exact bg8
  clear hh9
  refine WP.seq_k fun K1 hK1 => WP.region hT rfl ?_
  refine Q_fS bg9 ?_
  refine CA.lend (args' := [g'', .int .i64 1]) Try.call31 rfl (frzL2 (.inr t2''.frz00) (.inl rfl)) (.int _ _) (fun K hk => hh _ _ _ hk) ?_
  refine w_S ?_
  refine hK1 _ _ _ ?_
  clear hK1 K1
  refine WP.seq_k fun K3 hK3 => ?_
  refine WP.seq_k fun K1 hK1 => WP.region hT rfl ?_
  refine q_S ?_
  refine hK1 _ _ _ ?_
  clear hK1 K1
  refine WP.cond (by simp only [ev, Env.get_put_some, ↓reduceIte]; rfl) (fun hc => ?_) (fun hc => ?_)
  · rw [hneg2] at hc; cases hc
  refine WP.skip (hK3 _ _ _ ?_)
  clear hK3 K3
  refine WP.seq_k fun K3 hK3 => ?_
  refine WP.seq_k fun K1 hK1 => WP.region hT rfl ?_
  refine q_S ?_
  refine hK1 _ _ _ ?_
  clear hK1 K1
  refine WP.cond (by simp only [ev, Env.get_put_some, ↓reduceIte]; rfl) (fun hc => ?_) (fun hc => ?_)
  · simp at hc
  refine WP.skip (hK3 _ _ _ ?_)
  clear hK3 K3
  refine WP.seq_k fun K1 hK1 => WP.region hT rfl ?_
  refine q_S ?_
  refine hK1 _ _ _ ?_
  clear hK1 K1
  refine WP.ret ?_
  refine qr_S ?_
  refine ⟨_, rfl, ret_p ⟨fun id b hb => ⟨hlt id b hb, ?_⟩, fun id b hb => .inl hb⟩ (.bool _) hk⟩
  have hid := hlt id b hb
  rw [fr9 id (by omega), fr8 id (fun hm => by have := i2 id hm; omega), fr6 id (fun hm => by have := i0 id hm; omega), fr5 id (by omega), o4.below id (by omega), o2.below id (by omega), Heap.upd_ne _ _ (by omega)]
  exact hb
end
end Go.Proofs.Ytcngfjmfgeckmaa
end
namespace Go.Proofs.Ytcngfjmfgeckmaa
open Go Go.ChangeShapes Go.WideShapes Go.ChangeAt Go.RowKit Go.Deep
def startCfg (W : World) : Cfg := ⟨fun _ => none, fun b => b < W.heap.size, W⟩
theorem start_hr (W : World) : HR (startCfg W) Heap.emp := ⟨fun id b hb => (by cases hb), fun i j bi bj x y h1 => (by cases h1), fun b hb => hb⟩
theorem start_fresh (W : World) : Fresh (startCfg W) 0 := fun _ _ => rfl
theorem below_of_ext {W : World} {c' : Cfg} {h' : Heap} {fr : Nat → Prop} (e : Ext (startCfg W) Heap.emp fr c' h') : Below W.heap.size W c'.w :=
  ⟨e.os, e.tape, e.output, e.size, fun k hk => e.frame k hk fun id blk x hb => (by cases hb)⟩
theorem law_calls {P : Program} {f : FuncId} {us : List AV} {vals : Array Value} {W : World} (hs : vals.size = us.length) (hv : ∀ (i : Nat) (u : AV) (v : Value), us[i]? = some u → vals[i]? = some v → VR (startCfg W) u v)
    (hc : CA P f us Heap.emp 0 (fun r _ _ => r = .bool true)) : Calls P f vals W (fun e w' => e = .returned (.bool true) ∧ Below W.heap.size W w') :=
  Calls.mono (hc.2 (startCfg W) vals (start_hr W) (start_fresh W) hs hv) fun e w' ⟨v, r, h', n', h1, ⟨c', h2, h3, h4, h5, h6, h7⟩, h8⟩ => by
    subst h1 h2 h8
    cases h6
    exact ⟨rfl, below_of_ext h3⟩
section
variable {H : Type} {enc : TypeId × Value → H} {P : Program} {W : World} {base : Nat} {spare : Nat → Bool} {held : Bool} {α : Type}
def Opn (enc : TypeId × Value → H) (P : Program) (W : World) (base : Nat) (spare : Nat → Bool) (held : Bool) (t : TypeId) (sz : Nat) (R : AV → α → Prop) : Prop :=
  ∀ (fuel : Nat) (cs : List Value) (x : DataW H × List MemPlace), DataW.trod enc P W base spare held fuel t cs = some x →
    ∃ u a, R u a ∧ u.cells.length = sz ∧ cs.length = sz ∧ (∀ x, x ∈ u.cells → x.one = true) ∧ ∀ (j : Nat) (u' : AV) (v : Value), u.cells[j]? = some u' → cs[j]? = some v → VR (startCfg W) u' v
theorem opn_one {t : TypeId} {R : AV → α → Prop} (h : ∀ (fuel : Nat) (cs : List Value) (x : DataW H × List MemPlace), DataW.trod enc P W base spare held fuel t cs = some x → ∃ u a v, R u a ∧ u.one = true ∧ cs = [v] ∧ VR (startCfg W) u v) : Opn enc P W base spare held t 1 R :=
  fun fuel cs x hx => by
    obtain ⟨u, a, v, h1, h2, rfl, h3⟩ := h fuel cs x hx
    have hc : u.cells = [u] := by cases u <;> first | rfl | (cases h2)
    refine ⟨u, a, h1, by rw [hc]; rfl, rfl, fun x hx => by rw [hc] at hx; rw [List.mem_singleton.1 hx]; exact h2, fun j u' v' hj hv => ?_⟩
    rw [hc] at hj
    cases j with
    | zero => simp only [List.getElem?_cons_zero, Option.some.injEq] at hj hv; subst hj; subst hv; exact h3
    | succ j => simp at hj
theorem opn_int {t : TypeId} {k : IntKind} (ht : P.underlying t = some (.int k)) : Opn enc P W base spare held t 1 (fun e a => e = .int k a ∧ (Lit.int k a).wf = true) :=
  opn_one fun fuel cs x hx => by
    obtain ⟨n, h1, _, h2⟩ := DataW.trod_int ht hx
    exact ⟨.int k n, n, .int k n, ⟨rfl, h2⟩, rfl, h1, .int _ _⟩
theorem opn_bool {t : TypeId} (ht : P.underlying t = some .bool) : Opn enc P W base spare held t 1 (fun e (a : Bool) => e = .bool a) :=
  opn_one fun fuel cs x hx => by
    obtain ⟨b, h1, _⟩ := DataW.trod_bool ht hx
    exact ⟨.bool b, b, .bool b, rfl, rfl, h1, .bool _⟩
theorem opn_mono {t : TypeId} {sz : Nat} {β : Type} {R : AV → α → Prop} {R' : AV → β → Prop} (h : Opn enc P W base spare held t sz R) (hr : ∀ u a, R u a → ∃ b, R' u b) : Opn enc P W base spare held t sz R' :=
  fun fuel cs x hx => by
    obtain ⟨u, a, h1, h2⟩ := h fuel cs x hx
    obtain ⟨b, hb⟩ := hr u a h1
    exact ⟨u, b, hb, h2⟩
theorem lists_of {β : Type} {Q : Nat → α → β → Prop} : ∀ (len : Nat), (∀ i, i < len → ∃ u a, Q i u a) → ∃ (es : List α) (l : List β), es.length = len ∧ l.length = len ∧ ∀ (i : Nat) u a, es[i]? = some u → l[i]? = some a → Q i u a
  | 0, _ => ⟨[], [], rfl, rfl, fun i u a h => by simp at h⟩
  | len + 1, h => by
    obtain ⟨es, l, h1, h2, h3⟩ := lists_of len (fun i hi => h i (by omega))
    obtain ⟨u, a, hq⟩ := h len (by omega)
    refine ⟨es ++ [u], l ++ [a], by simp [h1], by simp [h2], fun i u' a' hu ha => ?_⟩
    rcases Nat.lt_trichotomy i len with hlt | rfl | hgt
    · rw [List.getElem?_append_left (by omega)] at hu ha
      exact h3 i u' a' hu ha
    · rw [List.getElem?_append_right (by omega), h1, Nat.sub_self] at hu
      rw [List.getElem?_append_right (by omega), h2, Nat.sub_self] at ha
      simp only [List.getElem?_cons_zero, Option.some.injEq] at hu ha
      subst hu; subst ha; exact hq
    · rw [List.getElem?_eq_none (by simp; omega)] at hu; cases hu
theorem all2_of {β : Type} {Q : α → β → Prop} : ∀ (es : List α) (l : List β), es.length = l.length → (∀ (i : Nat) u a, es[i]? = some u → l[i]? = some a → Q u a) → All2 Q es l
  | [], [], _, _ => .nil
  | u :: es, a :: l, hl, h => .cons (h 0 u a rfl rfl) (all2_of es l (by simpa using hl) fun i u a h1 h2 => h (i + 1) u a (by simpa using h1) (by simpa using h2))
  | [], _ :: _, hl, _ => by simp at hl
  | _ :: _, [], hl, _ => by simp at hl
theorem opn_slice {t e : TypeId} {sz : Nat} {R : AV → α → Prop} (ht : P.underlying t = some (.slice e)) (hsz : P.cellsOf e = sz) (hpos : 0 < sz) (he : Opn enc P W base spare held e sz R) (hlt : ∀ u a n, R u a → u.Lt n) : Opn enc P W base spare held t 1 (SlR sz R) :=
  opn_one fun fuel cs x hx => by
    rcases open_slice ht hx with ⟨h1, _⟩ | ⟨a, len, cap, m, n, D, Pl, h1, hb, hl, hm, hmm, _, hel⟩
    · exact ⟨.nils, [], .slice none 0 0, ⟨[], rfl, .nil, Nat.zero_le _, fun n => .nils, rfl⟩, rfl, h1, .nils⟩
    · have hlm : len ≤ m := by rw [hmm]; split <;> omega
      obtain ⟨es, l, e1, e2, e3⟩ := lists_of (α := AV) (β := α) (Q := fun i u b => R u b ∧ u.cells.length = sz ∧ (∀ x, x ∈ u.cells → x.one = true) ∧ ∀ (j : Nat) (u' : AV), u.cells[j]? = some u' → ∃ v, W.cell? (a.add (i * sz + j)) = some v ∧ VR (startCfg W) u' v) len (fun i hi => by
        obtain ⟨cs', c1, c2⟩ := hel i (by omega)
        obtain ⟨u, b, k1, k2, k3, k4, k5⟩ := he n cs' _ c2
        refine ⟨u, b, k1, k2, k4, fun j u' hj => ?_⟩
        have hjl : j < cs'.length := by rw [k3, ← k2]; exact (List.getElem?_eq_some_iff.1 hj).1
        refine ⟨cs'[j], ?_, k5 j u' _ hj (List.getElem?_eq_getElem hjl)⟩
        rw [hsz] at c1
        obtain ⟨_, hlen, hat⟩ := World.cells?_some c1
        have := hat j (by omega)
        rw [add_add] at this
        rw [this]
        simp [hjl])
      have hall : All2 R es l := all2_of es l (by omega) fun i u b h1 h2 => (e3 i u b h1 h2).1
      have lget : ∀ (i : Nat) u, es[i]? = some u → ∃ b, l[i]? = some b := fun i u hu => by
        obtain ⟨b, hb, _⟩ := all2_get hall i u hu
        exact ⟨b, hb⟩
      refine ⟨.ro sz false es, l, .slice (some a) len cap, .mk_ro hall (by omega) hlt, rfl, h1, ?_⟩
      subst e1
      refine .ro sz false es a cap (fun i j => (W.cell? (a.add (i * sz + j))).getD Go.undef) hl hm (fun hq => by cases hq) (fun hne => ?_) (fun i u hu => ?_) (fun i u j u' hu hj => ?_) (fun i u j u' hu hj => ?_) (fun i u j u' hu hj => ?_)
      · have hl0 : 0 < es.length := by cases es with | nil => exact absurd rfl hne | cons => simp
        have hu := List.getElem?_eq_getElem hl0
        obtain ⟨b, hb⟩ := lget 0 _ hu
        have k := e3 0 _ b hu hb
        have hj : 0 < (es[0]'hl0).cells.length := by rw [k.2.1]; exact hpos
        obtain ⟨v, q1, _⟩ := k.2.2.2 0 _ (List.getElem?_eq_getElem hj)
        have := World.block_lt_of_cell? W _ q1
        rw [add_block] at this
        exact this
      · obtain ⟨b, hb⟩ := lget i u hu; exact (e3 i u b hu hb).2.1
      · obtain ⟨b, hb⟩ := lget i u hu; exact (e3 i u b hu hb).2.2.1 u' (List.mem_of_getElem? hj)
      · obtain ⟨b, hb⟩ := lget i u hu
        obtain ⟨v, q1, q2⟩ := (e3 i u b hu hb).2.2.2 j u' hj
        show W.cell? _ = _
        rw [q1]; rfl
      · obtain ⟨b, hb⟩ := lget i u hu
        obtain ⟨v, q1, q2⟩ := (e3 i u b hu hb).2.2.2 j u' hj
        simp only [q1, Option.getD_some]; exact q2
theorem SlR.one {sz : Nat} {R : AV → α → Prop} {u : AV} {l : List α} (h : SlR sz R u l) : u.one = true := by
  obtain ⟨_, _, _, _, _, h⟩ := h; exact h
structure Fld where
  t : TypeId
  sz : Nat
  q : AV → Prop
def layout : List Fld → Nat → List (Nat × TypeId)
  | [], _ => []
  | f :: r, o => (o, f.t) :: layout r (o + f.sz)
def total : List Fld → Nat
  | [] => 0
  | f :: r => f.sz + total r
def OpnQ (enc : TypeId × Value → H) (P : Program) (W : World) (base : Nat) (spare : Nat → Bool) (held : Bool) (f : Fld) : Prop := P.cellsOf f.t = f.sz ∧ Opn enc P W base spare held f.t f.sz (fun u (_ : Unit) => f.q u)
theorem fields_open {cs : List Value} {n : Nat} : ∀ (qs : List Fld) (fs : List Field) (o : Nat), (fs.map fun f => (f.offset, f.type)) = layout qs o → (∀ f, f ∈ qs → OpnQ enc P W base spare held f) →
    (∀ f, f ∈ fs → ∃ y, DataW.trod enc P W base spare held n f.type ((cs.drop f.offset).take (P.cellsOf f.type)) = some y) → cs.length = o + total qs →
    ∃ us : List AV, All2 (fun f u => f.q u ∧ u.cells.length = f.sz) qs us ∧ (us.flatMap AV.cells).length = total qs ∧ (∀ x, x ∈ us.flatMap AV.cells → x.one = true) ∧
      ∀ (j : Nat) (u' : AV) (v : Value), (us.flatMap AV.cells)[j]? = some u' → (cs.drop o)[j]? = some v → VR (startCfg W) u' v
  | [], fs, o, hl, _, _, _ => ⟨[], .nil, rfl, fun x hx => by simp at hx, fun j u' v h => by simp at h⟩
  | f :: qs, fs, o, hl, hq, ht, hc => by
    cases fs with
    | nil => simp [layout] at hl
    | cons g fs =>
      simp only [List.map_cons, layout, List.cons.injEq, Prod.mk.injEq] at hl
      obtain ⟨⟨g1, g2⟩, hl⟩ := hl
      obtain ⟨us, a1, a2, a3, a4⟩ := fields_open qs fs (o + f.sz) hl (fun f hf => hq f (by simp [hf])) (fun f hf => ht f (by simp [hf])) (by simp only [total] at hc; omega)
      obtain ⟨hsz, ho⟩ := hq f (by simp)
      obtain ⟨y, hy⟩ := ht g (by simp)
      rw [g1, g2, hsz] at hy
      obtain ⟨u, _, k1, k2, k3, k4, k5⟩ := ho n _ y hy
      refine ⟨u :: us, .cons ⟨k1, k2⟩ a1, by simp only [List.flatMap_cons, List.length_append, a2, k2, total], fun x hx => ?_, fun j u' v hj hv => ?_⟩
      · simp only [List.flatMap_cons, List.mem_append] at hx
        rcases hx with hx | hx
        · exact k4 x hx
        · exact a3 x hx
      · rw [List.flatMap_cons] at hj
        by_cases hlt : j < f.sz
        · rw [List.getElem?_append_left (by omega)] at hj
          refine k5 j u' v hj ?_
          rw [List.getElem?_take, if_pos hlt]; exact hv
        · rw [List.getElem?_append_right (by omega), k2] at hj
          refine a4 (j - f.sz) u' v hj ?_
          rw [List.getElem?_drop] at hv ⊢
          rw [← hv]; congr 1; omega
theorem opn_struct {t : TypeId} {F : Array Field} {R : AV → α → Prop} (qs : List Fld) (ht : P.underlying t = some (.struct F)) (hl : (F.toList.map fun f => (f.offset, f.type)) = layout qs 0) (hc : P.cellsOf t = total qs) (hq : ∀ f, f ∈ qs → OpnQ enc P W base spare held f)
    (hR : ∀ us : List AV, All2 (fun f u => f.q u ∧ u.cells.length = f.sz) qs us → ∃ a, R (.agg (us.flatMap AV.cells)) a) : Opn enc P W base spare held t (total qs) R := fun fuel cs x hx => by
  obtain ⟨xs, n, _, _, h3, h4, h5⟩ := DataW.trod_struct ht hx
  obtain ⟨us, a1, a2, a3, a4⟩ := fields_open (enc := enc) (base := base) (spare := spare) (held := held) (cs := cs) (n := n) qs F.toList 0 hl hq (fun f hf => by
    obtain ⟨i, hi⟩ := List.mem_iff_getElem?.1 hf
    have hi' : F[i]? = some f := by simpa using hi
    have hlt : i < xs.length := by rw [h4]; exact (Array.getElem?_eq_some_iff.1 hi').1
    exact ⟨xs[i], by rw [h5 i f hi', List.getElem?_eq_getElem hlt]⟩) (by rw [h3, hc]; omega)
  obtain ⟨a, ha⟩ := hR us a1
  exact ⟨_, a, ha, a2, by rw [h3, hc], a3, fun j u' v hj hv => a4 j u' v hj (by simpa using hv)⟩
def intF (t : TypeId) (k : IntKind) : Fld := ⟨t, 1, fun e => ∃ a, e = .int k a ∧ (Lit.int k a).wf = true⟩
theorem opnQ_int {t : TypeId} {k : IntKind} (ht : P.underlying t = some (.int k)) (hc : P.cellsOf t = 1) : OpnQ enc P W base spare held (intF t k) :=
  ⟨hc, opn_mono (opn_int ht) fun _ a h => ⟨(), a, h⟩⟩
theorem param_one {t : TypeId} {R : AV → α → Prop} (ho : Opn enc P W base spare held t 1 R) (hone : ∀ u a, R u a → u.one = true) {v : Value} {d : DataW H} {ps : List MemPlace} (hc : v.cells.toList = [v]) (hd : DataW.Trod enc P W base spare held t v d ps) :
    ∃ u a, R u a ∧ VR (startCfg W) u v := by
  obtain ⟨fuel, hf⟩ := hd
  obtain ⟨u, a, h1, h2, h3, h4, h5⟩ := ho fuel _ _ hf
  have hu := hone u a h1
  have hcu : u.cells = [u] := by cases u <;> first | rfl | (cases hu)
  exact ⟨u, a, h1, h5 0 u v (by rw [hcu]; rfl) (by rw [hc]; rfl)⟩
end
end Go.Proofs.Ytcngfjmfgeckmaa
namespace Go.Proofs.Ytcngfjmfgeckmaa
open Go Go.ChangeShapes Go.WideShapes Go.ChangeAt Go.RowKit Go.Deep
theorem ownKnob_2 : ownKnob Try.prog.godebug = none := by kernel_rfl
theorem laidOut_2 : laidOutB Try.prog = true := by kernel_rfl
theorem i64_of_wf {a : Int} (h : (Lit.int .i64 a).wf = true) : I64 a := by
  have h1 : IntKind.i64.min = -9223372036854775808 := by rfl
  have h2 : IntKind.i64.max = 9223372036854775807 := by rfl
  simp only [Lit.wf, h1, h2, Bool.and_eq_true, decide_eq_true_eq] at h
  unfold I64
  omega
section
variable {H : Type} {enc : TypeId × Value → H} {W : World} {base : Nat} {spare : Nat → Bool} {held : Bool}
def boolF (t : TypeId) : Fld := ⟨t, 1, fun e => ∃ a, e = .bool a⟩
theorem opnQ_bool {P : Program} {t : TypeId} (ht : P.underlying t = some .bool) (hc : P.cellsOf t = 1) : OpnQ enc P W base spare held (boolF t) := ⟨hc, opn_mono (opn_bool ht) fun _ a h => ⟨(), a, h⟩⟩
theorem opn_78 : Opn enc Try.prog W base spare held 78 8 RecR := by
  refine opn_struct [intF 2 .i64, intF 2 .i64, intF 2 .i64, boolF 4, intF 2 .i64, boolF 4, intF 2 .i64, intF 2 .i64] Try.underlying78 rfl (by kernel_rfl) (fun f hf => ?_) (fun us hus => ?_)
  · simp only [List.mem_cons, List.not_mem_nil, or_false] at hf
    rcases hf with rfl | rfl | rfl | rfl | rfl | rfl | rfl | rfl
    · exact opnQ_int Try.underlying2 (by kernel_rfl)
    · exact opnQ_int Try.underlying2 (by kernel_rfl)
    · exact opnQ_int Try.underlying2 (by kernel_rfl)
    · exact opnQ_bool Try.underlying4 (by kernel_rfl)
    · exact opnQ_int Try.underlying2 (by kernel_rfl)
    · exact opnQ_bool Try.underlying4 (by kernel_rfl)
    · exact opnQ_int Try.underlying2 (by kernel_rfl)
    · exact opnQ_int Try.underlying2 (by kernel_rfl)
  · cases hus with
    | cons h1 t1 => cases t1 with
      | cons h2 t2 => cases t2 with
        | cons h3 t3 => cases t3 with
          | cons h4 t4 => cases t4 with
            | cons h5 t5 => cases t5 with
              | cons h6 t6 => cases t6 with
                | cons h7 t7 => cases t7 with
                  | cons h8 t8 =>
                    cases t8
                    obtain ⟨⟨a1, rfl, w1⟩, _⟩ := h1
                    obtain ⟨⟨a2, rfl, w2⟩, _⟩ := h2
                    obtain ⟨⟨a3, rfl, w3⟩, _⟩ := h3
                    obtain ⟨⟨a4, rfl⟩, _⟩ := h4
                    obtain ⟨⟨a5, rfl, w5⟩, _⟩ := h5
                    obtain ⟨⟨a6, rfl⟩, _⟩ := h6
                    obtain ⟨⟨a7, rfl, w7⟩, _⟩ := h7
                    obtain ⟨⟨a8, rfl, w8⟩, _⟩ := h8
                    exact ⟨⟨a1, a2, a3, a4, a5, a6, a7, a8⟩, rfl, i64_of_wf w1, i64_of_wf w2, i64_of_wf w3, i64_of_wf w5, i64_of_wf w7, i64_of_wf w8⟩
theorem opn_33 : Opn enc Try.prog W base spare held 33 1 RecSR := opn_slice Try.underlying33 (by kernel_rfl) (by omega) opn_78 tyRec_78.lt
end
end Go.Proofs.Ytcngfjmfgeckmaa
