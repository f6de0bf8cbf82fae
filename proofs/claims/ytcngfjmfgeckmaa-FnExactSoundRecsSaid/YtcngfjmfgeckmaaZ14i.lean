import Derived.Test.YtcngfjmfgeckmaaZ14h
set_option linter.unusedSimpArgs false
set_option linter.unusedVariables false
set_option linter.unusedSectionVars false
namespace Go.Proofs.Ytcngfjmfgeckmaa
open Go
section
variable {fu : Nat}
theorem m_g_ContainsFunc_Rec__i_soundNext_1_eq {l : List RecD} {r : RecD} (hl : l.length < 9223372036854775807) (hfu : l.length < fu) : m_g_ContainsFunc_Rec__i_soundNext_1 fu l r = some (l.any fun a => decide (a.txn = r.txn)) :=
  search_any (f := fun a => m_i_soundNext_1 fu a r) (fun a _ => rfl) hl hfu
theorem m_g_Contains_int64_eq {l : List Int} {v : Int} (hl : l.length < 9223372036854775807) (hfu : l.length < fu) : m_g_Contains_int64 fu l v = some (l.any fun a => decide (v = a)) :=
  search_any (f := fun a => some (decide (v = a))) (fun a _ => rfl) hl hfu
theorem m_i_kindsOf_1_eq {a : RecD} {t : Int} {ks : List Int} (hl : ks.length < 9223372036854775807) (hfu : ks.length < fu) : m_i_kindsOf_1 fu a t ks = some (decide (a.txn = t) && ks.any fun k => decide (a.kind = k)) := by
  unfold m_i_kindsOf_1 m_i_kindsOf_1_a1
  rw [m_g_Contains_int64_eq hl hfu]
  cases decide (a.txn = t) <;> rfl
theorem m_i_kindsOf_eq {l : List RecD} {t : Int} {ks : List Int} (hl : l.length < 9223372036854775807) (hfu : l.length < fu) (hl2 : ks.length < 9223372036854775807) (hfu2 : ks.length < fu) :
    m_i_kindsOf fu l t ks = some (l.any fun a => decide (a.txn = t) && ks.any fun k => decide (a.kind = k)) := by
  unfold m_i_kindsOf
  rw [show m_g_ContainsFunc_Rec__i_kindsOf_1 fu l t ks = _ from search_any (f := fun a => m_i_kindsOf_1 fu a t ks) (fun a _ => m_i_kindsOf_1_eq hl2 hfu2) hl hfu]
  rfl
theorem m_i_chain_1_eq {a : RecD} {t m : Int} : m_i_chain_1 fu a t m = some (undoes t m a) := by
  unfold m_i_chain_1 m_i_chain_1_a1 undoes
  cases decide (a.kind = 5) <;> cases decide (a.txn = t) <;> rfl
theorem m_g_ContainsFunc_Rec__i_chain_1_eq {l : List RecD} {t m : Int} (hl : l.length < 9223372036854775807) (hfu : l.length < fu) : m_g_ContainsFunc_Rec__i_chain_1 fu l t m = some (l.any (undoes t m)) :=
  search_any (f := fun a => m_i_chain_1 fu a t m) (fun a _ => m_i_chain_1_eq) hl hfu
def kinds (l : List RecD) (t : Int) (ks : List Int) : Bool := l.any fun a => decide (a.txn = t) && ks.any fun k => decide (a.kind = k)
def heldP (l : List RecD) (r : RecD) : Bool := l.any fun a => ((decide (a.kind = 2) && decide (a.key = r.key)) && decide (a.txn ≠ r.txn)) && !kinds l a.txn [3, 4]
theorem m_i_heldBy_1_eq {a r : RecD} {l : List RecD} (hl : l.length < 9223372036854775807) (hfu : l.length < fu) (h2 : 2 < fu) : m_i_heldBy_1 fu a r l = some (((decide (a.kind = 2) && decide (a.key = r.key)) && decide (a.txn ≠ r.txn)) && !kinds l a.txn [3, 4]) := by
  unfold m_i_heldBy_1 m_i_heldBy_1_a1
  rw [m_i_kindsOf_eq (ks := [3, 4]) hl hfu (by decide) h2]
  cases decide (a.kind = 2) <;> cases decide (a.key = r.key) <;> cases decide (a.txn ≠ r.txn) <;> rfl
theorem m_i_heldBy_eq {l : List RecD} {r : RecD} (hl : l.length < 9223372036854775807) (hfu : l.length < fu) (h2 : 2 < fu) : m_i_heldBy fu l r = some (heldP l r) := by
  unfold m_i_heldBy
  rw [show m_g_ContainsFunc_Rec__i_heldBy_1 fu l r l = _ from search_any (f := fun a => m_i_heldBy_1 fu a r l) (fun a _ => m_i_heldBy_1_eq hl hfu h2) hl hfu]
  rfl
theorem snocL_eq {l : List Int} {a : Int} (h : l.length ≤ 1000000) : snocL 8 l a = some (l ++ [a]) := by
  unfold snocL roomL
  rw [if_pos (by simp; omega)]
theorem chain_iter {l : List RecD} {t : Int} (hl : l.length ≤ 1000000) (hfu : l.length < fu) :
    ∀ (j k : Nat), j ≤ l.length → j < k → iterN (fun (s : (List Int) × Int) => m_i_chain_a4 fu l t s.1 s.2) k (chainG t j (l.drop j), (j : Int) - 1) = some (Sum.inl (chainG t 0 l)) := by
  intro j
  induction j with
  | zero =>
    intro k _ hk
    obtain ⟨k, rfl⟩ : ∃ k', k = k' + 1 := ⟨k - 1, by omega⟩
    rfl
  | succ j ih =>
    intro k hj hk
    obtain ⟨k, rfl⟩ : ∃ k', k = k' + 1 := ⟨k - 1, by omega⟩
    have hjl : j < l.length := hj
    have hr := List.getElem?_eq_getElem hjl
    have hstep := chainG_step (txn := t) hr
    have hlen := chainG_len t (l.drop (j + 1)) (j + 1)
    rw [List.length_drop] at hlen
    have e0 : ((j + 1 : Nat) : Int) - 1 = (j : Int) := by omega
    have e1 : IntKind.i64.wrap ((j : Int) + 1) = ((j + 1 : Nat) : Int) := wrap_succ (by omega)
    have e2 : IntKind.i64.wrap ((j : Int) - 1) = (j : Int) - 1 := wrap_in (by omega) (by omega)
    have es : sliceL l ((j + 1 : Nat) : Int) (l.length : Int) = some (l.drop (j + 1)) := by
      unfold sliceL
      rw [if_pos (by simp; omega)]
      simp only [Int.toNat_natCast]
      rw [List.take_of_length_le (by rw [List.length_drop]; exact Nat.le_refl _)]
    have ea := m_g_ContainsFunc_Rec__i_chain_1_eq (fu := fu) (l := l.drop (j + 1)) (t := t) (m := ((j : Int) + 1)) (by rw [List.length_drop]; omega) (by rw [List.length_drop]; omega)
    have goal : m_i_chain_a4 fu l t (chainG t (j + 1) (l.drop (j + 1))) (j : Int) = some (Sum.inl (chainG t j (l.drop j), (j : Int) - 1)) := by
      unfold m_i_chain_a4 m_i_chain_a3 m_i_chain_a2
      rw [if_pos (decide_eq_true (Int.natCast_nonneg _)), e1, e2, es, Option.bind_some, show (((j + 1 : Nat) : Int)) = (j : Int) + 1 from rfl, ea, Option.bind_some, atL_nat, hr, Option.bind_some, hstep, snocL_eq (by omega), Option.bind_some]
      cases decide (l[j].kind = 2) <;> cases decide (l[j].txn = t) <;> cases (l.drop (j + 1)).any (undoes t ((j : Int) + 1)) <;> simp
    unfold iterN
    rw [e0]
    simp only [goal]
    exact ih k (by omega) (by omega)
theorem m_i_chain_eq {l : List RecD} {t : Int} (hl : l.length ≤ 1000000) (hfu : l.length < fu) : m_i_chain fu l t = some (chainG t 0 l) := by
  unfold m_i_chain m_i_chain_a1
  have h := chain_iter (t := t) hl hfu l.length fu (Nat.le_refl _) hfu
  rw [List.drop_length] at h
  have e : IntKind.i64.wrap ((l.length : Int) - 1) = (l.length : Int) - 1 := wrap_in (by omega) (by omega)
  rw [e]
  rw [show (([] : List Int), (l.length : Int) - 1) = (chainG t l.length ([] : List RecD), (l.length : Int) - 1) from rfl, h]
  rfl
end
end Go.Proofs.Ytcngfjmfgeckmaa
namespace Go.Proofs.Ytcngfjmfgeckmaa
open Go
section
variable {fu : Nat}
def rise (l : List CellD) : Prop := l.Pairwise fun a b => a.key < b.key
def rank : List CellD → Int → Nat
  | [], _ => 0
  | c :: l, k => if c.key < k then rank l k + 1 else 0
theorem rank_le (k : Int) : ∀ l : List CellD, rank l k ≤ l.length
  | [] => Nat.le_refl _
  | c :: l => by
    unfold rank
    split
    · exact Nat.succ_le_succ (rank_le k l)
    · exact Nat.zero_le _
theorem rank_lt {k : Int} : ∀ {l : List CellD}, rise l → ∀ (i : Nat) (c : CellD), l[i]? = some c → (c.key < k ↔ i < rank l k)
  | [], _, i, c, h => by simp at h
  | d :: l, hr, i, c, h => by
    unfold rise at hr
    rw [List.pairwise_cons] at hr
    unfold rank
    cases i with
    | zero =>
      obtain rfl := Option.some.inj h
      split <;> simp_all
    | succ i =>
      have h' : l[i]? = some c := h
      have hm := List.mem_of_getElem? h'
      have := hr.1 c hm
      split
      · rw [rank_lt hr.2 i c h']; omega
      · constructor
        · intro hc; omega
        · intro hc; omega
theorem mid_eq {i j : Nat} (h : i + j < 4611686018427387904) : IntKind.i64.wrap (Int.fdiv (IntKind.u64.wrap (IntKind.i64.wrap ((i : Int) + (j : Int)))) 2) = (((i + j) / 2 : Nat) : Int) := by
  have e1 : IntKind.i64.wrap ((i : Int) + (j : Int)) = ((i + j : Nat) : Int) := by rw [wrap_in (by omega) (by omega)]; rfl
  have e2 : IntKind.u64.wrap ((i + j : Nat) : Int) = ((i + j : Nat) : Int) := by
    simp [IntKind.wrap, IntKind.bits, IntKind.signed]; omega
  have e3 : Int.fdiv ((i + j : Nat) : Int) 2 = (((i + j) / 2 : Nat) : Int) := by
    rw [Int.fdiv_eq_ediv_of_nonneg _ (by decide)]; rfl
  rw [e1, e2, e3, wrap_in (by omega) (by omega)]
def keysOk (l : List CellD) : Prop := ∀ c, c ∈ l → 0 ≤ c.key ∧ c.key ≤ 1000000
theorem cmp_eq {a k : Int} (h1 : 0 ≤ a ∧ a ≤ 1000000) (h2 : 0 ≤ k ∧ k ≤ 1000000) : IntKind.i64.wrap (a - k) = a - k := wrap_in (by omega) (by omega)
theorem bs_iter {l : List CellD} {k : Int} (hr : rise l) (hk : keysOk l) (h2 : 0 ≤ k ∧ k ≤ 1000000) (hl : l.length ≤ 1000000) :
    ∀ (m i j : Nat), i ≤ rank l k → rank l k ≤ j → j ≤ l.length → j - i < m → iterN (fun (s : Int × Int) => m_g_BinarySearchFunc_Cell_int64__i_place_1_a3 fu l k s.1 s.2) m ((i : Int), (j : Int)) = some (Sum.inl ((rank l k : Nat) : Int)) := by
  intro m
  induction m with
  | zero => intro i j _ _ _ h; omega
  | succ m ih =>
    intro i j hi hj hjl hm
    unfold iterN
    by_cases hij : i < j
    · have hh : (i + j) / 2 < l.length := by omega
      have hge := List.getElem?_eq_getElem hh
      have hc := cmp_eq (hk _ (List.getElem_mem hh)) h2
      have hrk := rank_lt hr (k := k) _ _ hge
      by_cases hlt : (i + j) / 2 < rank l k
      · have hlt2 := hrk.2 hlt
        have step : m_g_BinarySearchFunc_Cell_int64__i_place_1_a3 fu l k (i : Int) (j : Int) = some (Sum.inl ((((i + j) / 2 + 1 : Nat) : Int), (j : Int))) := by
          unfold m_g_BinarySearchFunc_Cell_int64__i_place_1_a3 m_i_place_1
          rw [if_pos (decide_eq_true (Int.ofNat_lt.2 hij)), mid_eq (by omega), atL_nat, hge, Option.bind_some, Option.bind_some, hc, if_pos (decide_eq_true (by omega)), wrap_succ (by omega)]
        simp only [step]
        exact ih _ _ (by omega) hj hjl (by omega)
      · have hlt2 : ¬ l[(i + j) / 2].key < k := fun hq => hlt (hrk.1 hq)
        have step : m_g_BinarySearchFunc_Cell_int64__i_place_1_a3 fu l k (i : Int) (j : Int) = some (Sum.inl ((i : Int), (((i + j) / 2 : Nat) : Int))) := by
          unfold m_g_BinarySearchFunc_Cell_int64__i_place_1_a3 m_i_place_1
          rw [if_pos (decide_eq_true (Int.ofNat_lt.2 hij)), mid_eq (by omega), atL_nat, hge, Option.bind_some, Option.bind_some, hc, if_neg (by simp; omega)]
        simp only [step]
        exact ih _ _ hi (by omega) (by omega) (by omega)
    · have e : i = rank l k := by omega
      have step : m_g_BinarySearchFunc_Cell_int64__i_place_1_a3 fu l k (i : Int) (j : Int) = some (Sum.inr (Sum.inl (i : Int))) := by
        unfold m_g_BinarySearchFunc_Cell_int64__i_place_1_a3
        rw [if_neg (by simp; omega)]
      simp only [step]
      rw [e]
def hasKey (l : List CellD) (k : Int) : Bool := match l[rank l k]? with | some c => decide (c.key = k) | none => false
theorem m_i_place_eq {l : List CellD} {k : Int} (hr : rise l) (hk : keysOk l) (h2 : 0 ≤ k ∧ k ≤ 1000000) (hl : l.length ≤ 1000000) (hfu : l.length < fu) : m_i_place fu l k = some (((rank l k : Nat) : Int), hasKey l k) := by
  have hle := rank_le k l
  unfold m_i_place m_g_BinarySearchFunc_Cell_int64__i_place_1 m_g_BinarySearchFunc_Cell_int64__i_place_1_a2 m_g_BinarySearchFunc_Cell_int64__i_place_1_a1 m_i_place_1
  have h := bs_iter (fu := fu) hr hk h2 hl fu 0 l.length (Nat.zero_le _) hle (Nat.le_refl _) (by omega)
  rw [show (((0 : Nat) : Int), (l.length : Int)) = (0, (l.length : Int)) from rfl] at h
  rw [h, Option.bind_some, Sum.elim_inl]
  unfold hasKey
  by_cases hlt : rank l k < l.length
  · have hge := List.getElem?_eq_getElem hlt
    rw [if_pos (decide_eq_true (Int.ofNat_lt.2 hlt)), atL_nat, hge, Option.bind_some, Option.bind_some, cmp_eq (hk _ (List.getElem_mem hlt)) h2]
    show some (((rank l k : Nat) : Int), decide (l[rank l k].key - k = 0)) = some (((rank l k : Nat) : Int), decide (l[rank l k].key = k))
    have : decide (l[rank l k].key - k = 0) = decide (l[rank l k].key = k) := decide_eq_decide.2 (by omega)
    rw [this]
  · rw [if_neg (by simp; omega), List.getElem?_eq_none (by omega)]
    rfl
def valC (l : List CellD) (k : Int) : IntResultD := match l[rank l k]? with | some c => if c.key = k then ⟨0, c.value⟩ else ⟨4, 0⟩ | none => ⟨4, 0⟩
def withC (l : List CellD) (k w : Int) : List CellD := if hasKey l k = true then l.set (rank l k) ⟨k, w⟩ else l.take (rank l k) ++ [⟨k, w⟩] ++ l.drop (rank l k)
def withoutC (l : List CellD) (k : Int) : List CellD := if hasKey l k = true then l.take (rank l k) ++ l.drop (rank l k + 1) else l
theorem hasKey_get {l : List CellD} {k : Int} (h : hasKey l k = true) : ∃ c, l[rank l k]? = some c ∧ c.key = k := by
  unfold hasKey at h
  split at h
  · rename_i c hc; exact ⟨c, hc, of_decide_eq_true h⟩
  · cases h
theorem m_i_valueIn_eq {l : List CellD} {k : Int} (hr : rise l) (hk : keysOk l) (h2 : 0 ≤ k ∧ k ≤ 1000000) (hl : l.length ≤ 1000000) (hfu : l.length < fu) : m_i_valueIn fu l k = some (valC l k) := by
  unfold m_i_valueIn
  rw [m_i_place_eq hr hk h2 hl hfu, Option.bind_some]
  cases hh : hasKey l k with
  | true =>
    obtain ⟨c, h1, h3⟩ := hasKey_get hh
    show Option.bind (atL l (rank l k : Nat)) _ = _
    rw [atL_nat, h1, Option.bind_some]
    unfold valC
    rw [h1]
    simp [h3]
  | false =>
    show some _ = some _
    unfold valC
    unfold hasKey at hh
    split at hh
    · rename_i c hc; rw [if_neg (of_decide_eq_false hh)]
    · rfl
theorem appL_eq {l : List CellD} (hl : l.length ≤ 1000000) : appL 16 ([] : List CellD) l = some l := by
  unfold appL roomL
  rw [if_pos (by simp; omega)]
  rfl
theorem m_i_withCell_eq {l : List CellD} {k w : Int} (hr : rise l) (hk : keysOk l) (h2 : 0 ≤ k ∧ k ≤ 1000000) (hl : l.length ≤ 1000000) (hfu : l.length < fu) : m_i_withCell fu l k w = some (withC l k w) := by
  unfold m_i_withCell m_i_withCell_a2 m_i_withCell_a1
  rw [appL_eq hl, Option.bind_some, m_i_place_eq hr hk h2 hl hfu, Option.bind_some]
  have hle := rank_le k l
  unfold withC
  cases hh : hasKey l k with
  | true =>
    obtain ⟨c, h1, h3⟩ := hasKey_get hh
    show Option.bind (atL l (rank l k : Nat)) _ = _
    rw [atL_nat, h1, Option.bind_some, h3]
    rfl
  | false =>
    show Option.bind (insL 16 l (rank l k : Nat) ⟨k, w⟩) _ = _
    unfold insL
    rw [if_pos ⟨Int.natCast_nonneg _, by omega, by omega, by omega⟩]
    rfl
theorem m_i_without_eq {l : List CellD} {k : Int} (hr : rise l) (hk : keysOk l) (h2 : 0 ≤ k ∧ k ≤ 1000000) (hl : l.length ≤ 1000000) (hfu : l.length < fu) : m_i_without fu l k = some (withoutC l k) := by
  unfold m_i_without m_i_without_a2 m_i_without_a1
  rw [appL_eq hl, Option.bind_some, m_i_place_eq hr hk h2 hl hfu, Option.bind_some]
  unfold withoutC
  cases hh : hasKey l k with
  | true =>
    obtain ⟨c, h1, h3⟩ := hasKey_get hh
    have hlt := (List.getElem?_eq_some_iff.1 h1).1
    show Option.bind (delL 16 l (rank l k : Nat) (IntKind.i64.wrap ((rank l k : Nat) + 1))) _ = _
    rw [wrap_succ (by omega)]
    unfold delL
    rw [if_pos ⟨Int.natCast_nonneg _, by omega, by omega, by omega, by omega⟩]
    rfl
  | false => rfl
end
end Go.Proofs.Ytcngfjmfgeckmaa
section
namespace Go.Proofs.Ytcngfjmfgeckmaa
open Go
set_option linter.unusedSimpArgs false
set_option linter.unusedVariables false
set_option maxRecDepth 20000
attribute [local irreducible] IntKind.wrap bitA
section
variable {h : Heap} {n : Nat} {K : AV → Heap → Nat → Prop}
def m_s_l1Has_a1 (fu : Nat) : Option Bool :=
  some false
def m_s_l1Has_a2 (fu : Nat) (v0 : List Int) (v1 : Int) (v234 : Int) : Option (Int ⊕ (Unit ⊕ Option Bool)) :=
  (if (decide (v234 < (v0.length : Int))) = true then (Option.bind (atL v0 v234) fun a272 => (if (decide (a272 = v1)) = true then some (Sum.inr (Sum.inr (some true))) else some (Sum.inl (IntKind.i64.wrap (v234 + 1))))) else some (Sum.inr (Sum.inl ())))
def m_s_l1Has (fu : Nat) (v0 : List Int) (v1 : Int) : Option Bool :=
  (Option.bind (iterN (fun (s : Int) => m_s_l1Has_a2 fu v0 v1 s) fu 0) fun q237 => Sum.elim (fun (b : Unit) => (m_s_l1Has_a1 fu)) (fun x => x) q237)
set_option maxHeartbeats 2000000 in
theorem w_s_l1Has {x0 : AV} {v0 : List Int} (h0 : (SlH h n 1 Int64R) x0 v0) {v1 : Int} (i1 : I64 v1) {fu : Nat} {r : Bool} (hm : m_s_l1Has fu v0 v1 = some r) (hk : ∀ y, BoolR y r → K y h n) : CA Try.prog 66 [x0, (.int .i64 v1)] h n K := by
 refine CA.enterQ (N := 18) (rs := [.tmp 4]) hT Try.call66 Try.func66 rfl rfl (of_decide_eq_true rfl) rfl fun hlt => ?_
 unfold m_s_l1Has at hm
 obtain ⟨es11, q12, a13, l14, b15, c16, g17⟩ := slH_open h0
 refine WQ.sr hT rfl fun K18 hK18 => ?_
 simp only [go_sem, ↓reduceIte, reduceCtorEq, Nat.reduceEqDiff, Nat.reduceLT, Nat.reduceLeDiff, Nat.reduceAdd, Nat.reduceMul, Int.reduceLE]
 refine kn hK18 ?_
 clear hK18 K18
 refine WQ.seq_k fun K19 hK19 => ?_
 have j145 : ∀ (E' : Env) (h' : Heap) (n' : Nat), Norm n h E' h' n' (envZ [] []) (hp h n []) n → (m_s_l1Has_a1 fu) = some r → K19 E' h' n' := by
  intro E147 H148 n149 N146 hm
  refine hK19 _ _ _ _ _ _ N146 ?_
  clear N146 hK19 K19
  unfold m_s_l1Has_a1 at hm
  refine WQ.sr hT rfl fun K150 hK150 => ?_
  simp only [go_sem, ↓reduceIte, reduceCtorEq, Nat.reduceEqDiff, Nat.reduceLT, Nat.reduceLeDiff, Nat.reduceAdd, Nat.reduceMul, Int.reduceLE]
  refine kn hK150 ?_
  clear hK150 K150
  refine retN (t := 4) (js := []) (u := (.bool false)) (v := (.bool false)) hlt ?_ (.keep _ (.bool _)) (.bool _) rfl ?_
  kernel_rfl
  exact hkr hk (m := false) hm rfl
 clear hK19
 refine WQ.sr hT rfl fun K151 hK151 => ?_
 simp only [go_sem, ↓reduceIte, reduceCtorEq, Nat.reduceEqDiff, Nat.reduceLT, Nat.reduceLeDiff, Nat.reduceAdd, Nat.reduceMul, Int.reduceLE]
 refine kn hK151 ?_
 clear hK151 K151
 refine WQ.block ?_
 obtain ⟨q237, hq238, hm⟩ := obs hm
 refine WQ.norm ?_ (WQ.iter (step := (fun (s : Int) => m_s_l1Has_a2 fu v0 v1 s)) (fun (s : Int) E' h' n' => I64 s ∧ (envZ [0, 1, 5] [x0, (.int .i64 v1), (.int .i64 s)]) = E' ∧ (hp h n []) = h' ∧ n = n') hq238 ⟨(i64c (a := 0) rfl), rfl, rfl, rfl⟩ ?_)
 refine Norm.mkL (js := []) (m := 0) [0, 1, 5] [x0, (.int .i64 v1), (.int .i64 0)] (of_decide_eq_true rfl) ?_ (RnL.cons (.keep _ (slH_lt h0)) (RnL.cons (.keep _ (.int _ _)) (RnL.cons (.keep _ (.int _ _)) RnL.nil))) RowsR.nil rfl
 kernel_rfl
 rintro v234 E' h' n' o236 ⟨i235, rfl, rfl, rfl⟩ ho240 hf239
 replace i235 : I64 v234 := i235
 replace ho240 : m_s_l1Has_a2 fu v0 v1 v234 = some o236 := ho240
 unfold m_s_l1Has_a2 at ho240
 show WQ Try.prog _ n h _ _ (envZ [0, 1, 5] [x0, (.int .i64 v1), (.int .i64 v234)]) (hp h n []) n
 refine WQ.seq_k fun K241 hK241 => ?_
 refine WQ.sr hT rfl fun K244 hK244 => ?_
 simp only [go_sem, ↓reduceIte, reduceCtorEq, Nat.reduceEqDiff, Nat.reduceLT, Nat.reduceLeDiff, Nat.reduceAdd, Nat.reduceMul, Int.reduceLE, rdSl_hp q12 (slH_lt h0), l14, c16, g17]
 refine kn hK244 ?_
 clear hK244 K244
 refine WQ.cond (t := decide (v234 < (v0.length : Int))) ?_ (fun z245 => ?_) (fun z245 => ?_)
 kernel_rfl
 replace ho240 := ifT z245 ho240
 refine WQ.skip ?_
 simp only [go_sem, ↓reduceIte, reduceCtorEq, Nat.reduceEqDiff, Nat.reduceLT, Nat.reduceLeDiff, Nat.reduceAdd, Nat.reduceMul, Int.reduceLE]
 refine kn hK241 ?_
 clear hK241 K241
 refine WQ.seq_k fun K246 hK246 => ?_
 refine WQ.block ?_
 refine WQ.seq_k fun K264 hK264 => ?_
 obtain ⟨a272, q273, ho240⟩ := obs ho240
 obtain ⟨p274, p275, e276, p277, h278⟩ := at_ok q273 a13
 obtain ⟨rfl, ia272⟩ := h278
 refine WQ.region hT rfl ?_
 simp only [go_sem, ↓reduceIte, reduceCtorEq, Nat.reduceEqDiff, Nat.reduceLT, Nat.reduceLeDiff, Nat.reduceAdd, Nat.reduceMul, Int.reduceLE, rdSl_hp q12 (slH_lt h0), l14, c16, g17, p274, p275, p277]
 refine kn hK264 ?_
 clear hK264 K264
 refine WQ.cond (t := decide (a272 = v1)) ?_ (fun z279 => ?_) (fun z279 => ?_)
 kernel_rfl
 replace ho240 := ifT z279 ho240
 refine WQ.sr hT rfl fun K280 hK280 => ?_
 simp only [go_sem, ↓reduceIte, reduceCtorEq, Nat.reduceEqDiff, Nat.reduceLT, Nat.reduceLeDiff, Nat.reduceAdd, Nat.reduceMul, Int.reduceLE]
 refine kn hK280 ?_
 clear hK280 K280
 have e281 := hf239 _ (Option.some.inj ho240).symm
 rw [← e281] at hm
 refine retN (t := 4) (js := []) (u := (.bool true)) (v := (.bool true)) hlt ?_ (.keep _ (.bool _)) (.bool _) rfl ?_
 kernel_rfl
 exact hkr hk (m := true) hm rfl
 replace ho240 := ifF z279 ho240
 refine WQ.skip ?_
 simp only [go_sem, ↓reduceIte, reduceCtorEq, Nat.reduceEqDiff, Nat.reduceLT, Nat.reduceLeDiff, Nat.reduceAdd, Nat.reduceMul, Int.reduceLE]
 refine kn hK246 ?_
 clear hK246 K246
 refine WQ.region hT rfl ?_
 simp only [go_sem, ↓reduceIte, reduceCtorEq, Nat.reduceEqDiff, Nat.reduceLT, Nat.reduceLeDiff, Nat.reduceAdd, Nat.reduceMul, Int.reduceLE]
 refine ⟨_, _, _, _, (Option.some.inj ho240).symm, ?_, (rng_wrap64 _), rfl, rfl, rfl⟩
 refine Norm.mkL (js := []) (m := 0) [0, 1, 5] [x0, (.int .i64 v1), (.int .i64 (IntKind.i64.wrap (v234 + 1)))] (of_decide_eq_true rfl) ?_ (RnL.cons (.keep _ (slH_lt h0)) (RnL.cons (.keep _ (.int _ _)) (RnL.cons (.keep _ (.int _ _)) RnL.nil))) RowsR.nil rfl
 kernel_rfl
 replace ho240 := ifF z245 ho240
 refine WQ.exit ?_
 simp only [go_sem, ↓reduceIte, reduceCtorEq, Nat.reduceEqDiff, Nat.reduceLT, Nat.reduceLeDiff, Nat.reduceAdd, Nat.reduceMul, Int.reduceLE]
 have e282 := hf239 _ (Option.some.inj ho240).symm
 rw [← e282] at hm
 refine j145 _ _ _  ?_ hm
 refine Norm.mkL (js := []) (m := 0) [] [] (of_decide_eq_true rfl) ?_ RnL.nil RowsR.nil rfl
 kernel_rfl
def m_s_l13Known_a1 (fu : Nat) (v161 : Bool) : Option Int :=
  (if v161 = true then some 10 else some 0)
def m_s_l13Known (fu : Nat) (v0 : SimD) (v1 : RecD) : Option Int :=
  (if (decide (v1.kind = 6)) = true then some 0 else (if (decide (v1.kind = 1)) = true then (Option.bind (m_s_l1Has fu v0.begun v1.txn) fun v117 => (if v117 = true then some 10 else some 0)) else (Option.bind (m_s_l1Has fu v0.begun v1.txn) fun v171 => (if (!v171) = true then (m_s_l13Known_a1 fu true) else (Option.bind (m_s_l1Has fu v0.ended v1.txn) fun v176 => (m_s_l13Known_a1 fu v176))))))
set_option maxHeartbeats 2000000 in
theorem w_s_l13Known {x0 : AV} {v0 : SimD} (h0 : (SimRH h n) x0 v0) {id0 : Nat} (hid0 : id0 < n) (hb0 : h id0 = some [x0]) {x1 : AV} {v1 : RecD} (h1 : RecR x1 v1) {fu : Nat} {r : Int} (hm : m_s_l13Known fu v0 v1 = some r) (hk : ∀ y, Int64R y r → K y h n) : CA Try.prog 93 [(.ep 5 (.sl 5 id0 0 1 1 true) 0 0), x1] h n K := by
 refine CA.enterQ (N := 35) (rs := [.tmp 4]) hT Try.call93 Try.func93 rfl rfl (of_decide_eq_true rfl) rfl fun hlt => ?_
 unfold m_s_l13Known at hm
 have gh0 := h0
 obtain ⟨x11, x13, x15, x17, x19, rfl, h12, h14, h16, h18, h20⟩ := h0
 obtain ⟨es21, q22, a23, l24, b25, c26, g27⟩ := slH_open h12
 obtain ⟨es28, q29, a30, l31, b32, c33, g34⟩ := slH_open h14
 obtain ⟨es35, q36, a37, l38, b39, c40, g41⟩ := slH_open h16
 obtain ⟨es42, q43, a44, l45, b46, c47, g48⟩ := slH_open h18
 obtain ⟨es49, q50, a51, l52, b53, c54, g55⟩ := slH_open h20
 have gh1 := h1
 obtain ⟨rfl, i56, i57, i58, i59, i60, i61⟩ := h1
 refine WQ.sr hT rfl fun K62 hK62 => ?_
 simp only [go_sem, ↓reduceIte, reduceCtorEq, Nat.reduceEqDiff, Nat.reduceLT, Nat.reduceLeDiff, Nat.reduceAdd, Nat.reduceMul, Int.reduceLE]
 refine kn hK62 ?_
 clear hK62 K62
 refine WQ.seq_k fun K63 hK63 => ?_
 refine WQ.sr hT rfl fun K67 hK67 => ?_
 simp only [go_sem, ↓reduceIte, reduceCtorEq, Nat.reduceEqDiff, Nat.reduceLT, Nat.reduceLeDiff, Nat.reduceAdd, Nat.reduceMul, Int.reduceLE]
 refine kn hK67 ?_
 clear hK67 K67
 refine WQ.cond (t := decide (v1.kind = 6)) ?_ (fun z68 => ?_) (fun z68 => ?_)
 kernel_rfl
 replace hm := ifT z68 hm
 refine WQ.sr hT rfl fun K69 hK69 => ?_
 simp only [go_sem, ↓reduceIte, reduceCtorEq, Nat.reduceEqDiff, Nat.reduceLT, Nat.reduceLeDiff, Nat.reduceAdd, Nat.reduceMul, Int.reduceLE]
 refine kn hK69 ?_
 clear hK69 K69
 refine retN (t := 4) (js := []) (u := (.int .i64 0)) (v := (.int .i64 0)) hlt ?_ (.keep _ (.int _ _)) (.int _ _) rfl ?_
 kernel_rfl
 exact hkr hk (m := 0) hm (int64R (i64c (a := 0) rfl))
 replace hm := ifF z68 hm
 refine WQ.skip ?_
 simp only [go_sem, ↓reduceIte, reduceCtorEq, Nat.reduceEqDiff, Nat.reduceLT, Nat.reduceLeDiff, Nat.reduceAdd, Nat.reduceMul, Int.reduceLE]
 refine kn hK63 ?_
 clear hK63 K63
 refine WQ.seq_k fun K70 hK70 => ?_
 refine WQ.sr hT rfl fun K97 hK97 => ?_
 simp only [go_sem, ↓reduceIte, reduceCtorEq, Nat.reduceEqDiff, Nat.reduceLT, Nat.reduceLeDiff, Nat.reduceAdd, Nat.reduceMul, Int.reduceLE]
 refine kn hK97 ?_
 clear hK97 K97
 refine WQ.cond (t := decide (v1.kind = 1)) ?_ (fun z98 => ?_) (fun z98 => ?_)
 kernel_rfl
 replace hm := ifT z98 hm
 refine WQ.seq_k fun K99 hK99 => ?_
 refine WQ.seq_k fun K111 hK111 => ?_
 obtain ⟨v117, q116, hm⟩ := obs hm
 refine WQ.drawL hT hM [(0, 0), (1, 0), (2, 0), (3, 1), (4, 0), (5, 1), (6, 2)] [] (hp h n [some [(.agg [(.int .i64 v1.kind), (.int .i64 v1.txn), (.int .i64 v1.key), (.bool v1.had), (.int .i64 v1.old), (.bool v1.has), (.int .i64 v1.new), (.int .i64 v1.back)])]]) ?_ rfl ?_ fun _ => ?_
 kernel_rfl
 simp only [go_sem]
 simp only [go_sem, ↓reduceIte, reduceCtorEq, Nat.reduceEqDiff, Nat.reduceLT, Nat.reduceLeDiff, Nat.reduceAdd, Nat.reduceMul, Int.reduceLE, hp_low hid0, hb0, rdSl_hp q22 (slH_lt h12), l24, c26, g27, rdSl_hp q29 (slH_lt h14), l31, c33, g34, rdSl_hp q36 (slH_lt h16), l38, c40, g41, rdSl_hp q43 (slH_lt h18), l45, c47, g48, rdSl_hp q50 (slH_lt h20), l52, c54, g55]
 refine w_s_l1Has (SlH.up h14 1) i57 q116 (fun y118 h119 => ?_)
 obtain rfl := h119
 unfold sealK; simp only [go_sem, ↓reduceIte, reduceCtorEq, Nat.reduceEqDiff, Nat.reduceLT, Nat.reduceLeDiff, Nat.reduceAdd, Nat.reduceMul, Int.reduceLE, hp_low hid0, hb0, rdSl_hp q22 (slH_lt h12), l24, c26, g27, rdSl_hp q29 (slH_lt h14), l31, c33, g34, rdSl_hp q36 (slH_lt h16), l38, c40, g41, rdSl_hp q43 (slH_lt h18), l45, c47, g48, rdSl_hp q50 (slH_lt h20), l52, c54, g55]
 refine kn hK111 ?_
 clear hK111 K111
 refine WQ.cond (t := v117) ?_ (fun z120 => ?_) (fun z120 => ?_)
 kernel_rfl
 replace hm := ifT z120 hm
 refine WQ.sr hT rfl fun K121 hK121 => ?_
 simp only [go_sem, ↓reduceIte, reduceCtorEq, Nat.reduceEqDiff, Nat.reduceLT, Nat.reduceLeDiff, Nat.reduceAdd, Nat.reduceMul, Int.reduceLE]
 refine kn hK121 ?_
 clear hK121 K121
 refine retN (t := 4) (js := []) (u := (.int .i64 10)) (v := (.int .i64 10)) hlt ?_ (.keep _ (.int _ _)) (.int _ _) rfl ?_
 kernel_rfl
 exact hkr hk (m := 10) hm (int64R (i64c (a := 10) rfl))
 replace hm := ifF z120 hm
 refine WQ.skip ?_
 simp only [go_sem, ↓reduceIte, reduceCtorEq, Nat.reduceEqDiff, Nat.reduceLT, Nat.reduceLeDiff, Nat.reduceAdd, Nat.reduceMul, Int.reduceLE]
 refine kn hK99 ?_
 clear hK99 K99
 refine WQ.sr hT rfl fun K122 hK122 => ?_
 simp only [go_sem, ↓reduceIte, reduceCtorEq, Nat.reduceEqDiff, Nat.reduceLT, Nat.reduceLeDiff, Nat.reduceAdd, Nat.reduceMul, Int.reduceLE]
 refine kn hK122 ?_
 clear hK122 K122
 refine retN (t := 4) (js := []) (u := (.int .i64 0)) (v := (.int .i64 0)) hlt ?_ (.keep _ (.int _ _)) (.int _ _) rfl ?_
 kernel_rfl
 exact hkr hk (m := 0) hm (int64R (i64c (a := 0) rfl))
 replace hm := ifF z98 hm
 refine WQ.skip ?_
 simp only [go_sem, ↓reduceIte, reduceCtorEq, Nat.reduceEqDiff, Nat.reduceLT, Nat.reduceLeDiff, Nat.reduceAdd, Nat.reduceMul, Int.reduceLE]
 refine kn hK70 ?_
 clear hK70 K70
 refine WQ.seq_k fun K123 hK123 => ?_
 refine WQ.seq_k fun K151 hK151 => ?_
 have j162 : ∀ (E' : Env) (h' : Heap) (n' : Nat) (v161 : Bool), Norm n h E' h' n' (envZ [34] [(.bool v161)]) (hp h n []) n → (m_s_l13Known_a1 fu v161) = some r → K151 E' h' n' := by
  intro E164 H165 n166 v161 N163 hm
  refine hK151 _ _ _ _ _ _ N163 ?_
  clear N163 hK151 K151
  unfold m_s_l13Known_a1 at hm
  refine WQ.cond (t := v161) ?_ (fun z167 => ?_) (fun z167 => ?_)
  kernel_rfl
  replace hm := ifT z167 hm
  refine WQ.sr hT rfl fun K168 hK168 => ?_
  simp only [go_sem, ↓reduceIte, reduceCtorEq, Nat.reduceEqDiff, Nat.reduceLT, Nat.reduceLeDiff, Nat.reduceAdd, Nat.reduceMul, Int.reduceLE]
  refine kn hK168 ?_
  clear hK168 K168
  refine retN (t := 4) (js := []) (u := (.int .i64 10)) (v := (.int .i64 10)) hlt ?_ (.keep _ (.int _ _)) (.int _ _) rfl ?_
  kernel_rfl
  exact hkr hk (m := 10) hm (int64R (i64c (a := 10) rfl))
  replace hm := ifF z167 hm
  refine WQ.skip ?_
  simp only [go_sem, ↓reduceIte, reduceCtorEq, Nat.reduceEqDiff, Nat.reduceLT, Nat.reduceLeDiff, Nat.reduceAdd, Nat.reduceMul, Int.reduceLE]
  refine kn hK123 ?_
  clear hK123 K123
  refine WQ.sr hT rfl fun K169 hK169 => ?_
  simp only [go_sem, ↓reduceIte, reduceCtorEq, Nat.reduceEqDiff, Nat.reduceLT, Nat.reduceLeDiff, Nat.reduceAdd, Nat.reduceMul, Int.reduceLE]
  refine kn hK169 ?_
  clear hK169 K169
  refine retN (t := 4) (js := []) (u := (.int .i64 0)) (v := (.int .i64 0)) hlt ?_ (.keep _ (.int _ _)) (.int _ _) rfl ?_
  kernel_rfl
  exact hkr hk (m := 0) hm (int64R (i64c (a := 0) rfl))
 clear hK151
 obtain ⟨v171, q170, hm⟩ := obs hm
 rcases Bool.eq_false_or_eq_true (!v171) with z174 | z174
 replace hm := ifT z174 hm
 refine WQ.drawL hT hM [(0, 0), (1, 0), (2, 0), (3, 1), (4, 0), (5, 1), (6, 2), (7, 0), (8, 0), (9, 0), (10, 0), (11, 0), (12, 1), (13, 0), (14, 1), (15, 2), (16, 0)] [] (hp h n [some [(.agg [(.int .i64 v1.kind), (.int .i64 v1.txn), (.int .i64 v1.key), (.bool v1.had), (.int .i64 v1.old), (.bool v1.has), (.int .i64 v1.new), (.int .i64 v1.back)])]]) ?_ rfl ?_ fun _ => ?_
 kernel_rfl
 simp only [go_sem]
 simp only [go_sem, ↓reduceIte, reduceCtorEq, Nat.reduceEqDiff, Nat.reduceLT, Nat.reduceLeDiff, Nat.reduceAdd, Nat.reduceMul, Int.reduceLE, hp_low hid0, hb0, rdSl_hp q22 (slH_lt h12), l24, c26, g27, rdSl_hp q29 (slH_lt h14), l31, c33, g34, rdSl_hp q36 (slH_lt h16), l38, c40, g41, rdSl_hp q43 (slH_lt h18), l45, c47, g48, rdSl_hp q50 (slH_lt h20), l52, c54, g55]
 refine w_s_l1Has (SlH.up h14 1) i57 q170 (fun y172 h173 => ?_)
 obtain rfl := h173
 unfold sealK; simp only [go_sem, ↓reduceIte, reduceCtorEq, Nat.reduceEqDiff, Nat.reduceLT, Nat.reduceLeDiff, Nat.reduceAdd, Nat.reduceMul, Int.reduceLE, hp_low hid0, hb0, rdSl_hp q22 (slH_lt h12), l24, c26, g27, rdSl_hp q29 (slH_lt h14), l31, c33, g34, rdSl_hp q36 (slH_lt h16), l38, c40, g41, rdSl_hp q43 (slH_lt h18), l45, c47, g48, rdSl_hp q50 (slH_lt h20), l52, c54, g55, eqT z174]
 refine j162 _ _ _ true ?_ hm
 refine Norm.mkL (js := []) (m := 0) [34] [(.bool true)] (of_decide_eq_true rfl) ?_ (RnL.cons (.keep _ (.bool _)) RnL.nil) RowsR.nil rfl
 kernel_rfl
 replace hm := ifF z174 hm
 obtain ⟨v176, q175, hm⟩ := obs hm
 refine WQ.drawL hT hM [(0, 0), (1, 0), (2, 0), (3, 1), (4, 0), (5, 1), (6, 2), (7, 0), (8, 0), (9, 0), (10, 0), (11, 0), (12, 1), (13, 0), (14, 1), (15, 2), (16, 0)] [] (hp h n [some [(.agg [(.int .i64 v1.kind), (.int .i64 v1.txn), (.int .i64 v1.key), (.bool v1.had), (.int .i64 v1.old), (.bool v1.has), (.int .i64 v1.new), (.int .i64 v1.back)])]]) ?_ rfl ?_ fun _ => ?_
 kernel_rfl
 simp only [go_sem]
 simp only [go_sem, ↓reduceIte, reduceCtorEq, Nat.reduceEqDiff, Nat.reduceLT, Nat.reduceLeDiff, Nat.reduceAdd, Nat.reduceMul, Int.reduceLE, hp_low hid0, hb0, rdSl_hp q22 (slH_lt h12), l24, c26, g27, rdSl_hp q29 (slH_lt h14), l31, c33, g34, rdSl_hp q36 (slH_lt h16), l38, c40, g41, rdSl_hp q43 (slH_lt h18), l45, c47, g48, rdSl_hp q50 (slH_lt h20), l52, c54, g55]
 refine w_s_l1Has (SlH.up h14 1) i57 q170 (fun y172 h173 => ?_)
 obtain rfl := h173
 unfold sealK; simp only [go_sem, ↓reduceIte, reduceCtorEq, Nat.reduceEqDiff, Nat.reduceLT, Nat.reduceLeDiff, Nat.reduceAdd, Nat.reduceMul, Int.reduceLE, hp_low hid0, hb0, rdSl_hp q22 (slH_lt h12), l24, c26, g27, rdSl_hp q29 (slH_lt h14), l31, c33, g34, rdSl_hp q36 (slH_lt h16), l38, c40, g41, rdSl_hp q43 (slH_lt h18), l45, c47, g48, rdSl_hp q50 (slH_lt h20), l52, c54, g55, eqF z174]
 refine w_s_l1Has (SlH.up h16 1) i57 q175 (fun y177 h178 => ?_)
 obtain rfl := h178
 unfold sealK; simp only [go_sem, ↓reduceIte, reduceCtorEq, Nat.reduceEqDiff, Nat.reduceLT, Nat.reduceLeDiff, Nat.reduceAdd, Nat.reduceMul, Int.reduceLE, hp_low hid0, hb0, rdSl_hp q22 (slH_lt h12), l24, c26, g27, rdSl_hp q29 (slH_lt h14), l31, c33, g34, rdSl_hp q36 (slH_lt h16), l38, c40, g41, rdSl_hp q43 (slH_lt h18), l45, c47, g48, rdSl_hp q50 (slH_lt h20), l52, c54, g55, eqF z174]
 refine j162 _ _ _ v176 ?_ hm
 refine Norm.mkL (js := []) (m := 0) [34] [(.bool v176)] (of_decide_eq_true rfl) ?_ (RnL.cons (.keep _ (.bool _)) RnL.nil) RowsR.nil rfl
 kernel_rfl
def m_s_l1Find_a1 (fu : Nat) : Option Int :=
  some (-1)
def m_s_l1Find_a2 (fu : Nat) (v0 : List CellD) (v1 : Int) (v274 : Int) : Option (Int ⊕ (Unit ⊕ Option Int)) :=
  (if (decide (v274 < (v0.length : Int))) = true then (Option.bind (atL v0 v274) fun a318 => (if (decide (a318.key = v1)) = true then some (Sum.inr (Sum.inr (some v274))) else some (Sum.inl (IntKind.i64.wrap (v274 + 1))))) else some (Sum.inr (Sum.inl ())))
def m_s_l1Find (fu : Nat) (v0 : List CellD) (v1 : Int) : Option Int :=
  (Option.bind (iterN (fun (s : Int) => m_s_l1Find_a2 fu v0 v1 s) fu 0) fun q277 => Sum.elim (fun (b : Unit) => (m_s_l1Find_a1 fu)) (fun x => x) q277)
set_option maxHeartbeats 2000000 in
theorem w_s_l1Find {x0 : AV} {v0 : List CellD} (h0 : (SlH h n 2 CellR) x0 v0) {v1 : Int} (i1 : I64 v1) {fu : Nat} {r : Int} (hm : m_s_l1Find fu v0 v1 = some r) (hk : ∀ y, Int64R y r → K y h n) : CA Try.prog 130 [x0, (.int .i64 v1)] h n K := by
 refine CA.enterQ (N := 20) (rs := [.tmp 4]) hT Try.call130 Try.func130 rfl rfl (of_decide_eq_true rfl) rfl fun hlt => ?_
 unfold m_s_l1Find at hm
 obtain ⟨es11, q12, a13, l14, b15, c16, g17⟩ := slH_open h0
 refine WQ.sr hT rfl fun K18 hK18 => ?_
 simp only [go_sem, ↓reduceIte, reduceCtorEq, Nat.reduceEqDiff, Nat.reduceLT, Nat.reduceLeDiff, Nat.reduceAdd, Nat.reduceMul, Int.reduceLE]
 refine kn hK18 ?_
 clear hK18 K18
 refine WQ.seq_k fun K19 hK19 => ?_
 have j169 : ∀ (E' : Env) (h' : Heap) (n' : Nat), Norm n h E' h' n' (envZ [] []) (hp h n []) n → (m_s_l1Find_a1 fu) = some r → K19 E' h' n' := by
  intro E171 H172 n173 N170 hm
  refine hK19 _ _ _ _ _ _ N170 ?_
  clear N170 hK19 K19
  unfold m_s_l1Find_a1 at hm
  refine WQ.sr hT rfl fun K174 hK174 => ?_
  simp only [go_sem, ↓reduceIte, reduceCtorEq, Nat.reduceEqDiff, Nat.reduceLT, Nat.reduceLeDiff, Nat.reduceAdd, Nat.reduceMul, Int.reduceLE]
  refine kn hK174 ?_
  clear hK174 K174
  refine retN (t := 4) (js := []) (u := (.int .i64 (-1))) (v := (.int .i64 (-1))) hlt ?_ (.keep _ (.int _ _)) (.int _ _) rfl ?_
  kernel_rfl
  exact hkr hk (m := (-1)) hm (int64R (i64c (a := (-1)) rfl))
 clear hK19
 refine WQ.sr hT rfl fun K175 hK175 => ?_
 simp only [go_sem, ↓reduceIte, reduceCtorEq, Nat.reduceEqDiff, Nat.reduceLT, Nat.reduceLeDiff, Nat.reduceAdd, Nat.reduceMul, Int.reduceLE]
 refine kn hK175 ?_
 clear hK175 K175
 refine WQ.block ?_
 obtain ⟨q277, hq278, hm⟩ := obs hm
 refine WQ.norm ?_ (WQ.iter (step := (fun (s : Int) => m_s_l1Find_a2 fu v0 v1 s)) (fun (s : Int) E' h' n' => I64 s ∧ (envZ [0, 1, 5] [x0, (.int .i64 v1), (.int .i64 s)]) = E' ∧ (hp h n []) = h' ∧ n = n') hq278 ⟨(i64c (a := 0) rfl), rfl, rfl, rfl⟩ ?_)
 refine Norm.mkL (js := []) (m := 0) [0, 1, 5] [x0, (.int .i64 v1), (.int .i64 0)] (of_decide_eq_true rfl) ?_ (RnL.cons (.keep _ (slH_lt h0)) (RnL.cons (.keep _ (.int _ _)) (RnL.cons (.keep _ (.int _ _)) RnL.nil))) RowsR.nil rfl
 kernel_rfl
 rintro v274 E' h' n' o276 ⟨i275, rfl, rfl, rfl⟩ ho280 hf279
 replace i275 : I64 v274 := i275
 replace ho280 : m_s_l1Find_a2 fu v0 v1 v274 = some o276 := ho280
 unfold m_s_l1Find_a2 at ho280
 show WQ Try.prog _ n h _ _ (envZ [0, 1, 5] [x0, (.int .i64 v1), (.int .i64 v274)]) (hp h n []) n
 refine WQ.seq_k fun K281 hK281 => ?_
 refine WQ.sr hT rfl fun K284 hK284 => ?_
 simp only [go_sem, ↓reduceIte, reduceCtorEq, Nat.reduceEqDiff, Nat.reduceLT, Nat.reduceLeDiff, Nat.reduceAdd, Nat.reduceMul, Int.reduceLE, rdSl_hp q12 (slH_lt h0), l14, c16, g17]
 refine kn hK284 ?_
 clear hK284 K284
 refine WQ.cond (t := decide (v274 < (v0.length : Int))) ?_ (fun z285 => ?_) (fun z285 => ?_)
 kernel_rfl
 replace ho280 := ifT z285 ho280
 refine WQ.skip ?_
 simp only [go_sem, ↓reduceIte, reduceCtorEq, Nat.reduceEqDiff, Nat.reduceLT, Nat.reduceLeDiff, Nat.reduceAdd, Nat.reduceMul, Int.reduceLE]
 refine kn hK281 ?_
 clear hK281 K281
 refine WQ.seq_k fun K286 hK286 => ?_
 refine WQ.block ?_
 refine WQ.seq_k fun K308 hK308 => ?_
 obtain ⟨a318, q319, ho280⟩ := obs ho280
 obtain ⟨p320, p321, e322, p323, h324⟩ := at_ok q319 a13
 have gh324 := h324
 obtain ⟨rfl, i325, i326⟩ := h324
 refine WQ.region hT rfl ?_
 simp only [go_sem, ↓reduceIte, reduceCtorEq, Nat.reduceEqDiff, Nat.reduceLT, Nat.reduceLeDiff, Nat.reduceAdd, Nat.reduceMul, Int.reduceLE, rdSl_hp q12 (slH_lt h0), l14, c16, g17, p320, p321, p323]
 refine kn hK308 ?_
 clear hK308 K308
 refine WQ.cond (t := decide (a318.key = v1)) ?_ (fun z327 => ?_) (fun z327 => ?_)
 kernel_rfl
 replace ho280 := ifT z327 ho280
 refine WQ.sr hT rfl fun K328 hK328 => ?_
 simp only [go_sem, ↓reduceIte, reduceCtorEq, Nat.reduceEqDiff, Nat.reduceLT, Nat.reduceLeDiff, Nat.reduceAdd, Nat.reduceMul, Int.reduceLE]
 refine kn hK328 ?_
 clear hK328 K328
 have e329 := hf279 _ (Option.some.inj ho280).symm
 rw [← e329] at hm
 refine retN (t := 4) (js := []) (u := (.int .i64 v274)) (v := (.int .i64 v274)) hlt ?_ (.keep _ (.int _ _)) (.int _ _) rfl ?_
 kernel_rfl
 exact hkr hk (m := v274) hm (int64R i275)
 replace ho280 := ifF z327 ho280
 refine WQ.skip ?_
 simp only [go_sem, ↓reduceIte, reduceCtorEq, Nat.reduceEqDiff, Nat.reduceLT, Nat.reduceLeDiff, Nat.reduceAdd, Nat.reduceMul, Int.reduceLE]
 refine kn hK286 ?_
 clear hK286 K286
 refine WQ.region hT rfl ?_
 simp only [go_sem, ↓reduceIte, reduceCtorEq, Nat.reduceEqDiff, Nat.reduceLT, Nat.reduceLeDiff, Nat.reduceAdd, Nat.reduceMul, Int.reduceLE]
 refine ⟨_, _, _, _, (Option.some.inj ho280).symm, ?_, (rng_wrap64 _), rfl, rfl, rfl⟩
 refine Norm.mkL (js := []) (m := 0) [0, 1, 5] [x0, (.int .i64 v1), (.int .i64 (IntKind.i64.wrap (v274 + 1)))] (of_decide_eq_true rfl) ?_ (RnL.cons (.keep _ (slH_lt h0)) (RnL.cons (.keep _ (.int _ _)) (RnL.cons (.keep _ (.int _ _)) RnL.nil))) RowsR.nil rfl
 kernel_rfl
 replace ho280 := ifF z285 ho280
 refine WQ.exit ?_
 simp only [go_sem, ↓reduceIte, reduceCtorEq, Nat.reduceEqDiff, Nat.reduceLT, Nat.reduceLeDiff, Nat.reduceAdd, Nat.reduceMul, Int.reduceLE]
 have e330 := hf279 _ (Option.some.inj ho280).symm
 rw [← e330] at hm
 refine j169 _ _ _  ?_ hm
 refine Norm.mkL (js := []) (m := 0) [] [] (of_decide_eq_true rfl) ?_ RnL.nil RowsR.nil rfl
 kernel_rfl
def m_s_l13Was_a1 (fu : Nat) (v92 : Bool) : Option Bool :=
  some v92
def m_s_l13Was (fu : Nat) (v0 : SimD) (v1 : RecD) : Option Bool :=
  (Option.bind (m_s_l1Find fu v0.cells v1.key) fun v70 => (if (decide (v70 < 0)) = true then some (!v1.had) else (if v1.had = true then (Option.bind (atL v0.cells v70) fun a99 => (m_s_l13Was_a1 fu (decide (v1.old = a99.value)))) else (m_s_l13Was_a1 fu false))))
set_option maxHeartbeats 2000000 in
theorem w_s_l13Was {x0 : AV} {v0 : SimD} (h0 : (SimRH h n) x0 v0) {id0 : Nat} (hid0 : id0 < n) (hb0 : h id0 = some [x0]) {x1 : AV} {v1 : RecD} (h1 : RecR x1 v1) {fu : Nat} {r : Bool} (hm : m_s_l13Was fu v0 v1 = some r) (hk : ∀ y, BoolR y r → K y h n) : CA Try.prog 94 [(.ep 5 (.sl 5 id0 0 1 1 true) 0 0), x1] h n K := by
 refine CA.enterQ (N := 33) (rs := [.tmp 4]) hT Try.call94 Try.func94 rfl rfl (of_decide_eq_true rfl) rfl fun hlt => ?_
 unfold m_s_l13Was at hm
 have gh0 := h0
 obtain ⟨x11, x13, x15, x17, x19, rfl, h12, h14, h16, h18, h20⟩ := h0
 obtain ⟨es21, q22, a23, l24, b25, c26, g27⟩ := slH_open h12
 obtain ⟨es28, q29, a30, l31, b32, c33, g34⟩ := slH_open h14
 obtain ⟨es35, q36, a37, l38, b39, c40, g41⟩ := slH_open h16
 obtain ⟨es42, q43, a44, l45, b46, c47, g48⟩ := slH_open h18
 obtain ⟨es49, q50, a51, l52, b53, c54, g55⟩ := slH_open h20
 have gh1 := h1
 obtain ⟨rfl, i56, i57, i58, i59, i60, i61⟩ := h1
 refine WQ.sr hT rfl fun K62 hK62 => ?_
 simp only [go_sem, ↓reduceIte, reduceCtorEq, Nat.reduceEqDiff, Nat.reduceLT, Nat.reduceLeDiff, Nat.reduceAdd, Nat.reduceMul, Int.reduceLE]
 refine kn hK62 ?_
 clear hK62 K62
 refine WQ.seq_k fun K63 hK63 => ?_
 obtain ⟨v70, q69, hm⟩ := obs hm
 refine WQ.drawL hT hM [(0, 0), (1, 0), (2, 0), (3, 1), (4, 0), (5, 1), (6, 2), (7, 0)] [] (hp h n [some [(.agg [(.int .i64 v1.kind), (.int .i64 v1.txn), (.int .i64 v1.key), (.bool v1.had), (.int .i64 v1.old), (.bool v1.has), (.int .i64 v1.new), (.int .i64 v1.back)])]]) ?_ rfl ?_ fun _ => ?_
 kernel_rfl
 simp only [go_sem]
 simp only [go_sem, ↓reduceIte, reduceCtorEq, Nat.reduceEqDiff, Nat.reduceLT, Nat.reduceLeDiff, Nat.reduceAdd, Nat.reduceMul, Int.reduceLE, hp_low hid0, hb0, rdSl_hp q22 (slH_lt h12), l24, c26, g27, rdSl_hp q29 (slH_lt h14), l31, c33, g34, rdSl_hp q36 (slH_lt h16), l38, c40, g41, rdSl_hp q43 (slH_lt h18), l45, c47, g48, rdSl_hp q50 (slH_lt h20), l52, c54, g55]
 refine w_s_l1Find (SlH.up h12 1) i58 q69 (fun y71 h72 => ?_)
 obtain ⟨rfl, i73⟩ := h72
 unfold sealK; simp only [go_sem, ↓reduceIte, reduceCtorEq, Nat.reduceEqDiff, Nat.reduceLT, Nat.reduceLeDiff, Nat.reduceAdd, Nat.reduceMul, Int.reduceLE, hp_low hid0, hb0, rdSl_hp q22 (slH_lt h12), l24, c26, g27, rdSl_hp q29 (slH_lt h14), l31, c33, g34, rdSl_hp q36 (slH_lt h16), l38, c40, g41, rdSl_hp q43 (slH_lt h18), l45, c47, g48, rdSl_hp q50 (slH_lt h20), l52, c54, g55]
 refine kn hK63 ?_
 clear hK63 K63
 refine WQ.seq_k fun K74 hK74 => ?_
 refine WQ.sr hT rfl fun K78 hK78 => ?_
 simp only [go_sem, ↓reduceIte, reduceCtorEq, Nat.reduceEqDiff, Nat.reduceLT, Nat.reduceLeDiff, Nat.reduceAdd, Nat.reduceMul, Int.reduceLE]
 refine kn hK78 ?_
 clear hK78 K78
 refine WQ.cond (t := decide (v70 < 0)) ?_ (fun z79 => ?_) (fun z79 => ?_)
 kernel_rfl
 replace hm := ifT z79 hm
 refine WQ.sr hT rfl fun K80 hK80 => ?_
 simp only [go_sem, ↓reduceIte, reduceCtorEq, Nat.reduceEqDiff, Nat.reduceLT, Nat.reduceLeDiff, Nat.reduceAdd, Nat.reduceMul, Int.reduceLE]
 refine kn hK80 ?_
 clear hK80 K80
 refine retN (t := 4) (js := []) (u := (.bool (!v1.had))) (v := (.bool (!v1.had))) hlt ?_ (.keep _ (.bool _)) (.bool _) rfl ?_
 kernel_rfl
 exact hkr hk (m := (!v1.had)) hm rfl
 replace hm := ifF z79 hm
 refine WQ.skip ?_
 simp only [go_sem, ↓reduceIte, reduceCtorEq, Nat.reduceEqDiff, Nat.reduceLT, Nat.reduceLeDiff, Nat.reduceAdd, Nat.reduceMul, Int.reduceLE]
 refine kn hK74 ?_
 clear hK74 K74
 refine WQ.seq_k fun K81 hK81 => ?_
 have j93 : ∀ (E' : Env) (h' : Heap) (n' : Nat) (v92 : Bool), Norm n h E' h' n' (envZ [4] [(.bool v92)]) (hp h n []) n → (m_s_l13Was_a1 fu v92) = some r → K81 E' h' n' := by
  intro E95 H96 n97 v92 N94 hm
  refine hK81 _ _ _ _ _ _ N94 ?_
  clear N94 hK81 K81
  unfold m_s_l13Was_a1 at hm
  refine retN (t := 4) (js := []) (u := (.bool v92)) (v := (.bool v92)) hlt ?_ (.keep _ (.bool _)) (.bool _) rfl ?_
  kernel_rfl
  exact hkr hk (m := v92) hm rfl
 clear hK81
 rcases Bool.eq_false_or_eq_true (v1.had) with z98 | z98
 replace hm := ifT z98 hm
 obtain ⟨a99, q100, hm⟩ := obs hm
 obtain ⟨p101, p102, e103, p104, h105⟩ := at_ok q100 a23
 have gh105 := h105
 obtain ⟨rfl, i106, i107⟩ := h105
 refine WQ.drawL hT hM [(0, 0), (1, 1), (2, 0), (3, 0), (4, 1), (5, 0), (6, 0), (7, 0), (8, 1), (9, 0), (10, 1), (11, 0), (12, 1), (13, 0), (14, 0), (15, 0)] [] (hp h n [some [(.agg [(.int .i64 v1.kind), (.int .i64 v1.txn), (.int .i64 v1.key), (.bool v1.had), (.int .i64 v1.old), (.bool v1.has), (.int .i64 v1.new), (.int .i64 v1.back)])]]) ?_ rfl ?_ fun _ => ?_
 kernel_rfl
 simp only [go_sem]
 simp only [go_sem, ↓reduceIte, reduceCtorEq, Nat.reduceEqDiff, Nat.reduceLT, Nat.reduceLeDiff, Nat.reduceAdd, Nat.reduceMul, Int.reduceLE, hp_low hid0, hb0, rdSl_hp q22 (slH_lt h12), l24, c26, g27, rdSl_hp q29 (slH_lt h14), l31, c33, g34, rdSl_hp q36 (slH_lt h16), l38, c40, g41, rdSl_hp q43 (slH_lt h18), l45, c47, g48, rdSl_hp q50 (slH_lt h20), l52, c54, g55, p101, p102, p104, eqT z98]
 refine j93 _ _ _ (decide (v1.old = a99.value)) ?_ hm
 refine Norm.mkL (js := []) (m := 0) [4] [(.bool (decide (v1.old = a99.value)))] (of_decide_eq_true rfl) ?_ (RnL.cons (.keep _ (.bool _)) RnL.nil) RowsR.nil rfl
 kernel_rfl
 replace hm := ifF z98 hm
 refine WQ.drawL hT hM [(0, 0), (1, 1), (2, 0), (3, 0), (4, 1), (5, 0), (6, 0), (7, 0), (8, 1), (9, 0), (10, 1), (11, 0), (12, 1), (13, 0), (14, 0), (15, 0)] [] (hp h n [some [(.agg [(.int .i64 v1.kind), (.int .i64 v1.txn), (.int .i64 v1.key), (.bool v1.had), (.int .i64 v1.old), (.bool v1.has), (.int .i64 v1.new), (.int .i64 v1.back)])]]) ?_ rfl ?_ fun _ => ?_
 kernel_rfl
 simp only [go_sem]
 simp only [go_sem, ↓reduceIte, reduceCtorEq, Nat.reduceEqDiff, Nat.reduceLT, Nat.reduceLeDiff, Nat.reduceAdd, Nat.reduceMul, Int.reduceLE, hp_low hid0, hb0, rdSl_hp q22 (slH_lt h12), l24, c26, g27, rdSl_hp q29 (slH_lt h14), l31, c33, g34, rdSl_hp q36 (slH_lt h16), l38, c40, g41, rdSl_hp q43 (slH_lt h18), l45, c47, g48, rdSl_hp q50 (slH_lt h20), l52, c54, g55, eqF z98]
 refine j93 _ _ _ false ?_ hm
 refine Norm.mkL (js := []) (m := 0) [4] [(.bool false)] (of_decide_eq_true rfl) ?_ (RnL.cons (.keep _ (.bool _)) RnL.nil) RowsR.nil rfl
 kernel_rfl
def m_s_l13Held_a1 (fu : Nat) : Option Bool :=
  some false
def m_s_l13Held_a2 (fu : Nat) (v498 : Int) (v566 : Bool) : Option (Int ⊕ (Unit ⊕ Option Bool)) :=
  (if v566 = true then some (Sum.inr (Sum.inr (some true))) else some (Sum.inl (IntKind.i64.wrap (v498 + 1))))
def m_s_l13Held_a3 (fu : Nat) (v0 : SimD) (v1 : RecD) (v498 : Int) : Option (Int ⊕ (Unit ⊕ Option Bool)) :=
  (if (decide (v498 < (v0.held.length : Int))) = true then (Option.bind (atL v0.held v498) fun a575 => (if (decide (a575.key = v1.key)) = true then (if (decide (a575.txn ≠ v1.txn)) = true then (Option.bind (m_s_l1Has fu v0.ended a575.txn) fun v587 => (m_s_l13Held_a2 fu v498 (!v587))) else (m_s_l13Held_a2 fu v498 false)) else (m_s_l13Held_a2 fu v498 false))) else some (Sum.inr (Sum.inl ())))
def m_s_l13Held (fu : Nat) (v0 : SimD) (v1 : RecD) : Option Bool :=
  (Option.bind (iterN (fun (s : Int) => m_s_l13Held_a3 fu v0 v1 s) fu 0) fun q501 => Sum.elim (fun (b : Unit) => (m_s_l13Held_a1 fu)) (fun x => x) q501)
set_option maxHeartbeats 2000000 in
theorem w_s_l13Held {x0 : AV} {v0 : SimD} (h0 : (SimRH h n) x0 v0) {id0 : Nat} (hid0 : id0 < n) (hb0 : h id0 = some [x0]) {x1 : AV} {v1 : RecD} (h1 : RecR x1 v1) {fu : Nat} {r : Bool} (hm : m_s_l13Held fu v0 v1 = some r) (hk : ∀ y, BoolR y r → K y h n) : CA Try.prog 95 [(.ep 5 (.sl 5 id0 0 1 1 true) 0 0), x1] h n K := by
 refine CA.enterQ (N := 55) (rs := [.tmp 4]) hT Try.call95 Try.func95 rfl rfl (of_decide_eq_true rfl) rfl fun hlt => ?_
 unfold m_s_l13Held at hm
 have gh0 := h0
 obtain ⟨x11, x13, x15, x17, x19, rfl, h12, h14, h16, h18, h20⟩ := h0
 obtain ⟨es21, q22, a23, l24, b25, c26, g27⟩ := slH_open h12
 obtain ⟨es28, q29, a30, l31, b32, c33, g34⟩ := slH_open h14
 obtain ⟨es35, q36, a37, l38, b39, c40, g41⟩ := slH_open h16
 obtain ⟨es42, q43, a44, l45, b46, c47, g48⟩ := slH_open h18
 obtain ⟨es49, q50, a51, l52, b53, c54, g55⟩ := slH_open h20
 have gh1 := h1
 obtain ⟨rfl, i56, i57, i58, i59, i60, i61⟩ := h1
 refine WQ.sr hT rfl fun K62 hK62 => ?_
 simp only [go_sem, ↓reduceIte, reduceCtorEq, Nat.reduceEqDiff, Nat.reduceLT, Nat.reduceLeDiff, Nat.reduceAdd, Nat.reduceMul, Int.reduceLE]
 refine kn hK62 ?_
 clear hK62 K62
 refine WQ.seq_k fun K63 hK63 => ?_
 have j321 : ∀ (E' : Env) (h' : Heap) (n' : Nat), Norm n h E' h' n' (envZ [] []) (hp h n []) n → (m_s_l13Held_a1 fu) = some r → K63 E' h' n' := by
  intro E323 H324 n325 N322 hm
  refine hK63 _ _ _ _ _ _ N322 ?_
  clear N322 hK63 K63
  unfold m_s_l13Held_a1 at hm
  refine WQ.sr hT rfl fun K326 hK326 => ?_
  simp only [go_sem, ↓reduceIte, reduceCtorEq, Nat.reduceEqDiff, Nat.reduceLT, Nat.reduceLeDiff, Nat.reduceAdd, Nat.reduceMul, Int.reduceLE]
  refine kn hK326 ?_
  clear hK326 K326
  refine retN (t := 4) (js := []) (u := (.bool false)) (v := (.bool false)) hlt ?_ (.keep _ (.bool _)) (.bool _) rfl ?_
  kernel_rfl
  exact hkr hk (m := false) hm rfl
 clear hK63
 refine WQ.sr hT rfl fun K327 hK327 => ?_
 simp only [go_sem, ↓reduceIte, reduceCtorEq, Nat.reduceEqDiff, Nat.reduceLT, Nat.reduceLeDiff, Nat.reduceAdd, Nat.reduceMul, Int.reduceLE]
 refine kn hK327 ?_
 clear hK327 K327
 refine WQ.block ?_
 obtain ⟨q501, hq502, hm⟩ := obs hm
 refine WQ.norm ?_ (WQ.iter (step := (fun (s : Int) => m_s_l13Held_a3 fu v0 v1 s)) (fun (s : Int) E' h' n' => I64 s ∧ (envZ [0, 3, 5] [(.ep 5 (.sl 5 id0 0 1 1 true) 0 0), (.ep 8 (.sl 8 n 0 1 1 true) 0 0), (.int .i64 s)]) = E' ∧ (hp h n [some [(.agg [(.int .i64 v1.kind), (.int .i64 v1.txn), (.int .i64 v1.key), (.bool v1.had), (.int .i64 v1.old), (.bool v1.has), (.int .i64 v1.new), (.int .i64 v1.back)])]]) = h' ∧ (n + 1) = n') hq502 ⟨(i64c (a := 0) rfl), rfl, rfl, rfl⟩ ?_)
 refine Norm.mkL (js := [0]) (m := 1) [0, 3, 5] [(.ep 5 (.sl 5 id0 0 1 1 true) 0 0), (.ep 8 (.sl 8 n 0 1 1 true) 0 0), (.int .i64 0)] (of_decide_eq_true rfl) ?_ (RnL.cons (.keep _ (.ep _ _ _ _ (.sl _ _ _ _ _ _ hid0))) (RnL.cons (Rn.ptr (js := [0]) 0 0) (RnL.cons (.keep _ (.int _ _)) RnL.nil))) (RowsR.row 0 _ _ _ _ hp_get0 (RnL.cons (.keep _ (tyRec_76.lt _ _ _ gh1)) RnL.nil) RowsR.nil) rfl
 kernel_rfl
 rintro v498 E' h' n' o500 ⟨i499, rfl, rfl, rfl⟩ ho504 hf503
 replace i499 : I64 v498 := i499
 replace ho504 : m_s_l13Held_a3 fu v0 v1 v498 = some o500 := ho504
 unfold m_s_l13Held_a3 at ho504
 show WQ Try.prog _ n h _ _ (envZ [0, 3, 5] [(.ep 5 (.sl 5 id0 0 1 1 true) 0 0), (.ep 8 (.sl 8 n 0 1 1 true) 0 0), (.int .i64 v498)]) (hp h n [some [(.agg [(.int .i64 v1.kind), (.int .i64 v1.txn), (.int .i64 v1.key), (.bool v1.had), (.int .i64 v1.old), (.bool v1.has), (.int .i64 v1.new), (.int .i64 v1.back)])]]) (n + 1)
 refine WQ.seq_k fun K505 hK505 => ?_
 refine WQ.sr hT rfl fun K508 hK508 => ?_
 simp only [go_sem, ↓reduceIte, reduceCtorEq, Nat.reduceEqDiff, Nat.reduceLT, Nat.reduceLeDiff, Nat.reduceAdd, Nat.reduceMul, Int.reduceLE, hp_low hid0, hb0, rdSl_hp q22 (slH_lt h12), l24, c26, g27, rdSl_hp q29 (slH_lt h14), l31, c33, g34, rdSl_hp q36 (slH_lt h16), l38, c40, g41, rdSl_hp q43 (slH_lt h18), l45, c47, g48, rdSl_hp q50 (slH_lt h20), l52, c54, g55]
 refine kn hK508 ?_
 clear hK508 K508
 refine WQ.cond (t := decide (v498 < (v0.held.length : Int))) ?_ (fun z509 => ?_) (fun z509 => ?_)
 kernel_rfl
 replace ho504 := ifT z509 ho504
 refine WQ.skip ?_
 simp only [go_sem, ↓reduceIte, reduceCtorEq, Nat.reduceEqDiff, Nat.reduceLT, Nat.reduceLeDiff, Nat.reduceAdd, Nat.reduceMul, Int.reduceLE]
 refine kn hK505 ?_
 clear hK505 K505
 refine WQ.seq_k fun K510 hK510 => ?_
 refine WQ.block ?_
 refine WQ.seq_k fun K550 hK550 => ?_
 have j567 : ∀ (E' : Env) (h' : Heap) (n' : Nat) (v566 : Bool), Norm n h E' h' n' (envZ [0, 3, 5, 54] [(.ep 5 (.sl 5 id0 0 1 1 true) 0 0), (.ep 8 (.sl 8 n 0 1 1 true) 0 0), (.int .i64 v498), (.bool v566)]) (hp h n [some [(.agg [(.int .i64 v1.kind), (.int .i64 v1.txn), (.int .i64 v1.key), (.bool v1.had), (.int .i64 v1.old), (.bool v1.has), (.int .i64 v1.new), (.int .i64 v1.back)])]]) (n + 1) → (m_s_l13Held_a2 fu v498 v566) = some o500 → K550 E' h' n' := by
  intro E569 H570 n571 v566 N568 ho504
  refine hK550 _ _ _ _ _ _ N568 ?_
  clear N568 hK550 K550
  unfold m_s_l13Held_a2 at ho504
  refine WQ.cond (t := v566) ?_ (fun z572 => ?_) (fun z572 => ?_)
  kernel_rfl
  replace ho504 := ifT z572 ho504
  refine WQ.sr hT rfl fun K573 hK573 => ?_
  simp only [go_sem, ↓reduceIte, reduceCtorEq, Nat.reduceEqDiff, Nat.reduceLT, Nat.reduceLeDiff, Nat.reduceAdd, Nat.reduceMul, Int.reduceLE]
  refine kn hK573 ?_
  clear hK573 K573
  have e574 := hf503 _ (Option.some.inj ho504).symm
  rw [← e574] at hm
  refine retN (t := 4) (js := []) (u := (.bool true)) (v := (.bool true)) hlt ?_ (.keep _ (.bool _)) (.bool _) rfl ?_
  kernel_rfl
  exact hkr hk (m := true) hm rfl
  replace ho504 := ifF z572 ho504
  refine WQ.skip ?_
  simp only [go_sem, ↓reduceIte, reduceCtorEq, Nat.reduceEqDiff, Nat.reduceLT, Nat.reduceLeDiff, Nat.reduceAdd, Nat.reduceMul, Int.reduceLE]
  refine kn hK510 ?_
  clear hK510 K510
  refine WQ.region hT rfl ?_
  simp only [go_sem, ↓reduceIte, reduceCtorEq, Nat.reduceEqDiff, Nat.reduceLT, Nat.reduceLeDiff, Nat.reduceAdd, Nat.reduceMul, Int.reduceLE]
  refine ⟨_, _, _, _, (Option.some.inj ho504).symm, ?_, (rng_wrap64 _), rfl, rfl, rfl⟩
  refine Norm.mkL (js := [0]) (m := 1) [0, 3, 5] [(.ep 5 (.sl 5 id0 0 1 1 true) 0 0), (.ep 8 (.sl 8 n 0 1 1 true) 0 0), (.int .i64 (IntKind.i64.wrap (v498 + 1)))] (of_decide_eq_true rfl) ?_ (RnL.cons (.keep _ (.ep _ _ _ _ (.sl _ _ _ _ _ _ hid0))) (RnL.cons (Rn.ptr (js := [0]) 0 0) (RnL.cons (.keep _ (.int _ _)) RnL.nil))) (RowsR.row 0 _ _ _ _ hp_get0 (RnL.cons (.keep _ (tyRec_76.lt _ _ _ gh1)) RnL.nil) RowsR.nil) rfl
  kernel_rfl
 clear hK550
 obtain ⟨a575, q576, ho504⟩ := obs ho504
 obtain ⟨p577, p578, e579, p580, h581⟩ := at_ok q576 a51
 have gh581 := h581
 obtain ⟨rfl, i582, i583⟩ := h581
 rcases Bool.eq_false_or_eq_true (decide (a575.key = v1.key)) with z584 | z584
 replace ho504 := ifT z584 ho504
 rcases Bool.eq_false_or_eq_true (decide (a575.txn ≠ v1.txn)) with z585 | z585
 replace ho504 := ifT z585 ho504
 obtain ⟨v587, q586, ho504⟩ := obs ho504
 refine WQ.drawL hT hM [(0, 0), (1, 0), (2, 0), (3, 1), (4, 0), (5, 1), (6, 0), (7, 1), (8, 0), (9, 1), (10, 0), (11, 0), (12, 0), (13, 0), (14, 0), (15, 1), (16, 0), (17, 1), (18, 0), (19, 1), (20, 0), (21, 1), (22, 0), (23, 0), (24, 0), (25, 0), (26, 0), (27, 0), (28, 1), (29, 0), (30, 0), (31, 0), (32, 1), (33, 0), (34, 1), (35, 0), (36, 1), (37, 2), (38, 0), (39, 0)] [] (hp h n [some [(.agg [(.int .i64 v1.kind), (.int .i64 v1.txn), (.int .i64 v1.key), (.bool v1.had), (.int .i64 v1.old), (.bool v1.has), (.int .i64 v1.new), (.int .i64 v1.back)])]]) ?_ rfl ?_ fun _ => ?_
 kernel_rfl
 simp only [go_sem]
 simp only [go_sem, ↓reduceIte, reduceCtorEq, Nat.reduceEqDiff, Nat.reduceLT, Nat.reduceLeDiff, Nat.reduceAdd, Nat.reduceMul, Int.reduceLE, hp_low hid0, hb0, rdSl_hp q22 (slH_lt h12), l24, c26, g27, rdSl_hp q29 (slH_lt h14), l31, c33, g34, rdSl_hp q36 (slH_lt h16), l38, c40, g41, rdSl_hp q43 (slH_lt h18), l45, c47, g48, rdSl_hp q50 (slH_lt h20), l52, c54, g55, p577, p578, p580, eqT z584, eqT z585]
 refine w_s_l1Has (SlH.up h16 1) i582 q586 (fun y588 h589 => ?_)
 obtain rfl := h589
 unfold sealK; simp only [go_sem, ↓reduceIte, reduceCtorEq, Nat.reduceEqDiff, Nat.reduceLT, Nat.reduceLeDiff, Nat.reduceAdd, Nat.reduceMul, Int.reduceLE, hp_low hid0, hb0, rdSl_hp q22 (slH_lt h12), l24, c26, g27, rdSl_hp q29 (slH_lt h14), l31, c33, g34, rdSl_hp q36 (slH_lt h16), l38, c40, g41, rdSl_hp q43 (slH_lt h18), l45, c47, g48, rdSl_hp q50 (slH_lt h20), l52, c54, g55, p577, p578, p580, eqT z584, eqT z585]
 refine j567 _ _ _ (!v587) ?_ ho504
 refine Norm.mkL (js := [0]) (m := 1) [0, 3, 5, 54] [(.ep 5 (.sl 5 id0 0 1 1 true) 0 0), (.ep 8 (.sl 8 n 0 1 1 true) 0 0), (.int .i64 v498), (.bool (!v587))] (of_decide_eq_true rfl) ?_ (RnL.cons (.keep _ (.ep _ _ _ _ (.sl _ _ _ _ _ _ hid0))) (RnL.cons (Rn.ptr (js := [0]) 0 0) (RnL.cons (.keep _ (.int _ _)) (RnL.cons (.keep _ (.bool _)) RnL.nil)))) (RowsR.row 0 _ _ _ _ hp_get0 (RnL.cons (.keep _ (tyRec_76.lt _ _ _ gh1)) RnL.nil) RowsR.nil) rfl
 kernel_rfl
 replace ho504 := ifF z585 ho504
 refine WQ.drawL hT hM [(0, 0), (1, 0), (2, 0), (3, 1), (4, 0), (5, 1), (6, 0), (7, 1), (8, 0), (9, 1), (10, 0), (11, 0), (12, 0), (13, 0), (14, 0), (15, 1), (16, 0), (17, 1), (18, 0), (19, 1), (20, 0), (21, 1), (22, 0), (23, 0), (24, 0), (25, 0), (26, 0), (27, 0), (28, 1), (29, 0), (30, 0), (31, 0), (32, 1), (33, 0), (34, 1), (35, 0), (36, 1), (37, 2), (38, 0), (39, 0)] [] (hp h n [some [(.agg [(.int .i64 v1.kind), (.int .i64 v1.txn), (.int .i64 v1.key), (.bool v1.had), (.int .i64 v1.old), (.bool v1.has), (.int .i64 v1.new), (.int .i64 v1.back)])]]) ?_ rfl ?_ fun _ => ?_
 kernel_rfl
 simp only [go_sem]
 simp only [go_sem, ↓reduceIte, reduceCtorEq, Nat.reduceEqDiff, Nat.reduceLT, Nat.reduceLeDiff, Nat.reduceAdd, Nat.reduceMul, Int.reduceLE, hp_low hid0, hb0, rdSl_hp q22 (slH_lt h12), l24, c26, g27, rdSl_hp q29 (slH_lt h14), l31, c33, g34, rdSl_hp q36 (slH_lt h16), l38, c40, g41, rdSl_hp q43 (slH_lt h18), l45, c47, g48, rdSl_hp q50 (slH_lt h20), l52, c54, g55, p577, p578, p580, eqT z584, eqF z585]
 refine j567 _ _ _ false ?_ ho504
 refine Norm.mkL (js := [0]) (m := 1) [0, 3, 5, 54] [(.ep 5 (.sl 5 id0 0 1 1 true) 0 0), (.ep 8 (.sl 8 n 0 1 1 true) 0 0), (.int .i64 v498), (.bool false)] (of_decide_eq_true rfl) ?_ (RnL.cons (.keep _ (.ep _ _ _ _ (.sl _ _ _ _ _ _ hid0))) (RnL.cons (Rn.ptr (js := [0]) 0 0) (RnL.cons (.keep _ (.int _ _)) (RnL.cons (.keep _ (.bool _)) RnL.nil)))) (RowsR.row 0 _ _ _ _ hp_get0 (RnL.cons (.keep _ (tyRec_76.lt _ _ _ gh1)) RnL.nil) RowsR.nil) rfl
 kernel_rfl
 replace ho504 := ifF z584 ho504
 refine WQ.drawL hT hM [(0, 0), (1, 0), (2, 0), (3, 1), (4, 0), (5, 1), (6, 0), (7, 1), (8, 0), (9, 1), (10, 0), (11, 0), (12, 0), (13, 0), (14, 0), (15, 1), (16, 0), (17, 1), (18, 0), (19, 1), (20, 0), (21, 1), (22, 0), (23, 0), (24, 0), (25, 0), (26, 0), (27, 0), (28, 1), (29, 0), (30, 0), (31, 0), (32, 1), (33, 0), (34, 1), (35, 0), (36, 1), (37, 2), (38, 0), (39, 0)] [] (hp h n [some [(.agg [(.int .i64 v1.kind), (.int .i64 v1.txn), (.int .i64 v1.key), (.bool v1.had), (.int .i64 v1.old), (.bool v1.has), (.int .i64 v1.new), (.int .i64 v1.back)])]]) ?_ rfl ?_ fun _ => ?_
 kernel_rfl
 simp only [go_sem]
 simp only [go_sem, ↓reduceIte, reduceCtorEq, Nat.reduceEqDiff, Nat.reduceLT, Nat.reduceLeDiff, Nat.reduceAdd, Nat.reduceMul, Int.reduceLE, hp_low hid0, hb0, rdSl_hp q22 (slH_lt h12), l24, c26, g27, rdSl_hp q29 (slH_lt h14), l31, c33, g34, rdSl_hp q36 (slH_lt h16), l38, c40, g41, rdSl_hp q43 (slH_lt h18), l45, c47, g48, rdSl_hp q50 (slH_lt h20), l52, c54, g55, p577, p578, p580, eqF z584]
 refine j567 _ _ _ false ?_ ho504
 refine Norm.mkL (js := [0]) (m := 1) [0, 3, 5, 54] [(.ep 5 (.sl 5 id0 0 1 1 true) 0 0), (.ep 8 (.sl 8 n 0 1 1 true) 0 0), (.int .i64 v498), (.bool false)] (of_decide_eq_true rfl) ?_ (RnL.cons (.keep _ (.ep _ _ _ _ (.sl _ _ _ _ _ _ hid0))) (RnL.cons (Rn.ptr (js := [0]) 0 0) (RnL.cons (.keep _ (.int _ _)) (RnL.cons (.keep _ (.bool _)) RnL.nil)))) (RowsR.row 0 _ _ _ _ hp_get0 (RnL.cons (.keep _ (tyRec_76.lt _ _ _ gh1)) RnL.nil) RowsR.nil) rfl
 kernel_rfl
 replace ho504 := ifF z509 ho504
 refine WQ.exit ?_
 simp only [go_sem, ↓reduceIte, reduceCtorEq, Nat.reduceEqDiff, Nat.reduceLT, Nat.reduceLeDiff, Nat.reduceAdd, Nat.reduceMul, Int.reduceLE]
 have e590 := hf503 _ (Option.some.inj ho504).symm
 rw [← e590] at hm
 refine j321 _ _ _  ?_ hm
 refine Norm.mkL (js := []) (m := 0) [] [] (of_decide_eq_true rfl) ?_ RnL.nil RowsR.nil rfl
 kernel_rfl
def m_s_l3Back_a1 (fu : Nat) (v521 : List Int) : Option (List Int) :=
  some v521
def m_s_l3Back_a2 (fu : Nat) (v867 : Int) (v951 : List Int) (v955 : List Int) : Option (((List Int) × (List Int) × Int) ⊕ ((List Int) ⊕ Option (List Int))) :=
  some (Sum.inl (v951, v955, IntKind.i64.wrap (v867 - 1)))
def m_s_l3Back_a3 (fu : Nat) (v864 : List Int) (v867 : Int) (v1001 : List Int) (v1015 : Bool) : Option (((List Int) × (List Int) × Int) ⊕ ((List Int) ⊕ Option (List Int))) :=
  (if v1015 = true then (Option.bind (snocL 8 v864 (IntKind.i64.wrap (v867 + 1))) fun v1022 => (m_s_l3Back_a2 fu v867 v1001 v1022)) else (m_s_l3Back_a2 fu v867 v1001 v864))
def m_s_l3Back_a4 (fu : Nat) (v864 : List Int) (v867 : Int) (a977 : RecD) (v1001 : List Int) : Option (((List Int) × (List Int) × Int) ⊕ ((List Int) ⊕ Option (List Int))) :=
  (if (decide (a977.kind = 2)) = true then (Option.bind (m_s_l1Has fu v1001 (IntKind.i64.wrap (v867 + 1))) fun v1026 => (m_s_l3Back_a3 fu v864 v867 v1001 (!v1026))) else (m_s_l3Back_a3 fu v864 v867 v1001 false))
def m_s_l3Back_a5 (fu : Nat) (v0 : List RecD) (v1 : Int) (v860 : List Int) (v864 : List Int) (v867 : Int) : Option (((List Int) × (List Int) × Int) ⊕ ((List Int) ⊕ Option (List Int))) :=
  (if (decide (0 ≤ v867)) = true then (Option.bind (atL v0 v867) fun a977 => (if (decide (a977.txn ≠ v1)) = true then (m_s_l3Back_a2 fu v867 v860 v864) else (if (decide (a977.kind = 5)) = true then (Option.bind (snocL 8 v860 a977.back) fun v1031 => (m_s_l3Back_a4 fu v864 v867 a977 v1031)) else (m_s_l3Back_a4 fu v864 v867 a977 v860)))) else some (Sum.inr (Sum.inl v864)))
def m_s_l3Back (fu : Nat) (v0 : List RecD) (v1 : Int) : Option (List Int) :=
  (Option.bind (iterN (fun (s : (List Int) × (List Int) × Int) => m_s_l3Back_a5 fu v0 v1 s.1 s.2.1 s.2.2) fu (([] : List Int), ([] : List Int), IntKind.i64.wrap ((v0.length : Int) - 1))) fun q870 => Sum.elim (fun (b : (List Int)) => (m_s_l3Back_a1 fu b)) (fun x => x) q870)
set_option maxHeartbeats 2000000 in
theorem w_s_l3Back {x0 : AV} {v0 : List RecD} (h0 : (SlH h n 8 RecR) x0 v0) {v1 : Int} (i1 : I64 v1) {fu : Nat} {r : (List Int)} (hm : m_s_l3Back fu v0 v1 = some r) (hk : ∀ y, (SlR 1 Int64R) y r → K y h n) : CA Try.prog 117 [x0, (.int .i64 v1)] h n K := by
 refine CA.enterQ (N := 50) (rs := [.tmp 4]) hT Try.call117 Try.func117 rfl rfl (of_decide_eq_true rfl) rfl fun hlt => ?_
 unfold m_s_l3Back at hm
 obtain ⟨es11, q12, a13, l14, b15, c16, g17⟩ := slH_open h0
 refine WQ.sr hT rfl fun K18 hK18 => ?_
 simp only [go_sem, ↓reduceIte, reduceCtorEq, Nat.reduceEqDiff, Nat.reduceLT, Nat.reduceLeDiff, Nat.reduceAdd, Nat.reduceMul, Int.reduceLE]
 refine kn hK18 ?_
 clear hK18 K18
 refine WQ.sr hT rfl fun K19 hK19 => ?_
 simp only [go_sem, ↓reduceIte, reduceCtorEq, Nat.reduceEqDiff, Nat.reduceLT, Nat.reduceLeDiff, Nat.reduceAdd, Nat.reduceMul, Int.reduceLE]
 refine kn hK19 ?_
 clear hK19 K19
 refine WQ.sr hT rfl fun K20 hK20 => ?_
 simp only [go_sem, ↓reduceIte, reduceCtorEq, Nat.reduceEqDiff, Nat.reduceLT, Nat.reduceLeDiff, Nat.reduceAdd, Nat.reduceMul, Int.reduceLE]
 refine kn hK20 ?_
 clear hK20 K20
 refine WQ.seq_k fun K21 hK21 => ?_
 have j524 : ∀ (E' : Env) (h' : Heap) (n' : Nat) (es520 : List AV) (v521 : List Int) (a522 : All2 Int64R es520 v521) (b523 : es520.length ≤ 140737488355328), Norm n h E' h' n' (envZ [6] [(.sl 1 n 0 v521.length v521.length false)]) (hp h n [some es520]) (n + 1) → (m_s_l3Back_a1 fu v521) = some r → K21 E' h' n' := by
  intro E526 H527 n528 es520 v521 a522 b523 N525 hm
  refine hK21 _ _ _ _ _ _ N525 ?_
  clear N525 hK21 K21
  unfold m_s_l3Back_a1 at hm
  refine WQ.sr hT rfl fun K529 hK529 => ?_
  simp only [go_sem, ↓reduceIte, reduceCtorEq, Nat.reduceEqDiff, Nat.reduceLT, Nat.reduceLeDiff, Nat.reduceAdd, Nat.reduceMul, Int.reduceLE, all2_length a522, own_take a522]
  refine kn hK529 ?_
  clear hK529 K529
  refine retN (t := 4) (js := []) (u := (.sl 1 n 0 v521.length v521.length false)) (v := (.ro 1 false es520)) hlt ?_ (Rn.frzA 0 rfl (of_decide_eq_true rfl) (RnL.all2 a522 int64_lt) (all2_length a522).symm) (slr_ltA _ _ _ (own_fro a522 b523 int64_lt)) rfl ?_
  kernel_rfl
  exact hkr hk (m := v521) hm (own_fro a522 b523 int64_lt)
 clear hK21
 refine WQ.sr hT rfl fun K530 hK530 => ?_
 simp only [go_sem, ↓reduceIte, reduceCtorEq, Nat.reduceEqDiff, Nat.reduceLT, Nat.reduceLeDiff, Nat.reduceAdd, Nat.reduceMul, Int.reduceLE, rdSl_hp q12 (slH_lt h0), l14, c16, g17]
 refine kn hK530 ?_
 clear hK530 K530
 refine WQ.block ?_
 obtain ⟨q870, hq871, hm⟩ := obs hm
 refine WQ.norm ?_ (WQ.iter (step := (fun (s : (List Int) × (List Int) × Int) => m_s_l3Back_a5 fu v0 v1 s.1 s.2.1 s.2.2)) (fun (s : (List Int) × (List Int) × Int) E' h' n' => ∃ (es859 : List AV), ∃ (es863 : List AV), All2 Int64R es859 s.1 ∧ es859.length ≤ 140737488355328 ∧ All2 Int64R es863 s.2.1 ∧ es863.length ≤ 140737488355328 ∧ I64 s.2.2 ∧ (envZ [0, 1, 5, 6, 7] [x0, (.int .i64 v1), (.sl 1 n 0 s.1.length s.1.length false), (.sl 1 (n + 1) 0 s.2.1.length s.2.1.length false), (.int .i64 s.2.2)]) = E' ∧ (hp h n [some es859, some es863]) = h' ∧ (n + 2) = n') hq871 ⟨([]), ([]), (show All2 Int64R [] [] from .nil), (of_decide_eq_true rfl), (show All2 Int64R [] [] from .nil), (of_decide_eq_true rfl), (rng_wrap64 _), rfl, rfl, rfl⟩ ?_)
 refine Norm.mkL (js := [0, 1]) (m := 2) [0, 1, 5, 6, 7] [x0, (.int .i64 v1), (.sl 1 n 0 0 0 true), (.sl 1 (n + 1) 0 0 0 true), (.int .i64 (IntKind.i64.wrap ((v0.length : Int) - 1)))] (of_decide_eq_true rfl) ?_ (RnL.cons (.keep _ (slH_lt h0)) (RnL.cons (.keep _ (.int _ _)) (RnL.cons (Rn.ownF (js := [0, 1]) 0 0) (RnL.cons (Rn.ownF (js := [0, 1]) 1 1) (RnL.cons (.keep _ (.int _ _)) RnL.nil))))) (RowsR.row 0 _ _ _ _ hp_get0 (RnL.all2 (show All2 Int64R [] [] from .nil) int64_lt) (RowsR.row 1 _ _ _ _ (hp_get 1) (RnL.all2 (show All2 Int64R [] [] from .nil) int64_lt) RowsR.nil)) rfl
 kernel_rfl
 rintro ⟨v860, v864, v867⟩ E' h' n' o869 ⟨es859, es863, a861, b862, a865, b866, i868, rfl, rfl, rfl⟩ ho873 hf872
 replace a861 : All2 Int64R es859 v860 := a861
 replace b862 : es859.length ≤ 140737488355328 := b862
 replace a865 : All2 Int64R es863 v864 := a865
 replace b866 : es863.length ≤ 140737488355328 := b866
 replace i868 : I64 v867 := i868
 replace ho873 : m_s_l3Back_a5 fu v0 v1 v860 v864 v867 = some o869 := ho873
 unfold m_s_l3Back_a5 at ho873
 show WQ Try.prog _ n h _ _ (envZ [0, 1, 5, 6, 7] [x0, (.int .i64 v1), (.sl 1 n 0 v860.length v860.length false), (.sl 1 (n + 1) 0 v864.length v864.length false), (.int .i64 v867)]) (hp h n [some es859, some es863]) (n + 2)
 refine WQ.seq_k fun K874 hK874 => ?_
 refine WQ.sr hT rfl fun K877 hK877 => ?_
 simp only [go_sem, ↓reduceIte, reduceCtorEq, Nat.reduceEqDiff, Nat.reduceLT, Nat.reduceLeDiff, Nat.reduceAdd, Nat.reduceMul, Int.reduceLE]
 refine kn hK877 ?_
 clear hK877 K877
 refine WQ.cond (t := decide (0 ≤ v867)) ?_ (fun z878 => ?_) (fun z878 => ?_)
 kernel_rfl
 replace ho873 := ifT z878 ho873
 refine WQ.skip ?_
 simp only [go_sem, ↓reduceIte, reduceCtorEq, Nat.reduceEqDiff, Nat.reduceLT, Nat.reduceLeDiff, Nat.reduceAdd, Nat.reduceMul, Int.reduceLE]
 refine kn hK874 ?_
 clear hK874 K874
 refine WQ.seq_k fun K879 hK879 => ?_
 have j958 : ∀ (E' : Env) (h' : Heap) (n' : Nat) (es950 : List AV) (v951 : List Int) (a952 : All2 Int64R es950 v951) (b953 : es950.length ≤ 140737488355328) (es954 : List AV) (v955 : List Int) (a956 : All2 Int64R es954 v955) (b957 : es954.length ≤ 140737488355328), Norm n h E' h' n' (envZ [0, 1, 5, 6, 7] [x0, (.int .i64 v1), (.sl 1 n 0 v951.length v951.length false), (.sl 1 (n + 1) 0 v955.length v955.length false), (.int .i64 v867)]) (hp h n [some es950, some es954]) (n + 2) → (m_s_l3Back_a2 fu v867 v951 v955) = some o869 → K879 E' h' n' := by
  intro E960 H961 n962 es950 v951 a952 b953 es954 v955 a956 b957 N959 ho873
  refine hK879 _ _ _ _ _ _ N959 ?_
  clear N959 hK879 K879
  unfold m_s_l3Back_a2 at ho873
  refine WQ.region hT rfl ?_
  simp only [go_sem, ↓reduceIte, reduceCtorEq, Nat.reduceEqDiff, Nat.reduceLT, Nat.reduceLeDiff, Nat.reduceAdd, Nat.reduceMul, Int.reduceLE]
  refine ⟨_, _, _, _, (Option.some.inj ho873).symm, ?_, es950, es954, a952, b953, a956, b957, (rng_wrap64 _), rfl, rfl, rfl⟩
  refine Norm.mkL (js := [0, 1]) (m := 2) [0, 1, 5, 6, 7] [x0, (.int .i64 v1), (.sl 1 n 0 v951.length v951.length false), (.sl 1 (n + 1) 0 v955.length v955.length false), (.int .i64 (IntKind.i64.wrap (v867 - 1)))] (of_decide_eq_true rfl) ?_ (RnL.cons (.keep _ (slH_lt h0)) (RnL.cons (.keep _ (.int _ _)) (RnL.cons (Rn.own (js := [0, 1]) 0 0) (RnL.cons (Rn.own (js := [0, 1]) 1 1) (RnL.cons (.keep _ (.int _ _)) RnL.nil))))) (RowsR.row 0 _ _ _ _ hp_get0 (RnL.all2 a952 int64_lt) (RowsR.row 1 _ _ _ _ (hp_get 1) (RnL.all2 a956 int64_lt) RowsR.nil)) rfl
  kernel_rfl
 clear hK879
 refine WQ.block ?_
 refine WQ.seq_k fun K963 hK963 => ?_
 obtain ⟨a977, q978, ho873⟩ := obs ho873
 obtain ⟨p979, p980, e981, p982, h983⟩ := at_ok q978 a13
 have gh983 := h983
 obtain ⟨rfl, i984, i985, i986, i987, i988, i989⟩ := h983
 refine WQ.region hT rfl ?_
 simp only [go_sem, ↓reduceIte, reduceCtorEq, Nat.reduceEqDiff, Nat.reduceLT, Nat.reduceLeDiff, Nat.reduceAdd, Nat.reduceMul, Int.reduceLE, rdSl_hp q12 (slH_lt h0), l14, c16, g17, p979, p980, p982]
 refine kn hK963 ?_
 clear hK963 K963
 refine WQ.seq_k fun K990 hK990 => ?_
 refine WQ.sr hT rfl fun K993 hK993 => ?_
 simp only [go_sem, ↓reduceIte, reduceCtorEq, Nat.reduceEqDiff, Nat.reduceLT, Nat.reduceLeDiff, Nat.reduceAdd, Nat.reduceMul, Int.reduceLE]
 refine kn hK993 ?_
 clear hK993 K993
 refine WQ.cond (t := decide (a977.txn ≠ v1)) ?_ (fun z994 => ?_) (fun z994 => ?_)
 kernel_rfl
 replace ho873 := ifT z994 ho873
 refine WQ.exit ?_
 simp only [go_sem, ↓reduceIte, reduceCtorEq, Nat.reduceEqDiff, Nat.reduceLT, Nat.reduceLeDiff, Nat.reduceAdd, Nat.reduceMul, Int.reduceLE]
 refine j958 _ _ _ es859 v860 a861 b862 es863 v864 a865 b866 ?_ ho873
 refine Norm.mkL (js := [0, 1]) (m := 2) [0, 1, 5, 6, 7] [x0, (.int .i64 v1), (.sl 1 n 0 v860.length v860.length false), (.sl 1 (n + 1) 0 v864.length v864.length false), (.int .i64 v867)] (of_decide_eq_true rfl) ?_ (RnL.cons (.keep _ (slH_lt h0)) (RnL.cons (.keep _ (.int _ _)) (RnL.cons (Rn.own (js := [0, 1]) 0 0) (RnL.cons (Rn.own (js := [0, 1]) 1 1) (RnL.cons (.keep _ (.int _ _)) RnL.nil))))) (RowsR.row 0 _ _ _ _ hp_get0 (RnL.all2 a861 int64_lt) (RowsR.row 1 _ _ _ _ (hp_get 1) (RnL.all2 a865 int64_lt) RowsR.nil)) rfl
 kernel_rfl
 replace ho873 := ifF z994 ho873
 refine WQ.skip ?_
 simp only [go_sem, ↓reduceIte, reduceCtorEq, Nat.reduceEqDiff, Nat.reduceLT, Nat.reduceLeDiff, Nat.reduceAdd, Nat.reduceMul, Int.reduceLE]
 refine kn hK990 ?_
 clear hK990 K990
 refine WQ.seq_k fun K995 hK995 => ?_
 have j1004 : ∀ (E' : Env) (h' : Heap) (n' : Nat) (es1000 : List AV) (v1001 : List Int) (a1002 : All2 Int64R es1000 v1001) (b1003 : es1000.length ≤ 140737488355328), Norm n h E' h' n' (envZ [0, 1, 5, 6, 7, 8] [x0, (.int .i64 v1), (.sl 1 n 0 v1001.length v1001.length false), (.sl 1 (n + 1) 0 v864.length v864.length false), (.int .i64 v867), (.ep 8 (.sl 8 (n + 2) 0 1 1 true) 0 0)]) (hp h n [some es1000, some es863, some [(.agg [(.int .i64 a977.kind), (.int .i64 a977.txn), (.int .i64 a977.key), (.bool a977.had), (.int .i64 a977.old), (.bool a977.has), (.int .i64 a977.new), (.int .i64 a977.back)])]]) (n + 3) → (m_s_l3Back_a4 fu v864 v867 a977 v1001) = some o869 → K995 E' h' n' := by
  intro E1006 H1007 n1008 es1000 v1001 a1002 b1003 N1005 ho873
  refine hK995 _ _ _ _ _ _ N1005 ?_
  clear N1005 hK995 K995
  unfold m_s_l3Back_a4 at ho873
  refine WQ.seq_k fun K1009 hK1009 => ?_
  have j1016 : ∀ (E' : Env) (h' : Heap) (n' : Nat) (v1015 : Bool), Norm n h E' h' n' (envZ [0, 1, 5, 6, 7, 43] [x0, (.int .i64 v1), (.sl 1 n 0 v1001.length v1001.length false), (.sl 1 (n + 1) 0 v864.length v864.length false), (.int .i64 v867), (.bool v1015)]) (hp h n [some es1000, some es863]) (n + 2) → (m_s_l3Back_a3 fu v864 v867 v1001 v1015) = some o869 → K1009 E' h' n' := by
   intro E1018 H1019 n1020 v1015 N1017 ho873
   refine hK1009 _ _ _ _ _ _ N1017 ?_
   clear N1017 hK1009 K1009
   unfold m_s_l3Back_a3 at ho873
   refine WQ.cond (t := v1015) ?_ (fun z1021 => ?_) (fun z1021 => ?_)
   kernel_rfl
   replace ho873 := ifT z1021 ho873
   obtain ⟨v1022, q1023, ho873⟩ := obs ho873
   refine WQ.region hT rfl ?_
   simp only [go_sem, ↓reduceIte, reduceCtorEq, Nat.reduceEqDiff, Nat.reduceLT, Nat.reduceLeDiff, Nat.reduceAdd, Nat.reduceMul, Int.reduceLE, all2_length a865, own_take a865]
   refine ⟨2, rfl, app_mv1 (j := 1) rfl (of_decide_eq_true rfl) rfl ?_ ?_ (all2_length a865) q1023 a865 (int64R (rng_wrap64 _)) ?_⟩
   simp only [go_sem, ↓reduceIte, reduceCtorEq, Nat.reduceEqDiff, Nat.reduceLT, Nat.reduceLeDiff, Nat.reduceAdd, Nat.reduceMul, Int.reduceLE, all2_length a865, own_take a865]
   simp only [go_sem, ↓reduceIte, reduceCtorEq, Nat.reduceEqDiff, Nat.reduceLT, Nat.reduceLeDiff, Nat.reduceAdd, Nat.reduceMul, Int.reduceLE]
   unfold sealK; simp only [go_sem, ↓reduceIte, reduceCtorEq, Nat.reduceEqDiff, Nat.reduceLT, Nat.reduceLeDiff, Nat.reduceAdd, Nat.reduceMul, Int.reduceLE, all2_length (snoc_all2 q1023 a865 (int64R (rng_wrap64 _))), own_take (snoc_all2 q1023 a865 (int64R (rng_wrap64 _))), all2_length a865, own_take a865]
   refine j958 _ _ _ es1000 v1001 a1002 b1003 (es863 ++ [(.int .i64 (IntKind.i64.wrap (v867 + 1)))]) v1022 (snoc_all2 q1023 a865 (int64R (rng_wrap64 _))) (snoc_len q1023 a865 (int64R (rng_wrap64 _))) ?_ ho873
   refine Norm.mkL (js := [0, 3]) (m := 2) [0, 1, 5, 6, 7] [x0, (.int .i64 v1), (.sl 1 n 0 v1001.length v1001.length false), (.sl 1 (n + 3) 0 v1022.length v1022.length false), (.int .i64 v867)] (of_decide_eq_true rfl) ?_ (RnL.cons (.keep _ (slH_lt h0)) (RnL.cons (.keep _ (.int _ _)) (RnL.cons (Rn.own (js := [0, 3]) 0 0) (RnL.cons (Rn.own (js := [0, 3]) 3 1) (RnL.cons (.keep _ (.int _ _)) RnL.nil))))) (RowsR.row 0 _ _ _ _ hp_get0 (RnL.all2 a1002 int64_lt) (RowsR.row 3 _ _ _ _ (hp_get 3) (RnL.all2 (snoc_all2 q1023 a865 (int64R (rng_wrap64 _))) int64_lt) RowsR.nil)) rfl
   kernel_rfl
   replace ho873 := ifF z1021 ho873
   refine WQ.skip ?_
   simp only [go_sem, ↓reduceIte, reduceCtorEq, Nat.reduceEqDiff, Nat.reduceLT, Nat.reduceLeDiff, Nat.reduceAdd, Nat.reduceMul, Int.reduceLE]
   refine j958 _ _ _ es1000 v1001 a1002 b1003 es863 v864 a865 b866 ?_ ho873
   refine Norm.mkL (js := [0, 1]) (m := 2) [0, 1, 5, 6, 7] [x0, (.int .i64 v1), (.sl 1 n 0 v1001.length v1001.length false), (.sl 1 (n + 1) 0 v864.length v864.length false), (.int .i64 v867)] (of_decide_eq_true rfl) ?_ (RnL.cons (.keep _ (slH_lt h0)) (RnL.cons (.keep _ (.int _ _)) (RnL.cons (Rn.own (js := [0, 1]) 0 0) (RnL.cons (Rn.own (js := [0, 1]) 1 1) (RnL.cons (.keep _ (.int _ _)) RnL.nil))))) (RowsR.row 0 _ _ _ _ hp_get0 (RnL.all2 a1002 int64_lt) (RowsR.row 1 _ _ _ _ (hp_get 1) (RnL.all2 a865 int64_lt) RowsR.nil)) rfl
   kernel_rfl
  clear hK1009
  rcases Bool.eq_false_or_eq_true (decide (a977.kind = 2)) with z1024 | z1024
  replace ho873 := ifT z1024 ho873
  obtain ⟨v1026, q1025, ho873⟩ := obs ho873
  refine WQ.region hT rfl ?_
  simp only [go_sem, ↓reduceIte, reduceCtorEq, Nat.reduceEqDiff, Nat.reduceLT, Nat.reduceLeDiff, Nat.reduceAdd, Nat.reduceMul, Int.reduceLE, all2_length a1002, own_take a1002, eqT z1024]
  refine w_s_l1Has (slH_own (j := 0) (m := 3) hp_get0 a1002 b1003 (all2_length a1002) rfl) (rng_wrap64 _) q1025 (fun y1027 h1028 => ?_)
  obtain rfl := h1028
  unfold sealK; simp only [go_sem, ↓reduceIte, reduceCtorEq, Nat.reduceEqDiff, Nat.reduceLT, Nat.reduceLeDiff, Nat.reduceAdd, Nat.reduceMul, Int.reduceLE, all2_length a1002, own_take a1002, eqT z1024]
  refine j1016 _ _ _ (!v1026) ?_ ho873
  refine Norm.mkL (js := [0, 1]) (m := 2) [0, 1, 5, 6, 7, 43] [x0, (.int .i64 v1), (.sl 1 n 0 v1001.length v1001.length false), (.sl 1 (n + 1) 0 v864.length v864.length false), (.int .i64 v867), (.bool (!v1026))] (of_decide_eq_true rfl) ?_ (RnL.cons (.keep _ (slH_lt h0)) (RnL.cons (.keep _ (.int _ _)) (RnL.cons (Rn.own (js := [0, 1]) 0 0) (RnL.cons (Rn.own (js := [0, 1]) 1 1) (RnL.cons (.keep _ (.int _ _)) (RnL.cons (.keep _ (.bool _)) RnL.nil)))))) (RowsR.row 0 _ _ _ _ hp_get0 (RnL.all2 a1002 int64_lt) (RowsR.row 1 _ _ _ _ (hp_get 1) (RnL.all2 a865 int64_lt) RowsR.nil)) rfl
  kernel_rfl
  replace ho873 := ifF z1024 ho873
  refine WQ.region hT rfl ?_
  simp only [go_sem, ↓reduceIte, reduceCtorEq, Nat.reduceEqDiff, Nat.reduceLT, Nat.reduceLeDiff, Nat.reduceAdd, Nat.reduceMul, Int.reduceLE, all2_length a1002, own_take a1002, eqF z1024]
  refine j1016 _ _ _ false ?_ ho873
  refine Norm.mkL (js := [0, 1]) (m := 2) [0, 1, 5, 6, 7, 43] [x0, (.int .i64 v1), (.sl 1 n 0 v1001.length v1001.length false), (.sl 1 (n + 1) 0 v864.length v864.length false), (.int .i64 v867), (.bool false)] (of_decide_eq_true rfl) ?_ (RnL.cons (.keep _ (slH_lt h0)) (RnL.cons (.keep _ (.int _ _)) (RnL.cons (Rn.own (js := [0, 1]) 0 0) (RnL.cons (Rn.own (js := [0, 1]) 1 1) (RnL.cons (.keep _ (.int _ _)) (RnL.cons (.keep _ (.bool _)) RnL.nil)))))) (RowsR.row 0 _ _ _ _ hp_get0 (RnL.all2 a1002 int64_lt) (RowsR.row 1 _ _ _ _ (hp_get 1) (RnL.all2 a865 int64_lt) RowsR.nil)) rfl
  kernel_rfl
 clear hK995
 refine WQ.sr hT rfl fun K1029 hK1029 => ?_
 simp only [go_sem, ↓reduceIte, reduceCtorEq, Nat.reduceEqDiff, Nat.reduceLT, Nat.reduceLeDiff, Nat.reduceAdd, Nat.reduceMul, Int.reduceLE]
 refine kn hK1029 ?_
 clear hK1029 K1029
 refine WQ.cond (t := decide (a977.kind = 5)) ?_ (fun z1030 => ?_) (fun z1030 => ?_)
 kernel_rfl
 replace ho873 := ifT z1030 ho873
 obtain ⟨v1031, q1032, ho873⟩ := obs ho873
 refine WQ.region hT rfl ?_
 simp only [go_sem, ↓reduceIte, reduceCtorEq, Nat.reduceEqDiff, Nat.reduceLT, Nat.reduceLeDiff, Nat.reduceAdd, Nat.reduceMul, Int.reduceLE, all2_length a861, own_take a861]
 refine ⟨2, rfl, app_mv1 (j := 0) rfl (of_decide_eq_true rfl) rfl ?_ ?_ (all2_length a861) q1032 a861 (int64R i989) ?_⟩
 simp only [go_sem, ↓reduceIte, reduceCtorEq, Nat.reduceEqDiff, Nat.reduceLT, Nat.reduceLeDiff, Nat.reduceAdd, Nat.reduceMul, Int.reduceLE, all2_length a861, own_take a861]
 simp only [go_sem, ↓reduceIte, reduceCtorEq, Nat.reduceEqDiff, Nat.reduceLT, Nat.reduceLeDiff, Nat.reduceAdd, Nat.reduceMul, Int.reduceLE]
 unfold sealK; simp only [go_sem, ↓reduceIte, reduceCtorEq, Nat.reduceEqDiff, Nat.reduceLT, Nat.reduceLeDiff, Nat.reduceAdd, Nat.reduceMul, Int.reduceLE, all2_length (snoc_all2 q1032 a861 (int64R i989)), own_take (snoc_all2 q1032 a861 (int64R i989)), all2_length a861, own_take a861]
 refine j1004 _ _ _ (es859 ++ [(.int .i64 a977.back)]) v1031 (snoc_all2 q1032 a861 (int64R i989)) (snoc_len q1032 a861 (int64R i989)) ?_ ho873
 refine Norm.mkL (js := [4, 1, 2]) (m := 3) [0, 1, 5, 6, 7, 8] [x0, (.int .i64 v1), (.sl 1 (n + 4) 0 v1031.length v1031.length false), (.sl 1 (n + 1) 0 v864.length v864.length false), (.int .i64 v867), (.ep 8 (.sl 8 (n + 2) 0 1 1 true) 0 0)] (of_decide_eq_true rfl) ?_ (RnL.cons (.keep _ (slH_lt h0)) (RnL.cons (.keep _ (.int _ _)) (RnL.cons (Rn.own (js := [4, 1, 2]) 4 0) (RnL.cons (Rn.own (js := [4, 1, 2]) 1 1) (RnL.cons (.keep _ (.int _ _)) (RnL.cons (Rn.ptr (js := [4, 1, 2]) 2 2) RnL.nil)))))) (RowsR.row 4 _ _ _ _ (hp_get 4) (RnL.all2 (snoc_all2 q1032 a861 (int64R i989)) int64_lt) (RowsR.row 1 _ _ _ _ (hp_get 1) (RnL.all2 a865 int64_lt) (RowsR.row 2 _ _ _ _ (hp_get 2) (RnL.cons (.keep _ (tyRec_76.lt _ _ _ gh983)) RnL.nil) RowsR.nil))) rfl
 kernel_rfl
 replace ho873 := ifF z1030 ho873
 refine WQ.skip ?_
 simp only [go_sem, ↓reduceIte, reduceCtorEq, Nat.reduceEqDiff, Nat.reduceLT, Nat.reduceLeDiff, Nat.reduceAdd, Nat.reduceMul, Int.reduceLE]
 refine j1004 _ _ _ es859 v860 a861 b862 ?_ ho873
 refine Norm.mkL (js := [0, 1, 2]) (m := 3) [0, 1, 5, 6, 7, 8] [x0, (.int .i64 v1), (.sl 1 n 0 v860.length v860.length false), (.sl 1 (n + 1) 0 v864.length v864.length false), (.int .i64 v867), (.ep 8 (.sl 8 (n + 2) 0 1 1 true) 0 0)] (of_decide_eq_true rfl) ?_ (RnL.cons (.keep _ (slH_lt h0)) (RnL.cons (.keep _ (.int _ _)) (RnL.cons (Rn.own (js := [0, 1, 2]) 0 0) (RnL.cons (Rn.own (js := [0, 1, 2]) 1 1) (RnL.cons (.keep _ (.int _ _)) (RnL.cons (Rn.ptr (js := [0, 1, 2]) 2 2) RnL.nil)))))) (RowsR.row 0 _ _ _ _ hp_get0 (RnL.all2 a861 int64_lt) (RowsR.row 1 _ _ _ _ (hp_get 1) (RnL.all2 a865 int64_lt) (RowsR.row 2 _ _ _ _ (hp_get 2) (RnL.cons (.keep _ (tyRec_76.lt _ _ _ gh983)) RnL.nil) RowsR.nil))) rfl
 kernel_rfl
 replace ho873 := ifF z878 ho873
 refine WQ.exit ?_
 simp only [go_sem, ↓reduceIte, reduceCtorEq, Nat.reduceEqDiff, Nat.reduceLT, Nat.reduceLeDiff, Nat.reduceAdd, Nat.reduceMul, Int.reduceLE]
 have e1033 := hf872 _ (Option.some.inj ho873).symm
 rw [← e1033] at hm
 refine j524 _ _ _ es863 v864 a865 b866 ?_ hm
 refine Norm.mkL (js := [1]) (m := 1) [6] [(.sl 1 (n + 1) 0 v864.length v864.length false)] (of_decide_eq_true rfl) ?_ (RnL.cons (Rn.own (js := [1]) 1 0) RnL.nil) (RowsR.row 1 _ _ _ _ (hp_get 1) (RnL.all2 a865 int64_lt) RowsR.nil) rfl
 kernel_rfl
def m_s_l13Fits_a1 (fu : Nat) (v418 : Bool) : Option Bool :=
  some v418
def m_s_l13Fits_a2 (fu : Nat) (v1 : List RecD) (a78 : RecD) (v380 : Bool) : Option Bool :=
  (if v380 = true then some false else (Option.bind (atL v1 (IntKind.i64.wrap (a78.back - 1))) fun a402 => (if (decide (a78.key = a402.key)) = true then (if (a78.has == a402.had) = true then (m_s_l13Fits_a1 fu (decide (a78.new = a402.old))) else (m_s_l13Fits_a1 fu false)) else (m_s_l13Fits_a1 fu false))))
def m_s_l13Fits_a3 (fu : Nat) (v0 : SimD) (a78 : RecD) (v484 : Bool) : Option Bool :=
  (if v484 = true then (Option.bind (m_s_l1Has fu v0.undid a78.txn) fun v497 => some (!v497)) else some true)
def m_s_l13Fits (fu : Nat) (v0 : SimD) (v1 : List RecD) (v2 : Int) : Option Bool :=
  (Option.bind (atL v1 v2) fun a78 => (if (decide (a78.kind = 5)) = true then (Option.bind (sliceL v1 0 v2) fun v323 => (Option.bind (m_s_l3Back fu v323 a78.txn) fun v335 => (if (decide ((v335.length : Int) = 0)) = true then (m_s_l13Fits_a2 fu v1 a78 true) else (Option.bind (atL v335 0) fun a427 => (m_s_l13Fits_a2 fu v1 a78 (decide (a427 ≠ a78.back))))))) else (if (decide (a78.kind = 4)) = true then (Option.bind (sliceL v1 0 v2) fun v459 => (Option.bind (m_s_l3Back fu v459 a78.txn) fun v471 => some (decide ((v471.length : Int) = 0)))) else (if (decide (a78.kind = 2)) = true then (m_s_l13Fits_a3 fu v0 a78 (decide (a78.kind = 2))) else (m_s_l13Fits_a3 fu v0 a78 (decide (a78.kind = 3)))))))
set_option maxHeartbeats 2000000 in
theorem w_s_l13Fits {x0 : AV} {v0 : SimD} (h0 : (SimRH h n) x0 v0) {id0 : Nat} (hid0 : id0 < n) (hb0 : h id0 = some [x0]) {x1 : AV} {v1 : List RecD} (h1 : (SlH h n 8 RecR) x1 v1) {v2 : Int} (i2 : I64 v2) {fu : Nat} {r : Bool} (hm : m_s_l13Fits fu v0 v1 v2 = some r) (hk : ∀ y, BoolR y r → K y h n) : CA Try.prog 96 [(.ep 5 (.sl 5 id0 0 1 1 true) 0 0), x1, (.int .i64 v2)] h n K := by
 refine CA.enterQ (N := 81) (rs := [.tmp 6]) hT Try.call96 Try.func96 rfl rfl (of_decide_eq_true rfl) rfl fun hlt => ?_
 unfold m_s_l13Fits at hm
 have gh0 := h0
 obtain ⟨x11, x13, x15, x17, x19, rfl, h12, h14, h16, h18, h20⟩ := h0
 obtain ⟨es21, q22, a23, l24, b25, c26, g27⟩ := slH_open h12
 obtain ⟨es28, q29, a30, l31, b32, c33, g34⟩ := slH_open h14
 obtain ⟨es35, q36, a37, l38, b39, c40, g41⟩ := slH_open h16
 obtain ⟨es42, q43, a44, l45, b46, c47, g48⟩ := slH_open h18
 obtain ⟨es49, q50, a51, l52, b53, c54, g55⟩ := slH_open h20
 obtain ⟨es56, q57, a58, l59, b60, c61, g62⟩ := slH_open h1
 refine WQ.sr hT rfl fun K63 hK63 => ?_
 simp only [go_sem, ↓reduceIte, reduceCtorEq, Nat.reduceEqDiff, Nat.reduceLT, Nat.reduceLeDiff, Nat.reduceAdd, Nat.reduceMul, Int.reduceLE]
 refine kn hK63 ?_
 clear hK63 K63
 refine WQ.seq_k fun K64 hK64 => ?_
 obtain ⟨a78, q79, hm⟩ := obs hm
 obtain ⟨p80, p81, e82, p83, h84⟩ := at_ok q79 a58
 have gh84 := h84
 obtain ⟨rfl, i85, i86, i87, i88, i89, i90⟩ := h84
 refine WQ.region hT rfl ?_
 simp only [go_sem, ↓reduceIte, reduceCtorEq, Nat.reduceEqDiff, Nat.reduceLT, Nat.reduceLeDiff, Nat.reduceAdd, Nat.reduceMul, Int.reduceLE, rdSl_hp q57 (slH_lt h1), l59, c61, g62, p80, p81, p83]
 refine kn hK64 ?_
 clear hK64 K64
 refine WQ.seq_k fun K91 hK91 => ?_
 refine WQ.sr hT rfl fun K297 hK297 => ?_
 simp only [go_sem, ↓reduceIte, reduceCtorEq, Nat.reduceEqDiff, Nat.reduceLT, Nat.reduceLeDiff, Nat.reduceAdd, Nat.reduceMul, Int.reduceLE]
 refine kn hK297 ?_
 clear hK297 K297
 refine WQ.block ?_
 refine WQ.sr hT rfl fun K298 hK298 => ?_
 simp only [go_sem, ↓reduceIte, reduceCtorEq, Nat.reduceEqDiff, Nat.reduceLT, Nat.reduceLeDiff, Nat.reduceAdd, Nat.reduceMul, Int.reduceLE]
 refine kn hK298 ?_
 clear hK298 K298
 refine WQ.cond (t := decide (a78.kind = 5)) ?_ (fun z299 => ?_) (fun z299 => ?_)
 kernel_rfl
 replace hm := ifT z299 hm
 refine WQ.seq_k fun K300 hK300 => ?_
 obtain ⟨v323, q324, hm⟩ := obs hm
 obtain ⟨v335, q334, hm⟩ := obs hm
 refine WQ.drawL hT hM [(0, 0), (1, 0), (2, 0), (3, 0), (4, 1), (5, 2), (6, 0)] [] (hp h n [some [(.agg [(.int .i64 a78.kind), (.int .i64 a78.txn), (.int .i64 a78.key), (.bool a78.had), (.int .i64 a78.old), (.bool a78.has), (.int .i64 a78.new), (.int .i64 a78.back)])]]) ?_ rfl ?_ fun _ => ?_
 kernel_rfl
 simp only [go_sem]
 simp only [go_sem, ↓reduceIte, reduceCtorEq, Nat.reduceEqDiff, Nat.reduceLT, Nat.reduceLeDiff, Nat.reduceAdd, Nat.reduceMul, Int.reduceLE, rdSl_hp q57 (slH_lt h1), l59, c61, g62]
 refine op_partH (el := 76) (X := x1) rfl ?_ h1 (of_decide_eq_true rfl) tyRec_76.lt rfl ?_ q324 (fun y325 h326 => ?_)
 simp only [go_sem, ↓reduceIte, reduceCtorEq, Nat.reduceEqDiff, Nat.reduceLT, Nat.reduceLeDiff, Nat.reduceAdd, Nat.reduceMul, Int.reduceLE]
 simp only [go_sem, ↓reduceIte, reduceCtorEq, Nat.reduceEqDiff, Nat.reduceLT, Nat.reduceLeDiff, Nat.reduceAdd, Nat.reduceMul, Int.reduceLE]
 replace h326 : (SlH h n 8 RecR) y325 v323 := h326
 obtain ⟨es327, q328, a329, l330, b331, c332, g333⟩ := slH_open h326
 unfold sealK; simp only [go_sem, ↓reduceIte, reduceCtorEq, Nat.reduceEqDiff, Nat.reduceLT, Nat.reduceLeDiff, Nat.reduceAdd, Nat.reduceMul, Int.reduceLE, rdSl_hp q57 (slH_lt h1), l59, c61, g62, rdSl_hp q328 (slH_lt h326), l330, c332, g333]
 refine w_s_l3Back (SlH.up h326 1) i86 q334 (fun y336 h337 => ?_)
 obtain ⟨es338, q339, a340, l341, b342, c343, g344⟩ := slr_open h337
 unfold sealK; simp only [go_sem, ↓reduceIte, reduceCtorEq, Nat.reduceEqDiff, Nat.reduceLT, Nat.reduceLeDiff, Nat.reduceAdd, Nat.reduceMul, Int.reduceLE, rdSl_hp q57 (slH_lt h1), l59, c61, g62, rdSl_hp q328 (slH_lt h326), l330, c332, g333, rdSl_emp q339, l341, c343, g344]
 refine kn hK300 ?_
 clear hK300 K300
 refine WQ.seq_k fun K345 hK345 => ?_
 refine WQ.seq_k fun K371 hK371 => ?_
 have j381 : ∀ (E' : Env) (h' : Heap) (n' : Nat) (v380 : Bool), Norm n h E' h' n' (envZ [1, 7, 34] [x1, (.ep 8 (.sl 8 n 0 1 1 true) 0 0), (.bool v380)]) (hp h n [some [(.agg [(.int .i64 a78.kind), (.int .i64 a78.txn), (.int .i64 a78.key), (.bool a78.had), (.int .i64 a78.old), (.bool a78.has), (.int .i64 a78.new), (.int .i64 a78.back)])]]) (n + 1) → (m_s_l13Fits_a2 fu v1 a78 v380) = some r → K371 E' h' n' := by
  intro E383 H384 n385 v380 N382 hm
  refine hK371 _ _ _ _ _ _ N382 ?_
  clear N382 hK371 K371
  unfold m_s_l13Fits_a2 at hm
  refine WQ.cond (t := v380) ?_ (fun z386 => ?_) (fun z386 => ?_)
  kernel_rfl
  replace hm := ifT z386 hm
  refine WQ.sr hT rfl fun K387 hK387 => ?_
  simp only [go_sem, ↓reduceIte, reduceCtorEq, Nat.reduceEqDiff, Nat.reduceLT, Nat.reduceLeDiff, Nat.reduceAdd, Nat.reduceMul, Int.reduceLE]
  refine kn hK387 ?_
  clear hK387 K387
  refine retN (t := 6) (js := []) (u := (.bool false)) (v := (.bool false)) hlt ?_ (.keep _ (.bool _)) (.bool _) rfl ?_
  kernel_rfl
  exact hkr hk (m := false) hm rfl
  replace hm := ifF z386 hm
  refine WQ.skip ?_
  simp only [go_sem, ↓reduceIte, reduceCtorEq, Nat.reduceEqDiff, Nat.reduceLT, Nat.reduceLeDiff, Nat.reduceAdd, Nat.reduceMul, Int.reduceLE]
  refine kn hK345 ?_
  clear hK345 K345
  refine WQ.seq_k fun K388 hK388 => ?_
  obtain ⟨a402, q403, hm⟩ := obs hm
  obtain ⟨p404, p405, e406, p407, h408⟩ := at_ok q403 a58
  have gh408 := h408
  obtain ⟨rfl, i409, i410, i411, i412, i413, i414⟩ := h408
  refine WQ.region hT rfl ?_
  simp only [go_sem, ↓reduceIte, reduceCtorEq, Nat.reduceEqDiff, Nat.reduceLT, Nat.reduceLeDiff, Nat.reduceAdd, Nat.reduceMul, Int.reduceLE, rdSl_hp q57 (slH_lt h1), l59, c61, g62, p404, p405, p407]
  refine kn hK388 ?_
  clear hK388 K388
  refine WQ.seq_k fun K415 hK415 => ?_
  have j419 : ∀ (E' : Env) (h' : Heap) (n' : Nat) (v418 : Bool), Norm n h E' h' n' (envZ [6] [(.bool v418)]) (hp h n []) n → (m_s_l13Fits_a1 fu v418) = some r → K415 E' h' n' := by
   intro E421 H422 n423 v418 N420 hm
   refine hK415 _ _ _ _ _ _ N420 ?_
   clear N420 hK415 K415
   unfold m_s_l13Fits_a1 at hm
   refine retN (t := 6) (js := []) (u := (.bool v418)) (v := (.bool v418)) hlt ?_ (.keep _ (.bool _)) (.bool _) rfl ?_
   kernel_rfl
   exact hkr hk (m := v418) hm rfl
  clear hK415
  rcases Bool.eq_false_or_eq_true (decide (a78.key = a402.key)) with z424 | z424
  replace hm := ifT z424 hm
  rcases Bool.eq_false_or_eq_true (a78.has == a402.had) with z425 | z425
  replace hm := ifT z425 hm
  refine WQ.region hT rfl ?_
  simp only [go_sem, ↓reduceIte, reduceCtorEq, Nat.reduceEqDiff, Nat.reduceLT, Nat.reduceLeDiff, Nat.reduceAdd, Nat.reduceMul, Int.reduceLE, eqT z424, eqT z425]
  refine j419 _ _ _ (decide (a78.new = a402.old)) ?_ hm
  refine Norm.mkL (js := []) (m := 0) [6] [(.bool (decide (a78.new = a402.old)))] (of_decide_eq_true rfl) ?_ (RnL.cons (.keep _ (.bool _)) RnL.nil) RowsR.nil rfl
  kernel_rfl
  replace hm := ifF z425 hm
  refine WQ.region hT rfl ?_
  simp only [go_sem, ↓reduceIte, reduceCtorEq, Nat.reduceEqDiff, Nat.reduceLT, Nat.reduceLeDiff, Nat.reduceAdd, Nat.reduceMul, Int.reduceLE, eqT z424, eqF z425]
  refine j419 _ _ _ false ?_ hm
  refine Norm.mkL (js := []) (m := 0) [6] [(.bool false)] (of_decide_eq_true rfl) ?_ (RnL.cons (.keep _ (.bool _)) RnL.nil) RowsR.nil rfl
  kernel_rfl
  replace hm := ifF z424 hm
  refine WQ.region hT rfl ?_
  simp only [go_sem, ↓reduceIte, reduceCtorEq, Nat.reduceEqDiff, Nat.reduceLT, Nat.reduceLeDiff, Nat.reduceAdd, Nat.reduceMul, Int.reduceLE, eqF z424]
  refine j419 _ _ _ false ?_ hm
  refine Norm.mkL (js := []) (m := 0) [6] [(.bool false)] (of_decide_eq_true rfl) ?_ (RnL.cons (.keep _ (.bool _)) RnL.nil) RowsR.nil rfl
  kernel_rfl
 clear hK371
 rcases Bool.eq_false_or_eq_true (decide ((v335.length : Int) = 0)) with z426 | z426
 replace hm := ifT z426 hm
 refine WQ.drawL hT hM [(0, 0), (1, 1), (2, 0), (3, 0), (4, 0), (5, 1), (6, 1), (7, 0), (8, 1), (9, 0), (10, 0)] [] (hp h n [some [(.agg [(.int .i64 a78.kind), (.int .i64 a78.txn), (.int .i64 a78.key), (.bool a78.had), (.int .i64 a78.old), (.bool a78.has), (.int .i64 a78.new), (.int .i64 a78.back)])]]) ?_ rfl ?_ fun _ => ?_
 kernel_rfl
 simp only [go_sem]
 simp only [go_sem, ↓reduceIte, reduceCtorEq, Nat.reduceEqDiff, Nat.reduceLT, Nat.reduceLeDiff, Nat.reduceAdd, Nat.reduceMul, Int.reduceLE, rdSl_emp q339, l341, c343, g344, eqT z426]
 refine j381 _ _ _ true ?_ hm
 refine Norm.mkL (js := [0]) (m := 1) [1, 7, 34] [x1, (.ep 8 (.sl 8 n 0 1 1 true) 0 0), (.bool true)] (of_decide_eq_true rfl) ?_ (RnL.cons (.keep _ (slH_lt h1)) (RnL.cons (Rn.ptr (js := [0]) 0 0) (RnL.cons (.keep _ (.bool _)) RnL.nil))) (RowsR.row 0 _ _ _ _ hp_get0 (RnL.cons (.keep _ (tyRec_76.lt _ _ _ gh84)) RnL.nil) RowsR.nil) rfl
 kernel_rfl
 replace hm := ifF z426 hm
 obtain ⟨a427, q428, hm⟩ := obs hm
 obtain ⟨p429, p430, e431, p432, h433⟩ := at_ok q428 a340
 obtain ⟨rfl, ia427⟩ := h433
 refine WQ.drawL hT hM [(0, 0), (1, 1), (2, 0), (3, 0), (4, 0), (5, 1), (6, 1), (7, 0), (8, 1), (9, 0), (10, 0)] [] (hp h n [some [(.agg [(.int .i64 a78.kind), (.int .i64 a78.txn), (.int .i64 a78.key), (.bool a78.had), (.int .i64 a78.old), (.bool a78.has), (.int .i64 a78.new), (.int .i64 a78.back)])]]) ?_ rfl ?_ fun _ => ?_
 kernel_rfl
 simp only [go_sem]
 simp only [go_sem, ↓reduceIte, reduceCtorEq, Nat.reduceEqDiff, Nat.reduceLT, Nat.reduceLeDiff, Nat.reduceAdd, Nat.reduceMul, Int.reduceLE, rdSl_emp q339, l341, c343, g344, p429, p430, p432, eqF z426]
 refine j381 _ _ _ (decide (a427 ≠ a78.back)) ?_ hm
 refine Norm.mkL (js := [0]) (m := 1) [1, 7, 34] [x1, (.ep 8 (.sl 8 n 0 1 1 true) 0 0), (.bool (decide (a427 ≠ a78.back)))] (of_decide_eq_true rfl) ?_ (RnL.cons (.keep _ (slH_lt h1)) (RnL.cons (Rn.ptr (js := [0]) 0 0) (RnL.cons (.keep _ (.bool _)) RnL.nil))) (RowsR.row 0 _ _ _ _ hp_get0 (RnL.cons (.keep _ (tyRec_76.lt _ _ _ gh84)) RnL.nil) RowsR.nil) rfl
 kernel_rfl
 replace hm := ifF z299 hm
 refine WQ.sr hT rfl fun K434 hK434 => ?_
 simp only [go_sem, ↓reduceIte, reduceCtorEq, Nat.reduceEqDiff, Nat.reduceLT, Nat.reduceLeDiff, Nat.reduceAdd, Nat.reduceMul, Int.reduceLE]
 refine kn hK434 ?_
 clear hK434 K434
 refine WQ.cond (t := decide (a78.kind = 4)) ?_ (fun z435 => ?_) (fun z435 => ?_)
 kernel_rfl
 replace hm := ifT z435 hm
 refine WQ.seq_k fun K436 hK436 => ?_
 obtain ⟨v459, q460, hm⟩ := obs hm
 obtain ⟨v471, q470, hm⟩ := obs hm
 refine WQ.drawL hT hM [(0, 0), (1, 0), (2, 0), (3, 0), (4, 1), (5, 2), (6, 1), (7, 0), (8, 0)] [] (hp h n [some [(.agg [(.int .i64 a78.kind), (.int .i64 a78.txn), (.int .i64 a78.key), (.bool a78.had), (.int .i64 a78.old), (.bool a78.has), (.int .i64 a78.new), (.int .i64 a78.back)])]]) ?_ rfl ?_ fun _ => ?_
 kernel_rfl
 simp only [go_sem]
 simp only [go_sem, ↓reduceIte, reduceCtorEq, Nat.reduceEqDiff, Nat.reduceLT, Nat.reduceLeDiff, Nat.reduceAdd, Nat.reduceMul, Int.reduceLE, rdSl_hp q57 (slH_lt h1), l59, c61, g62]
 refine op_partH (el := 76) (X := x1) rfl ?_ h1 (of_decide_eq_true rfl) tyRec_76.lt rfl ?_ q460 (fun y461 h462 => ?_)
 simp only [go_sem, ↓reduceIte, reduceCtorEq, Nat.reduceEqDiff, Nat.reduceLT, Nat.reduceLeDiff, Nat.reduceAdd, Nat.reduceMul, Int.reduceLE]
 simp only [go_sem, ↓reduceIte, reduceCtorEq, Nat.reduceEqDiff, Nat.reduceLT, Nat.reduceLeDiff, Nat.reduceAdd, Nat.reduceMul, Int.reduceLE]
 replace h462 : (SlH h n 8 RecR) y461 v459 := h462
 obtain ⟨es463, q464, a465, l466, b467, c468, g469⟩ := slH_open h462
 unfold sealK; simp only [go_sem, ↓reduceIte, reduceCtorEq, Nat.reduceEqDiff, Nat.reduceLT, Nat.reduceLeDiff, Nat.reduceAdd, Nat.reduceMul, Int.reduceLE, rdSl_hp q57 (slH_lt h1), l59, c61, g62, rdSl_hp q464 (slH_lt h462), l466, c468, g469]
 refine w_s_l3Back (SlH.up h462 1) i86 q470 (fun y472 h473 => ?_)
 obtain ⟨es474, q475, a476, l477, b478, c479, g480⟩ := slr_open h473
 unfold sealK; simp only [go_sem, ↓reduceIte, reduceCtorEq, Nat.reduceEqDiff, Nat.reduceLT, Nat.reduceLeDiff, Nat.reduceAdd, Nat.reduceMul, Int.reduceLE, rdSl_hp q57 (slH_lt h1), l59, c61, g62, rdSl_hp q464 (slH_lt h462), l466, c468, g469, rdSl_emp q475, l477, c479, g480]
 refine kn hK436 ?_
 clear hK436 K436
 refine retN (t := 6) (js := []) (u := (.bool (decide ((v471.length : Int) = 0)))) (v := (.bool (decide ((v471.length : Int) = 0)))) hlt ?_ (.keep _ (.bool _)) (.bool _) rfl ?_
 kernel_rfl
 exact hkr hk (m := (decide ((v471.length : Int) = 0))) hm rfl
 replace hm := ifF z435 hm
 refine WQ.seq_k fun K481 hK481 => ?_
 have j485 : ∀ (E' : Env) (h' : Heap) (n' : Nat) (v484 : Bool), Norm n h E' h' n' (envZ [0, 7, 70] [(.ep 5 (.sl 5 id0 0 1 1 true) 0 0), (.ep 8 (.sl 8 n 0 1 1 true) 0 0), (.bool v484)]) (hp h n [some [(.agg [(.int .i64 a78.kind), (.int .i64 a78.txn), (.int .i64 a78.key), (.bool a78.had), (.int .i64 a78.old), (.bool a78.has), (.int .i64 a78.new), (.int .i64 a78.back)])]]) (n + 1) → (m_s_l13Fits_a3 fu v0 a78 v484) = some r → K481 E' h' n' := by
  intro E487 H488 n489 v484 N486 hm
  refine hK481 _ _ _ _ _ _ N486 ?_
  clear N486 hK481 K481
  unfold m_s_l13Fits_a3 at hm
  refine WQ.cond (t := v484) ?_ (fun z490 => ?_) (fun z490 => ?_)
  kernel_rfl
  replace hm := ifT z490 hm
  refine WQ.seq_k fun K491 hK491 => ?_
  obtain ⟨v497, q496, hm⟩ := obs hm
  refine WQ.drawL hT hM [(0, 0), (1, 0), (2, 0), (3, 1), (4, 0), (5, 1), (6, 2), (7, 0), (8, 0)] [] (hp h n [some [(.agg [(.int .i64 a78.kind), (.int .i64 a78.txn), (.int .i64 a78.key), (.bool a78.had), (.int .i64 a78.old), (.bool a78.has), (.int .i64 a78.new), (.int .i64 a78.back)])]]) ?_ rfl ?_ fun _ => ?_
  kernel_rfl
  simp only [go_sem]
  simp only [go_sem, ↓reduceIte, reduceCtorEq, Nat.reduceEqDiff, Nat.reduceLT, Nat.reduceLeDiff, Nat.reduceAdd, Nat.reduceMul, Int.reduceLE, hp_low hid0, hb0, rdSl_hp q22 (slH_lt h12), l24, c26, g27, rdSl_hp q29 (slH_lt h14), l31, c33, g34, rdSl_hp q36 (slH_lt h16), l38, c40, g41, rdSl_hp q43 (slH_lt h18), l45, c47, g48, rdSl_hp q50 (slH_lt h20), l52, c54, g55]
  refine w_s_l1Has (SlH.up h18 1) i86 q496 (fun y498 h499 => ?_)
  obtain rfl := h499
  unfold sealK; simp only [go_sem, ↓reduceIte, reduceCtorEq, Nat.reduceEqDiff, Nat.reduceLT, Nat.reduceLeDiff, Nat.reduceAdd, Nat.reduceMul, Int.reduceLE, hp_low hid0, hb0, rdSl_hp q22 (slH_lt h12), l24, c26, g27, rdSl_hp q29 (slH_lt h14), l31, c33, g34, rdSl_hp q36 (slH_lt h16), l38, c40, g41, rdSl_hp q43 (slH_lt h18), l45, c47, g48, rdSl_hp q50 (slH_lt h20), l52, c54, g55]
  refine kn hK491 ?_
  clear hK491 K491
  refine retN (t := 6) (js := []) (u := (.bool (!v497))) (v := (.bool (!v497))) hlt ?_ (.keep _ (.bool _)) (.bool _) rfl ?_
  kernel_rfl
  exact hkr hk (m := (!v497)) hm rfl
  replace hm := ifF z490 hm
  refine WQ.skip ?_
  simp only [go_sem, ↓reduceIte, reduceCtorEq, Nat.reduceEqDiff, Nat.reduceLT, Nat.reduceLeDiff, Nat.reduceAdd, Nat.reduceMul, Int.reduceLE]
  refine kn hK91 ?_
  clear hK91 K91
  refine WQ.sr hT rfl fun K500 hK500 => ?_
  simp only [go_sem, ↓reduceIte, reduceCtorEq, Nat.reduceEqDiff, Nat.reduceLT, Nat.reduceLeDiff, Nat.reduceAdd, Nat.reduceMul, Int.reduceLE]
  refine kn hK500 ?_
  clear hK500 K500
  refine retN (t := 6) (js := []) (u := (.bool true)) (v := (.bool true)) hlt ?_ (.keep _ (.bool _)) (.bool _) rfl ?_
  kernel_rfl
  exact hkr hk (m := true) hm rfl
 clear hK481
 refine WQ.sr hT rfl fun K501 hK501 => ?_
 simp only [go_sem, ↓reduceIte, reduceCtorEq, Nat.reduceEqDiff, Nat.reduceLT, Nat.reduceLeDiff, Nat.reduceAdd, Nat.reduceMul, Int.reduceLE]
 refine kn hK501 ?_
 clear hK501 K501
 refine WQ.cond (t := decide (a78.kind = 2)) ?_ (fun z502 => ?_) (fun z502 => ?_)
 kernel_rfl
 replace hm := ifT z502 hm
 refine WQ.skip ?_
 simp only [go_sem, ↓reduceIte, reduceCtorEq, Nat.reduceEqDiff, Nat.reduceLT, Nat.reduceLeDiff, Nat.reduceAdd, Nat.reduceMul, Int.reduceLE]
 refine j485 _ _ _ (decide (a78.kind = 2)) ?_ hm
 refine Norm.mkL (js := [0]) (m := 1) [0, 7, 70] [(.ep 5 (.sl 5 id0 0 1 1 true) 0 0), (.ep 8 (.sl 8 n 0 1 1 true) 0 0), (.bool (decide (a78.kind = 2)))] (of_decide_eq_true rfl) ?_ (RnL.cons (.keep _ (.ep _ _ _ _ (.sl _ _ _ _ _ _ hid0))) (RnL.cons (Rn.ptr (js := [0]) 0 0) (RnL.cons (.keep _ (.bool _)) RnL.nil))) (RowsR.row 0 _ _ _ _ hp_get0 (RnL.cons (.keep _ (tyRec_76.lt _ _ _ gh84)) RnL.nil) RowsR.nil) rfl
 kernel_rfl
 replace hm := ifF z502 hm
 refine WQ.region hT rfl ?_
 simp only [go_sem, ↓reduceIte, reduceCtorEq, Nat.reduceEqDiff, Nat.reduceLT, Nat.reduceLeDiff, Nat.reduceAdd, Nat.reduceMul, Int.reduceLE]
 refine j485 _ _ _ (decide (a78.kind = 3)) ?_ hm
 refine Norm.mkL (js := [0]) (m := 1) [0, 7, 70] [(.ep 5 (.sl 5 id0 0 1 1 true) 0 0), (.ep 8 (.sl 8 n 0 1 1 true) 0 0), (.bool (decide (a78.kind = 3)))] (of_decide_eq_true rfl) ?_ (RnL.cons (.keep _ (.ep _ _ _ _ (.sl _ _ _ _ _ _ hid0))) (RnL.cons (Rn.ptr (js := [0]) 0 0) (RnL.cons (.keep _ (.bool _)) RnL.nil))) (RowsR.row 0 _ _ _ _ hp_get0 (RnL.cons (.keep _ (tyRec_76.lt _ _ _ gh84)) RnL.nil) RowsR.nil) rfl
 kernel_rfl
def m_s_l1Without_a1 (fu : Nat) (v212 : List CellD) : Option (List CellD) :=
  some v212
def m_s_l1Without_a2 (fu : Nat) (v350 : Int) (v386 : List CellD) : Option (((List CellD) × Int) ⊕ ((List CellD) ⊕ Option (List CellD))) :=
  some (Sum.inl (v386, IntKind.i64.wrap (v350 + 1)))
def m_s_l1Without_a3 (fu : Nat) (v0 : List CellD) (v1 : Int) (v347 : List CellD) (v350 : Int) : Option (((List CellD) × Int) ⊕ ((List CellD) ⊕ Option (List CellD))) :=
  (if (decide (v350 < (v0.length : Int))) = true then (Option.bind (atL v0 v350) fun a404 => (if (decide (a404.key ≠ v1)) = true then (Option.bind (snocL 16 v347 a404) fun v414 => (m_s_l1Without_a2 fu v350 v414)) else (m_s_l1Without_a2 fu v350 v347))) else some (Sum.inr (Sum.inl v347)))
def m_s_l1Without (fu : Nat) (v0 : List CellD) (v1 : Int) : Option (List CellD) :=
  (Option.bind (iterN (fun (s : (List CellD) × Int) => m_s_l1Without_a3 fu v0 v1 s.1 s.2) fu (([] : List CellD), 0)) fun q353 => Sum.elim (fun (b : (List CellD)) => (m_s_l1Without_a1 fu b)) (fun x => x) q353)
set_option maxHeartbeats 2000000 in
theorem w_s_l1Without {x0 : AV} {v0 : List CellD} (h0 : (SlH h n 2 CellR) x0 v0) {v1 : Int} (i1 : I64 v1) {fu : Nat} {r : (List CellD)} (hm : m_s_l1Without fu v0 v1 = some r) (hk : ∀ y, (SlR 2 CellR) y r → K y h n) : CA Try.prog 67 [x0, (.int .i64 v1)] h n K := by
 refine CA.enterQ (N := 29) (rs := [.tmp 4]) hT Try.call67 Try.func67 rfl rfl (of_decide_eq_true rfl) rfl fun hlt => ?_
 unfold m_s_l1Without at hm
 obtain ⟨es11, q12, a13, l14, b15, c16, g17⟩ := slH_open h0
 refine WQ.sr hT rfl fun K18 hK18 => ?_
 simp only [go_sem, ↓reduceIte, reduceCtorEq, Nat.reduceEqDiff, Nat.reduceLT, Nat.reduceLeDiff, Nat.reduceAdd, Nat.reduceMul, Int.reduceLE]
 refine kn hK18 ?_
 clear hK18 K18
 refine WQ.sr hT rfl fun K19 hK19 => ?_
 simp only [go_sem, ↓reduceIte, reduceCtorEq, Nat.reduceEqDiff, Nat.reduceLT, Nat.reduceLeDiff, Nat.reduceAdd, Nat.reduceMul, Int.reduceLE]
 refine kn hK19 ?_
 clear hK19 K19
 refine WQ.seq_k fun K20 hK20 => ?_
 have j215 : ∀ (E' : Env) (h' : Heap) (n' : Nat) (es211 : List AV) (v212 : List CellD) (a213 : All2 CellR es211 v212) (b214 : es211.length ≤ 140737488355328), Norm n h E' h' n' (envZ [5] [(.sl 2 n 0 v212.length v212.length false)]) (hp h n [some es211]) (n + 1) → (m_s_l1Without_a1 fu v212) = some r → K20 E' h' n' := by
  intro E217 H218 n219 es211 v212 a213 b214 N216 hm
  refine hK20 _ _ _ _ _ _ N216 ?_
  clear N216 hK20 K20
  unfold m_s_l1Without_a1 at hm
  refine WQ.sr hT rfl fun K220 hK220 => ?_
  simp only [go_sem, ↓reduceIte, reduceCtorEq, Nat.reduceEqDiff, Nat.reduceLT, Nat.reduceLeDiff, Nat.reduceAdd, Nat.reduceMul, Int.reduceLE, all2_length a213, own_take a213]
  refine kn hK220 ?_
  clear hK220 K220
  refine retN (t := 4) (js := []) (u := (.sl 2 n 0 v212.length v212.length false)) (v := (.ro 2 false es211)) hlt ?_ (Rn.frzA 0 rfl (of_decide_eq_true rfl) (RnL.all2 a213 tyCell_123.lt) (all2_length a213).symm) (slr_ltA _ _ _ (own_fro a213 b214 tyCell_123.lt)) rfl ?_
  kernel_rfl
  exact hkr hk (m := v212) hm (own_fro a213 b214 tyCell_123.lt)
 clear hK20
 refine WQ.sr hT rfl fun K221 hK221 => ?_
 simp only [go_sem, ↓reduceIte, reduceCtorEq, Nat.reduceEqDiff, Nat.reduceLT, Nat.reduceLeDiff, Nat.reduceAdd, Nat.reduceMul, Int.reduceLE]
 refine kn hK221 ?_
 clear hK221 K221
 refine WQ.block ?_
 obtain ⟨q353, hq354, hm⟩ := obs hm
 refine WQ.norm ?_ (WQ.iter (step := (fun (s : (List CellD) × Int) => m_s_l1Without_a3 fu v0 v1 s.1 s.2)) (fun (s : (List CellD) × Int) E' h' n' => ∃ (es346 : List AV), All2 CellR es346 s.1 ∧ es346.length ≤ 140737488355328 ∧ I64 s.2 ∧ (envZ [0, 1, 5, 6] [x0, (.int .i64 v1), (.sl 2 n 0 s.1.length s.1.length false), (.int .i64 s.2)]) = E' ∧ (hp h n [some es346]) = h' ∧ (n + 1) = n') hq354 ⟨([]), (show All2 CellR [] [] from .nil), (of_decide_eq_true rfl), (i64c (a := 0) rfl), rfl, rfl, rfl⟩ ?_)
 refine Norm.mkL (js := [0]) (m := 1) [0, 1, 5, 6] [x0, (.int .i64 v1), (.sl 2 n 0 0 0 true), (.int .i64 0)] (of_decide_eq_true rfl) ?_ (RnL.cons (.keep _ (slH_lt h0)) (RnL.cons (.keep _ (.int _ _)) (RnL.cons (Rn.ownF (js := [0]) 0 0) (RnL.cons (.keep _ (.int _ _)) RnL.nil)))) (RowsR.row 0 _ _ _ _ hp_get0 (RnL.all2 (show All2 CellR [] [] from .nil) tyCell_123.lt) RowsR.nil) rfl
 kernel_rfl
 rintro ⟨v347, v350⟩ E' h' n' o352 ⟨es346, a348, b349, i351, rfl, rfl, rfl⟩ ho356 hf355
 replace a348 : All2 CellR es346 v347 := a348
 replace b349 : es346.length ≤ 140737488355328 := b349
 replace i351 : I64 v350 := i351
 replace ho356 : m_s_l1Without_a3 fu v0 v1 v347 v350 = some o352 := ho356
 unfold m_s_l1Without_a3 at ho356
 show WQ Try.prog _ n h _ _ (envZ [0, 1, 5, 6] [x0, (.int .i64 v1), (.sl 2 n 0 v347.length v347.length false), (.int .i64 v350)]) (hp h n [some es346]) (n + 1)
 refine WQ.seq_k fun K357 hK357 => ?_
 refine WQ.sr hT rfl fun K360 hK360 => ?_
 simp only [go_sem, ↓reduceIte, reduceCtorEq, Nat.reduceEqDiff, Nat.reduceLT, Nat.reduceLeDiff, Nat.reduceAdd, Nat.reduceMul, Int.reduceLE, rdSl_hp q12 (slH_lt h0), l14, c16, g17]
 refine kn hK360 ?_
 clear hK360 K360
 refine WQ.cond (t := decide (v350 < (v0.length : Int))) ?_ (fun z361 => ?_) (fun z361 => ?_)
 kernel_rfl
 replace ho356 := ifT z361 ho356
 refine WQ.skip ?_
 simp only [go_sem, ↓reduceIte, reduceCtorEq, Nat.reduceEqDiff, Nat.reduceLT, Nat.reduceLeDiff, Nat.reduceAdd, Nat.reduceMul, Int.reduceLE]
 refine kn hK357 ?_
 clear hK357 K357
 refine WQ.seq_k fun K362 hK362 => ?_
 have j389 : ∀ (E' : Env) (h' : Heap) (n' : Nat) (es385 : List AV) (v386 : List CellD) (a387 : All2 CellR es385 v386) (b388 : es385.length ≤ 140737488355328), Norm n h E' h' n' (envZ [0, 1, 5, 6] [x0, (.int .i64 v1), (.sl 2 n 0 v386.length v386.length false), (.int .i64 v350)]) (hp h n [some es385]) (n + 1) → (m_s_l1Without_a2 fu v350 v386) = some o352 → K362 E' h' n' := by
  intro E391 H392 n393 es385 v386 a387 b388 N390 ho356
  refine hK362 _ _ _ _ _ _ N390 ?_
  clear N390 hK362 K362
  unfold m_s_l1Without_a2 at ho356
  refine WQ.region hT rfl ?_
  simp only [go_sem, ↓reduceIte, reduceCtorEq, Nat.reduceEqDiff, Nat.reduceLT, Nat.reduceLeDiff, Nat.reduceAdd, Nat.reduceMul, Int.reduceLE]
  refine ⟨_, _, _, _, (Option.some.inj ho356).symm, ?_, es385, a387, b388, (rng_wrap64 _), rfl, rfl, rfl⟩
  refine Norm.mkL (js := [0]) (m := 1) [0, 1, 5, 6] [x0, (.int .i64 v1), (.sl 2 n 0 v386.length v386.length false), (.int .i64 (IntKind.i64.wrap (v350 + 1)))] (of_decide_eq_true rfl) ?_ (RnL.cons (.keep _ (slH_lt h0)) (RnL.cons (.keep _ (.int _ _)) (RnL.cons (Rn.own (js := [0]) 0 0) (RnL.cons (.keep _ (.int _ _)) RnL.nil)))) (RowsR.row 0 _ _ _ _ hp_get0 (RnL.all2 a387 tyCell_123.lt) RowsR.nil) rfl
  kernel_rfl
 clear hK362
 refine WQ.block ?_
 refine WQ.seq_k fun K394 hK394 => ?_
 obtain ⟨a404, q405, ho356⟩ := obs ho356
 obtain ⟨p406, p407, e408, p409, h410⟩ := at_ok q405 a13
 have gh410 := h410
 obtain ⟨rfl, i411, i412⟩ := h410
 refine WQ.region hT rfl ?_
 simp only [go_sem, ↓reduceIte, reduceCtorEq, Nat.reduceEqDiff, Nat.reduceLT, Nat.reduceLeDiff, Nat.reduceAdd, Nat.reduceMul, Int.reduceLE, rdSl_hp q12 (slH_lt h0), l14, c16, g17, p406, p407, p409]
 refine kn hK394 ?_
 clear hK394 K394
 refine WQ.cond (t := decide (a404.key ≠ v1)) ?_ (fun z413 => ?_) (fun z413 => ?_)
 kernel_rfl
 replace ho356 := ifT z413 ho356
 obtain ⟨v414, q415, ho356⟩ := obs ho356
 refine WQ.region hT rfl ?_
 simp only [go_sem, ↓reduceIte, reduceCtorEq, Nat.reduceEqDiff, Nat.reduceLT, Nat.reduceLeDiff, Nat.reduceAdd, Nat.reduceMul, Int.reduceLE, rdSl_hp q12 (slH_lt h0), l14, c16, g17, all2_length a348, own_take a348, p406, p407, p409]
 refine ⟨123, rfl, app_mv1 (j := 0) rfl (of_decide_eq_true rfl) rfl ?_ ?_ (all2_length a348) q415 a348 gh410 ?_⟩
 simp only [go_sem, ↓reduceIte, reduceCtorEq, Nat.reduceEqDiff, Nat.reduceLT, Nat.reduceLeDiff, Nat.reduceAdd, Nat.reduceMul, Int.reduceLE, rdSl_hp q12 (slH_lt h0), l14, c16, g17, all2_length a348, own_take a348, p406, p407, p409]
 simp only [go_sem, ↓reduceIte, reduceCtorEq, Nat.reduceEqDiff, Nat.reduceLT, Nat.reduceLeDiff, Nat.reduceAdd, Nat.reduceMul, Int.reduceLE]
 unfold sealK; simp only [go_sem, ↓reduceIte, reduceCtorEq, Nat.reduceEqDiff, Nat.reduceLT, Nat.reduceLeDiff, Nat.reduceAdd, Nat.reduceMul, Int.reduceLE, rdSl_hp q12 (slH_lt h0), l14, c16, g17, all2_length (snoc_all2 q415 a348 gh410), own_take (snoc_all2 q415 a348 gh410), all2_length a348, own_take a348, p406, p407, p409]
 refine j389 _ _ _ (es346 ++ [(.agg [(.int .i64 a404.key), (.int .i64 a404.value)])]) v414 (snoc_all2 q415 a348 gh410) (snoc_len q415 a348 gh410) ?_ ho356
 refine Norm.mkL (js := [2]) (m := 1) [0, 1, 5, 6] [x0, (.int .i64 v1), (.sl 2 (n + 2) 0 v414.length v414.length false), (.int .i64 v350)] (of_decide_eq_true rfl) ?_ (RnL.cons (.keep _ (slH_lt h0)) (RnL.cons (.keep _ (.int _ _)) (RnL.cons (Rn.own (js := [2]) 2 0) (RnL.cons (.keep _ (.int _ _)) RnL.nil)))) (RowsR.row 2 _ _ _ _ (hp_get 2) (RnL.all2 (snoc_all2 q415 a348 gh410) tyCell_123.lt) RowsR.nil) rfl
 kernel_rfl
 replace ho356 := ifF z413 ho356
 refine WQ.skip ?_
 simp only [go_sem, ↓reduceIte, reduceCtorEq, Nat.reduceEqDiff, Nat.reduceLT, Nat.reduceLeDiff, Nat.reduceAdd, Nat.reduceMul, Int.reduceLE]
 refine j389 _ _ _ es346 v347 a348 b349 ?_ ho356
 refine Norm.mkL (js := [0]) (m := 1) [0, 1, 5, 6] [x0, (.int .i64 v1), (.sl 2 n 0 v347.length v347.length false), (.int .i64 v350)] (of_decide_eq_true rfl) ?_ (RnL.cons (.keep _ (slH_lt h0)) (RnL.cons (.keep _ (.int _ _)) (RnL.cons (Rn.own (js := [0]) 0 0) (RnL.cons (.keep _ (.int _ _)) RnL.nil)))) (RowsR.row 0 _ _ _ _ hp_get0 (RnL.all2 a348 tyCell_123.lt) RowsR.nil) rfl
 kernel_rfl
 replace ho356 := ifF z361 ho356
 refine WQ.exit ?_
 simp only [go_sem, ↓reduceIte, reduceCtorEq, Nat.reduceEqDiff, Nat.reduceLT, Nat.reduceLeDiff, Nat.reduceAdd, Nat.reduceMul, Int.reduceLE]
 have e416 := hf355 _ (Option.some.inj ho356).symm
 rw [← e416] at hm
 refine j215 _ _ _ es346 v347 a348 b349 ?_ hm
 refine Norm.mkL (js := [0]) (m := 1) [5] [(.sl 2 n 0 v347.length v347.length false)] (of_decide_eq_true rfl) ?_ (RnL.cons (Rn.own (js := [0]) 0 0) RnL.nil) (RowsR.row 0 _ _ _ _ hp_get0 (RnL.all2 a348 tyCell_123.lt) RowsR.nil) rfl
 kernel_rfl
def m_s_l1With_a1 (fu : Nat) (v263 : List CellD) : Option (List CellD) :=
  some v263
def m_s_l1With_a2 (fu : Nat) (v1 : Int) (v2 : Int) (v32 : List CellD) (v219 : Int) : Option (List CellD) :=
  (Option.bind (sliceL v32 0 v219) fun v271 => (Option.bind (sliceL v32 v219 (v32.length : Int)) fun v282 => (Option.bind (appL 16 ([] : List CellD) v271) fun v293 => (Option.bind (snocL 16 v293 (CellD.mk v1 v2)) fun v296 => (Option.bind (appL 16 v296 v282) fun v298 => (m_s_l1With_a1 fu v298))))))
def m_s_l1With_a3 (fu : Nat) (v422 : Int) (v469 : Bool) : Option (Int ⊕ (Int ⊕ Option (List CellD))) :=
  (if v469 = true then some (Sum.inl (IntKind.i64.wrap (v422 + 1))) else some (Sum.inr (Sum.inl v422)))
def m_s_l1With_a4 (fu : Nat) (v1 : Int) (v32 : List CellD) (v422 : Int) : Option (Int ⊕ (Int ⊕ Option (List CellD))) :=
  (if (decide (v422 < (v32.length : Int))) = true then (Option.bind (atL v32 v422) fun a478 => (m_s_l1With_a3 fu v422 (decide (a478.key < v1)))) else (m_s_l1With_a3 fu v422 false))
def m_s_l1With (fu : Nat) (v0 : List CellD) (v1 : Int) (v2 : Int) : Option (List CellD) :=
  (Option.bind (m_s_l1Without fu v0 v1) fun v32 => (Option.bind (iterN (fun (s : Int) => m_s_l1With_a4 fu v1 v32 s) fu 0) fun q425 => Sum.elim (fun (b : Int) => (m_s_l1With_a2 fu v1 v2 v32 b)) (fun x => x) q425))
end
end Go.Proofs.Ytcngfjmfgeckmaa
end
