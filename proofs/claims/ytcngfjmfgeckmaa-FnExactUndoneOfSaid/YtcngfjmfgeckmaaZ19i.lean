import Derived.Sort.Row
import Derived.Sort.Grow
import Derived.Shelf.SortM.Plain
import Derived.Shelf.SortM.SortNone
import Derived.Test.YtcngfjmfgeckmaaZ19h
set_option linter.unusedSimpArgs false
set_option linter.unusedVariables false
set_option linter.unusedSectionVars false
namespace Go.Proofs.Ytcngfjmfgeckmaa
open Go
section
variable {fu : Nat}
theorem search_bool {α : Type} {l : List α} {f : α → Option Bool} {g : α → Bool} {fu : Nat} (hf : ∀ a, a ∈ l → f a = some (g a)) (hl : l.length < 9223372036854775807) (hfu : l.length < fu) (step : Int → Option (Int ⊕ (Unit ⊕ Option Bool)))
    (hs : ∀ v, step v = (if (decide (v < (l.length : Int))) = true then (Option.bind (atL l v) fun a => (Option.bind (f a) fun b => (if b = true then some (Sum.inr (Sum.inr (some true))) else some (Sum.inl (IntKind.i64.wrap (v + 1)))))) else some (Sum.inr (Sum.inl ())))) :
    (Option.bind (iterN step fu 0) fun q => Sum.elim (fun (_ : Unit) => some false) (fun x => x) q) = some (l.any g) := by
  have key : ∀ (k i : Nat), i ≤ l.length → l.length - i < k → iterN step k (i : Int) = some (if (l.drop i).any g = true then Sum.inr (some true) else Sum.inl ()) := by
    intro k
    induction k with
    | zero => intro i _ h; omega
    | succ k ih =>
      intro i hi hk
      unfold iterN
      rw [hs]
      by_cases hlt : i < l.length
      · rw [if_pos (decide_eq_true (Int.ofNat_lt.2 hlt)), atL_nat, List.getElem?_eq_getElem hlt]
        simp only [Option.bind_some]
        rw [hf _ (List.getElem_mem hlt), List.drop_eq_getElem_cons hlt, List.any_cons]
        simp only [Option.bind_some]
        cases hg : g l[i] with
        | true => simp
        | false =>
          simp only [Bool.false_eq_true, if_false, Bool.false_or]
          rw [wrap_succ (by omega)]
          exact ih (i + 1) hlt (by omega)
      · rw [if_neg (by simp; omega), List.drop_of_length_le (by omega)]
        rfl
  have h := key fu 0 (Nat.zero_le _) (by omega)
  rw [show ((0 : Nat) : Int) = 0 from rfl, List.drop_zero] at h
  rw [h]
  cases l.any g <;> rfl
theorem m_s_l1Has_eq {l : List Int} {v : Int} (hl : l.length < 9223372036854775807) (hfu : l.length < fu) : m_s_l1Has fu l v = some (l.any fun a => decide (a = v)) :=
  search_bool (f := fun a => some (decide (a = v))) (fun a _ => rfl) hl hfu _ (fun _ => rfl)
def heldS (s : SimD) (r : RecD) : Bool := s.held.any fun a => (decide (a.key = r.key) && decide (a.txn ≠ r.txn)) && !(s.ended.any fun t => decide (t = a.txn))
theorem m_s_l13Held_eq {s : SimD} {r : RecD} (hl : s.held.length < 9223372036854775807) (hfu : s.held.length < fu) (hl2 : s.ended.length < 9223372036854775807) (hfu2 : s.ended.length < fu) : m_s_l13Held fu s r = some (heldS s r) := by
  refine search_bool (f := fun a => some ((decide (a.key = r.key) && decide (a.txn ≠ r.txn)) && !(s.ended.any fun t => decide (t = a.txn)))) (fun a _ => rfl) hl hfu _ (fun v => ?_)
  unfold m_s_l13Held_a3 m_s_l13Held_a2
  cases decide (v < (s.held.length : Int)) with
  | false => rfl
  | true =>
    simp only [if_true]
    cases atL s.held v with
    | none => rfl
    | some a =>
      simp only [Option.bind_some]
      rw [m_s_l1Has_eq hl2 hfu2]
      cases decide (a.key = r.key) <;> cases decide (a.txn ≠ r.txn) <;> rfl
theorem snocC_eq {l : List CellD} {a : CellD} (h : l.length ≤ 1000000) : snocL 16 l a = some (l ++ [a]) := by
  unfold snocL roomL
  rw [if_pos (by simp; omega)]
theorem m_s_l1Without_eq {l : List CellD} {k : Int} (hl : l.length ≤ 1000000) (hfu : l.length < fu) : m_s_l1Without fu l k = some (l.filter fun c => decide (c.key ≠ k)) := by
  have key : ∀ (m i : Nat), i ≤ l.length → l.length - i < m → iterN (fun (s : (List CellD) × Int) => m_s_l1Without_a3 fu l k s.1 s.2) m ((l.take i).filter (fun c => decide (c.key ≠ k)), (i : Int)) = some (Sum.inl (l.filter fun c => decide (c.key ≠ k))) := by
    intro m
    induction m with
    | zero => intro i _ h; omega
    | succ m ih =>
      intro i hi hm
      unfold iterN
      by_cases hlt : i < l.length
      · have hge := List.getElem?_eq_getElem hlt
        have hle : ((l.take i).filter (fun c => decide (c.key ≠ k))).length ≤ 1000000 := Nat.le_trans (List.length_filter_le _ _) (by rw [List.length_take]; omega)
        have ht : (l.take (i + 1)).filter (fun c => decide (c.key ≠ k)) = (l.take i).filter (fun c => decide (c.key ≠ k)) ++ (if decide (l[i].key ≠ k) = true then [l[i]] else []) := by
          rw [List.take_add_one, hge, List.filter_append]
          simp [List.filter_cons]
        have step : m_s_l1Without_a3 fu l k ((l.take i).filter (fun c => decide (c.key ≠ k))) (i : Int) = some (Sum.inl ((l.take (i + 1)).filter (fun c => decide (c.key ≠ k)), ((i + 1 : Nat) : Int))) := by
          unfold m_s_l1Without_a3 m_s_l1Without_a2
          rw [if_pos (decide_eq_true (Int.ofNat_lt.2 hlt)), atL_nat, hge, Option.bind_some, snocC_eq hle, wrap_succ (by omega), ht]
          cases decide (l[i].key ≠ k) <;> simp
        simp only [step]
        exact ih (i + 1) hlt (by omega)
      · have step : m_s_l1Without_a3 fu l k ((l.take i).filter (fun c => decide (c.key ≠ k))) (i : Int) = some (Sum.inr (Sum.inl (l.filter fun c => decide (c.key ≠ k)))) := by
          unfold m_s_l1Without_a3
          rw [if_neg (by simp; omega), List.take_of_length_le (by omega)]
        simp only [step]
  have h := key fu 0 (Nat.zero_le _) (by omega)
  unfold m_s_l1Without m_s_l1Without_a1
  rw [show (([] : List CellD), (0 : Int)) = ((l.take 0).filter (fun c => decide (c.key ≠ k)), ((0 : Nat) : Int)) from rfl, h]
  rfl
theorem rank_iter {l : List CellD} {k : Int} (hl : l.length ≤ 1000000) : ∀ (m i : Nat), i ≤ l.length → l.length - i < m → iterN (fun (s : Int) => m_s_l1With_a4 fu k l s) m (i : Int) = some (Sum.inl ((i + rank (l.drop i) k : Nat) : Int)) := by
  intro m
  induction m with
  | zero => intro i _ h; omega
  | succ m ih =>
    intro i hi hm
    unfold iterN
    by_cases hlt : i < l.length
    · have hge := List.getElem?_eq_getElem hlt
      rw [List.drop_eq_getElem_cons hlt]
      by_cases hk : l[i].key < k
      · have step : m_s_l1With_a4 fu k l (i : Int) = some (Sum.inl ((i + 1 : Nat) : Int)) := by
          unfold m_s_l1With_a4 m_s_l1With_a3
          rw [if_pos (decide_eq_true (Int.ofNat_lt.2 hlt)), atL_nat, hge, Option.bind_some, if_pos (decide_eq_true hk), wrap_succ (by omega)]
        simp only [step]
        rw [ih (i + 1) hlt (by omega), rank, if_pos hk]
        congr 3; omega
      · have step : m_s_l1With_a4 fu k l (i : Int) = some (Sum.inr (Sum.inl (i : Int))) := by
          unfold m_s_l1With_a4 m_s_l1With_a3
          rw [if_pos (decide_eq_true (Int.ofNat_lt.2 hlt)), atL_nat, hge, Option.bind_some, if_neg (by simp; omega)]
        simp only [step]
        rw [rank, if_neg hk]
        rfl
    · have step : m_s_l1With_a4 fu k l (i : Int) = some (Sum.inr (Sum.inl (i : Int))) := by
        unfold m_s_l1With_a4 m_s_l1With_a3
        rw [if_neg (by simp; omega)]
        rfl
      simp only [step]
      rw [List.drop_of_length_le (by omega)]
      rfl
theorem appC_eq {l l2 : List CellD} (h : l.length + l2.length ≤ 2000000) : appL 16 l l2 = some (l ++ l2) := by
  unfold appL roomL
  rw [if_pos (by simp; omega)]
theorem m_s_l1With_eq {l : List CellD} {k w : Int} (hl : l.length ≤ 1000000) (hfu : l.length < fu) :
    m_s_l1With fu l k w = some ((l.filter fun c => decide (c.key ≠ k)).take (rank (l.filter fun c => decide (c.key ≠ k)) k) ++ [⟨k, w⟩] ++ (l.filter fun c => decide (c.key ≠ k)).drop (rank (l.filter fun c => decide (c.key ≠ k)) k)) := by
  unfold m_s_l1With
  rw [m_s_l1Without_eq hl hfu, Option.bind_some]
  have hf : (l.filter fun c => decide (c.key ≠ k)).length ≤ l.length := List.length_filter_le _ _
  generalize (l.filter fun c => decide (c.key ≠ k)) = v at hf ⊢
  have h := rank_iter (fu := fu) (l := v) (k := k) (by omega) fu 0 (Nat.zero_le _) (by omega)
  rw [show ((0 : Nat) : Int) = 0 from rfl, List.drop_zero, Nat.zero_add] at h
  have hr := rank_le k v
  rw [h, Option.bind_some, Sum.elim_inl]
  unfold m_s_l1With_a2 m_s_l1With_a1
  have e1 : sliceL v 0 ((rank v k : Nat) : Int) = some (v.take (rank v k)) := by
    unfold sliceL
    rw [if_pos (by simp; omega)]
    simp
  have e2 : sliceL v ((rank v k : Nat) : Int) (v.length : Int) = some (v.drop (rank v k)) := by
    unfold sliceL
    rw [if_pos (by simp; omega)]
    simp only [Int.toNat_natCast]
    rw [List.take_of_length_le (by rw [List.length_drop]; exact Nat.le_refl _)]
  have l1 : (v.take (rank v k)).length = rank v k := by rw [List.length_take]; omega
  rw [e1, Option.bind_some, e2, Option.bind_some, appC_eq (by simp; omega), Option.bind_some, List.nil_append, snocC_eq (by omega), Option.bind_some, appC_eq (by simp; omega), Option.bind_some]
end
end Go.Proofs.Ytcngfjmfgeckmaa
namespace Go.Proofs.Ytcngfjmfgeckmaa
open Go
section
variable {fu : Nat}
theorem idx_search {α : Type} {l : List α} {f : α → Option Bool} {g : α → Bool} {fu : Nat} (hf : ∀ a, a ∈ l → f a = some (g a)) (hl : l.length < 9223372036854775807) (hfu : l.length < fu) :
    (Option.bind (iterN (searchStep l f) fu 0) fun q => Sum.elim (fun (_ : Unit) => some (-1)) (fun x => x) q) = some (match l.findIdx? g with | some j => ((j : Nat) : Int) | none => -1) := by
  have h := iter_search hf hl fu 0 (Nat.zero_le _) (by omega)
  rw [show ((0 : Nat) : Int) = 0 from rfl] at h
  rw [h, List.drop_zero]
  cases hx : l.findIdx? g with
  | none => rfl
  | some j => simp
theorem m_s_l1Find_eq {l : List CellD} {k : Int} (hl : l.length ≤ 1000000) (hfu : l.length < fu) : m_s_l1Find fu l k = some (match l.findIdx? (fun c => decide (c.key = k)) with | some j => ((j : Nat) : Int) | none => -1) :=
  idx_search (f := fun a : CellD => some (decide (a.key = k))) (g := fun a : CellD => decide (a.key = k)) (fun a _ => rfl) (by omega) hfu
theorem hasKey_cons (c : CellD) (l : List CellD) (k : Int) : hasKey (c :: l) k = if c.key < k then hasKey l k else decide (c.key = k) := by
  unfold hasKey
  rw [rank]
  by_cases h : c.key < k
  · rw [if_pos h, if_pos h]; rfl
  · rw [if_neg h, if_neg h]; rfl
theorem hasKey_none {l : List CellD} {k : Int} (h : ∀ c, c ∈ l → k < c.key) : rank l k = 0 ∧ hasKey l k = false := by
  cases l with
  | nil => exact ⟨rfl, rfl⟩
  | cons c l =>
    have := h c (by simp)
    rw [hasKey_cons, rank, if_neg (by omega), if_neg (by omega)]
    exact ⟨rfl, decide_eq_false (by omega)⟩
theorem find_rank {k : Int} : ∀ {l : List CellD}, rise l → l.findIdx? (fun c => decide (c.key = k)) = if hasKey l k = true then some (rank l k) else none
  | [], _ => rfl
  | c :: l, hr => by
    have hr' := List.pairwise_cons.1 hr
    rw [List.findIdx?_cons, hasKey_cons, rank]
    by_cases h1 : c.key < k
    · rw [if_pos h1, if_pos h1, if_neg (by simp; omega), find_rank hr'.2]
      split <;> rfl
    · rw [if_neg h1, if_neg h1]
      by_cases h2 : c.key = k
      · simp [h2]
      · simp only [h2, decide_false, Bool.false_eq_true, if_false]
        rw [find_rank hr'.2, (hasKey_none (fun x hx => by have := hr'.1 x hx; omega)).2]
        rfl
theorem valC_has {l : List CellD} {k : Int} {c : CellD} (h1 : l[rank l k]? = some c) (h2 : c.key = k) : valC l k = ⟨0, c.value⟩ := by
  unfold valC; rw [h1]; simp [h2]
theorem valC_none {l : List CellD} {k : Int} (h : hasKey l k = false) : valC l k = ⟨4, 0⟩ := by
  unfold valC
  unfold hasKey at h
  split at h
  · rename_i c hc; simp [of_decide_eq_false h]
  · rfl
def wasP (c : List CellD) (r : RecD) : Bool := if (valC c r.key).code = 0 then r.had && decide (r.old = (valC c r.key).value) else !r.had
theorem m_s_l13Was_eq {s : SimD} {r : RecD} (hr : rise s.cells) (hl : s.cells.length ≤ 1000000) (hfu : s.cells.length < fu) : m_s_l13Was fu s r = some (wasP s.cells r) := by
  unfold m_s_l13Was m_s_l13Was_a1 wasP
  rw [m_s_l1Find_eq hl hfu, find_rank hr, Option.bind_some]
  cases hh : hasKey s.cells r.key with
  | false => rw [valC_none hh]; rfl
  | true =>
    obtain ⟨c, h1, h2⟩ := hasKey_get hh
    rw [valC_has h1 h2]
    show (if decide (((rank s.cells r.key : Nat) : Int) < 0) = true then _ else _) = _
    rw [if_neg (by simp), if_pos rfl]
    cases hd : r.had with
    | false => rfl
    | true =>
      rw [if_pos rfl]
      show Option.bind (atL s.cells ((rank s.cells r.key : Nat) : Int)) _ = _
      rw [atL_nat, h1, Option.bind_some]
      rfl
def insC : List CellD → Int → Int → List CellD
  | [], k, w => [⟨k, w⟩]
  | c :: l, k, w => if c.key < k then c :: insC l k w else if c.key = k then ⟨k, w⟩ :: l else ⟨k, w⟩ :: c :: l
def delC : List CellD → Int → List CellD
  | [], _ => []
  | c :: l, k => if c.key < k then c :: delC l k else if c.key = k then l else c :: l
theorem withC_ins (k w : Int) : ∀ l : List CellD, withC l k w = insC l k w
  | [] => rfl
  | c :: l => by
    have ih := withC_ins k w l
    unfold withC at ih ⊢
    rw [hasKey_cons, rank, insC]
    by_cases h1 : c.key < k
    · rw [if_pos h1, if_pos h1, if_pos h1, ← ih]
      split <;> simp
    · rw [if_neg h1, if_neg h1, if_neg h1]
      by_cases h2 : c.key = k <;> simp [h2]
theorem withoutC_del (k : Int) : ∀ l : List CellD, withoutC l k = delC l k
  | [] => rfl
  | c :: l => by
    have ih := withoutC_del k l
    unfold withoutC at ih ⊢
    rw [hasKey_cons, rank, delC]
    by_cases h1 : c.key < k
    · rw [if_pos h1, if_pos h1, if_pos h1, ← ih]
      split <;> simp
    · rw [if_neg h1, if_neg h1, if_neg h1]
      by_cases h2 : c.key = k <;> simp [h2]
theorem filter_gt {k : Int} {l : List CellD} (h : ∀ c, c ∈ l → k < c.key) : l.filter (fun c => decide (c.key ≠ k)) = l :=
  List.filter_eq_self.2 fun c hc => decide_eq_true (by have := h c hc; omega)
theorem filter_del {k : Int} : ∀ {l : List CellD}, rise l → l.filter (fun c => decide (c.key ≠ k)) = delC l k
  | [], _ => rfl
  | c :: l, hr => by
    have hr' := List.pairwise_cons.1 hr
    rw [List.filter_cons, delC]
    by_cases h1 : c.key < k
    · rw [if_pos h1, if_pos (decide_eq_true (by omega)), filter_del hr'.2]
    · rw [if_neg h1]
      by_cases h2 : c.key = k
      · rw [if_pos h2, if_neg (by simp [h2]), filter_gt (fun x hx => by have := hr'.1 x hx; omega)]
      · rw [if_neg h2, if_pos (decide_eq_true h2), filter_gt (fun x hx => by have := hr'.1 x hx; omega)]
def insR (v : List CellD) (k w : Int) : List CellD := v.take (rank v k) ++ [⟨k, w⟩] ++ v.drop (rank v k)
theorem insR_cons (c : CellD) (v : List CellD) (k w : Int) : insR (c :: v) k w = if c.key < k then c :: insR v k w else ⟨k, w⟩ :: c :: v := by
  unfold insR
  rw [rank]
  split <;> simp
theorem insR_gt {v : List CellD} {k w : Int} (h : ∀ c, c ∈ v → k < c.key) : insR v k w = ⟨k, w⟩ :: v := by
  unfold insR
  rw [(hasKey_none h).1]; simp
theorem insR_del (k w : Int) : ∀ {l : List CellD}, rise l → insR (delC l k) k w = insC l k w
  | [], _ => rfl
  | c :: l, hr => by
    have hr' := List.pairwise_cons.1 hr
    rw [delC, insC]
    by_cases h1 : c.key < k
    · rw [if_pos h1, if_pos h1, insR_cons, if_pos h1, insR_del k w hr'.2]
    · rw [if_neg h1, if_neg h1]
      by_cases h2 : c.key = k
      · rw [if_pos h2, if_pos h2, insR_gt (fun x hx => by have := hr'.1 x hx; omega)]
      · rw [if_neg h2, if_neg h2, insR_cons, if_neg h1]
theorem insC_mem {k w : Int} : ∀ {l : List CellD} {c : CellD}, c ∈ insC l k w → c = ⟨k, w⟩ ∨ c ∈ l
  | [], c, h => .inl (List.mem_singleton.1 h)
  | d :: l, c, h => by
    unfold insC at h
    split at h
    · rcases List.mem_cons.1 h with h | h
      · exact .inr (by simp [h])
      · rcases insC_mem h with h | h
        · exact .inl h
        · exact .inr (by simp [h])
    · split at h <;> simp at h ⊢ <;> rcases h with h | h <;> simp [h]
theorem delC_mem {k : Int} : ∀ {l : List CellD} {c : CellD}, c ∈ delC l k → c ∈ l
  | [], c, h => h
  | d :: l, c, h => by
    unfold delC at h
    split at h
    · rcases List.mem_cons.1 h with h | h
      · simp [h]
      · simp [delC_mem h]
    · split at h
      · simp [h]
      · exact h
theorem insC_rise {k w : Int} : ∀ {l : List CellD}, rise l → rise (insC l k w)
  | [], _ => List.pairwise_singleton _ _
  | c :: l, hr => by
    have hr' := List.pairwise_cons.1 hr
    unfold insC
    split
    · rename_i h1
      refine List.pairwise_cons.2 ⟨fun x hx => ?_, insC_rise hr'.2⟩
      rcases insC_mem hx with rfl | hx
      · exact h1
      · exact hr'.1 x hx
    · split
      · rename_i h2
        exact List.pairwise_cons.2 ⟨fun x hx => by have := hr'.1 x hx; show k < x.key; omega, hr'.2⟩
      · refine List.pairwise_cons.2 ⟨fun x hx => ?_, hr⟩
        show k < x.key
        rcases List.mem_cons.1 hx with rfl | hx
        · omega
        · have := hr'.1 x hx; omega
theorem delC_rise {k : Int} : ∀ {l : List CellD}, rise l → rise (delC l k)
  | [], h => h
  | c :: l, hr => by
    have hr' := List.pairwise_cons.1 hr
    unfold delC
    split
    · exact List.pairwise_cons.2 ⟨fun x hx => hr'.1 x (delC_mem hx), delC_rise hr'.2⟩
    · split
      · exact hr'.2
      · exact hr
theorem insC_len {k w : Int} : ∀ {l : List CellD}, (insC l k w).length ≤ l.length + 1
  | [] => Nat.le_refl _
  | c :: l => by
    have := insC_len (k := k) (w := w) (l := l)
    unfold insC
    split <;> (try split) <;> simp <;> omega
theorem delC_len {k : Int} : ∀ {l : List CellD}, (delC l k).length ≤ l.length
  | [] => Nat.le_refl _
  | c :: l => by
    have := delC_len (k := k) (l := l)
    unfold delC
    split <;> (try split) <;> simp <;> omega
theorem insC_keys {k w : Int} {l : List CellD} (h : keysOk l) (hk : 0 ≤ k ∧ k ≤ 1000000) : keysOk (insC l k w) := fun c hc => by
  rcases insC_mem hc with rfl | hc
  · exact hk
  · exact h c hc
theorem delC_keys {k : Int} {l : List CellD} (h : keysOk l) : keysOk (delC l k) := fun c hc => h c (delC_mem hc)
theorem back_iter {l : List RecD} {t : Int} (hl : l.length ≤ 1000000) (hfu : l.length < fu) :
    ∀ (j k : Nat), j ≤ l.length → j < k → iterN (fun (s : (List Int) × (List Int) × Int) => m_s_l3Back_a5 fu l t s.1 s.2.1 s.2.2) k (goneG t (l.drop j), chainG t j (l.drop j), (j : Int) - 1) = some (Sum.inl (chainG t 0 l)) := by
  intro j
  induction j with
  | zero =>
    intro k _ hk
    obtain ⟨k, rfl⟩ : ∃ k', k = k' + 1 := ⟨k - 1, by omega⟩
    rfl
  | succ j ih =>
    intro k hj hk
    obtain ⟨k, rfl⟩ : ∃ k', k = k' + 1 := ⟨k - 1, by omega⟩
    have hjl : j < l.length := hj
    have hr := List.getElem?_eq_getElem hjl
    have hcs := chainG_step (txn := t) hr
    have hgs := goneG_step (txn := t) hr
    have hlen := chainG_len t (l.drop (j + 1)) (j + 1)
    have hlen2 := goneG_len t (l.drop (j + 1))
    have hlen3 := goneG_len t (l.drop j)
    rw [List.length_drop] at hlen hlen2 hlen3
    have hun : l[j].kind = 2 → (l.drop j).any (undoes t ((j : Int) + 1)) = (l.drop (j + 1)).any (undoes t ((j : Int) + 1)) := fun hk2 => by
      rw [List.drop_eq_getElem_cons hjl, List.any_cons]
      unfold undoes
      simp [hk2]
    have e0 : ((j + 1 : Nat) : Int) - 1 = (j : Int) := by omega
    have e1 : IntKind.i64.wrap ((j : Int) + 1) = (j : Int) + 1 := wrap_in (by omega) (by omega)
    have e2 : IntKind.i64.wrap ((j : Int) - 1) = (j : Int) - 1 := wrap_in (by omega) (by omega)
    have ehas : m_s_l1Has fu (goneG t (l.drop j)) ((j : Int) + 1) = some ((l.drop j).any (undoes t ((j : Int) + 1))) := by
      rw [m_s_l1Has_eq (by omega) (by omega)]
      exact congrArg some (goneG_has t _ _)
    have goal : m_s_l3Back_a5 fu l t (goneG t (l.drop (j + 1))) (chainG t (j + 1) (l.drop (j + 1))) (j : Int) = some (Sum.inl (goneG t (l.drop j), chainG t j (l.drop j), (j : Int) - 1)) := by
      unfold m_s_l3Back_a5 m_s_l3Back_a4 m_s_l3Back_a3 m_s_l3Back_a2
      rw [if_pos (decide_eq_true (Int.natCast_nonneg _)), e1, e2, atL_nat, hr, Option.bind_some]
      rw [snocL_eq (by omega), snocL_eq (by omega)]
      by_cases h1 : l[j].txn = t
      · by_cases h2 : l[j].kind = 5
        · have hg : goneG t (l.drop (j + 1)) ++ [l[j].back] = goneG t (l.drop j) := by rw [hgs]; simp [h1, h2]
          have hc : chainG t j (l.drop j) = chainG t (j + 1) (l.drop (j + 1)) := by rw [hcs]; simp [h2]
          rw [Option.bind_some, hg, hc]
          simp [h1, h2]
        · have hg : goneG t (l.drop (j + 1)) = goneG t (l.drop j) := by rw [hgs]; simp [h2]
          rw [hg, ehas, Option.bind_some]
          by_cases h3 : l[j].kind = 2
          · rw [hun h3, hcs]
            cases hb : (l.drop (j + 1)).any (undoes t ((j : Int) + 1)) <;> simp [h1, h3]
          · have hc : chainG t j (l.drop j) = chainG t (j + 1) (l.drop (j + 1)) := by rw [hcs]; simp [h3]
            rw [hc]
            simp [h1, h2, h3]
      · have hg : goneG t (l.drop (j + 1)) = goneG t (l.drop j) := by rw [hgs]; simp [h1]
        have hc : chainG t j (l.drop j) = chainG t (j + 1) (l.drop (j + 1)) := by rw [hcs]; simp [h1]
        rw [hg, hc]
        simp [h1]
    unfold iterN
    rw [e0]
    simp only [goal]
    exact ih k (by omega) (by omega)
theorem m_s_l3Back_eq {l : List RecD} {t : Int} (hl : l.length ≤ 1000000) (hfu : l.length < fu) : m_s_l3Back fu l t = some (chainG t 0 l) := by
  unfold m_s_l3Back m_s_l3Back_a1
  have h := back_iter (t := t) hl hfu l.length fu (Nat.le_refl _) hfu
  rw [List.drop_length] at h
  have e : IntKind.i64.wrap ((l.length : Int) - 1) = (l.length : Int) - 1 := wrap_in (by omega) (by omega)
  rw [e]
  rw [show (([] : List Int), ([] : List Int), (l.length : Int) - 1) = (goneG t ([] : List RecD), chainG t l.length ([] : List RecD), (l.length : Int) - 1) from rfl, h]
  rfl
end
end Go.Proofs.Ytcngfjmfgeckmaa
namespace Go.Proofs.Ytcngfjmfgeckmaa
open Go
section
variable {fu : Nat}
def undoOk (a : List RecD) (r : RecD) : Bool :=
  match chainG r.txn 0 a with
  | [] => false
  | b :: _ => decide (b = r.back) && (match a[(r.back - 1).toNat]? with | some x => (decide (r.key = x.key) && (r.has == x.had)) && decide (r.new = x.old) | none => false)
def nextC (a : List RecD) (c : List CellD) (r : RecD) : Int :=
  if r.kind = 6 then 0 else
  if r.kind = 1 then (if (a.any fun x => decide (x.txn = r.txn)) = true then 10 else 0) else
  if (!kinds a r.txn [1] || kinds a r.txn [3, 4]) = true then 10 else
  if (r.turns && (!(r.had == decide ((valC c r.key).code = 0)) || decide (r.old ≠ (valC c r.key).value))) = true then 1 else
  if (decide (r.kind = 2) && heldP a r) = true then 9 else
  if r.kind = 5 then (if undoOk a r = true then 0 else 4) else
  if r.kind = 4 then (if chainG r.txn 0 a = [] then 0 else 4) else
  if (decide (r.kind = 2) || decide (r.kind = 3)) = true then (if kinds a r.txn [5] = true then 4 else 0) else 0
theorem m_i_soundNext_eq {a : List RecD} {c : List CellD} {r : RecD} (ha : a.length ≤ 100000) (hr : rise c) (hk : keysOk c) (h2 : 0 ≤ r.key ∧ r.key ≤ 1000000) (hl : c.length ≤ 1000000) (hfu : a.length < fu) (hfu2 : c.length < fu) (h3 : 2 < fu) :
    m_i_soundNext fu a c r = some (nextC a c r) := by
  unfold m_i_soundNext nextC
  by_cases k6 : r.kind = 6
  · rw [if_pos (decide_eq_true k6), if_pos k6]
  rw [if_neg (by simp [k6]), if_neg k6, m_g_ContainsFunc_Rec__i_soundNext_1_eq (by omega) hfu, Option.bind_some]
  by_cases k1 : r.kind = 1
  · rw [if_pos (decide_eq_true k1), if_pos k1]
    split <;> rfl
  rw [if_neg (by simp [k1]), if_neg k1, m_i_kindsOf_eq (ks := [1]) (by omega) hfu (by decide) (by simp; omega), m_i_kindsOf_eq (ks := [3, 4]) (by omega) hfu (by decide) (by simp; omega), Option.bind_some, Option.bind_some]
  unfold m_i_soundNext_a7
  show (if (!kinds a r.txn [1]) = true then _ else if kinds a r.txn [3, 4] = true then _ else _) = _
  cases hb1 : kinds a r.txn [1] with
  | false => rfl
  | true =>
    cases hb2 : kinds a r.txn [3, 4] with
    | true => rfl
    | false =>
      simp only [Bool.not_true, Bool.false_eq_true, if_false, Bool.or_false, Bool.false_or]
      rw [m_i_valueIn_eq hr hk h2 hl hfu2, Option.bind_some]
      have a6T : m_i_soundNext_a6 fu a r true = some 1 := rfl
      have rest : m_i_soundNext_a6 fu a r false =
          some (if (decide (r.kind = 2) && heldP a r) = true then 9 else
            if r.kind = 5 then (if undoOk a r = true then 0 else 4) else
            if r.kind = 4 then (if chainG r.txn 0 a = [] then 0 else 4) else
            if (decide (r.kind = 2) || decide (r.kind = 3)) = true then (if kinds a r.txn [5] = true then 4 else 0) else 0) := by
        unfold m_i_soundNext_a6
        rw [if_neg (by decide), m_i_heldBy_eq (by omega) hfu h3, Option.bind_some]
        have inner : m_i_soundNext_a5 fu a r false = some (if r.kind = 5 then (if undoOk a r = true then 0 else 4) else
            if r.kind = 4 then (if chainG r.txn 0 a = [] then 0 else 4) else
            if (decide (r.kind = 2) || decide (r.kind = 3)) = true then (if kinds a r.txn [5] = true then 4 else 0) else 0) := by
          unfold m_i_soundNext_a5 m_i_soundNext_a4 m_i_soundNext_a3 m_i_soundNext_a2 m_i_soundNext_a1
          rw [if_neg (by decide), m_i_chain_eq (by omega) hfu, Option.bind_some, m_i_kindsOf_eq (ks := [5]) (by omega) hfu (by decide) (by simp; omega)]
          show _ = _
          by_cases k5 : r.kind = 5
          · rw [if_pos (decide_eq_true k5), if_pos k5]
            unfold undoOk
            cases hc : chainG r.txn 0 a with
            | nil => rfl
            | cons b t =>
              have hbd := chainG_bd (txn := r.txn) (l := a) (k := 0) (a := b) (by rw [hc]; simp)
              have e0 : atL (b :: t) 0 = some b := rfl
              rw [if_neg (by simp; omega), e0, Option.bind_some]
              by_cases hb : b = r.back
              · have hw : IntKind.i64.wrap (r.back - 1) = r.back - 1 := wrap_in (by omega) (by omega)
                have hlt : (r.back - 1).toNat < a.length := by omega
                have hat : atL a (r.back - 1) = some a[(r.back - 1).toNat] := by
                  unfold atL
                  rw [if_pos (by omega), List.getElem?_eq_getElem hlt]
                rw [if_neg (by simp [hb]), hw, hat, Option.bind_some, List.getElem?_eq_getElem hlt]
                simp only [decide_eq_true hb, Bool.true_and]
                generalize a[(r.back - 1).toNat] = x
                by_cases q1 : r.key = x.key
                · by_cases q2 : (r.has == x.had) = true
                  · by_cases q3 : r.new = x.old <;> simp [q1, q2, q3]
                  · simp [q1, q2]
                · simp [q1]
              · rw [if_pos (decide_eq_true hb)]
                simp [hb]
          · rw [if_neg (by simp [k5]), if_neg k5]
            by_cases k4 : r.kind = 4
            · rw [if_pos (decide_eq_true k4), if_pos k4]
              cases hc : chainG r.txn 0 a with
              | nil => rfl
              | cons b t => rw [if_pos (by simp), if_neg (by simp)]
            · rw [if_neg (by simp [k4]), if_neg k4]
              show (if decide (r.kind = 2) = true then (if decide (r.kind = 2) = true then Option.bind (some (kinds a r.txn [5])) _ else _) else (if decide (r.kind = 3) = true then Option.bind (some (kinds a r.txn [5])) _ else _)) = _
              simp only [Option.bind_some]
              by_cases k2 : r.kind = 2
              · cases kinds a r.txn [5] <;> simp [k2]
              · by_cases k3 : r.kind = 3
                · cases kinds a r.txn [5] <;> simp [k3]
                · simp [k2, k3]
        cases hh : heldP a r with
        | false =>
          rw [inner]
          simp only [Bool.and_false, Bool.false_eq_true, if_false]
          split <;> rfl
        | true =>
          rw [inner]
          by_cases k2 : r.kind = 2
          · simp only [k2, decide_true, if_true, Bool.and_true]
            rfl
          · simp [k2]
      cases ht : r.turns with
      | false => simp only [Bool.false_eq_true, if_false, Bool.false_and]; exact rest
      | true =>
        simp only [if_true, Bool.true_and]
        cases q1 : (r.had == decide ((valC c r.key).code = 0)) with
        | true =>
          by_cases q2 : r.old = (valC c r.key).value
          · simp only [q2, ne_eq, not_true_eq_false, decide_false, Bool.not_true, Bool.or_false, Bool.false_eq_true, if_false]; exact rest
          · simp only [q2, ne_eq, not_false_eq_true, decide_true, Bool.not_true, Bool.or_true, Bool.false_eq_true, if_true, if_false, a6T]
        | false => simp only [Bool.not_false, Bool.true_or, if_true, a6T]
def cellsN (c : List CellD) (r : RecD) : List CellD := if r.turns = true then (if r.has = true then insC c r.key r.new else delC c r.key) else c
def runC : List RecD → List CellD → List RecD → Int
  | _, _, [] => 0
  | a, c, r :: l => if recFault r ≠ 0 then recFault r else if nextC a c r ≠ 0 then nextC a c r else runC (a ++ [r]) (cellsN c r) l
structure Fine (r : RecD) : Prop where
  kind : 1 ≤ r.kind ∧ r.kind ≤ 6
  txn : r.kind ≠ 6 → 1 ≤ r.txn
  txn6 : r.kind = 6 → r.txn = 0
  key : 0 ≤ r.key ∧ r.key ≤ 31
  had : r.turns = true → r.had = false → r.old = 0
theorem fine_of {r : RecD} (h : recFault r = 0) : Fine r := by
  unfold recFault at h
  split at h
  · cases h
  rename_i h1
  split at h
  · cases h
  rename_i h2
  split at h
  · cases h
  rename_i h3
  unfold RecD.bad1 within at h1
  unfold RecD.bad3 at h3
  simp only [Bool.or_eq_true, Bool.not_eq_true', not_or, Bool.not_eq_false, Bool.and_eq_true, decide_eq_true_eq] at h1 h3
  refine ⟨h1.1.1.1.1.1, fun h6 => ?_, fun h6 => ?_, h1.1.1.1.2, fun _ hh => ?_⟩
  · have := h1.1.1.1.1.2
    rw [if_neg h6] at this
    simp at this; exact this.1
  · have := h1.1.1.1.1.2
    rw [if_pos h6] at this
    simpa using this
  · have := h3.1.1
    simpa [hh] using this
theorem cellsN_ok {c : List CellD} {r : RecD} (hf : Fine r) (hr : rise c) (hk : keysOk c) : rise (cellsN c r) ∧ keysOk (cellsN c r) ∧ (cellsN c r).length ≤ c.length + 1 := by
  unfold cellsN
  have := hf.key
  split
  · split
    · exact ⟨insC_rise hr, insC_keys hk (by omega), insC_len⟩
    · exact ⟨delC_rise hr, delC_keys hk, Nat.le_succ_of_le delC_len⟩
  · exact ⟨hr, hk, Nat.le_succ _⟩
theorem sound_iter {l : List RecD} (hl : l.length ≤ 400) (hfu : 1000 < fu) : ∀ (k i : Nat) (c : List CellD), i ≤ l.length → l.length - i < k → rise c → keysOk c → c.length ≤ i →
    (Option.bind (iterN (fun (s : (List CellD) × Int) => m_i_SoundRecs_a4 fu l s.1 s.2) k (c, (i : Int))) fun q => Sum.elim (fun (_ : Unit) => m_i_SoundRecs_a1 fu) (fun x => x) q) = some (runC (l.take i) c (l.drop i)) := by
  intro k
  induction k with
  | zero => intro i c _ h; omega
  | succ k ih =>
    intro i c hi hk hr hks hc
    unfold iterN
    by_cases hlt : i < l.length
    · have hge := List.getElem?_eq_getElem hlt
      have es : sliceL l 0 (i : Int) = some (l.take i) := by
        unfold sliceL
        rw [if_pos (by simp; omega)]
        simp
      rw [List.drop_eq_getElem_cons hlt, runC]
      have tk : l.take i ++ [l[i]] = l.take (i + 1) := by rw [List.take_add_one, hge]; rfl
      rw [tk]
      generalize l[i] = r at hge
      by_cases hf : recFault r = 0
      · have hfine := fine_of hf
        have hkey := hfine.key
        have ok := cellsN_ok hfine hr hks
        have step : (if r.turns = true then m_i_SoundRecs_a3 fu c (i : Int) r r.has else m_i_SoundRecs_a3 fu c (i : Int) r false) = some (Sum.inl (cellsN c r, ((i + 1 : Nat) : Int))) := by
          unfold m_i_SoundRecs_a3 m_i_SoundRecs_a2 cellsN
          rw [m_i_withCell_eq hr hks (by omega) (by omega) (by omega), m_i_without_eq hr hks (by omega) (by omega) (by omega), Option.bind_some, Option.bind_some, wrap_succ (by omega), withC_ins, withoutC_del]
          cases r.turns <;> cases r.has <;> rfl
        have key : m_i_SoundRecs_a4 fu l c (i : Int) = if nextC (l.take i) c r ≠ 0 then some (Sum.inr (Sum.inr (some (nextC (l.take i) c r)))) else some (Sum.inl (cellsN c r, ((i + 1 : Nat) : Int))) := by
          unfold m_i_SoundRecs_a4
          rw [if_pos (decide_eq_true (Int.ofNat_lt.2 hlt)), atL_nat, hge, Option.bind_some, if_neg (by simp [hf]), es, Option.bind_some, m_i_soundNext_eq (by rw [List.length_take]; omega) hr hks (by omega) (by omega) (by rw [List.length_take]; omega) (by omega) (by omega), Option.bind_some, step]
          by_cases hx : nextC (l.take i) c r = 0 <;> simp [hx]
        rw [if_neg (show ¬ recFault r ≠ 0 by simp [hf])]
        by_cases hx : nextC (l.take i) c r = 0
        · rw [if_neg (by simp [hx])] at key
          rw [if_neg (by simp [hx])]
          simp only [key]
          exact ih (i + 1) _ hlt (by omega) ok.1 ok.2.1 (by have := ok.2.2; omega)
        · rw [if_pos hx] at key
          rw [if_pos hx]
          simp only [key]
          rfl
      · have key : m_i_SoundRecs_a4 fu l c (i : Int) = some (Sum.inr (Sum.inr (some (recFault r)))) := by
          unfold m_i_SoundRecs_a4
          rw [if_pos (decide_eq_true (Int.ofNat_lt.2 hlt)), atL_nat, hge, Option.bind_some, if_pos (decide_eq_true hf)]
        simp only [key]
        rw [if_pos hf]
        rfl
    · have key : m_i_SoundRecs_a4 fu l c (i : Int) = some (Sum.inr (Sum.inl ())) := by
        unfold m_i_SoundRecs_a4
        rw [if_neg (by simp; omega)]
      simp only [key]
      rw [List.drop_of_length_le (by omega)]
      rfl
theorem m_i_SoundRecs_eq {l : List RecD} (hfu : 1000 < fu) : m_i_SoundRecs fu l = some (if 400 < l.length then 2 else runC [] [] l) := by
  unfold m_i_SoundRecs
  by_cases hl : 400 < l.length
  · rw [if_pos (decide_eq_true (by omega)), if_pos hl]
  · rw [if_neg (by simp; omega), if_neg hl]
    exact sound_iter (l := l) (by omega) hfu fu 0 [] (Nat.zero_le _) (by omega) List.Pairwise.nil (fun c hc => by simp at hc) (Nat.zero_le _)
end
end Go.Proofs.Ytcngfjmfgeckmaa
namespace Go.Proofs.Ytcngfjmfgeckmaa
open Go
section
variable {fu : Nat}
def begunOf (a : List RecD) : List Int := (a.filter fun x => decide (x.kind = 1)).map (·.txn)
def endedOf (a : List RecD) : List Int := (a.filter fun x => decide (x.kind = 3) || decide (x.kind = 4)).map (·.txn)
def undidOf (a : List RecD) : List Int := (a.filter fun x => decide (x.kind = 5)).map (·.txn)
def heldsOf (a : List RecD) : List HeldD := (a.filter fun x => x.turns).map fun x => ⟨x.txn, x.key⟩
def simOf (a : List RecD) (c : List CellD) : SimD := ⟨c, begunOf a, endedOf a, undidOf a, heldsOf a⟩
structure Gone (a : List RecD) : Prop where
  begun : ∀ x, x ∈ a → x.kind ≠ 6 → kinds a x.txn [1] = true
  chk : ∀ x, x ∈ a → x.kind = 6 → x.txn = 0
  undo : ∀ x, x ∈ a → x.kind = 5 → ∃ y, y ∈ a ∧ y.kind = 2 ∧ y.txn = x.txn ∧ y.key = x.key
theorem begun_has (t : Int) (a : List RecD) : (begunOf a).any (fun x => decide (x = t)) = kinds a t [1] := by
  unfold begunOf kinds
  induction a with
  | nil => rfl
  | cons r a ih =>
    rw [List.filter_cons, List.any_cons, ← ih]
    by_cases h : r.kind = 1 <;> simp [h]
theorem ended_has (t : Int) (a : List RecD) : (endedOf a).any (fun x => decide (x = t)) = kinds a t [3, 4] := by
  unfold endedOf kinds
  induction a with
  | nil => rfl
  | cons r a ih =>
    rw [List.filter_cons, List.any_cons, ← ih]
    by_cases h : r.kind = 3
    · simp [h]
    · by_cases h2 : r.kind = 4 <;> simp [h, h2]
theorem undid_has (t : Int) (a : List RecD) : (undidOf a).any (fun x => decide (x = t)) = kinds a t [5] := by
  unfold undidOf kinds
  induction a with
  | nil => rfl
  | cons r a ih =>
    rw [List.filter_cons, List.any_cons, ← ih]
    by_cases h : r.kind = 5 <;> simp [h]
theorem begunOf_len (a : List RecD) : (begunOf a).length ≤ a.length := by unfold begunOf; rw [List.length_map]; exact List.length_filter_le _ _
theorem endedOf_len (a : List RecD) : (endedOf a).length ≤ a.length := by unfold endedOf; rw [List.length_map]; exact List.length_filter_le _ _
theorem undidOf_len (a : List RecD) : (undidOf a).length ≤ a.length := by unfold undidOf; rw [List.length_map]; exact List.length_filter_le _ _
theorem heldsOf_len (a : List RecD) : (heldsOf a).length ≤ a.length := by unfold heldsOf; rw [List.length_map]; exact List.length_filter_le _ _
theorem kinds_iff {a : List RecD} {t : Int} {ks : List Int} : kinds a t ks = true ↔ ∃ x, x ∈ a ∧ x.txn = t ∧ x.kind ∈ ks := by
  unfold kinds
  simp [List.any_eq_true]
theorem any_begun {a : List RecD} {t : Int} (hg : Gone a) (ht : 1 ≤ t) : (a.any fun x => decide (x.txn = t)) = kinds a t [1] := by
  rw [Bool.eq_iff_iff, kinds_iff, List.any_eq_true]
  constructor
  · rintro ⟨x, hx, h⟩
    have h := of_decide_eq_true h
    have h6 : x.kind ≠ 6 := fun h6 => by have := hg.chk x hx h6; omega
    obtain ⟨y, h1, h2, h3⟩ := kinds_iff.1 (hg.begun x hx h6)
    exact ⟨y, h1, h2.trans h, h3⟩
  · rintro ⟨x, hx, h1, h2⟩
    exact ⟨x, hx, decide_eq_true h1⟩
theorem was_same {c : List CellD} {r : RecD} (hf : Fine r) (ht : r.turns = true) : (!wasP c r) = (!(r.had == decide ((valC c r.key).code = 0)) || decide (r.old ≠ (valC c r.key).value)) := by
  have h0 := hf.had ht
  unfold wasP
  cases hh : hasKey c r.key with
  | false =>
    rw [valC_none hh]
    cases hd : r.had with
    | false => simp [h0 hd]
    | true => simp
  | true =>
    obtain ⟨x, h1, h2⟩ := hasKey_get hh
    rw [valC_has h1 h2]
    cases hd : r.had with
    | false => simp
    | true => simp
theorem held_same {a : List RecD} {c : List CellD} {r : RecD} (hg : Gone a) : heldS (simOf a c) r = heldP a r := by
  unfold heldS heldP
  rw [Bool.eq_iff_iff, List.any_eq_true, List.any_eq_true]
  constructor
  · rintro ⟨x, hx, h⟩
    obtain ⟨y, hy, rfl⟩ := List.mem_map.1 hx
    obtain ⟨hya, hyt⟩ := List.mem_filter.1 hy
    simp only [simOf, ended_has] at h
    simp only [Bool.and_eq_true, decide_eq_true_eq] at h
    unfold RecD.turns at hyt
    rcases Bool.or_eq_true_iff.1 hyt with hk | hk
    · exact ⟨y, hya, by simp [of_decide_eq_true hk, h.1.1, h.1.2]; simpa using h.2⟩
    · obtain ⟨z, hz, z1, z2, z3⟩ := hg.undo y hya (of_decide_eq_true hk)
      exact ⟨z, hz, by rw [z1, z2, z3]; simp [h.1.1, h.1.2]; simpa using h.2⟩
  · rintro ⟨y, hy, h⟩
    simp only [Bool.and_eq_true, decide_eq_true_eq] at h
    refine ⟨⟨y.txn, y.key⟩, List.mem_map.2 ⟨y, List.mem_filter.2 ⟨hy, by unfold RecD.turns; simp [h.1.1.1]⟩, rfl⟩, ?_⟩
    simp only [simOf, ended_has]
    simp [h.1.1.2, h.1.2]; simpa using h.2
def fitsR (a : List RecD) (r : RecD) : Bool :=
  if r.kind = 5 then undoOk a r else if r.kind = 4 then decide (chainG r.txn 0 a = []) else if (decide (r.kind = 2) || decide (r.kind = 3)) = true then !kinds a r.txn [5] else true
def knownP (a : List RecD) (r : RecD) : Int := if r.kind = 6 then 0 else if r.kind = 1 then (if kinds a r.txn [1] = true then 10 else 0) else if (!kinds a r.txn [1] || kinds a r.txn [3, 4]) = true then 10 else 0
theorem m_s_l13Known_eq {a : List RecD} {c : List CellD} {r : RecD} (hl : a.length ≤ 100000) (hfu : a.length < fu) : m_s_l13Known fu (simOf a c) r = some (knownP a r) := by
  have := begunOf_len a
  have := endedOf_len a
  unfold m_s_l13Known m_s_l13Known_a1 knownP
  show (if decide (r.kind = 6) = true then some 0 else if decide (r.kind = 1) = true then Option.bind (m_s_l1Has fu (begunOf a) r.txn) _ else Option.bind (m_s_l1Has fu (begunOf a) r.txn) fun v => if (!v) = true then _ else Option.bind (m_s_l1Has fu (endedOf a) r.txn) _) = _
  rw [m_s_l1Has_eq (by omega) (by omega), m_s_l1Has_eq (by omega) (by omega), begun_has, ended_has, Option.bind_some, Option.bind_some, Option.bind_some]
  by_cases h6 : r.kind = 6
  · simp [h6]
  by_cases h1 : r.kind = 1
  · simp only [h1]; cases kinds a r.txn [1] <;> simp
  · simp only [h6, h1]
    cases kinds a r.txn [1] <;> cases kinds a r.txn [3, 4] <;> simp
theorem m_s_l13Fits_eq {l : List RecD} {i : Nat} {c : List CellD} {r : RecD} (hl : l.length ≤ 400) (hr : l[i]? = some r) (hfu : 1000 < fu) : m_s_l13Fits fu (simOf (l.take i) c) l (i : Int) = some (fitsR (l.take i) r) := by
  have hi : i < l.length := (List.getElem?_eq_some_iff.1 hr).1
  have es : sliceL l 0 (i : Int) = some (l.take i) := by
    unfold sliceL
    rw [if_pos (by simp; omega)]
    simp
  have hta : (l.take i).length = i := by rw [List.length_take]; omega
  have hun := undidOf_len (l.take i)
  unfold m_s_l13Fits m_s_l13Fits_a3 m_s_l13Fits_a2 m_s_l13Fits_a1 fitsR
  rw [atL_nat, hr, Option.bind_some, es, Option.bind_some, Option.bind_some, m_s_l3Back_eq (by omega) (by omega), Option.bind_some, Option.bind_some]
  show (if decide (r.kind = 5) = true then _ else if decide (r.kind = 4) = true then _ else if decide (r.kind = 2) = true then (if decide (r.kind = 2) = true then Option.bind (m_s_l1Has fu (undidOf (l.take i)) r.txn) _ else _) else (if decide (r.kind = 3) = true then Option.bind (m_s_l1Has fu (undidOf (l.take i)) r.txn) _ else _)) = _
  rw [m_s_l1Has_eq (by omega) (by omega), undid_has, Option.bind_some]
  by_cases k5 : r.kind = 5
  · rw [if_pos (decide_eq_true k5), if_pos k5]
    unfold undoOk
    cases hc : chainG r.txn 0 (l.take i) with
    | nil => rfl
    | cons b t =>
      have hbd := chainG_bd (txn := r.txn) (l := l.take i) (k := 0) (a := b) (by rw [hc]; simp)
      have e0 : atL (b :: t) 0 = some b := rfl
      rw [if_neg (by simp; omega), e0, Option.bind_some]
      by_cases hb : b = r.back
      · have hw : IntKind.i64.wrap (r.back - 1) = r.back - 1 := wrap_in (by omega) (by omega)
        have hlt : (r.back - 1).toNat < (l.take i).length := by omega
        have hge : l[(r.back - 1).toNat]? = some (l.take i)[(r.back - 1).toNat] := by
          rw [List.getElem_take, List.getElem?_eq_getElem (by omega)]
        have hat : atL l (r.back - 1) = some (l.take i)[(r.back - 1).toNat] := by
          unfold atL
          rw [if_pos (by omega), hge]
        rw [if_neg (by simp [hb]), hw, hat, Option.bind_some, List.getElem?_eq_getElem hlt]
        simp only [decide_eq_true hb, Bool.true_and]
        generalize (l.take i)[(r.back - 1).toNat] = x
        by_cases q1 : r.key = x.key
        · by_cases q2 : (r.has == x.had) = true
          · by_cases q3 : r.new = x.old <;> simp [q1, q2, q3]
          · simp [q1, q2]
        · simp [q1]
      · rw [if_pos (decide_eq_true hb)]
        simp [hb]
  · rw [if_neg (by simp [k5]), if_neg k5]
    by_cases k4 : r.kind = 4
    · rw [if_pos (decide_eq_true k4), if_pos k4]
      cases hc : chainG r.txn 0 (l.take i) with
      | nil => rfl
      | cons b t => simp; omega
    · rw [if_neg (by simp [k4]), if_neg k4]
      by_cases k2 : r.kind = 2
      · simp [k2]
      · by_cases k3 : r.kind = 3
        · simp [k3]
        · simp [k2, k3]
def specC (a : List RecD) (c : List CellD) (r : RecD) : Int :=
  if knownP a r ≠ 0 then knownP a r else if (r.turns && !wasP c r) = true then 1 else if (decide (r.kind = 2) && heldP a r) = true then 9 else if fitsR a r = true then 0 else 4
theorem specC_next {a : List RecD} {c : List CellD} {r : RecD} (hf : Fine r) (hg : Gone a) : specC a c r = nextC a c r := by
  unfold specC nextC knownP
  by_cases h6 : r.kind = 6
  · have ht : r.turns = false := by unfold RecD.turns; simp [h6]
    simp [h6, ht, fitsR]
  have h0 := hf.txn h6
  by_cases h1 : r.kind = 1
  · have ht : r.turns = false := by unfold RecD.turns; simp [h1]
    rw [any_begun hg h0]
    cases kinds a r.txn [1] <;> simp [h1, ht, fitsR]
  rw [if_neg h6, if_neg h1, if_neg h6, if_neg h1]
  cases hk : (!kinds a r.txn [1] || kinds a r.txn [3, 4]) with
  | true => simp
  | false =>
    simp only [Bool.false_eq_true, if_false, ne_eq, not_true_eq_false]
    have hw : (r.turns && !wasP c r) = (r.turns && (!(r.had == decide ((valC c r.key).code = 0)) || decide (r.old ≠ (valC c r.key).value))) := by
      cases ht : r.turns with
      | false => rfl
      | true => rw [was_same hf ht]
    rw [hw]
    split
    · rfl
    split
    · rfl
    unfold fitsR
    by_cases h5 : r.kind = 5
    · simp [h5]
    by_cases h4 : r.kind = 4
    · simp [h4]
    simp only [h5, h4, if_false]
    split
    · cases kinds a r.txn [5] <;> simp
    · simp
theorem gone_snoc {a : List RecD} {c : List CellD} {r : RecD} (hf : Fine r) (hg : Gone a) (hn : specC a c r = 0) : Gone (a ++ [r]) := by
  have hkn : knownP a r = 0 := by
    unfold specC at hn
    split at hn
    · rename_i h; exact absurd hn h
    · rename_i h; simpa using h
  have up : ∀ t ks, kinds a t ks = true → kinds (a ++ [r]) t ks = true := fun t ks h => by
    obtain ⟨x, h1, h2⟩ := kinds_iff.1 h
    exact kinds_iff.2 ⟨x, by simp [h1], h2⟩
  refine ⟨fun x hx h6 => ?_, fun x hx h6 => ?_, fun x hx h5 => ?_⟩
  · rcases List.mem_append.1 hx with h | h
    · exact up _ _ (hg.begun x h h6)
    · obtain rfl := List.mem_singleton.1 h
      by_cases h1 : x.kind = 1
      · exact kinds_iff.2 ⟨x, by simp, rfl, by simp [h1]⟩
      · refine up _ _ ?_
        unfold knownP at hkn
        rw [if_neg h6, if_neg h1] at hkn
        split at hkn
        · cases hkn
        · rename_i h; simp at h; exact h.1
  · rcases List.mem_append.1 hx with h | h
    · exact hg.chk x h h6
    · obtain rfl := List.mem_singleton.1 h
      exact hf.txn6 h6
  · rcases List.mem_append.1 hx with h | h
    · obtain ⟨y, h1, h2⟩ := hg.undo x h h5
      exact ⟨y, by simp [h1], h2⟩
    · obtain rfl := List.mem_singleton.1 h
      have hfit : fitsR a x = true := by
        unfold specC at hn
        rw [if_neg (by simp [hkn])] at hn
        split at hn
        · cases hn
        split at hn
        · cases hn
        split at hn
        · assumption
        · cases hn
      unfold fitsR at hfit
      rw [if_pos h5] at hfit
      unfold undoOk at hfit
      split at hfit
      · cases hfit
      · rename_i b t hc
        obtain ⟨i, y, h1, h2, h3, h4⟩ := chainG_mem x.txn a 0 b (by rw [hc]; simp)
        simp only [Bool.and_eq_true, decide_eq_true_eq] at hfit
        have hi : (x.back - 1).toNat = i := by omega
        rw [hi, h1] at hfit
        simp only [Bool.and_eq_true, decide_eq_true_eq] at hfit
        exact ⟨y, by simp [List.mem_of_getElem? h1], h3, h4, hfit.2.1.1.symm⟩
theorem begunOf_snoc (a : List RecD) (r : RecD) : begunOf (a ++ [r]) = if r.kind = 1 then begunOf a ++ [r.txn] else begunOf a := by
  unfold begunOf; by_cases h : r.kind = 1 <;> simp [List.filter_append, h]
theorem endedOf_snoc (a : List RecD) (r : RecD) : endedOf (a ++ [r]) = if r.kind = 3 then endedOf a ++ [r.txn] else if r.kind = 4 then endedOf a ++ [r.txn] else endedOf a := by
  unfold endedOf; by_cases h : r.kind = 3 <;> by_cases h2 : r.kind = 4 <;> simp [List.filter_append, h, h2]
theorem undidOf_snoc (a : List RecD) (r : RecD) : undidOf (a ++ [r]) = if r.kind = 5 then undidOf a ++ [r.txn] else undidOf a := by
  unfold undidOf; by_cases h : r.kind = 5 <;> simp [List.filter_append, h]
theorem heldsOf_snoc (a : List RecD) (r : RecD) : heldsOf (a ++ [r]) = if r.kind = 2 then heldsOf a ++ [⟨r.txn, r.key⟩] else if r.kind = 5 then heldsOf a ++ [⟨r.txn, r.key⟩] else heldsOf a := by
  unfold heldsOf RecD.turns; by_cases h : r.kind = 2 <;> by_cases h2 : r.kind = 5 <;> simp [List.filter_append, h, h2]
theorem snocH_eq {l : List HeldD} {a : HeldD} (h : l.length ≤ 1000000) : snocL 16 l a = some (l ++ [a]) := by
  unfold snocL roomL
  rw [if_pos (by simp; omega)]
theorem without_del {c : List CellD} {k : Int} (hr : rise c) (hl : c.length ≤ 1000000) (hfu : c.length < fu) : m_s_l1Without fu c k = some (delC c k) := by
  rw [m_s_l1Without_eq hl hfu, filter_del hr]
theorem with_ins {c : List CellD} {k w : Int} (hr : rise c) (hl : c.length ≤ 1000000) (hfu : c.length < fu) : m_s_l1With fu (delC c k) k w = some (insC c k w) := by
  have := delC_len (k := k) (l := c)
  rw [m_s_l1With_eq (by omega) (by omega)]
  have : (delC c k).filter (fun c => decide (c.key ≠ k)) = delC c k := by
    rw [← filter_del hr, List.filter_filter]; simp
  rw [this]
  exact congrArg some (insR_del k w hr)
theorem specStep {l : List RecD} {i : Nat} {c : List CellD} {r : RecD} (hl : l.length ≤ 400) (hr : l[i]? = some r) (hfu : 1000 < fu) (hc : rise c) (hcl : c.length ≤ i) (hfine : Fine r) (hf : recFault r = 0) (hg : Gone (l.take i)) :
    m_s_l13Sound_a6 fu l (begunOf (l.take i)) (endedOf (l.take i)) (undidOf (l.take i)) (heldsOf (l.take i)) c (i : Int) =
      if specC (l.take i) c r ≠ 0 then some (Sum.inr (Sum.inr (some (specC (l.take i) c r)))) else some (Sum.inl (begunOf (l.take i ++ [r]), endedOf (l.take i ++ [r]), undidOf (l.take i ++ [r]), heldsOf (l.take i ++ [r]), cellsN c r, ((i + 1 : Nat) : Int))) := by
  have hi : i < l.length := (List.getElem?_eq_some_iff.1 hr).1
  have hta : (l.take i).length = i := by rw [List.length_take]; omega
  have hfits := m_s_l13Fits_eq (fu := fu) (c := c) hl hr hfu
  generalize l.take i = a at *
  have b1 := begunOf_len a
  have b2 := endedOf_len a
  have b3 := undidOf_len a
  have b4 := heldsOf_len a
  have hheld := m_s_l13Held_eq (fu := fu) (s := simOf a c) (r := r) (by show (heldsOf a).length < _; omega) (by show (heldsOf a).length < _; omega) (by show (endedOf a).length < _; omega) (by show (endedOf a).length < _; omega)
  rw [held_same hg] at hheld
  have hwas := m_s_l13Was_eq (fu := fu) (s := simOf a c) (r := r) hc (by show c.length ≤ _; omega) (by show c.length < _; omega)
  have hknown := m_s_l13Known_eq (fu := fu) (a := a) (c := c) (r := r) (by omega) (by omega)
  unfold simOf at hheld hwas hknown hfits
  have tail : m_s_l13Sound_a3 fu l c (i : Int) r (begunOf a) (endedOf a) (undidOf a) (heldsOf a) false = if fitsR a r = true then some (Sum.inl (begunOf (a ++ [r]), endedOf (a ++ [r]), undidOf (a ++ [r]), heldsOf (a ++ [r]), cellsN c r, ((i + 1 : Nat) : Int))) else some (Sum.inr (Sum.inr (some 4))) := by
    unfold m_s_l13Sound_a3 m_s_l13Sound_a2
    rw [if_neg (by decide), hfits, Option.bind_some, wrap_succ (by omega), snocL_eq (by omega), snocL_eq (by omega), snocL_eq (by omega), snocH_eq (by omega), without_del hc (by omega) (by omega)]
    cases fitsR a r with
    | false => rfl
    | true =>
      rw [if_neg (by decide), if_pos rfl, begunOf_snoc, endedOf_snoc, undidOf_snoc, heldsOf_snoc]
      simp only [Option.bind_some]
      rw [with_ins hc (by omega) (by omega)]
      unfold cellsN RecD.turns
      have hk := hfine.kind
      have hkc : r.kind = 1 ∨ r.kind = 2 ∨ r.kind = 3 ∨ r.kind = 4 ∨ r.kind = 5 ∨ r.kind = 6 := by omega
      rcases hkc with h | h | h | h | h | h <;> simp only [h] <;> cases r.has <;> simp
  unfold m_s_l13Sound_a6 m_s_l13Sound_a5 m_s_l13Sound_a4
  rw [if_pos (decide_eq_true (Int.ofNat_lt.2 hi)), atL_nat, hr, Option.bind_some, if_neg (by simp [hf]), hknown, Option.bind_some]
  unfold specC
  by_cases hk : knownP a r = 0
  · rw [if_neg (by simp [hk]), if_neg (show ¬ knownP a r ≠ 0 by simp [hk])]
    have tail2 : (if (false : Bool) = true then some (Sum.inr (Sum.inr (some 1))) else (if decide (r.kind = 2) = true then Option.bind (m_s_l13Held fu (SimD.mk c (begunOf a) (endedOf a) (undidOf a) (heldsOf a)) r) fun v => m_s_l13Sound_a3 fu l c (i : Int) r (begunOf a) (endedOf a) (undidOf a) (heldsOf a) v else m_s_l13Sound_a3 fu l c (i : Int) r (begunOf a) (endedOf a) (undidOf a) (heldsOf a) false)) = if (decide (r.kind = 2) && heldP a r) = true then some (Sum.inr (Sum.inr (some 9))) else if fitsR a r = true then some (Sum.inl (begunOf (a ++ [r]), endedOf (a ++ [r]), undidOf (a ++ [r]), heldsOf (a ++ [r]), cellsN c r, ((i + 1 : Nat) : Int))) else some (Sum.inr (Sum.inr (some 4))) := by
      rw [if_neg (by decide), hheld, Option.bind_some]
      cases decide (r.kind = 2) with
      | false => rw [if_neg (by decide), tail]; rfl
      | true =>
        rw [if_pos rfl]
        cases heldP a r with
        | false => rw [tail]; rfl
        | true => rfl
    rw [hwas, Option.bind_some]
    have ht : (if decide (r.kind = 2) = true then true else decide (r.kind = 5)) = r.turns := by
      unfold RecD.turns
      cases decide (r.kind = 2) <;> rfl
    cases htt : r.turns with
    | false =>
      have k2 : decide (r.kind = 2) = false := by unfold RecD.turns at htt; cases h : decide (r.kind = 2) <;> simp_all
      have k5 : decide (r.kind = 5) = false := by unfold RecD.turns at htt; cases h : decide (r.kind = 5) <;> simp_all
      rw [k2] at tail2
      rw [k2, k5, if_neg (by decide), if_neg (by decide), tail2]
      simp only [Bool.false_and, Bool.false_eq_true, if_false]
      cases fitsR a r <;> rfl
    | true =>
      have one : (if decide (r.kind = 2) = true then (if true = true then (if (!wasP c r) = true then some (Sum.inr (Sum.inr (some 1))) else (if decide (r.kind = 2) = true then Option.bind (m_s_l13Held fu (SimD.mk c (begunOf a) (endedOf a) (undidOf a) (heldsOf a)) r) fun v => m_s_l13Sound_a3 fu l c (i : Int) r (begunOf a) (endedOf a) (undidOf a) (heldsOf a) v else m_s_l13Sound_a3 fu l c (i : Int) r (begunOf a) (endedOf a) (undidOf a) (heldsOf a) false)) else (if false = true then some (Sum.inr (Sum.inr (some 1))) else (if decide (r.kind = 2) = true then Option.bind (m_s_l13Held fu (SimD.mk c (begunOf a) (endedOf a) (undidOf a) (heldsOf a)) r) fun v => m_s_l13Sound_a3 fu l c (i : Int) r (begunOf a) (endedOf a) (undidOf a) (heldsOf a) v else m_s_l13Sound_a3 fu l c (i : Int) r (begunOf a) (endedOf a) (undidOf a) (heldsOf a) false)))
          else (if decide (r.kind = 5) = true then (if (!wasP c r) = true then some (Sum.inr (Sum.inr (some 1))) else (if decide (r.kind = 2) = true then Option.bind (m_s_l13Held fu (SimD.mk c (begunOf a) (endedOf a) (undidOf a) (heldsOf a)) r) fun v => m_s_l13Sound_a3 fu l c (i : Int) r (begunOf a) (endedOf a) (undidOf a) (heldsOf a) v else m_s_l13Sound_a3 fu l c (i : Int) r (begunOf a) (endedOf a) (undidOf a) (heldsOf a) false)) else (if false = true then some (Sum.inr (Sum.inr (some 1))) else (if decide (r.kind = 2) = true then Option.bind (m_s_l13Held fu (SimD.mk c (begunOf a) (endedOf a) (undidOf a) (heldsOf a)) r) fun v => m_s_l13Sound_a3 fu l c (i : Int) r (begunOf a) (endedOf a) (undidOf a) (heldsOf a) v else m_s_l13Sound_a3 fu l c (i : Int) r (begunOf a) (endedOf a) (undidOf a) (heldsOf a) false)))) =
          if (!wasP c r) = true then some (Sum.inr (Sum.inr (some 1))) else (if (decide (r.kind = 2) && heldP a r) = true then some (Sum.inr (Sum.inr (some 9))) else if fitsR a r = true then some (Sum.inl (begunOf (a ++ [r]), endedOf (a ++ [r]), undidOf (a ++ [r]), heldsOf (a ++ [r]), cellsN c r, ((i + 1 : Nat) : Int))) else some (Sum.inr (Sum.inr (some 4)))) := by
        rw [← tail2]
        unfold RecD.turns at htt
        cases h2 : decide (r.kind = 2) with
        | true => rfl
        | false =>
          have h5 : decide (r.kind = 5) = true := by rw [h2] at htt; exact htt
          rw [h5]; rfl
      refine one.trans ?_
      simp only [Bool.true_and]
      cases wasP c r with
      | false => rfl
      | true =>
        cases (decide (r.kind = 2) && heldP a r) with
        | true => rfl
        | false => cases fitsR a r <;> rfl
  · rw [if_pos (decide_eq_true hk), if_pos hk, if_pos hk]
theorem spec_iter {l : List RecD} (hl : l.length ≤ 400) (hfu : 1000 < fu) : ∀ (k i : Nat) (c : List CellD), i ≤ l.length → l.length - i < k → rise c → keysOk c → c.length ≤ i → Gone (l.take i) →
    (Option.bind (iterN (fun (s : (List Int) × (List Int) × (List Int) × (List HeldD) × (List CellD) × Int) => m_s_l13Sound_a6 fu l s.1 s.2.1 s.2.2.1 s.2.2.2.1 s.2.2.2.2.1 s.2.2.2.2.2) k (begunOf (l.take i), endedOf (l.take i), undidOf (l.take i), heldsOf (l.take i), c, (i : Int))) fun q => Sum.elim (fun (_ : Unit) => m_s_l13Sound_a1 fu) (fun x => x) q) = some (runC (l.take i) c (l.drop i)) := by
  intro k
  induction k with
  | zero => intro i c _ h; omega
  | succ k ih =>
    intro i c hi hk hr hks hc hg
    unfold iterN
    by_cases hlt : i < l.length
    · have hge := List.getElem?_eq_getElem hlt
      rw [List.drop_eq_getElem_cons hlt, runC]
      have tk : l.take i ++ [l[i]] = l.take (i + 1) := by rw [List.take_add_one, hge]; rfl
      by_cases hf : recFault l[i] = 0
      · have hfine := fine_of hf
        have key := specStep (fu := fu) hl hge hfu hr hc hfine hf hg
        rw [specC_next hfine hg] at key
        rw [if_neg (show ¬ recFault l[i] ≠ 0 by simp [hf])]
        by_cases hx : nextC (l.take i) c l[i] = 0
        · have hgn := gone_snoc (c := c) hfine hg (by rw [specC_next hfine hg]; exact hx)
          have ok := cellsN_ok hfine hr hks
          rw [if_neg (by simp [hx]), tk] at key
          rw [tk] at hgn
          rw [if_neg (by simp [hx]), tk]
          simp only [key]
          exact ih (i + 1) _ hlt (by omega) ok.1 ok.2.1 (by have := ok.2.2; omega) hgn
        · rw [if_pos hx] at key
          rw [if_pos hx]
          simp only [key]
          rfl
      · have key : m_s_l13Sound_a6 fu l (begunOf (l.take i)) (endedOf (l.take i)) (undidOf (l.take i)) (heldsOf (l.take i)) c (i : Int) = some (Sum.inr (Sum.inr (some (recFault l[i])))) := by
          unfold m_s_l13Sound_a6
          rw [if_pos (decide_eq_true (Int.ofNat_lt.2 hlt)), atL_nat, hge, Option.bind_some, if_pos (decide_eq_true hf)]
        simp only [key]
        rw [if_pos hf]
        rfl
    · have key : m_s_l13Sound_a6 fu l (begunOf (l.take i)) (endedOf (l.take i)) (undidOf (l.take i)) (heldsOf (l.take i)) c (i : Int) = some (Sum.inr (Sum.inl ())) := by
        unfold m_s_l13Sound_a6
        rw [if_neg (by simp; omega)]
      simp only [key]
      rw [List.drop_of_length_le (by omega)]
      rfl
theorem m_s_l13Sound_eq {l : List RecD} (hfu : 1000 < fu) : m_s_l13Sound fu l = some (if 400 < l.length then 2 else runC [] [] l) := by
  unfold m_s_l13Sound
  by_cases hl : 400 < l.length
  · rw [if_pos (decide_eq_true (by omega)), if_pos hl]
  · rw [if_neg (by simp; omega), if_neg hl]
    exact spec_iter (l := l) (by omega) hfu fu 0 [] (Nat.zero_le _) (by omega) List.Pairwise.nil (fun c hc => by simp at hc) (Nat.zero_le _) ⟨fun x hx => by simp at hx, fun x hx => by simp at hx, fun x hx => by simp at hx⟩
end
end Go.Proofs.Ytcngfjmfgeckmaa
section
namespace Go.Proofs.Ytcngfjmfgeckmaa
open Go
set_option linter.unusedSimpArgs false
set_option linter.unusedVariables false
set_option maxRecDepth 20000
attribute [local irreducible] IntKind.wrap bitA
section
variable {h : Heap} {n : Nat} {K : AV → Heap → Nat → Prop}
def m_s_SoundRecs (fu : Nat) (v0 : List RecD) : Option Int :=
  (Option.bind (m_s_l13Sound fu v0) fun v26 => some v26)
set_option maxHeartbeats 2000000 in
theorem w_s_SoundRecs {x0 : AV} {v0 : List RecD} (h0 : (SlH h n 8 RecR) x0 v0) {fu : Nat} {r : Int} (hm : m_s_SoundRecs fu v0 = some r) (hk : ∀ y, Int64R y r → K y h n) : CA Try.prog 15 [x0] h n K := by
 refine CA.enterQ (N := 5) (rs := [.tmp 2]) hT Try.call15 Try.func15 rfl rfl (of_decide_eq_true rfl) rfl fun hlt => ?_
 unfold m_s_SoundRecs at hm
 obtain ⟨es11, q12, a13, l14, b15, c16, g17⟩ := slH_open h0
 refine WQ.sr hT rfl fun K18 hK18 => ?_
 refine sg ?_
 refine kn hK18 ?_
 clear hK18 K18
 obtain ⟨v26, q25, hm⟩ := obs hm
 refine WQ.sr hT rfl fun K19 hK19 => ?_
 simp only [go_sem, ↓reduceIte, reduceCtorEq, Nat.reduceEqDiff, Nat.reduceLT, Nat.reduceLeDiff, Nat.reduceAdd, Nat.reduceMul, Int.reduceLE, rdSl_hp q12 (slH_lt h0), l14, c16, g17]
 refine w_s_l13Sound (SlH.up h0 0) q25 (fun y27 h28 => ?_)
 obtain ⟨rfl, i29⟩ := h28
 unfold sealK; simp only [go_sem, ↓reduceIte, reduceCtorEq, Nat.reduceEqDiff, Nat.reduceLT, Nat.reduceLeDiff, Nat.reduceAdd, Nat.reduceMul, Int.reduceLE, rdSl_hp q12 (slH_lt h0), l14, c16, g17]
 refine kn hK19 ?_
 clear hK19 K19
 refine retN (t := 2) (js := []) (u := (.int .i64 v26)) (v := (.int .i64 v26)) hlt ?_ (.keep _ (.int _ _)) (.int _ _) rfl ?_
 kernel_rfl
 exact hkr hk (m := v26) hm (int64R i29)
end
end Go.Proofs.Ytcngfjmfgeckmaa
end
namespace Go.Proofs.Ytcngfjmfgeckmaa
open Go Go.Sort
section
variable {P : Program} {c : Cfg} {h : Heap} {n : Nat}
theorem grow_ok (hh : HR c h) (w' : World) (os : Array Obj) (h0 : w'.heap = c.w.heap ++ os) (h1 : w'.os = c.w.os) (h2 : w'.tape = c.w.tape) (h3 : w'.output = c.w.output) :
    Ext c h (fun _ => False) ⟨c.ι, c.Fz, w'⟩ h ∧ HR ⟨c.ι, c.Fz, w'⟩ h := by
  have low : ∀ b, b < c.w.heap.size → w'.heap[b]? = c.w.heap[b]? := fun b hb => by rw [h0, Array.getElem?_append_left hb]
  have hext : Ext c h (fun _ => False) ⟨c.ι, c.Fz, w'⟩ h := by
    refine ⟨h1, h2, h3, by show _ ≤ w'.heap.size; rw [h0]; simp, fun _ _ h => h, fun _ _ h => .inl h, fun _ h => h, fun b arr E f hb => ⟨arr, (low b (heap_lt hb)).trans hb, rfl⟩, fun b hb _ => low b hb, fun id blk x hi hx => .inr ⟨id, blk, x, hi, hx, rfl⟩, fun _ h => .inl h⟩
  refine ⟨hext, fun i bi hi => ?_, fun i j bi bj x y hi hj hx hy hxy => hh.inj i j bi bj x y hi hj hx hy hxy, fun k hk => by show k < w'.heap.size; rw [h0]; have := hh.fzlt k hk; simp; omega⟩
  obtain ⟨k, base0, sz0, arr0, E0, hB0⟩ := hh.blk i bi hi
  refine ⟨k, base0, sz0, arr0, E0, hB0.ι, ?_, hB0.nfz, hB0.size, hB0.one, fun k e j u a1 a2 => ?_⟩
  · exact (low k (heap_lt hB0.heap)).trans hB0.heap
  · obtain ⟨v, q1, q2⟩ := hB0.cell k e j u a1 a2
    exact ⟨v, q1, q2.mono hext hh⟩
theorem sort_ca {f : FuncId} {zs : List Int} {id : Nat} {ex : Bool} {K : AV → Heap → Nat → Prop} (hg : Goes P f)
    (s0 : ∀ (p : Option Addr) (cap : Nat) (w : World), Calls P f #[.slice p 0 cap] w fun e w' => e = .returned (.tuple #[]) ∧ w' = w)
    (s1 : ∀ (blk off cap : Nat) (zs : List Int) (w : World), Holds (Value.int .i64) w blk off zs.toArray → blk < w.heap.size → zs.length < 4611686018427387904 →
      Calls P f #[.slice (some ⟨blk, off, none⟩) zs.length cap] w fun e w' => e = .returned (.tuple #[]) ∧ ∃ n os, w' = grow (putRow (Value.int .i64) (Sort.ahead w n) blk off (zs.mergeSort fun x y => decide (x ≤ y)).toArray) os)
    (hb : h id = some (zs.map (AV.int .i64))) (hl : zs.length ≤ 140737488355328) (hk : K (.tup []) (h.upd id ((zs.mergeSort fun x y => decide (x ≤ y)).map (AV.int .i64))) n) :
    CA P f [.sl 1 id 0 zs.length zs.length ex] h n K := by
  refine ⟨hg, fun c vals hh hf hs hv => ?_⟩
  have hs0 : 0 < vals.size := by rw [hs]; exact Nat.succ_pos _
  have hv0 := hv 0 _ _ rfl (Array.getElem?_eq_getElem hs0)
  have hvals : vals = #[vals[0]] := by
    apply Array.ext
    · simpa using hs
    · intro i h1 h2
      have : i = 0 := by simp at h2; exact h2
      subst this; rfl
  rw [hvals]
  generalize vals[0] = v0 at hv0
  clear hvals hv hs hs0
  have up0 : zs = [] → h.upd id ((zs.mergeSort fun x y => decide (x ≤ y)).map (AV.int .i64)) = h := fun hz => by
    subst hz
    funext x
    unfold Heap.upd
    split
    · rename_i hx; rw [hx, hb]; simp
    · rfl
  cases hv0 with
  | sl _ _ _ _ _ _ bb base cap hι hlen hlo hex hmax hroom ad had =>
    by_cases hz : zs = []
    · rw [up0 hz] at hk
      subst hz
      refine Calls.mono (s0 (some ad) cap c.w) fun e w' he => ?_
      obtain ⟨rfl, rfl⟩ := he
      exact ⟨_, .tup [], h, n, rfl, ⟨c, rfl, Ext.refl _ _ _, hh, hf, .tup [] #[] rfl (fun i u v h1 _ => by simp at h1), Nat.le_refl _⟩, hk⟩
    · have hpos : 0 < zs.length := List.length_pos_iff.2 hz
      have hcap : cap ≠ 0 := by omega
      obtain rfl := had hcap
      obtain ⟨b2, base2, sz2, arr, E, hB⟩ := hh.blk id _ hb
      have hιe := hι.symm.trans hB.ι
      obtain ⟨rfl, rfl, rfl⟩ : bb = b2 ∧ base = base2 ∧ 1 = sz2 := by
        have := Option.some.inj hιe
        simp only [Prod.mk.injEq] at this
        exact this
      have hcell : ∀ (i : Nat) (z : Int), zs[i]? = some z → arr[base + i]? = some (.int .i64 z) := fun i z hi => by
        obtain ⟨v, q1, q2⟩ := hB.cell i (.int .i64 z) 0 (.int .i64 z) (by rw [List.getElem?_map, hi]; rfl) rfl
        cases q2
        simpa using q1
      have hH : Holds (Value.int .i64) c.w bb base zs.toArray := fun j hj => by
        have hj' : j < zs.length := by simpa using hj
        refine ⟨?_, by simp [World.frozen?, hB.heap]⟩
        have := hcell j zs[j] (List.getElem?_eq_getElem hj')
        simp [World.cell?, hB.heap, this, hj']
      rw [show base + 0 * 1 = base from by omega]
      refine Calls.mono (s1 bb base cap zs c.w hH (heap_lt hB.heap) (by omega)) fun e w' he => ?_
      obtain ⟨rfl, k, os, rfl⟩ := he
      have hlen2 : (zs.mergeSort fun x y => decide (x ≤ y)).length = zs.length := List.length_mergeSort zs
      have hheap : (putRow (Value.int .i64) (Sort.ahead c.w k) bb base (zs.mergeSort fun x y => decide (x ≤ y)).toArray).heap = c.w.heap.setIfInBounds bb (.cells (putCells (Value.int .i64) base (zs.mergeSort fun x y => decide (x ≤ y)).toArray arr) E (0, 0)) := by
        show (c.w.heap.modify bb (onCells _)) = _
        apply Array.ext_getElem?
        intro i
        rw [Array.getElem?_modify, Array.getElem?_setIfInBounds]
        by_cases hi : bb = i
        · subst hi
          have hbb := (Array.getElem?_eq_some_iff.1 hB.heap).2
          simp [onCells, heap_lt hB.heap, hbb]
        · simp [hi]
      obtain ⟨x1, x2⟩ := write_ok hh hb hB (w' := putRow (Value.int .i64) (Sort.ahead c.w k) bb base (zs.mergeSort fun x y => decide (x ≤ y)).toArray) hheap rfl rfl rfl (by simp [putCells]) ((zs.mergeSort fun x y => decide (x ≤ y)).map (AV.int .i64))
        (fun i e hi => by
          obtain ⟨z, _, rfl⟩ := List.mem_map.1 (List.mem_of_getElem? hi); rfl)
        (fun i e j u hi hj => by
          obtain ⟨z, _, rfl⟩ := List.mem_map.1 (List.mem_of_getElem? hi)
          have := List.mem_of_getElem? hj
          simp at this; subst this; rfl)
        (fun i e j u hi hj => by
          rw [List.getElem?_map] at hi
          obtain ⟨z, hz1, rfl⟩ := Option.map_eq_some_iff.1 hi
          have hj0 : j = 0 ∧ u = .int .i64 z := by
            cases j with
            | zero => simp at hj; exact ⟨rfl, hj.symm⟩
            | succ j => simp at hj
          obtain ⟨rfl, rfl⟩ := hj0
          have hil := (List.getElem?_eq_some_iff.1 hz1).1
          have har : base + i < arr.size := by
            have := hcell i zs[i] (List.getElem?_eq_getElem (by omega))
            exact (Array.getElem?_eq_some_iff.1 this).1
          refine ⟨_, ?_, .int _ z⟩
          simp only [Nat.mul_one, Nat.add_zero]
          unfold putCells
          rw [Array.getElem?_mapIdx, Array.getElem?_eq_getElem har]
          simp only [Option.map_some]
          rw [if_pos ⟨by omega, by simp; omega⟩]
          have hget : (zs.mergeSort fun x y => decide (x ≤ y)).toArray[base + i - base]! = z := by
            rw [show base + i - base = i from by omega]
            have hq := (List.getElem?_eq_some_iff.1 hz1).2
            rw [getElem!_pos _ i (by simpa using hil)]
            simpa using hq
          rw [hget])
      obtain ⟨y1, y2⟩ := grow_ok x2 (grow (putRow (Value.int .i64) (Sort.ahead c.w k) bb base (zs.mergeSort fun x y => decide (x ≤ y)).toArray) os) os rfl rfl rfl rfl
      exact ⟨_, .tup [], _, n, rfl, ⟨_, rfl, Ext.trans x1 y1 (fun _ h => h.elim) (fun _ h => h.elim), y2, hf, .tup [] #[] rfl (fun i u v h1 _ => by simp at h1), Nat.le_refl _⟩, hk⟩
end
end Go.Proofs.Ytcngfjmfgeckmaa
namespace Go.Proofs.Ytcngfjmfgeckmaa
open Go Go.Shelf Go.Proofs
def lsort_ren : Go.Shelf.Ren := ⟨fun | 5 => 112 | 8 => 140 | 7 => 139 | 19 => 157 | 20 => 158 | 10 => 148 | 11 => 149 | 12 => 150 | 13 => 151 | 14 => 152 | 15 => 153 | 16 => 154 | 17 => 155 | 18 => 156 | 30 => 160 | 31 => 161 | 32 => 162 | 33 => 163 | 34 => 164 | 35 => 165 | 40 => 166 | n => n, fun | 23 => 40 | 25 => 2 | 3 => 3 | 32 => 147 | 22 => 40 | 0 => 0 | 44 => 161 | 46 => 163 | 4 => 4 | 36 => 154 | 35 => 153 | 41 => 124 | 5 => 5 | 9 => 9 | 53 => 165 | 57 => 169 | 63 => 171 | 64 => 172 | n => n, fun | n => n⟩
theorem lsort : Go.Proofs.SlLaysM.n5 Try.prog lsort_ren := {
  mixed := by kernel_rfl,
  f5 := ⟨Try.f112.name, by decide, Try.func112.trans (congrArg some (by kernel_rfl))⟩,
  f7 := ⟨Try.f139.name, by decide, Try.func139.trans (congrArg some (by kernel_rfl))⟩,
  f8 := Try.func140.trans (congrArg some (by kernel_rfl)),
  f10 := ⟨Try.f148.name, by decide, Try.func148.trans (congrArg some (by kernel_rfl))⟩,
  f11 := ⟨Try.f149.name, by decide, Try.func149.trans (congrArg some (by kernel_rfl))⟩,
  f12 := ⟨Try.f150.name, by decide, Try.func150.trans (congrArg some (by kernel_rfl))⟩,
  f13 := ⟨Try.f151.name, by decide, Try.func151.trans (congrArg some (by kernel_rfl))⟩,
  f14 := ⟨Try.f152.name, by decide, Try.func152.trans (congrArg some (by kernel_rfl))⟩,
  f15 := ⟨Try.f153.name, by decide, Try.func153.trans (congrArg some (by kernel_rfl))⟩,
  f16 := ⟨Try.f154.name, by decide, Try.func154.trans (congrArg some (by kernel_rfl))⟩,
  f17 := ⟨Try.f155.name, by decide, Try.func155.trans (congrArg some (by kernel_rfl))⟩,
  f18 := ⟨Try.f156.name, by decide, Try.func156.trans (congrArg some (by kernel_rfl))⟩,
  f19 := Try.func157.trans (congrArg some (by kernel_rfl)),
  f20 := Try.func158.trans (congrArg some (by kernel_rfl)),
  f30 := ⟨Try.f160.name, by decide, Try.func160.trans (congrArg some (by kernel_rfl))⟩,
  f31 := Try.func161.trans (congrArg some (by kernel_rfl)),
  f32 := Try.func162.trans (congrArg some (by kernel_rfl)),
  f33 := ⟨Try.f163.name, by decide, Try.func163.trans (congrArg some (by kernel_rfl))⟩,
  f34 := ⟨Try.f164.name, by decide, Try.func164.trans (congrArg some (by kernel_rfl))⟩,
  f35 := ⟨Try.f165.name, by decide, Try.func165.trans (congrArg some (by kernel_rfl))⟩,
  f40 := ⟨Try.f166.name, by decide, Try.func166.trans (congrArg some (by kernel_rfl))⟩,
  t0 := Try.underlying0,
  a0 := Try.isAgg0,
  z0 := Try.sizeOf0,
  v0 := Try.zeroValue0,
  t3 := Try.underlying3,
  a3 := Try.isAgg3,
  z3 := Try.sizeOf3,
  v3 := Try.zeroValue3,
  t4 := Try.underlying4,
  a4 := Try.isAgg4,
  z4 := Try.sizeOf4,
  v4 := Try.zeroValue4,
  t5 := Try.underlying5,
  a5 := Try.isAgg5,
  z5 := Try.sizeOf5,
  v5 := Try.zeroValue5,
  t9 := Try.underlying9,
  a9 := Try.isAgg9,
  z9 := Try.sizeOf9,
  v9 := Try.zeroValue9,
  t22 := Try.underlying40,
  a22 := Try.isAgg40,
  z22 := Try.sizeOf40,
  v22 := Try.zeroValue40,
  t23 := Try.underlying40,
  a23 := Try.isAgg40,
  z23 := Try.sizeOf40,
  v23 := Try.zeroValue40,
  t25 := Try.underlying2,
  a25 := Try.isAgg2,
  z25 := Try.sizeOf2,
  v25 := Try.zeroValue2,
  t32 := Try.underlying147,
  a32 := Try.isAgg147,
  z32 := Try.sizeOf147,
  v32 := Try.zeroValue147,
  t35 := Try.underlying153,
  a35 := Try.isAgg153,
  z35 := Try.sizeOf153,
  v35 := Try.zeroValue153,
  t36 := Try.underlying154,
  a36 := Try.isAgg154,
  z36 := Try.sizeOf154,
  v36 := Try.zeroValue154,
  t41 := Try.underlying124,
  a41 := Try.isAgg124,
  z41 := Try.sizeOf124,
  v41 := Try.zeroValue124,
  t44 := Try.underlying161,
  a44 := Try.isAgg161,
  z44 := Try.sizeOf161,
  v44 := Try.zeroValue161,
  t46 := Try.underlying163,
  a46 := Try.isAgg163,
  z46 := Try.sizeOf163,
  v46 := Try.zeroValue163,
  t53 := Try.underlying165,
  a53 := Try.isAgg165,
  z53 := Try.sizeOf165,
  v53 := Try.zeroValue165,
  t57 := Try.underlying169,
  a57 := Try.isAgg169,
  z57 := Try.sizeOf169,
  v57 := Try.zeroValue169,
  t63 := Try.underlying171,
  a63 := Try.isAgg171,
  z63 := Try.sizeOf171,
  v63 := Try.zeroValue171,
  t64 := Try.underlying172,
  a64 := Try.isAgg172,
  z64 := Try.sizeOf172,
  v64 := Try.zeroValue172 }
section
variable {h : Heap} {n : Nat} {K : AV → Heap → Nat → Prop}
theorem c_sort {zs : List Int} {id : Nat} {ex : Bool} (hb : h id = some (zs.map (AV.int .i64))) (hl : zs.length ≤ 140737488355328) (hk : K (.tup []) (h.upd id ((zs.mergeSort fun x y => decide (x ≤ y)).map (AV.int .i64))) n) :
    CA Try.prog 112 [.sl 1 id 0 zs.length zs.length ex] h n K :=
  sort_ca Try.call112 (fun p cap w => AnyM.slices_Sort_int_none lsort p cap w) (fun blk off cap zs w => AnyM.slices_Sort_int lsort blk off cap zs w) hb hl hk
end
end Go.Proofs.Ytcngfjmfgeckmaa
namespace Go.Proofs.Ytcngfjmfgeckmaa
open Go
section
variable {h : Heap} {n : Nat} {K : AV → Heap → Nat → Prop}
def sortI (l : List Int) : List Int := l.mergeSort fun x y => decide (x ≤ y)
theorem sortI_len (l : List Int) : (sortI l).length = l.length := List.length_mergeSort l
theorem all2_ints {es : List AV} {l : List Int} (ha : All2 Int64R es l) : es = l.map (AV.int .i64) := by
  induction ha with
  | nil => rfl
  | cons h1 _ ih => rw [List.map_cons, ← ih, h1.1]
theorem ints_all2 {l : List Int} (hl : ∀ a, a ∈ l → I64 a) : All2 Int64R (l.map (AV.int .i64)) l := by
  induction l with
  | nil => exact .nil
  | cons a l ih => exact .cons ⟨rfl, hl a (by simp)⟩ (ih fun b hb => hl b (by simp [hb]))
theorem all2_i64 {es : List AV} {l : List Int} (ha : All2 Int64R es l) : ∀ a, a ∈ l → I64 a := by
  induction ha with
  | nil => intro a h; simp at h
  | cons h1 _ ih =>
    intro a hm
    rcases List.mem_cons.1 hm with rfl | hm
    · exact h1.2
    · exact ih a hm
theorem w_sort {rows : List (Option (List AV))} {es : List AV} {v : List Int} {id N len : Nat} {ex : Bool} (ha : All2 Int64R es v) (hg : hp h n rows id = some es) (hb : es.length ≤ 140737488355328) (hlen : es.length = len)
    (hk : ∀ es', All2 Int64R es' (sortI v) → es'.length ≤ 140737488355328 → K (.tup []) ((hp h n rows).upd id es') N) : CA Try.prog 112 [.sl 1 id 0 len len ex] (hp h n rows) N K := by
  have he := all2_ints ha
  subst hlen
  have hl := all2_length ha
  rw [hl]
  rw [he] at hg
  refine c_sort (zs := v) hg (by omega) (hk _ (ints_all2 fun a hm => all2_i64 ha a ((List.mergeSort_perm v _).mem_iff.1 hm)) ?_)
  rw [List.length_map, List.length_mergeSort]; omega
end
end Go.Proofs.Ytcngfjmfgeckmaa
section
namespace Go.Proofs.Ytcngfjmfgeckmaa
open Go
set_option linter.unusedSimpArgs false
set_option linter.unusedVariables false
set_option maxRecDepth 20000
attribute [local irreducible] IntKind.wrap bitA
section
variable {h : Heap} {n : Nat} {K : AV → Heap → Nat → Prop}
def m_s_l1Rise_a1 (fu : Nat) (v253 : List Int) : Option (List Int) :=
  some v253
def m_s_l1Rise_a2 (fu : Nat) (v0 : List Int) (v1 : Int) (v170 : Int) (v212 : Bool) : Option (List Int) :=
  (if v212 = true then some v0 else (Option.bind (sliceL v0 0 v170) fun v261 => (Option.bind (sliceL v0 v170 (v0.length : Int)) fun v270 => (Option.bind (appL 8 ([] : List Int) v261) fun v279 => (Option.bind (snocL 8 v279 v1) fun v282 => (Option.bind (appL 8 v282 v270) fun v284 => (m_s_l1Rise_a1 fu v284)))))))
def m_s_l1Rise_a3 (fu : Nat) (v0 : List Int) (v1 : Int) (v170 : Int) : Option (List Int) :=
  (if (decide (v170 < (v0.length : Int))) = true then (Option.bind (atL v0 v170) fun a293 => (m_s_l1Rise_a2 fu v0 v1 v170 (decide (a293 = v1)))) else (m_s_l1Rise_a2 fu v0 v1 v170 false))
def m_s_l1Rise_a4 (fu : Nat) (v400 : Int) (v441 : Bool) : Option (Int ⊕ (Int ⊕ Option (List Int))) :=
  (if v441 = true then some (Sum.inl (IntKind.i64.wrap (v400 + 1))) else some (Sum.inr (Sum.inl v400)))
def m_s_l1Rise_a5 (fu : Nat) (v0 : List Int) (v1 : Int) (v400 : Int) : Option (Int ⊕ (Int ⊕ Option (List Int))) :=
  (if (decide (v400 < (v0.length : Int))) = true then (Option.bind (atL v0 v400) fun a450 => (m_s_l1Rise_a4 fu v400 (decide (a450 < v1)))) else (m_s_l1Rise_a4 fu v400 false))
def m_s_l1Rise (fu : Nat) (v0 : List Int) (v1 : Int) : Option (List Int) :=
  (Option.bind (iterN (fun (s : Int) => m_s_l1Rise_a5 fu v0 v1 s) fu 0) fun q403 => Sum.elim (fun (b : Int) => (m_s_l1Rise_a3 fu v0 v1 b)) (fun x => x) q403)
set_option maxHeartbeats 2000000 in
theorem w_s_l1Rise_c {x0 : AV} {v0 : List Int} (h0 : (SlH h n 1 Int64R) x0 v0) {v1 : Int} (i1 : I64 v1) {fu : Nat} {r : (List Int)} (hm : m_s_l1Rise fu v0 v1 = some r) (hkP : v0 = r → K x0 h n) (hk : ∀ A rw, NOwn n 0 1 Int64R A rw r → K A (hp h n [rw]) (n + 1)) : CA Try.prog 111 [x0, (.int .i64 v1)] h n K := by
 refine CA.enterQ (N := 45) (rs := [.tmp 4]) hT Try.call111 Try.func111 rfl rfl (of_decide_eq_true rfl) rfl fun hlt => ?_
 unfold m_s_l1Rise at hm
 obtain ⟨es11, a12, l13, b14, F15⟩ := sHo h0
 refine rg0 hT ?_
 refine rg0 hT ?_
 refine WQ.seq_k fun K18 hK18 => ?_
 have j172 : ∀ (E' : Env) (h' : Heap) (n' : Nat) (v170 : Int) (i171 : I64 v170), Norm n h E' h' n' (envZ [0, 1, 5] [x0, (.int .i64 v1), (.int .i64 v170)]) (hp h n []) n → (m_s_l1Rise_a3 fu v0 v1 v170) = some r → K18 E' h' n' := by
  intro E174 H175 n176 v170 i171 N173 hm
  refine hK18 _ _ _ _ _ _ N173 ?_
  clear N173 hK18 K18
  unfold m_s_l1Rise_a3 at hm
  refine WQ.seq_k fun K177 hK177 => ?_
  refine WQ.seq_k fun K203 hK203 => ?_
  have j213 : ∀ (E' : Env) (h' : Heap) (n' : Nat) (v212 : Bool), Norm n h E' h' n' (envZ [0, 1, 5, 31] [x0, (.int .i64 v1), (.int .i64 v170), (.bool v212)]) (hp h n []) n → (m_s_l1Rise_a2 fu v0 v1 v170 v212) = some r → K203 E' h' n' := by
   intro E215 H216 n217 v212 N214 hm
   refine hK203 _ _ _ _ _ _ N214 ?_
   clear N214 hK203 K203
   unfold m_s_l1Rise_a2 at hm
   refine cn hm (fun z218 hm => ?_) fun z218 hm => ?_
   refine rg hT F15 ?_
   refine WQ.norm (E2 := envZ [4] [x0]) (h2 := hp h n []) (n2 := n) ?_ (WQ.ret ⟨_, rfl, ret_hp hlt (slH_lt h0) (hkP (Option.some.inj hm))⟩)
   exact nm [] [4] [x0] (rc (.keep _ (slH_lt h0)) rn) RowsR.nil
   refine WQ.skip ?_
   refine sg ?_
   refine kn hK177 ?_
   clear hK177 K177
   refine WQ.seq_k fun K220 hK220 => ?_
   have j256 : ∀ (E' : Env) (h' : Heap) (n' : Nat) (es252 : List AV) (v253 : List Int) (a254 : All2 Int64R es252 v253) (b255 : es252.length ≤ 140737488355328), Norm n h E' h' n' (envZ [4] [(.sl 1 n 0 v253.length v253.length false)]) (hp h n [some es252]) (n + 1) → (m_s_l1Rise_a1 fu v253) = some r → K220 E' h' n' := by
    intro E258 H259 n260 es252 v253 a254 b255 N257 hm
    refine hK220 _ _ _ _ _ _ N257 ?_
    clear N257 hK220 K220
    unfold m_s_l1Rise_a1 at hm
    refine WQ.norm (E2 := envZ [4] [(.sl 1 n 0 v253.length v253.length false)]) (h2 := hp h n [(some es252)]) (n2 := n + 1) ?_ (WQ.ret ⟨_, rfl, _, _, _, .keep _ _ _ _ (fun _ _ h => h), ?_⟩)
    exact nm [0] [4] [(.sl 1 n 0 v253.length v253.length false)] (rc (Rn.own (js := [0]) 0 0) rn) (RowsR.row 0 _ _ _ _ hp_get0 (RnL.all2 a254 int64_lt) RowsR.nil)
    exact hkN hk (m := v253) hm (nown_own a254 b255)
   clear hK220
   obtain ⟨v261, q262, hm⟩ := obs hm
   obtain ⟨v270, q271, hm⟩ := obs hm
   obtain ⟨v279, q280, hm⟩ := obs hm
   rcases nil_or v261 with z281 | z281
   obtain ⟨v282, q283, hm⟩ := obs hm
   obtain ⟨v284, q285, hm⟩ := obs hm
   rcases nil_or v270 with z286 | z286
   refine WQ.drawT hT hM (.op 1 0 (.op 2 0 (.op 3 0 (.op 5 0 (.op 8 0 (.op 9 0 (.op 10 0 (.alt 0 (.alt 4 (.op 6 2 (.op 7 2 (.op 11 2 (.op 12 0 .nil)))) (.alt 6 (.op 4 2 (.op 7 2 (.op 11 2 (.op 12 0 .nil)))) .nil)) (.alt 6 (.op 0 2 (.op 4 2 (.op 7 2 (.op 11 2 (.op 12 0 .nil))))) .nil))))))))) [] (hp h n []) ?_ rfl ?_ fun _ => ?_
   kernel_rfl
   simp only [go_sem]
   unfold planTW; simp only [go_sem, ↓reduceIte, reduceCtorEq, Nat.reduceEqDiff, Nat.reduceLT, Nat.reduceLeDiff, Nat.reduceAdd, Nat.reduceMul, Int.reduceLE, F15]
   refine op_partH (el := 2) (X := x0) rfl ?_ h0 (of_decide_eq_true rfl) int64_lt rfl ?_ q262 (fun y263 h264 => ?_)
   exact sc0
   exact sc0
   replace h264 : (SlH h n 1 Int64R) y263 v261 := h264
   obtain ⟨es265, a266, l267, b268, F269⟩ := sHo h264
   refine sk (a2 F15 F269) ?_
   refine op_partH (el := 2) (X := x0) rfl ?_ h0 (of_decide_eq_true rfl) int64_lt ?_ rfl q271 (fun y272 h273 => ?_)
   exact sc0
   exact sc0
   replace h273 : (SlH h n 1 Int64R) y272 v270 := h273
   obtain ⟨es274, a275, l276, b277, F278⟩ := sHo h273
   refine sk (a3 F15 F269 F278) ?_
   refine planT_alt ?_ ?_
   unfold planTW; simp only [go_sem, ↓reduceIte, reduceCtorEq, Nat.reduceEqDiff, Nat.reduceLT, Nat.reduceLeDiff, Nat.reduceAdd, Nat.reduceMul, Int.reduceLE, F15, F269, F278]
   refine planT_alt ?_ ?_
   unfold planTW; simp only [go_sem, ↓reduceIte, reduceCtorEq, Nat.reduceEqDiff, Nat.reduceLT, Nat.reduceLeDiff, Nat.reduceAdd, Nat.reduceMul, Int.reduceLE, F15, F269, F278]
   refine ⟨2, rfl, app_exN (j := 0) rfl (of_decide_eq_true rfl) rfl ?_ ?_ rfl q280 (nl0 Int64R) a266 z281 ?_⟩
   exact sc (a3 F15 F269 F278)
   exact sc0
   refine sk (a4 F15 F269 F278 ((all2_length (app_all2n q280 z281 (nl0 Int64R))).symm)) ?_
   refine ⟨2, rfl, app_ex1 (j := 0) rfl (of_decide_eq_true rfl) rfl ?_ ?_ rfl q283 (app_all2n q280 z281 (nl0 Int64R)) (int64R i1) ?_⟩
   exact sc (a4 F15 F269 F278 ((all2_length (app_all2n q280 z281 (nl0 Int64R))).symm))
   exact sc0
   refine sk (a5 F15 F269 F278 ((all2_length (app_all2n q280 z281 (nl0 Int64R))).symm) (a2 (all2_length (snoc_all2 q283 (app_all2n q280 z281 (nl0 Int64R)) (int64R i1))) (own_take (snoc_all2 q283 (app_all2n q280 z281 (nl0 Int64R)) (int64R i1))))) ?_
   refine ⟨2, rfl, app_mvN (j := 2) rfl (of_decide_eq_true rfl) rfl ?_ ?_ (all2_length (snoc_all2 q283 (app_all2n q280 z281 (nl0 Int64R)) (int64R i1))) q285 (snoc_all2 q283 (app_all2n q280 z281 (nl0 Int64R)) (int64R i1)) a275 z286 ?_⟩
   exact sc (a5 F15 F269 F278 ((all2_length (app_all2n q280 z281 (nl0 Int64R))).symm) (a2 (all2_length (snoc_all2 q283 (app_all2n q280 z281 (nl0 Int64R)) (int64R i1))) (own_take (snoc_all2 q283 (app_all2n q280 z281 (nl0 Int64R)) (int64R i1)))))
   exact sc0
   refine sk (a5 F15 F269 F278 ((all2_length (app_all2n q280 z281 (nl0 Int64R))).symm) (a4 (all2_length (snoc_all2 q283 (app_all2n q280 z281 (nl0 Int64R)) (int64R i1))) (own_take (snoc_all2 q283 (app_all2n q280 z281 (nl0 Int64R)) (int64R i1))) (all2_length (app_all2n q285 z286 (snoc_all2 q283 (app_all2n q280 z281 (nl0 Int64R)) (int64R i1)))) (own_take (app_all2n q285 z286 (snoc_all2 q283 (app_all2n q280 z281 (nl0 Int64R)) (int64R i1)))))) ?_
   refine j256 _ _ _ ([] ++ [(.int .i64 v1)]) v284 (app_all2n q285 z286 (snoc_all2 q283 (app_all2n q280 z281 (nl0 Int64R)) (int64R i1))) (snoc_len q283 (app_all2n q280 z281 (nl0 Int64R)) (int64R i1)) ?_ hm
   exact nm [2] [4] [(.sl 1 (n + 2) 0 v284.length v284.length false)] (rc (Rn.own (js := [2]) 2 0) rn) (RowsR.row 2 _ _ _ _ (hp_get 2) (RnL.all2 (app_all2n q285 z286 (snoc_all2 q283 (app_all2n q280 z281 (nl0 Int64R)) (int64R i1))) int64_lt) RowsR.nil)
   refine planT_alt ?_ ?_
   unfold planTW; simp only [go_sem, ↓reduceIte, reduceCtorEq, Nat.reduceEqDiff, Nat.reduceLT, Nat.reduceLeDiff, Nat.reduceAdd, Nat.reduceMul, Int.reduceLE, F15, F269, F278]
   refine ⟨2, rfl, app_exN (j := 0) rfl (of_decide_eq_true rfl) rfl ?_ ?_ rfl q280 (nl0 Int64R) a266 z281 ?_⟩
   exact sc (a3 F15 F269 F278)
   exact sc0
   refine sk (a4 F15 F269 F278 ((all2_length (app_all2n q280 z281 (nl0 Int64R))).symm)) ?_
   refine ⟨2, rfl, app_ex1 (j := 0) rfl (of_decide_eq_true rfl) rfl ?_ ?_ rfl q283 (app_all2n q280 z281 (nl0 Int64R)) (int64R i1) ?_⟩
   exact sc (a4 F15 F269 F278 ((all2_length (app_all2n q280 z281 (nl0 Int64R))).symm))
   exact sc0
   refine sk (a5 F15 F269 F278 ((all2_length (app_all2n q280 z281 (nl0 Int64R))).symm) (a2 (all2_length (snoc_all2 q283 (app_all2n q280 z281 (nl0 Int64R)) (int64R i1))) (own_take (snoc_all2 q283 (app_all2n q280 z281 (nl0 Int64R)) (int64R i1))))) ?_
   refine ⟨2, rfl, app_mvN (j := 2) rfl (of_decide_eq_true rfl) rfl ?_ ?_ (all2_length (snoc_all2 q283 (app_all2n q280 z281 (nl0 Int64R)) (int64R i1))) q285 (snoc_all2 q283 (app_all2n q280 z281 (nl0 Int64R)) (int64R i1)) a275 z286 ?_⟩
   exact sc (a5 F15 F269 F278 ((all2_length (app_all2n q280 z281 (nl0 Int64R))).symm) (a2 (all2_length (snoc_all2 q283 (app_all2n q280 z281 (nl0 Int64R)) (int64R i1))) (own_take (snoc_all2 q283 (app_all2n q280 z281 (nl0 Int64R)) (int64R i1)))))
   exact sc0
   refine sk (a5 F15 F269 F278 ((all2_length (app_all2n q280 z281 (nl0 Int64R))).symm) (a4 (all2_length (snoc_all2 q283 (app_all2n q280 z281 (nl0 Int64R)) (int64R i1))) (own_take (snoc_all2 q283 (app_all2n q280 z281 (nl0 Int64R)) (int64R i1))) (all2_length (app_all2n q285 z286 (snoc_all2 q283 (app_all2n q280 z281 (nl0 Int64R)) (int64R i1)))) (own_take (app_all2n q285 z286 (snoc_all2 q283 (app_all2n q280 z281 (nl0 Int64R)) (int64R i1)))))) ?_
   refine j256 _ _ _ ([] ++ [(.int .i64 v1)]) v284 (app_all2n q285 z286 (snoc_all2 q283 (app_all2n q280 z281 (nl0 Int64R)) (int64R i1))) (snoc_len q283 (app_all2n q280 z281 (nl0 Int64R)) (int64R i1)) ?_ hm
   exact nm [2] [4] [(.sl 1 (n + 2) 0 v284.length v284.length false)] (rc (Rn.own (js := [2]) 2 0) rn) (RowsR.row 2 _ _ _ _ (hp_get 2) (RnL.all2 (app_all2n q285 z286 (snoc_all2 q283 (app_all2n q280 z281 (nl0 Int64R)) (int64R i1))) int64_lt) RowsR.nil)
   exact planT_end
   refine planT_alt ?_ ?_
   unfold planTW; simp only [go_sem, ↓reduceIte, reduceCtorEq, Nat.reduceEqDiff, Nat.reduceLT, Nat.reduceLeDiff, Nat.reduceAdd, Nat.reduceMul, Int.reduceLE, F15, F269, F278]
   refine ⟨2, rfl, app_exN (j := 1) rfl (of_decide_eq_true rfl) rfl ?_ ?_ rfl q280 (nl0 Int64R) a266 z281 ?_⟩
   exact sc (a3 F15 F269 F278)
   exact sc0
   refine sk (a4 F15 F269 F278 ((all2_length (app_all2n q280 z281 (nl0 Int64R))).symm)) ?_
   refine ⟨2, rfl, app_ex1 (j := 1) rfl (of_decide_eq_true rfl) rfl ?_ ?_ rfl q283 (app_all2n q280 z281 (nl0 Int64R)) (int64R i1) ?_⟩
   exact sc (a4 F15 F269 F278 ((all2_length (app_all2n q280 z281 (nl0 Int64R))).symm))
   exact sc0
   refine sk (a5 F15 F269 F278 ((all2_length (app_all2n q280 z281 (nl0 Int64R))).symm) (a2 (all2_length (snoc_all2 q283 (app_all2n q280 z281 (nl0 Int64R)) (int64R i1))) (own_take (snoc_all2 q283 (app_all2n q280 z281 (nl0 Int64R)) (int64R i1))))) ?_
   refine ⟨2, rfl, app_mvN (j := 2) rfl (of_decide_eq_true rfl) rfl ?_ ?_ (all2_length (snoc_all2 q283 (app_all2n q280 z281 (nl0 Int64R)) (int64R i1))) q285 (snoc_all2 q283 (app_all2n q280 z281 (nl0 Int64R)) (int64R i1)) a275 z286 ?_⟩
   exact sc (a5 F15 F269 F278 ((all2_length (app_all2n q280 z281 (nl0 Int64R))).symm) (a2 (all2_length (snoc_all2 q283 (app_all2n q280 z281 (nl0 Int64R)) (int64R i1))) (own_take (snoc_all2 q283 (app_all2n q280 z281 (nl0 Int64R)) (int64R i1)))))
   exact sc0
   refine sk (a5 F15 F269 F278 ((all2_length (app_all2n q280 z281 (nl0 Int64R))).symm) (a4 (all2_length (snoc_all2 q283 (app_all2n q280 z281 (nl0 Int64R)) (int64R i1))) (own_take (snoc_all2 q283 (app_all2n q280 z281 (nl0 Int64R)) (int64R i1))) (all2_length (app_all2n q285 z286 (snoc_all2 q283 (app_all2n q280 z281 (nl0 Int64R)) (int64R i1)))) (own_take (app_all2n q285 z286 (snoc_all2 q283 (app_all2n q280 z281 (nl0 Int64R)) (int64R i1)))))) ?_
   refine j256 _ _ _ ([] ++ [(.int .i64 v1)]) v284 (app_all2n q285 z286 (snoc_all2 q283 (app_all2n q280 z281 (nl0 Int64R)) (int64R i1))) (snoc_len q283 (app_all2n q280 z281 (nl0 Int64R)) (int64R i1)) ?_ hm
   exact nm [2] [4] [(.sl 1 (n + 2) 0 v284.length v284.length false)] (rc (Rn.own (js := [2]) 2 0) rn) (RowsR.row 2 _ _ _ _ (hp_get 2) (RnL.all2 (app_all2n q285 z286 (snoc_all2 q283 (app_all2n q280 z281 (nl0 Int64R)) (int64R i1))) int64_lt) RowsR.nil)
   exact planT_end
   refine WQ.drawT hT hM (.op 1 0 (.op 2 0 (.op 3 0 (.op 5 0 (.op 8 0 (.op 9 0 (.op 10 0 (.alt 0 (.alt 4 (.op 6 2 (.op 7 2 (.op 11 2 (.op 12 0 .nil)))) (.alt 6 (.op 4 2 (.op 7 2 (.op 11 2 (.op 12 0 .nil)))) .nil)) (.alt 6 (.op 0 2 (.op 4 2 (.op 7 2 (.op 11 2 (.op 12 0 .nil))))) .nil))))))))) [] (hp h n []) ?_ rfl ?_ fun _ => ?_
   kernel_rfl
   simp only [go_sem]
   unfold planTW; simp only [go_sem, ↓reduceIte, reduceCtorEq, Nat.reduceEqDiff, Nat.reduceLT, Nat.reduceLeDiff, Nat.reduceAdd, Nat.reduceMul, Int.reduceLE, F15]
   refine op_partH (el := 2) (X := x0) rfl ?_ h0 (of_decide_eq_true rfl) int64_lt rfl ?_ q262 (fun y263 h264 => ?_)
   exact sc0
   exact sc0
   replace h264 : (SlH h n 1 Int64R) y263 v261 := h264
   obtain ⟨es265, a266, l267, b268, F269⟩ := sHo h264
   refine sk (a2 F15 F269) ?_
   refine op_partH (el := 2) (X := x0) rfl ?_ h0 (of_decide_eq_true rfl) int64_lt ?_ rfl q271 (fun y272 h273 => ?_)
   exact sc0
   exact sc0
   replace h273 : (SlH h n 1 Int64R) y272 v270 := h273
   obtain ⟨es274, a275, l276, b277, F278⟩ := sHo h273
   refine sk (a3 F15 F269 F278) ?_
   refine planT_alt ?_ ?_
   unfold planTW; simp only [go_sem, ↓reduceIte, reduceCtorEq, Nat.reduceEqDiff, Nat.reduceLT, Nat.reduceLeDiff, Nat.reduceAdd, Nat.reduceMul, Int.reduceLE, F15, F269, F278]
   refine planT_alt ?_ ?_
   unfold planTW; simp only [go_sem, ↓reduceIte, reduceCtorEq, Nat.reduceEqDiff, Nat.reduceLT, Nat.reduceLeDiff, Nat.reduceAdd, Nat.reduceMul, Int.reduceLE, F15, F269, F278]
   refine ⟨2, rfl, app_exN (j := 0) rfl (of_decide_eq_true rfl) rfl ?_ ?_ rfl q280 (nl0 Int64R) a266 z281 ?_⟩
   exact sc (a3 F15 F269 F278)
   exact sc0
   refine sk (a4 F15 F269 F278 ((all2_length (app_all2n q280 z281 (nl0 Int64R))).symm)) ?_
   refine ⟨2, rfl, app_ex1 (j := 0) rfl (of_decide_eq_true rfl) rfl ?_ ?_ rfl q283 (app_all2n q280 z281 (nl0 Int64R)) (int64R i1) ?_⟩
   exact sc (a4 F15 F269 F278 ((all2_length (app_all2n q280 z281 (nl0 Int64R))).symm))
   exact sc0
   refine sk (a5 F15 F269 F278 ((all2_length (app_all2n q280 z281 (nl0 Int64R))).symm) (a2 (all2_length (snoc_all2 q283 (app_all2n q280 z281 (nl0 Int64R)) (int64R i1))) (own_take (snoc_all2 q283 (app_all2n q280 z281 (nl0 Int64R)) (int64R i1))))) ?_
   refine ⟨2, rfl, app_mvC (j := 2) rfl (of_decide_eq_true rfl) rfl ?_ ?_ (all2_length (snoc_all2 q283 (app_all2n q280 z281 (nl0 Int64R)) (int64R i1))) q285 (snoc_all2 q283 (app_all2n q280 z281 (nl0 Int64R)) (int64R i1)) a275 z286 ?_⟩
   exact sc (a5 F15 F269 F278 ((all2_length (app_all2n q280 z281 (nl0 Int64R))).symm) (a2 (all2_length (snoc_all2 q283 (app_all2n q280 z281 (nl0 Int64R)) (int64R i1))) (own_take (snoc_all2 q283 (app_all2n q280 z281 (nl0 Int64R)) (int64R i1)))))
   exact sc0
   refine sk (a5 F15 F269 F278 ((all2_length (app_all2n q280 z281 (nl0 Int64R))).symm) (a4 (all2_length (snoc_all2 q283 (app_all2n q280 z281 (nl0 Int64R)) (int64R i1))) (own_take (snoc_all2 q283 (app_all2n q280 z281 (nl0 Int64R)) (int64R i1))) (all2_length (app_all2 q285 (snoc_all2 q283 (app_all2n q280 z281 (nl0 Int64R)) (int64R i1)) a275)) (own_take (app_all2 q285 (snoc_all2 q283 (app_all2n q280 z281 (nl0 Int64R)) (int64R i1)) a275)))) ?_
   refine j256 _ _ _ (([] ++ [(.int .i64 v1)]) ++ es274) v284 (app_all2 q285 (snoc_all2 q283 (app_all2n q280 z281 (nl0 Int64R)) (int64R i1)) a275) (app_len q285 (snoc_all2 q283 (app_all2n q280 z281 (nl0 Int64R)) (int64R i1)) a275) ?_ hm
   exact nm [3] [4] [(.sl 1 (n + 3) 0 v284.length v284.length false)] (rc (Rn.own (js := [3]) 3 0) rn) (RowsR.row 3 _ _ _ _ (hp_get 3) (RnL.all2 (app_all2 q285 (snoc_all2 q283 (app_all2n q280 z281 (nl0 Int64R)) (int64R i1)) a275) int64_lt) RowsR.nil)
   refine planT_alt ?_ ?_
   unfold planTW; simp only [go_sem, ↓reduceIte, reduceCtorEq, Nat.reduceEqDiff, Nat.reduceLT, Nat.reduceLeDiff, Nat.reduceAdd, Nat.reduceMul, Int.reduceLE, F15, F269, F278]
   refine ⟨2, rfl, app_exN (j := 0) rfl (of_decide_eq_true rfl) rfl ?_ ?_ rfl q280 (nl0 Int64R) a266 z281 ?_⟩
   exact sc (a3 F15 F269 F278)
   exact sc0
   refine sk (a4 F15 F269 F278 ((all2_length (app_all2n q280 z281 (nl0 Int64R))).symm)) ?_
   refine ⟨2, rfl, app_ex1 (j := 0) rfl (of_decide_eq_true rfl) rfl ?_ ?_ rfl q283 (app_all2n q280 z281 (nl0 Int64R)) (int64R i1) ?_⟩
   exact sc (a4 F15 F269 F278 ((all2_length (app_all2n q280 z281 (nl0 Int64R))).symm))
   exact sc0
   refine sk (a5 F15 F269 F278 ((all2_length (app_all2n q280 z281 (nl0 Int64R))).symm) (a2 (all2_length (snoc_all2 q283 (app_all2n q280 z281 (nl0 Int64R)) (int64R i1))) (own_take (snoc_all2 q283 (app_all2n q280 z281 (nl0 Int64R)) (int64R i1))))) ?_
   refine ⟨2, rfl, app_mvC (j := 2) rfl (of_decide_eq_true rfl) rfl ?_ ?_ (all2_length (snoc_all2 q283 (app_all2n q280 z281 (nl0 Int64R)) (int64R i1))) q285 (snoc_all2 q283 (app_all2n q280 z281 (nl0 Int64R)) (int64R i1)) a275 z286 ?_⟩
   exact sc (a5 F15 F269 F278 ((all2_length (app_all2n q280 z281 (nl0 Int64R))).symm) (a2 (all2_length (snoc_all2 q283 (app_all2n q280 z281 (nl0 Int64R)) (int64R i1))) (own_take (snoc_all2 q283 (app_all2n q280 z281 (nl0 Int64R)) (int64R i1)))))
   exact sc0
   refine sk (a5 F15 F269 F278 ((all2_length (app_all2n q280 z281 (nl0 Int64R))).symm) (a4 (all2_length (snoc_all2 q283 (app_all2n q280 z281 (nl0 Int64R)) (int64R i1))) (own_take (snoc_all2 q283 (app_all2n q280 z281 (nl0 Int64R)) (int64R i1))) (all2_length (app_all2 q285 (snoc_all2 q283 (app_all2n q280 z281 (nl0 Int64R)) (int64R i1)) a275)) (own_take (app_all2 q285 (snoc_all2 q283 (app_all2n q280 z281 (nl0 Int64R)) (int64R i1)) a275)))) ?_
   refine j256 _ _ _ (([] ++ [(.int .i64 v1)]) ++ es274) v284 (app_all2 q285 (snoc_all2 q283 (app_all2n q280 z281 (nl0 Int64R)) (int64R i1)) a275) (app_len q285 (snoc_all2 q283 (app_all2n q280 z281 (nl0 Int64R)) (int64R i1)) a275) ?_ hm
   exact nm [3] [4] [(.sl 1 (n + 3) 0 v284.length v284.length false)] (rc (Rn.own (js := [3]) 3 0) rn) (RowsR.row 3 _ _ _ _ (hp_get 3) (RnL.all2 (app_all2 q285 (snoc_all2 q283 (app_all2n q280 z281 (nl0 Int64R)) (int64R i1)) a275) int64_lt) RowsR.nil)
   exact planT_end
   refine planT_alt ?_ ?_
   unfold planTW; simp only [go_sem, ↓reduceIte, reduceCtorEq, Nat.reduceEqDiff, Nat.reduceLT, Nat.reduceLeDiff, Nat.reduceAdd, Nat.reduceMul, Int.reduceLE, F15, F269, F278]
   refine ⟨2, rfl, app_exN (j := 1) rfl (of_decide_eq_true rfl) rfl ?_ ?_ rfl q280 (nl0 Int64R) a266 z281 ?_⟩
   exact sc (a3 F15 F269 F278)
   exact sc0
   refine sk (a4 F15 F269 F278 ((all2_length (app_all2n q280 z281 (nl0 Int64R))).symm)) ?_
   refine ⟨2, rfl, app_ex1 (j := 1) rfl (of_decide_eq_true rfl) rfl ?_ ?_ rfl q283 (app_all2n q280 z281 (nl0 Int64R)) (int64R i1) ?_⟩
   exact sc (a4 F15 F269 F278 ((all2_length (app_all2n q280 z281 (nl0 Int64R))).symm))
   exact sc0
   refine sk (a5 F15 F269 F278 ((all2_length (app_all2n q280 z281 (nl0 Int64R))).symm) (a2 (all2_length (snoc_all2 q283 (app_all2n q280 z281 (nl0 Int64R)) (int64R i1))) (own_take (snoc_all2 q283 (app_all2n q280 z281 (nl0 Int64R)) (int64R i1))))) ?_
   refine ⟨2, rfl, app_mvC (j := 2) rfl (of_decide_eq_true rfl) rfl ?_ ?_ (all2_length (snoc_all2 q283 (app_all2n q280 z281 (nl0 Int64R)) (int64R i1))) q285 (snoc_all2 q283 (app_all2n q280 z281 (nl0 Int64R)) (int64R i1)) a275 z286 ?_⟩
   exact sc (a5 F15 F269 F278 ((all2_length (app_all2n q280 z281 (nl0 Int64R))).symm) (a2 (all2_length (snoc_all2 q283 (app_all2n q280 z281 (nl0 Int64R)) (int64R i1))) (own_take (snoc_all2 q283 (app_all2n q280 z281 (nl0 Int64R)) (int64R i1)))))
   exact sc0
   refine sk (a5 F15 F269 F278 ((all2_length (app_all2n q280 z281 (nl0 Int64R))).symm) (a4 (all2_length (snoc_all2 q283 (app_all2n q280 z281 (nl0 Int64R)) (int64R i1))) (own_take (snoc_all2 q283 (app_all2n q280 z281 (nl0 Int64R)) (int64R i1))) (all2_length (app_all2 q285 (snoc_all2 q283 (app_all2n q280 z281 (nl0 Int64R)) (int64R i1)) a275)) (own_take (app_all2 q285 (snoc_all2 q283 (app_all2n q280 z281 (nl0 Int64R)) (int64R i1)) a275)))) ?_
   refine j256 _ _ _ (([] ++ [(.int .i64 v1)]) ++ es274) v284 (app_all2 q285 (snoc_all2 q283 (app_all2n q280 z281 (nl0 Int64R)) (int64R i1)) a275) (app_len q285 (snoc_all2 q283 (app_all2n q280 z281 (nl0 Int64R)) (int64R i1)) a275) ?_ hm
   exact nm [3] [4] [(.sl 1 (n + 3) 0 v284.length v284.length false)] (rc (Rn.own (js := [3]) 3 0) rn) (RowsR.row 3 _ _ _ _ (hp_get 3) (RnL.all2 (app_all2 q285 (snoc_all2 q283 (app_all2n q280 z281 (nl0 Int64R)) (int64R i1)) a275) int64_lt) RowsR.nil)
   exact planT_end
   obtain ⟨v287, q288, hm⟩ := obs hm
   obtain ⟨v289, q290, hm⟩ := obs hm
   rcases nil_or v270 with z291 | z291
   refine WQ.drawT hT hM (.op 1 0 (.op 2 0 (.op 3 0 (.op 5 0 (.op 8 0 (.op 9 0 (.op 10 0 (.alt 0 (.alt 4 (.op 6 2 (.op 7 2 (.op 11 2 (.op 12 0 .nil)))) (.alt 6 (.op 4 2 (.op 7 2 (.op 11 2 (.op 12 0 .nil)))) .nil)) (.alt 6 (.op 0 2 (.op 4 2 (.op 7 2 (.op 11 2 (.op 12 0 .nil))))) .nil))))))))) [] (hp h n []) ?_ rfl ?_ fun _ => ?_
   kernel_rfl
   simp only [go_sem]
   unfold planTW; simp only [go_sem, ↓reduceIte, reduceCtorEq, Nat.reduceEqDiff, Nat.reduceLT, Nat.reduceLeDiff, Nat.reduceAdd, Nat.reduceMul, Int.reduceLE, F15]
   refine op_partH (el := 2) (X := x0) rfl ?_ h0 (of_decide_eq_true rfl) int64_lt rfl ?_ q262 (fun y263 h264 => ?_)
   exact sc0
   exact sc0
   replace h264 : (SlH h n 1 Int64R) y263 v261 := h264
   obtain ⟨es265, a266, l267, b268, F269⟩ := sHo h264
   refine sk (a2 F15 F269) ?_
   refine op_partH (el := 2) (X := x0) rfl ?_ h0 (of_decide_eq_true rfl) int64_lt ?_ rfl q271 (fun y272 h273 => ?_)
   exact sc0
   exact sc0
   replace h273 : (SlH h n 1 Int64R) y272 v270 := h273
   obtain ⟨es274, a275, l276, b277, F278⟩ := sHo h273
   refine sk (a3 F15 F269 F278) ?_
   refine planT_alt ?_ ?_
   unfold planTW; simp only [go_sem, ↓reduceIte, reduceCtorEq, Nat.reduceEqDiff, Nat.reduceLT, Nat.reduceLeDiff, Nat.reduceAdd, Nat.reduceMul, Int.reduceLE, F15, F269, F278]
   refine planT_alt ?_ ?_
   unfold planTW; simp only [go_sem, ↓reduceIte, reduceCtorEq, Nat.reduceEqDiff, Nat.reduceLT, Nat.reduceLeDiff, Nat.reduceAdd, Nat.reduceMul, Int.reduceLE, F15, F269, F278]
   refine ⟨2, rfl, app_exC (j := 0) rfl (of_decide_eq_true rfl) rfl ?_ ?_ rfl q280 (nl0 Int64R) a266 z281 ?_⟩
   exact sc (a3 F15 F269 F278)
   exact sc0
   refine sk (a5 F15 F269 F278 (all2_length (app_all2 q280 (nl0 Int64R) a266)) (own_take (app_all2 q280 (nl0 Int64R) a266))) ?_
   refine ⟨2, rfl, app_mv1 (j := 1) rfl (of_decide_eq_true rfl) rfl ?_ ?_ (all2_length (app_all2 q280 (nl0 Int64R) a266)) q288 (app_all2 q280 (nl0 Int64R) a266) (int64R i1) ?_⟩
   exact sc (a5 F15 F269 F278 (all2_length (app_all2 q280 (nl0 Int64R) a266)) (own_take (app_all2 q280 (nl0 Int64R) a266)))
   exact sc0
   refine sk (a5 F15 F269 F278 (all2_length (app_all2 q280 (nl0 Int64R) a266)) (a3 (own_take (app_all2 q280 (nl0 Int64R) a266)) (all2_length (snoc_all2 q288 (app_all2 q280 (nl0 Int64R) a266) (int64R i1))) (own_take (snoc_all2 q288 (app_all2 q280 (nl0 Int64R) a266) (int64R i1))))) ?_
   refine ⟨2, rfl, app_mvN (j := 3) rfl (of_decide_eq_true rfl) rfl ?_ ?_ (all2_length (snoc_all2 q288 (app_all2 q280 (nl0 Int64R) a266) (int64R i1))) q290 (snoc_all2 q288 (app_all2 q280 (nl0 Int64R) a266) (int64R i1)) a275 z291 ?_⟩
   exact sc (a5 F15 F269 F278 (all2_length (app_all2 q280 (nl0 Int64R) a266)) (a3 (own_take (app_all2 q280 (nl0 Int64R) a266)) (all2_length (snoc_all2 q288 (app_all2 q280 (nl0 Int64R) a266) (int64R i1))) (own_take (snoc_all2 q288 (app_all2 q280 (nl0 Int64R) a266) (int64R i1)))))
   exact sc0
   refine sk (a5 F15 F269 F278 (all2_length (app_all2 q280 (nl0 Int64R) a266)) (a5 (own_take (app_all2 q280 (nl0 Int64R) a266)) (all2_length (snoc_all2 q288 (app_all2 q280 (nl0 Int64R) a266) (int64R i1))) (own_take (snoc_all2 q288 (app_all2 q280 (nl0 Int64R) a266) (int64R i1))) (all2_length (app_all2n q290 z291 (snoc_all2 q288 (app_all2 q280 (nl0 Int64R) a266) (int64R i1)))) (own_take (app_all2n q290 z291 (snoc_all2 q288 (app_all2 q280 (nl0 Int64R) a266) (int64R i1)))))) ?_
   refine j256 _ _ _ (([] ++ es265) ++ [(.int .i64 v1)]) v289 (app_all2n q290 z291 (snoc_all2 q288 (app_all2 q280 (nl0 Int64R) a266) (int64R i1))) (snoc_len q288 (app_all2 q280 (nl0 Int64R) a266) (int64R i1)) ?_ hm
   exact nm [3] [4] [(.sl 1 (n + 3) 0 v289.length v289.length false)] (rc (Rn.own (js := [3]) 3 0) rn) (RowsR.row 3 _ _ _ _ (hp_get 3) (RnL.all2 (app_all2n q290 z291 (snoc_all2 q288 (app_all2 q280 (nl0 Int64R) a266) (int64R i1))) int64_lt) RowsR.nil)
   refine planT_alt ?_ ?_
   unfold planTW; simp only [go_sem, ↓reduceIte, reduceCtorEq, Nat.reduceEqDiff, Nat.reduceLT, Nat.reduceLeDiff, Nat.reduceAdd, Nat.reduceMul, Int.reduceLE, F15, F269, F278]
   refine ⟨2, rfl, app_exC (j := 0) rfl (of_decide_eq_true rfl) rfl ?_ ?_ rfl q280 (nl0 Int64R) a266 z281 ?_⟩
   exact sc (a3 F15 F269 F278)
   exact sc0
   refine sk (a5 F15 F269 F278 (all2_length (app_all2 q280 (nl0 Int64R) a266)) (own_take (app_all2 q280 (nl0 Int64R) a266))) ?_
   refine ⟨2, rfl, app_mv1 (j := 2) rfl (of_decide_eq_true rfl) rfl ?_ ?_ (all2_length (app_all2 q280 (nl0 Int64R) a266)) q288 (app_all2 q280 (nl0 Int64R) a266) (int64R i1) ?_⟩
   exact sc (a5 F15 F269 F278 (all2_length (app_all2 q280 (nl0 Int64R) a266)) (own_take (app_all2 q280 (nl0 Int64R) a266)))
   exact sc0
   refine sk (a5 F15 F269 F278 (all2_length (app_all2 q280 (nl0 Int64R) a266)) (a3 (own_take (app_all2 q280 (nl0 Int64R) a266)) (all2_length (snoc_all2 q288 (app_all2 q280 (nl0 Int64R) a266) (int64R i1))) (own_take (snoc_all2 q288 (app_all2 q280 (nl0 Int64R) a266) (int64R i1))))) ?_
   refine ⟨2, rfl, app_mvN (j := 3) rfl (of_decide_eq_true rfl) rfl ?_ ?_ (all2_length (snoc_all2 q288 (app_all2 q280 (nl0 Int64R) a266) (int64R i1))) q290 (snoc_all2 q288 (app_all2 q280 (nl0 Int64R) a266) (int64R i1)) a275 z291 ?_⟩
   exact sc (a5 F15 F269 F278 (all2_length (app_all2 q280 (nl0 Int64R) a266)) (a3 (own_take (app_all2 q280 (nl0 Int64R) a266)) (all2_length (snoc_all2 q288 (app_all2 q280 (nl0 Int64R) a266) (int64R i1))) (own_take (snoc_all2 q288 (app_all2 q280 (nl0 Int64R) a266) (int64R i1)))))
   exact sc0
   refine sk (a5 F15 F269 F278 (all2_length (app_all2 q280 (nl0 Int64R) a266)) (a5 (own_take (app_all2 q280 (nl0 Int64R) a266)) (all2_length (snoc_all2 q288 (app_all2 q280 (nl0 Int64R) a266) (int64R i1))) (own_take (snoc_all2 q288 (app_all2 q280 (nl0 Int64R) a266) (int64R i1))) (all2_length (app_all2n q290 z291 (snoc_all2 q288 (app_all2 q280 (nl0 Int64R) a266) (int64R i1)))) (own_take (app_all2n q290 z291 (snoc_all2 q288 (app_all2 q280 (nl0 Int64R) a266) (int64R i1)))))) ?_
   refine j256 _ _ _ (([] ++ es265) ++ [(.int .i64 v1)]) v289 (app_all2n q290 z291 (snoc_all2 q288 (app_all2 q280 (nl0 Int64R) a266) (int64R i1))) (snoc_len q288 (app_all2 q280 (nl0 Int64R) a266) (int64R i1)) ?_ hm
   exact nm [3] [4] [(.sl 1 (n + 3) 0 v289.length v289.length false)] (rc (Rn.own (js := [3]) 3 0) rn) (RowsR.row 3 _ _ _ _ (hp_get 3) (RnL.all2 (app_all2n q290 z291 (snoc_all2 q288 (app_all2 q280 (nl0 Int64R) a266) (int64R i1))) int64_lt) RowsR.nil)
   exact planT_end
   refine planT_alt ?_ ?_
   unfold planTW; simp only [go_sem, ↓reduceIte, reduceCtorEq, Nat.reduceEqDiff, Nat.reduceLT, Nat.reduceLeDiff, Nat.reduceAdd, Nat.reduceMul, Int.reduceLE, F15, F269, F278]
   refine ⟨2, rfl, app_exC (j := 1) rfl (of_decide_eq_true rfl) rfl ?_ ?_ rfl q280 (nl0 Int64R) a266 z281 ?_⟩
   exact sc (a3 F15 F269 F278)
   exact sc0
   refine sk (a5 F15 F269 F278 (all2_length (app_all2 q280 (nl0 Int64R) a266)) (own_take (app_all2 q280 (nl0 Int64R) a266))) ?_
   refine ⟨2, rfl, app_mv1 (j := 2) rfl (of_decide_eq_true rfl) rfl ?_ ?_ (all2_length (app_all2 q280 (nl0 Int64R) a266)) q288 (app_all2 q280 (nl0 Int64R) a266) (int64R i1) ?_⟩
   exact sc (a5 F15 F269 F278 (all2_length (app_all2 q280 (nl0 Int64R) a266)) (own_take (app_all2 q280 (nl0 Int64R) a266)))
   exact sc0
   refine sk (a5 F15 F269 F278 (all2_length (app_all2 q280 (nl0 Int64R) a266)) (a3 (own_take (app_all2 q280 (nl0 Int64R) a266)) (all2_length (snoc_all2 q288 (app_all2 q280 (nl0 Int64R) a266) (int64R i1))) (own_take (snoc_all2 q288 (app_all2 q280 (nl0 Int64R) a266) (int64R i1))))) ?_
   refine ⟨2, rfl, app_mvN (j := 3) rfl (of_decide_eq_true rfl) rfl ?_ ?_ (all2_length (snoc_all2 q288 (app_all2 q280 (nl0 Int64R) a266) (int64R i1))) q290 (snoc_all2 q288 (app_all2 q280 (nl0 Int64R) a266) (int64R i1)) a275 z291 ?_⟩
   exact sc (a5 F15 F269 F278 (all2_length (app_all2 q280 (nl0 Int64R) a266)) (a3 (own_take (app_all2 q280 (nl0 Int64R) a266)) (all2_length (snoc_all2 q288 (app_all2 q280 (nl0 Int64R) a266) (int64R i1))) (own_take (snoc_all2 q288 (app_all2 q280 (nl0 Int64R) a266) (int64R i1)))))
   exact sc0
   refine sk (a5 F15 F269 F278 (all2_length (app_all2 q280 (nl0 Int64R) a266)) (a5 (own_take (app_all2 q280 (nl0 Int64R) a266)) (all2_length (snoc_all2 q288 (app_all2 q280 (nl0 Int64R) a266) (int64R i1))) (own_take (snoc_all2 q288 (app_all2 q280 (nl0 Int64R) a266) (int64R i1))) (all2_length (app_all2n q290 z291 (snoc_all2 q288 (app_all2 q280 (nl0 Int64R) a266) (int64R i1)))) (own_take (app_all2n q290 z291 (snoc_all2 q288 (app_all2 q280 (nl0 Int64R) a266) (int64R i1)))))) ?_
   refine j256 _ _ _ (([] ++ es265) ++ [(.int .i64 v1)]) v289 (app_all2n q290 z291 (snoc_all2 q288 (app_all2 q280 (nl0 Int64R) a266) (int64R i1))) (snoc_len q288 (app_all2 q280 (nl0 Int64R) a266) (int64R i1)) ?_ hm
   exact nm [3] [4] [(.sl 1 (n + 3) 0 v289.length v289.length false)] (rc (Rn.own (js := [3]) 3 0) rn) (RowsR.row 3 _ _ _ _ (hp_get 3) (RnL.all2 (app_all2n q290 z291 (snoc_all2 q288 (app_all2 q280 (nl0 Int64R) a266) (int64R i1))) int64_lt) RowsR.nil)
   exact planT_end
   refine WQ.drawT hT hM (.op 1 0 (.op 2 0 (.op 3 0 (.op 5 0 (.op 8 0 (.op 9 0 (.op 10 0 (.alt 0 (.alt 4 (.op 6 2 (.op 7 2 (.op 11 2 (.op 12 0 .nil)))) (.alt 6 (.op 4 2 (.op 7 2 (.op 11 2 (.op 12 0 .nil)))) .nil)) (.alt 6 (.op 0 2 (.op 4 2 (.op 7 2 (.op 11 2 (.op 12 0 .nil))))) .nil))))))))) [] (hp h n []) ?_ rfl ?_ fun _ => ?_
   kernel_rfl
   simp only [go_sem]
   unfold planTW; simp only [go_sem, ↓reduceIte, reduceCtorEq, Nat.reduceEqDiff, Nat.reduceLT, Nat.reduceLeDiff, Nat.reduceAdd, Nat.reduceMul, Int.reduceLE, F15]
   refine op_partH (el := 2) (X := x0) rfl ?_ h0 (of_decide_eq_true rfl) int64_lt rfl ?_ q262 (fun y263 h264 => ?_)
   exact sc0
   exact sc0
   replace h264 : (SlH h n 1 Int64R) y263 v261 := h264
   obtain ⟨es265, a266, l267, b268, F269⟩ := sHo h264
   refine sk (a2 F15 F269) ?_
   refine op_partH (el := 2) (X := x0) rfl ?_ h0 (of_decide_eq_true rfl) int64_lt ?_ rfl q271 (fun y272 h273 => ?_)
   exact sc0
   exact sc0
   replace h273 : (SlH h n 1 Int64R) y272 v270 := h273
   obtain ⟨es274, a275, l276, b277, F278⟩ := sHo h273
   refine sk (a3 F15 F269 F278) ?_
   refine planT_alt ?_ ?_
   unfold planTW; simp only [go_sem, ↓reduceIte, reduceCtorEq, Nat.reduceEqDiff, Nat.reduceLT, Nat.reduceLeDiff, Nat.reduceAdd, Nat.reduceMul, Int.reduceLE, F15, F269, F278]
   refine planT_alt ?_ ?_
   unfold planTW; simp only [go_sem, ↓reduceIte, reduceCtorEq, Nat.reduceEqDiff, Nat.reduceLT, Nat.reduceLeDiff, Nat.reduceAdd, Nat.reduceMul, Int.reduceLE, F15, F269, F278]
   refine ⟨2, rfl, app_exC (j := 0) rfl (of_decide_eq_true rfl) rfl ?_ ?_ rfl q280 (nl0 Int64R) a266 z281 ?_⟩
   exact sc (a3 F15 F269 F278)
   exact sc0
   refine sk (a5 F15 F269 F278 (all2_length (app_all2 q280 (nl0 Int64R) a266)) (own_take (app_all2 q280 (nl0 Int64R) a266))) ?_
   refine ⟨2, rfl, app_mv1 (j := 1) rfl (of_decide_eq_true rfl) rfl ?_ ?_ (all2_length (app_all2 q280 (nl0 Int64R) a266)) q288 (app_all2 q280 (nl0 Int64R) a266) (int64R i1) ?_⟩
   exact sc (a5 F15 F269 F278 (all2_length (app_all2 q280 (nl0 Int64R) a266)) (own_take (app_all2 q280 (nl0 Int64R) a266)))
   exact sc0
   refine sk (a5 F15 F269 F278 (all2_length (app_all2 q280 (nl0 Int64R) a266)) (a3 (own_take (app_all2 q280 (nl0 Int64R) a266)) (all2_length (snoc_all2 q288 (app_all2 q280 (nl0 Int64R) a266) (int64R i1))) (own_take (snoc_all2 q288 (app_all2 q280 (nl0 Int64R) a266) (int64R i1))))) ?_
   refine ⟨2, rfl, app_mvC (j := 3) rfl (of_decide_eq_true rfl) rfl ?_ ?_ (all2_length (snoc_all2 q288 (app_all2 q280 (nl0 Int64R) a266) (int64R i1))) q290 (snoc_all2 q288 (app_all2 q280 (nl0 Int64R) a266) (int64R i1)) a275 z291 ?_⟩
   exact sc (a5 F15 F269 F278 (all2_length (app_all2 q280 (nl0 Int64R) a266)) (a3 (own_take (app_all2 q280 (nl0 Int64R) a266)) (all2_length (snoc_all2 q288 (app_all2 q280 (nl0 Int64R) a266) (int64R i1))) (own_take (snoc_all2 q288 (app_all2 q280 (nl0 Int64R) a266) (int64R i1)))))
   exact sc0
   refine sk (a5 F15 F269 F278 (all2_length (app_all2 q280 (nl0 Int64R) a266)) (a5 (own_take (app_all2 q280 (nl0 Int64R) a266)) (all2_length (snoc_all2 q288 (app_all2 q280 (nl0 Int64R) a266) (int64R i1))) (own_take (snoc_all2 q288 (app_all2 q280 (nl0 Int64R) a266) (int64R i1))) (all2_length (app_all2 q290 (snoc_all2 q288 (app_all2 q280 (nl0 Int64R) a266) (int64R i1)) a275)) (own_take (app_all2 q290 (snoc_all2 q288 (app_all2 q280 (nl0 Int64R) a266) (int64R i1)) a275)))) ?_
   refine j256 _ _ _ ((([] ++ es265) ++ [(.int .i64 v1)]) ++ es274) v289 (app_all2 q290 (snoc_all2 q288 (app_all2 q280 (nl0 Int64R) a266) (int64R i1)) a275) (app_len q290 (snoc_all2 q288 (app_all2 q280 (nl0 Int64R) a266) (int64R i1)) a275) ?_ hm
   exact nm [4] [4] [(.sl 1 (n + 4) 0 v289.length v289.length false)] (rc (Rn.own (js := [4]) 4 0) rn) (RowsR.row 4 _ _ _ _ (hp_get 4) (RnL.all2 (app_all2 q290 (snoc_all2 q288 (app_all2 q280 (nl0 Int64R) a266) (int64R i1)) a275) int64_lt) RowsR.nil)
   refine planT_alt ?_ ?_
   unfold planTW; simp only [go_sem, ↓reduceIte, reduceCtorEq, Nat.reduceEqDiff, Nat.reduceLT, Nat.reduceLeDiff, Nat.reduceAdd, Nat.reduceMul, Int.reduceLE, F15, F269, F278]
   refine ⟨2, rfl, app_exC (j := 0) rfl (of_decide_eq_true rfl) rfl ?_ ?_ rfl q280 (nl0 Int64R) a266 z281 ?_⟩
   exact sc (a3 F15 F269 F278)
   exact sc0
   refine sk (a5 F15 F269 F278 (all2_length (app_all2 q280 (nl0 Int64R) a266)) (own_take (app_all2 q280 (nl0 Int64R) a266))) ?_
   refine ⟨2, rfl, app_mv1 (j := 2) rfl (of_decide_eq_true rfl) rfl ?_ ?_ (all2_length (app_all2 q280 (nl0 Int64R) a266)) q288 (app_all2 q280 (nl0 Int64R) a266) (int64R i1) ?_⟩
   exact sc (a5 F15 F269 F278 (all2_length (app_all2 q280 (nl0 Int64R) a266)) (own_take (app_all2 q280 (nl0 Int64R) a266)))
   exact sc0
   refine sk (a5 F15 F269 F278 (all2_length (app_all2 q280 (nl0 Int64R) a266)) (a3 (own_take (app_all2 q280 (nl0 Int64R) a266)) (all2_length (snoc_all2 q288 (app_all2 q280 (nl0 Int64R) a266) (int64R i1))) (own_take (snoc_all2 q288 (app_all2 q280 (nl0 Int64R) a266) (int64R i1))))) ?_
   refine ⟨2, rfl, app_mvC (j := 3) rfl (of_decide_eq_true rfl) rfl ?_ ?_ (all2_length (snoc_all2 q288 (app_all2 q280 (nl0 Int64R) a266) (int64R i1))) q290 (snoc_all2 q288 (app_all2 q280 (nl0 Int64R) a266) (int64R i1)) a275 z291 ?_⟩
   exact sc (a5 F15 F269 F278 (all2_length (app_all2 q280 (nl0 Int64R) a266)) (a3 (own_take (app_all2 q280 (nl0 Int64R) a266)) (all2_length (snoc_all2 q288 (app_all2 q280 (nl0 Int64R) a266) (int64R i1))) (own_take (snoc_all2 q288 (app_all2 q280 (nl0 Int64R) a266) (int64R i1)))))
   exact sc0
   refine sk (a5 F15 F269 F278 (all2_length (app_all2 q280 (nl0 Int64R) a266)) (a5 (own_take (app_all2 q280 (nl0 Int64R) a266)) (all2_length (snoc_all2 q288 (app_all2 q280 (nl0 Int64R) a266) (int64R i1))) (own_take (snoc_all2 q288 (app_all2 q280 (nl0 Int64R) a266) (int64R i1))) (all2_length (app_all2 q290 (snoc_all2 q288 (app_all2 q280 (nl0 Int64R) a266) (int64R i1)) a275)) (own_take (app_all2 q290 (snoc_all2 q288 (app_all2 q280 (nl0 Int64R) a266) (int64R i1)) a275)))) ?_
   refine j256 _ _ _ ((([] ++ es265) ++ [(.int .i64 v1)]) ++ es274) v289 (app_all2 q290 (snoc_all2 q288 (app_all2 q280 (nl0 Int64R) a266) (int64R i1)) a275) (app_len q290 (snoc_all2 q288 (app_all2 q280 (nl0 Int64R) a266) (int64R i1)) a275) ?_ hm
   exact nm [4] [4] [(.sl 1 (n + 4) 0 v289.length v289.length false)] (rc (Rn.own (js := [4]) 4 0) rn) (RowsR.row 4 _ _ _ _ (hp_get 4) (RnL.all2 (app_all2 q290 (snoc_all2 q288 (app_all2 q280 (nl0 Int64R) a266) (int64R i1)) a275) int64_lt) RowsR.nil)
   exact planT_end
   refine planT_alt ?_ ?_
   unfold planTW; simp only [go_sem, ↓reduceIte, reduceCtorEq, Nat.reduceEqDiff, Nat.reduceLT, Nat.reduceLeDiff, Nat.reduceAdd, Nat.reduceMul, Int.reduceLE, F15, F269, F278]
   refine ⟨2, rfl, app_exC (j := 1) rfl (of_decide_eq_true rfl) rfl ?_ ?_ rfl q280 (nl0 Int64R) a266 z281 ?_⟩
   exact sc (a3 F15 F269 F278)
   exact sc0
   refine sk (a5 F15 F269 F278 (all2_length (app_all2 q280 (nl0 Int64R) a266)) (own_take (app_all2 q280 (nl0 Int64R) a266))) ?_
   refine ⟨2, rfl, app_mv1 (j := 2) rfl (of_decide_eq_true rfl) rfl ?_ ?_ (all2_length (app_all2 q280 (nl0 Int64R) a266)) q288 (app_all2 q280 (nl0 Int64R) a266) (int64R i1) ?_⟩
   exact sc (a5 F15 F269 F278 (all2_length (app_all2 q280 (nl0 Int64R) a266)) (own_take (app_all2 q280 (nl0 Int64R) a266)))
   exact sc0
   refine sk (a5 F15 F269 F278 (all2_length (app_all2 q280 (nl0 Int64R) a266)) (a3 (own_take (app_all2 q280 (nl0 Int64R) a266)) (all2_length (snoc_all2 q288 (app_all2 q280 (nl0 Int64R) a266) (int64R i1))) (own_take (snoc_all2 q288 (app_all2 q280 (nl0 Int64R) a266) (int64R i1))))) ?_
   refine ⟨2, rfl, app_mvC (j := 3) rfl (of_decide_eq_true rfl) rfl ?_ ?_ (all2_length (snoc_all2 q288 (app_all2 q280 (nl0 Int64R) a266) (int64R i1))) q290 (snoc_all2 q288 (app_all2 q280 (nl0 Int64R) a266) (int64R i1)) a275 z291 ?_⟩
   exact sc (a5 F15 F269 F278 (all2_length (app_all2 q280 (nl0 Int64R) a266)) (a3 (own_take (app_all2 q280 (nl0 Int64R) a266)) (all2_length (snoc_all2 q288 (app_all2 q280 (nl0 Int64R) a266) (int64R i1))) (own_take (snoc_all2 q288 (app_all2 q280 (nl0 Int64R) a266) (int64R i1)))))
   exact sc0
   refine sk (a5 F15 F269 F278 (all2_length (app_all2 q280 (nl0 Int64R) a266)) (a5 (own_take (app_all2 q280 (nl0 Int64R) a266)) (all2_length (snoc_all2 q288 (app_all2 q280 (nl0 Int64R) a266) (int64R i1))) (own_take (snoc_all2 q288 (app_all2 q280 (nl0 Int64R) a266) (int64R i1))) (all2_length (app_all2 q290 (snoc_all2 q288 (app_all2 q280 (nl0 Int64R) a266) (int64R i1)) a275)) (own_take (app_all2 q290 (snoc_all2 q288 (app_all2 q280 (nl0 Int64R) a266) (int64R i1)) a275)))) ?_
   refine j256 _ _ _ ((([] ++ es265) ++ [(.int .i64 v1)]) ++ es274) v289 (app_all2 q290 (snoc_all2 q288 (app_all2 q280 (nl0 Int64R) a266) (int64R i1)) a275) (app_len q290 (snoc_all2 q288 (app_all2 q280 (nl0 Int64R) a266) (int64R i1)) a275) ?_ hm
   exact nm [4] [4] [(.sl 1 (n + 4) 0 v289.length v289.length false)] (rc (Rn.own (js := [4]) 4 0) rn) (RowsR.row 4 _ _ _ _ (hp_get 4) (RnL.all2 (app_all2 q290 (snoc_all2 q288 (app_all2 q280 (nl0 Int64R) a266) (int64R i1)) a275) int64_lt) RowsR.nil)
   exact planT_end
  clear hK203
  rcases Bool.eq_false_or_eq_true (decide (v170 < (v0.length : Int))) with z292 | z292
  replace hm := ifT z292 hm
  obtain ⟨a293, q294, hm⟩ := obs hm
  obtain ⟨e297, p295, h299⟩ := atk q294 a12
  obtain ⟨rfl, ia293⟩ := h299
  refine WQ.region hT rfl ?_
  refine sq (a3 F15 p295 (eqT z292)) ?_
  refine j213 _ _ _ (decide (a293 = v1)) ?_ hm
  exact nm [] [0, 1, 5, 31] [x0, (.int .i64 v1), (.int .i64 v170), (.bool (decide (a293 = v1)))] (rc (.keep _ (slH_lt h0)) (rc rki (rc rki (rc rkb rn)))) RowsR.nil
  replace hm := ifF z292 hm
  refine WQ.region hT rfl ?_
  refine sq (a2 F15 (eqF z292)) ?_
  refine j213 _ _ _ false ?_ hm
  exact nm [] [0, 1, 5, 31] [x0, (.int .i64 v1), (.int .i64 v170), (.bool false)] (rc (.keep _ (slH_lt h0)) (rc rki (rc rki (rc rkb rn)))) RowsR.nil
 clear hK18
 refine WQ.block ?_
 obtain ⟨q403, hq404, hm⟩ := obs hm
 refine WQ.norm ?_ (WQ.iter (step := (fun (s : Int) => m_s_l1Rise_a5 fu v0 v1 s)) (fun (s : Int) E' h' n' => I64 s ∧ (envZ [0, 1, 5] [x0, (.int .i64 v1), (.int .i64 s)]) = E' ∧ (hp h n []) = h' ∧ n = n') hq404 ⟨(i64c (a := 0) rfl), rfl, rfl, rfl⟩ ?_)
 exact nm [] [0, 1, 5] [x0, (.int .i64 v1), (.int .i64 0)] (rc (.keep _ (slH_lt h0)) (rc rki (rc rki rn))) RowsR.nil
 rintro v400 E' h' n' o402 ⟨i401, rfl, rfl, rfl⟩ ho406 hf405
 replace i401 : I64 v400 := i401
 replace ho406 : m_s_l1Rise_a5 fu v0 v1 v400 = some o402 := ho406
 unfold m_s_l1Rise_a5 at ho406
 show WQ Try.prog _ n h _ _ (envZ [0, 1, 5] [x0, (.int .i64 v1), (.int .i64 v400)]) (hp h n []) n
 refine WQ.seq_k fun K407 hK407 => ?_
 refine WQ.seq_k fun K432 hK432 => ?_
 have j442 : ∀ (E' : Env) (h' : Heap) (n' : Nat) (v441 : Bool), Norm n h E' h' n' (envZ [0, 1, 5, 17] [x0, (.int .i64 v1), (.int .i64 v400), (.bool v441)]) (hp h n []) n → (m_s_l1Rise_a4 fu v400 v441) = some o402 → K432 E' h' n' := by
  intro E444 H445 n446 v441 N443 ho406
  refine hK432 _ _ _ _ _ _ N443 ?_
  clear N443 hK432 K432
  unfold m_s_l1Rise_a4 at ho406
  refine cn ho406 (fun z447 ho406 => ?_) fun z447 ho406 => ?_
  refine WQ.skip ?_
  refine sg ?_
  refine kn hK407 ?_
  clear hK407 K407
  refine WQ.block ?_
  refine WQ.region hT rfl ?_
  refine sq0 ?_
  refine ⟨_, _, _, _, (Option.some.inj ho406).symm, ?_, (rng_wrap64 _), rfl, rfl, rfl⟩
  exact nm [] [0, 1, 5] [x0, (.int .i64 v1), (.int .i64 (IntKind.i64.wrap (v400 + 1)))] (rc (.keep _ (slH_lt h0)) (rc rki (rc rki rn))) RowsR.nil
  refine WQ.exit ?_
  refine sg ?_
  have e448 := hf405 _ (Option.some.inj ho406).symm
  rw [← e448] at hm
  refine j172 _ _ _ v400 i401 ?_ hm
  exact nm [] [0, 1, 5] [x0, (.int .i64 v1), (.int .i64 v400)] (rc (.keep _ (slH_lt h0)) (rc rki (rc rki rn))) RowsR.nil
 clear hK432
 rcases Bool.eq_false_or_eq_true (decide (v400 < (v0.length : Int))) with z449 | z449
 replace ho406 := ifT z449 ho406
 obtain ⟨a450, q451, ho406⟩ := obs ho406
 obtain ⟨e454, p452, h456⟩ := atk q451 a12
 obtain ⟨rfl, ia450⟩ := h456
 refine WQ.region hT rfl ?_
 refine sq (a3 F15 p452 (eqT z449)) ?_
 refine j442 _ _ _ (decide (a450 < v1)) ?_ ho406
 exact nm [] [0, 1, 5, 17] [x0, (.int .i64 v1), (.int .i64 v400), (.bool (decide (a450 < v1)))] (rc (.keep _ (slH_lt h0)) (rc rki (rc rki (rc rkb rn)))) RowsR.nil
 replace ho406 := ifF z449 ho406
 refine WQ.region hT rfl ?_
 refine sq (a2 F15 (eqF z449)) ?_
 refine j442 _ _ _ false ?_ ho406
 exact nm [] [0, 1, 5, 17] [x0, (.int .i64 v1), (.int .i64 v400), (.bool false)] (rc (.keep _ (slH_lt h0)) (rc rki (rc rki (rc rkb rn)))) RowsR.nil
end
end Go.Proofs.Ytcngfjmfgeckmaa
end
section
namespace Go.Proofs.Ytcngfjmfgeckmaa
open Go
set_option linter.unusedSimpArgs false
set_option linter.unusedVariables false
set_option maxRecDepth 20000
attribute [local irreducible] IntKind.wrap bitA
section
variable {h : Heap} {n : Nat} {K : AV → Heap → Nat → Prop}
def m_i_those_a1 (fu : Nat) (v261 : List Int) : Option (List Int) :=
  some (sortI v261)
def m_i_those_a2 (fu : Nat) (v440 : Int) (v484 : List Int) : Option (((List Int) × Int) ⊕ ((List Int) ⊕ Option (List Int))) :=
  some (Sum.inl (v484, IntKind.i64.wrap (v440 + 1)))
def m_i_those_a3 (fu : Nat) (v0 : List RecD) (v1 : Int) (v437 : List Int) (v440 : Int) : Option (((List Int) × Int) ⊕ ((List Int) ⊕ Option (List Int))) :=
  (if (decide (v440 < (v0.length : Int))) = true then (Option.bind (atL v0 v440) fun a506 => (if (decide (a506.kind = v1)) = true then (Option.bind (snocL 8 v437 a506.txn) fun v521 => (m_i_those_a2 fu v440 v521)) else (m_i_those_a2 fu v440 v437))) else some (Sum.inr (Sum.inl v437)))
def m_i_those (fu : Nat) (v0 : List RecD) (v1 : Int) : Option (List Int) :=
  (Option.bind (iterN (fun (s : (List Int) × Int) => m_i_those_a3 fu v0 v1 s.1 s.2) fu (([] : List Int), 0)) fun q443 => Sum.elim (fun (b : (List Int)) => (m_i_those_a1 fu b)) (fun x => x) q443)
set_option maxHeartbeats 2000000 in
theorem w_i_those_o {x0 : AV} {v0 : List RecD} (h0 : (SlH h n 8 RecR) x0 v0) {v1 : Int} (i1 : I64 v1) {fu : Nat} {r : (List Int)} (hm : m_i_those fu v0 v1 = some r) (hk : ∀ A rw, NOwn n 0 1 Int64R A rw r → K A (hp h n [rw]) (n + 1)) : CA Try.prog 60 [x0, (.int .i64 v1)] h n K := by
 refine CA.enterQ (N := 28) (rs := [.tmp 4]) hT Try.call60 Try.func60 rfl rfl (of_decide_eq_true rfl) rfl fun hlt => ?_
 unfold m_i_those at hm
 obtain ⟨es11, a12, l13, b14, F15⟩ := sHo h0
 refine rg0 hT ?_
 refine rg0 hT ?_
 refine WQ.seq_k fun K18 hK18 => ?_
 have j264 : ∀ (E' : Env) (h' : Heap) (n' : Nat) (es260 : List AV) (v261 : List Int) (a262 : All2 Int64R es260 v261) (b263 : es260.length ≤ 140737488355328), Norm n h E' h' n' (envZ [5] [(.sl 1 n 0 v261.length v261.length false)]) (hp h n [some es260]) (n + 1) → (m_i_those_a1 fu v261) = some r → K18 E' h' n' := by
  intro E266 H267 n268 es260 v261 a262 b263 N265 hm
  refine hK18 _ _ _ _ _ _ N265 ?_
  clear N265 hK18 K18
  unfold m_i_those_a1 at hm
  refine WQ.sr hT rfl fun K269 hK269 => ?_
  refine sq (a2 (all2_length a262) (own_take a262)) ?_
  refine w_sort a262 hp_get0 b263 (all2_length a262) (fun es273 a274 b275 => ?_)
  try unfold sealK
  try simp only [go_sem, ↓reduceIte, reduceCtorEq, Nat.reduceEqDiff, Nat.reduceLT, Nat.reduceLeDiff, Nat.reduceAdd, Nat.reduceMul, Int.reduceLE, all2_length a274, own_take a274]
  refine kn hK269 ?_
  clear hK269 K269
  refine rg hT (a2 (all2_length a274) (own_take a274)) ?_
  refine WQ.norm (E2 := envZ [4] [(.sl 1 n 0 (sortI v261).length (sortI v261).length false)]) (h2 := hp h n [(some es273)]) (n2 := n + 1) ?_ (WQ.ret ⟨_, rfl, _, _, _, .keep _ _ _ _ (fun _ _ h => h), ?_⟩)
  exact nm [0] [4] [(.sl 1 n 0 v261.length v261.length false)] (rc (Rn.ownE (js := [0]) 0 0 ((sortI_len _))) rn) (RowsR.row 0 _ _ _ _ hp_get0 (RnL.all2 a274 int64_lt) RowsR.nil)
  exact hkN hk (m := (sortI v261)) hm (nown_own a274 b275)
 clear hK18
 refine rg hT F15 ?_
 refine WQ.block ?_
 obtain ⟨q443, hq444, hm⟩ := obs hm
 refine WQ.norm ?_ (WQ.iter (step := (fun (s : (List Int) × Int) => m_i_those_a3 fu v0 v1 s.1 s.2)) (fun (s : (List Int) × Int) E' h' n' => ∃ (es436 : List AV), All2 Int64R es436 s.1 ∧ es436.length ≤ 140737488355328 ∧ I64 s.2 ∧ (envZ [1, 5, 9, 10, 11] [(.int .i64 v1), (.sl 1 n 0 s.1.length s.1.length false), x0, (.int .i64 (v0.length : Int)), (.int .i64 s.2)]) = E' ∧ (hp h n [some es436]) = h' ∧ (n + 1) = n') hq444 ⟨([]), (nl0 Int64R), (of_decide_eq_true rfl), (i64c (a := 0) rfl), rfl, rfl, rfl⟩ ?_)
 exact nm [0] [1, 5, 9, 10, 11] [(.int .i64 v1), (.sl 1 n 0 0 0 true), x0, (.int .i64 (v0.length : Int)), (.int .i64 0)] (rc rki (rc (Rn.ownF (js := [0]) 0 0) (rc (.keep _ (slH_lt h0)) (rc rki (rc rki rn))))) (RowsR.row 0 _ _ _ _ hp_get0 (RnL.all2 (nl0 Int64R) int64_lt) RowsR.nil)
 rintro ⟨v437, v440⟩ E' h' n' o442 ⟨es436, a438, b439, i441, rfl, rfl, rfl⟩ ho446 hf445
 replace a438 : All2 Int64R es436 v437 := a438
 replace b439 : es436.length ≤ 140737488355328 := b439
 replace i441 : I64 v440 := i441
 replace ho446 : m_i_those_a3 fu v0 v1 v437 v440 = some o442 := ho446
 unfold m_i_those_a3 at ho446
 show WQ Try.prog _ n h _ _ (envZ [1, 5, 9, 10, 11] [(.int .i64 v1), (.sl 1 n 0 v437.length v437.length false), x0, (.int .i64 (v0.length : Int)), (.int .i64 v440)]) (hp h n [some es436]) (n + 1)
 refine rg0 hT ?_
 refine WQ.seq_k fun K448 hK448 => ?_
 refine cn ho446 (fun z450 ho446 => ?_) fun z450 ho446 => ?_
 refine WQ.skip ?_
 refine sg ?_
 refine kn hK448 ?_
 clear hK448 K448
 refine WQ.seq_k fun K451 hK451 => ?_
 have j487 : ∀ (E' : Env) (h' : Heap) (n' : Nat) (es483 : List AV) (v484 : List Int) (a485 : All2 Int64R es483 v484) (b486 : es483.length ≤ 140737488355328), Norm n h E' h' n' (envZ [1, 5, 9, 10, 11] [(.int .i64 v1), (.sl 1 n 0 v484.length v484.length false), x0, (.int .i64 (v0.length : Int)), (.int .i64 v440)]) (hp h n [some es483]) (n + 1) → (m_i_those_a2 fu v440 v484) = some o442 → K451 E' h' n' := by
  intro E489 H490 n491 es483 v484 a485 b486 N488 ho446
  refine hK451 _ _ _ _ _ _ N488 ?_
  clear N488 hK451 K451
  unfold m_i_those_a2 at ho446
  refine WQ.region hT rfl ?_
  refine sq0 ?_
  refine ⟨_, _, _, _, (Option.some.inj ho446).symm, ?_, es483, a485, b486, (rng_wrap64 _), rfl, rfl, rfl⟩
  exact nm [0] [1, 5, 9, 10, 11] [(.int .i64 v1), (.sl 1 n 0 v484.length v484.length false), x0, (.int .i64 (v0.length : Int)), (.int .i64 (IntKind.i64.wrap (v440 + 1)))] (rc rki (rc (Rn.own (js := [0]) 0 0) (rc (.keep _ (slH_lt h0)) (rc rki (rc rki rn))))) (RowsR.row 0 _ _ _ _ hp_get0 (RnL.all2 a485 int64_lt) RowsR.nil)
 clear hK451
 refine WQ.block ?_
 refine WQ.seq_k fun K492 hK492 => ?_
 obtain ⟨a506, q507, ho446⟩ := obs ho446
 obtain ⟨e510, p508, h512⟩ := atk q507 a12
 have gh512 := h512
 obtain ⟨rfl, i513, i514, i515, i516, i517, i518⟩ := h512
 refine WQ.region hT rfl ?_
 refine sq (a2 F15 p508) ?_
 refine kn hK492 ?_
 clear hK492 K492
 refine rg0 hT ?_
 refine cn ho446 (fun z520 ho446 => ?_) fun z520 ho446 => ?_
 obtain ⟨v521, q522, ho446⟩ := obs ho446
 refine WQ.region hT rfl ?_
 refine sq (a2 (all2_length a438) (own_take a438)) ?_
 refine ⟨2, rfl, app_mv1 (j := 0) rfl (of_decide_eq_true rfl) rfl ?_ ?_ (all2_length a438) q522 a438 (int64R i514) ?_⟩
 exact sc (a2 (all2_length a438) (own_take a438))
 exact sc0
 refine sk (a4 (all2_length (snoc_all2 q522 a438 (int64R i514))) (own_take (snoc_all2 q522 a438 (int64R i514))) (all2_length a438) (own_take a438)) ?_
 refine j487 _ _ _ (es436 ++ [(.int .i64 a506.txn)]) v521 (snoc_all2 q522 a438 (int64R i514)) (snoc_len q522 a438 (int64R i514)) ?_ ho446
 exact nm [3] [1, 5, 9, 10, 11] [(.int .i64 v1), (.sl 1 (n + 3) 0 v521.length v521.length false), x0, (.int .i64 (v0.length : Int)), (.int .i64 v440)] (rc rki (rc (Rn.own (js := [3]) 3 0) (rc (.keep _ (slH_lt h0)) (rc rki (rc rki rn))))) (RowsR.row 3 _ _ _ _ (hp_get 3) (RnL.all2 (snoc_all2 q522 a438 (int64R i514)) int64_lt) RowsR.nil)
 refine WQ.skip ?_
 refine sg ?_
 refine j487 _ _ _ es436 v437 a438 b439 ?_ ho446
 exact nm [0] [1, 5, 9, 10, 11] [(.int .i64 v1), (.sl 1 n 0 v437.length v437.length false), x0, (.int .i64 (v0.length : Int)), (.int .i64 v440)] (rc rki (rc (Rn.own (js := [0]) 0 0) (rc (.keep _ (slH_lt h0)) (rc rki (rc rki rn))))) (RowsR.row 0 _ _ _ _ hp_get0 (RnL.all2 a438 int64_lt) RowsR.nil)
 refine WQ.exit ?_
 refine sg ?_
 have e523 := hf445 _ (Option.some.inj ho446).symm
 rw [← e523] at hm
 refine j264 _ _ _ es436 v437 a438 b439 ?_ hm
 exact nm [0] [5] [(.sl 1 n 0 v437.length v437.length false)] (rc (Rn.own (js := [0]) 0 0) rn) (RowsR.row 0 _ _ _ _ hp_get0 (RnL.all2 a438 int64_lt) RowsR.nil)
def m_s_l13Kinds_a1 (fu : Nat) (v283 : List Int) : Option (List Int) :=
  some v283
def m_s_l13Kinds_a2 (fu : Nat) (v468 : Int) (v517 : List Int) : Option (((List Int) × Int) ⊕ ((List Int) ⊕ Option (List Int))) :=
  some (Sum.inl (v517, IntKind.i64.wrap (v468 + 1)))
def m_s_l13Kinds_a3 (fu : Nat) (v0 : List RecD) (v1 : Int) (v466 : List Int) (v468 : Int) : Option (((List Int) × Int) ⊕ ((List Int) ⊕ Option (List Int))) :=
  (if (decide (v468 < (v0.length : Int))) = true then (Option.bind (atL v0 v468) fun a538 => (if (decide (a538.kind = v1)) = true then (Option.bind (m_s_l1Rise fu v466 a538.txn) fun v553 => (m_s_l13Kinds_a2 fu v468 v553)) else (m_s_l13Kinds_a2 fu v468 v466))) else some (Sum.inr (Sum.inl v466)))
def m_s_l13Kinds (fu : Nat) (v0 : List RecD) (v1 : Int) : Option (List Int) :=
  (Option.bind (iterN (fun (s : (List Int) × Int) => m_s_l13Kinds_a3 fu v0 v1 s.1 s.2) fu (([] : List Int), 0)) fun q471 => Sum.elim (fun (b : (List Int)) => (m_s_l13Kinds_a1 fu b)) (fun x => x) q471)
set_option maxHeartbeats 2000000 in
theorem w_s_l13Kinds_o {x0 : AV} {v0 : List RecD} (h0 : (SlH h n 8 RecR) x0 v0) {v1 : Int} (i1 : I64 v1) {fu : Nat} {r : (List Int)} (hm : m_s_l13Kinds fu v0 v1 = some r) (hk : ∀ A rw, NOwn n 0 1 Int64R A rw r → K A (hp h n [rw]) (n + 1)) : CA Try.prog 59 [x0, (.int .i64 v1)] h n K := by
 refine CA.enterQ (N := 29) (rs := [.tmp 4]) hT Try.call59 Try.func59 rfl rfl (of_decide_eq_true rfl) rfl fun hlt => ?_
 unfold m_s_l13Kinds at hm
 obtain ⟨es11, a12, l13, b14, F15⟩ := sHo h0
 refine rg0 hT ?_
 refine rg0 hT ?_
 refine WQ.seq_k fun K18 hK18 => ?_
 have j285 : ∀ (E' : Env) (h' : Heap) (n' : Nat) (x281 : AV) (rw282 : Option (List AV)) (v283 : List Int) (h284 : NOwn n 0 1 Int64R x281 rw282 v283), Norm n h E' h' n' (envZ [5] [x281]) (hp h n [rw282]) (n + 1) → (m_s_l13Kinds_a1 fu v283) = some r → K18 E' h' n' := by
  intro E287 H288 n289 x281 rw282 v283 h284 N286 hm
  refine hK18 _ _ _ _ _ _ N286 ?_
  clear N286 hK18 K18
  unfold m_s_l13Kinds_a1 at hm
  refine rg hT (a4 (nown_rd h284) (nown_len h284) (nown_cells h284) (nown_good h284)) ?_
  refine WQ.norm (E2 := envZ [4] [x281]) (h2 := hp h n [rw282]) (n2 := n + 1) ?_ (WQ.ret ⟨_, rfl, _, _, _, .keep _ _ _ _ (fun _ _ h => h), ?_⟩)
  exact nm [0] [4] [x281] (rc (nown_rn h284 rfl) rn) (RowsR.opt 0 _ _ _ (.inr hp_get0) (nown_rows (j := 0) h284 int64_lt) RowsR.nil)
  exact hkN hk (m := v283) hm h284
 clear hK18
 refine rg0 hT ?_
 refine WQ.block ?_
 obtain ⟨q471, hq472, hm⟩ := obs hm
 refine WQ.norm ?_ (WQ.iter (step := (fun (s : (List Int) × Int) => m_s_l13Kinds_a3 fu v0 v1 s.1 s.2)) (fun (s : (List Int) × Int) E' h' n' => ∃ (x464 : AV), ∃ (rw465 : Option (List AV)), NOwn n 0 1 Int64R x464 rw465 s.1 ∧ I64 s.2 ∧ (envZ [0, 1, 5, 6] [x0, (.int .i64 v1), x464, (.int .i64 s.2)]) = E' ∧ (hp h n [rw465]) = h' ∧ (n + 1) = n') hq472 ⟨(.sl 1 n 0 ([] : List Int).length ([] : List Int).length false), (some ([])), (nown_own (nl0 Int64R) (of_decide_eq_true rfl)), (i64c (a := 0) rfl), rfl, rfl, rfl⟩ ?_)
 exact nm [0] [0, 1, 5, 6] [x0, (.int .i64 v1), (.sl 1 n 0 0 0 true), (.int .i64 0)] (rc (.keep _ (slH_lt h0)) (rc rki (rc (Rn.ownF (js := [0]) 0 0) (rc rki rn)))) (RowsR.row 0 _ _ _ _ hp_get0 (RnL.all2 (nl0 Int64R) int64_lt) RowsR.nil)
 rintro ⟨v466, v468⟩ E' h' n' o470 ⟨x464, rw465, h467, i469, rfl, rfl, rfl⟩ ho474 hf473
 replace h467 : NOwn n 0 1 Int64R x464 rw465 v466 := h467
 replace i469 : I64 v468 := i469
 replace ho474 : m_s_l13Kinds_a3 fu v0 v1 v466 v468 = some o470 := ho474
 unfold m_s_l13Kinds_a3 at ho474
 show WQ Try.prog _ n h _ _ (envZ [0, 1, 5, 6] [x0, (.int .i64 v1), x464, (.int .i64 v468)]) (hp h n [rw465]) (n + 1)
 refine WQ.seq_k fun K475 hK475 => ?_
 refine rg hT F15 ?_
 refine cn ho474 (fun z479 ho474 => ?_) fun z479 ho474 => ?_
 refine WQ.skip ?_
 refine sg ?_
 refine kn hK475 ?_
 clear hK475 K475
 refine WQ.seq_k fun K480 hK480 => ?_
 have j519 : ∀ (E' : Env) (h' : Heap) (n' : Nat) (x515 : AV) (rw516 : Option (List AV)) (v517 : List Int) (h518 : NOwn n 0 1 Int64R x515 rw516 v517), Norm n h E' h' n' (envZ [0, 1, 5, 6] [x0, (.int .i64 v1), x515, (.int .i64 v468)]) (hp h n [rw516]) (n + 1) → (m_s_l13Kinds_a2 fu v468 v517) = some o470 → K480 E' h' n' := by
  intro E521 H522 n523 x515 rw516 v517 h518 N520 ho474
  refine hK480 _ _ _ _ _ _ N520 ?_
  clear N520 hK480 K480
  unfold m_s_l13Kinds_a2 at ho474
  refine WQ.region hT rfl ?_
  refine sq0 ?_
  refine ⟨_, _, _, _, (Option.some.inj ho474).symm, ?_, x515, rw516, h518, (rng_wrap64 _), rfl, rfl, rfl⟩
  exact nm [0] [0, 1, 5, 6] [x0, (.int .i64 v1), x515, (.int .i64 (IntKind.i64.wrap (v468 + 1)))] (rc (.keep _ (slH_lt h0)) (rc rki (rc (nown_rn h518 rfl) (rc rki rn)))) (RowsR.opt 0 _ _ _ (.inr hp_get0) (nown_rows (j := 0) h518 int64_lt) RowsR.nil)
 clear hK480
 refine WQ.block ?_
 refine WQ.seq_k fun K524 hK524 => ?_
 obtain ⟨a538, q539, ho474⟩ := obs ho474
 obtain ⟨e542, p540, h544⟩ := atk q539 a12
 have gh544 := h544
 obtain ⟨rfl, i545, i546, i547, i548, i549, i550⟩ := h544
 refine WQ.region hT rfl ?_
 refine sq (a2 F15 p540) ?_
 refine kn hK524 ?_
 clear hK524 K524
 refine cn ho474 (fun z551 ho474 => ?_) fun z551 ho474 => ?_
 obtain ⟨v553, q552, ho474⟩ := obs ho474
 refine WQ.region hT rfl ?_
 refine sq (a5 F15 (nown_rd h467) (nown_len h467) (nown_cells h467) (a2 (nown_good h467) p540)) ?_
 refine w_s_l1Rise_c (nown_H (j := 0) (m := 1) h467 hp_get0 rfl) i546 q552 (fun e554 => ?_) (fun x555 rw556 h557 => ?_)
 subst e554
 try unfold sealK
 try simp only [go_sem, ↓reduceIte, reduceCtorEq, Nat.reduceEqDiff, Nat.reduceLT, Nat.reduceLeDiff, Nat.reduceAdd, Nat.reduceMul, Int.reduceLE, F15, nown_rd h467, nown_len h467, nown_cells h467, nown_good h467, p540]
 refine j519 _ _ _ x464 rw465 v466 h467 ?_ ho474
 exact nm [0] [0, 1, 5, 6] [x0, (.int .i64 v1), x464, (.int .i64 v468)] (rc (.keep _ (slH_lt h0)) (rc rki (rc (nown_rn h467 rfl) (rc rki rn)))) (RowsR.opt 0 _ _ _ (.inr hp_get0) (nown_rows (j := 0) h467 int64_lt) RowsR.nil)
 replace h557 := nown_up (m := 1) h557
 try unfold sealK
 try simp only [go_sem, ↓reduceIte, reduceCtorEq, Nat.reduceEqDiff, Nat.reduceLT, Nat.reduceLeDiff, Nat.reduceAdd, Nat.reduceMul, Int.reduceLE, F15, nown_rd h557, nown_len h557, nown_cells h557, nown_good h557, nown_rd h467, nown_len h467, nown_cells h467, nown_good h467, p540]
 obtain ⟨x558, h559, q560⟩ := nown_mv 0 h557
 refine j519 _ _ _ x558 rw556 v553 h559 ?_ ho474
 exact nm [1] [0, 1, 5, 6] [x0, (.int .i64 v1), x555, (.int .i64 v468)] (rc (.keep _ (slH_lt h0)) (rc rki (rc (q560 _ _ rfl) (rc rki rn)))) (RowsR.opt 1 _ _ _ (.inr (hp_get 1)) (nown_rows (j := 1) h557 int64_lt) RowsR.nil)
 refine WQ.skip ?_
 refine sg ?_
 refine j519 _ _ _ x464 rw465 v466 h467 ?_ ho474
 exact nm [0] [0, 1, 5, 6] [x0, (.int .i64 v1), x464, (.int .i64 v468)] (rc (.keep _ (slH_lt h0)) (rc rki (rc (nown_rn h467 rfl) (rc rki rn)))) (RowsR.opt 0 _ _ _ (.inr hp_get0) (nown_rows (j := 0) h467 int64_lt) RowsR.nil)
 refine WQ.exit ?_
 refine sg ?_
 have e561 := hf473 _ (Option.some.inj ho474).symm
 rw [← e561] at hm
 refine j285 _ _ _ x464 rw465 v466 h467 ?_ hm
 exact nm [0] [5] [x464] (rc (nown_rn h467 rfl) rn) (RowsR.opt 0 _ _ _ (.inr hp_get0) (nown_rows (j := 0) h467 int64_lt) RowsR.nil)
end
end Go.Proofs.Ytcngfjmfgeckmaa
end
namespace Go.Proofs.Ytcngfjmfgeckmaa
open Go
section
variable {fu : Nat}
def txnsOf (l : List RecD) (k : Int) : List Int := (l.filter fun x => decide (x.kind = k)).map (·.txn)
theorem txnsOf_len (l : List RecD) (k : Int) : (txnsOf l k).length ≤ l.length := by unfold txnsOf; rw [List.length_map]; exact List.length_filter_le _ _
theorem txnsOf_take {l : List RecD} {i : Nat} {r : RecD} (k : Int) (hr : l[i]? = some r) : txnsOf (l.take (i + 1)) k = txnsOf (l.take i) k ++ (if r.kind = k then [r.txn] else []) := by
  unfold txnsOf
  rw [List.take_add_one, hr]
  by_cases h : r.kind = k <;> simp [List.filter_append, h]
def riseI : List Int → Int → List Int
  | [], v => [v]
  | a :: l, v => if a < v then a :: riseI l v else if a = v then a :: l else v :: a :: l
def rankI : List Int → Int → Nat
  | [], _ => 0
  | a :: l, v => if a < v then rankI l v + 1 else 0
theorem rankI_le (v : Int) : ∀ l : List Int, rankI l v ≤ l.length
  | [] => Nat.le_refl _
  | a :: l => by
    unfold rankI
    split
    · exact Nat.succ_le_succ (rankI_le v l)
    · exact Nat.zero_le _
theorem riseI_rank (v : Int) : ∀ l : List Int, riseI l v = if l[rankI l v]? = some v then l else l.take (rankI l v) ++ [v] ++ l.drop (rankI l v)
  | [] => rfl
  | a :: l => by
    have ih := riseI_rank v l
    unfold riseI rankI
    by_cases h : a < v
    · rw [if_pos h, if_pos h, ih]
      simp only [List.getElem?_cons_succ]
      split <;> simp
    · rw [if_neg h, if_neg h]
      by_cases h2 : a = v <;> simp [h2]
theorem rankI_iter {l : List Int} {v : Int} (hl : l.length ≤ 1000000) : ∀ (m i : Nat), i ≤ l.length → l.length - i < m → iterN (fun (s : Int) => m_s_l1Rise_a5 fu l v s) m (i : Int) = some (Sum.inl ((i + rankI (l.drop i) v : Nat) : Int)) := by
  intro m
  induction m with
  | zero => intro i _ h; omega
  | succ m ih =>
    intro i hi hm
    unfold iterN
    by_cases hlt : i < l.length
    · have hge := List.getElem?_eq_getElem hlt
      rw [List.drop_eq_getElem_cons hlt]
      by_cases hk : l[i] < v
      · have step : m_s_l1Rise_a5 fu l v (i : Int) = some (Sum.inl ((i + 1 : Nat) : Int)) := by
          unfold m_s_l1Rise_a5 m_s_l1Rise_a4
          rw [if_pos (decide_eq_true (Int.ofNat_lt.2 hlt)), atL_nat, hge, Option.bind_some, if_pos (decide_eq_true hk), wrap_succ (by omega)]
        simp only [step]
        rw [ih (i + 1) hlt (by omega), rankI, if_pos hk]
        congr 3; omega
      · have step : m_s_l1Rise_a5 fu l v (i : Int) = some (Sum.inr (Sum.inl (i : Int))) := by
          unfold m_s_l1Rise_a5 m_s_l1Rise_a4
          rw [if_pos (decide_eq_true (Int.ofNat_lt.2 hlt)), atL_nat, hge, Option.bind_some, if_neg (by simp; omega)]
        simp only [step]
        rw [rankI, if_neg hk]
        rfl
    · have step : m_s_l1Rise_a5 fu l v (i : Int) = some (Sum.inr (Sum.inl (i : Int))) := by
        unfold m_s_l1Rise_a5 m_s_l1Rise_a4
        rw [if_neg (by simp; omega)]
        rfl
      simp only [step]
      rw [List.drop_of_length_le (by omega)]
      rfl
theorem appI_eq {l l2 : List Int} (h : l.length + l2.length ≤ 2000000) : appL 8 l l2 = some (l ++ l2) := by
  unfold appL roomL
  rw [if_pos (by simp; omega)]
theorem m_s_l1Rise_eq {l : List Int} {v : Int} (hl : l.length ≤ 1000000) (hfu : l.length < fu) : m_s_l1Rise fu l v = some (riseI l v) := by
  unfold m_s_l1Rise
  have h := rankI_iter (fu := fu) (l := l) (v := v) hl fu 0 (Nat.zero_le _) (by omega)
  rw [show ((0 : Nat) : Int) = 0 from rfl, List.drop_zero, Nat.zero_add] at h
  have hr := rankI_le v l
  rw [h, Option.bind_some, Sum.elim_inl]
  unfold m_s_l1Rise_a3 m_s_l1Rise_a2 m_s_l1Rise_a1
  have e1 : sliceL l 0 ((rankI l v : Nat) : Int) = some (l.take (rankI l v)) := by
    unfold sliceL
    rw [if_pos (by simp; omega)]
    simp
  have e2 : sliceL l ((rankI l v : Nat) : Int) (l.length : Int) = some (l.drop (rankI l v)) := by
    unfold sliceL
    rw [if_pos (by simp; omega)]
    simp only [Int.toNat_natCast]
    rw [List.take_of_length_le (by rw [List.length_drop]; exact Nat.le_refl _)]
  have l1 : (l.take (rankI l v)).length = rankI l v := by rw [List.length_take]; omega
  rw [e1, Option.bind_some, e2, Option.bind_some, appI_eq (by simp; omega), Option.bind_some, List.nil_append, snocL_eq (by omega), Option.bind_some, appI_eq (by simp; omega), Option.bind_some, riseI_rank]
  by_cases hlt : rankI l v < l.length
  · have hge := List.getElem?_eq_getElem hlt
    rw [if_pos (decide_eq_true (by omega)), atL_nat, hge, Option.bind_some]
    by_cases hq : l[rankI l v] = v
    · rw [if_pos (decide_eq_true hq), if_pos (by rw [hq])]
    · rw [if_neg (by simp [hq]), if_neg (by simp [hq])]
  · rw [if_neg (by simp; omega), if_neg (by decide), if_neg (by rw [List.getElem?_eq_none (by omega)]; simp)]
theorem riseI_len (v : Int) : ∀ l : List Int, (riseI l v).length ≤ l.length + 1
  | [] => Nat.le_refl _
  | a :: l => by
    have := riseI_len v l
    unfold riseI
    split <;> (try split) <;> simp <;> omega
theorem riseI_mem {v a : Int} : ∀ {l : List Int}, a ∈ riseI l v ↔ a = v ∨ a ∈ l
  | [] => by simp [riseI]
  | b :: l => by
    unfold riseI
    split
    · rw [List.mem_cons, riseI_mem, List.mem_cons]
      constructor
      · rintro (h | h | h) <;> simp [h]
      · rintro (h | h | h) <;> simp [h]
    · split
      · rename_i h2
        rw [List.mem_cons]
        constructor
        · intro h; exact .inr h
        · rintro (h | h)
          · exact .inl (h.trans h2.symm)
          · exact h
      · simp
theorem riseI_sorted {v : Int} : ∀ {l : List Int}, l.Pairwise (· < ·) → (riseI l v).Pairwise (· < ·)
  | [], _ => List.pairwise_singleton _ _
  | a :: l, h => by
    have h' := List.pairwise_cons.1 h
    unfold riseI
    split
    · rename_i h1
      refine List.pairwise_cons.2 ⟨fun x hx => ?_, riseI_sorted h'.2⟩
      rcases riseI_mem.1 hx with rfl | hx
      · exact h1
      · exact h'.1 x hx
    · split
      · exact h
      · refine List.pairwise_cons.2 ⟨fun x hx => ?_, h⟩
        rcases List.mem_cons.1 hx with rfl | hx
        · omega
        · have := h'.1 x hx; omega
def riseAll (l : List Int) : List Int := l.foldl riseI []
theorem riseAll_snoc (l : List Int) (v : Int) : riseAll (l ++ [v]) = riseI (riseAll l) v := by unfold riseAll; rw [List.foldl_append]; rfl
theorem riseAll_mem {l : List Int} : ∀ a, a ∈ riseAll l ↔ a ∈ l := by
  have key : ∀ (l acc : List Int) (a : Int), a ∈ l.foldl riseI acc ↔ a ∈ acc ∨ a ∈ l := by
    intro l
    induction l with
    | nil => intro acc a; simp
    | cons b l ih =>
      intro acc a
      rw [List.foldl_cons, ih, riseI_mem, List.mem_cons]
      constructor
      · rintro ((h | h) | h) <;> simp [h]
      · rintro (h | h | h) <;> simp [h]
  intro a
  have := key l [] a
  simpa [riseAll] using this
theorem riseAll_sorted (l : List Int) : (riseAll l).Pairwise (· < ·) := by
  have key : ∀ (l acc : List Int), acc.Pairwise (· < ·) → (l.foldl riseI acc).Pairwise (· < ·) := by
    intro l
    induction l with
    | nil => intro acc h; exact h
    | cons b l ih => intro acc h; exact ih _ (riseI_sorted h)
  exact key l [] List.Pairwise.nil
theorem riseAll_len (l : List Int) : (riseAll l).length ≤ l.length := by
  have key : ∀ (l acc : List Int), (l.foldl riseI acc).length ≤ acc.length + l.length := by
    intro l
    induction l with
    | nil => intro acc; simp
    | cons b l ih =>
      intro acc
      have := ih (riseI acc b)
      have := riseI_len b acc
      simp only [List.foldl_cons, List.length_cons]; omega
  have := key l []
  simpa [riseAll] using this
theorem sortI_pair (l : List Int) : (sortI l).Pairwise fun a b => a ≤ b := by
  have := List.pairwise_mergeSort (le := fun x y : Int => decide (x ≤ y)) (fun a b c h1 h2 => by simp only [decide_eq_true_eq] at *; omega) (fun a b => by simp only [Bool.or_eq_true, decide_eq_true_eq]; omega) l
  exact this.imp fun h => of_decide_eq_true h
theorem sorted_eq {a b : List Int} (hp : a.Perm b) (ha : a.Pairwise fun x y => x ≤ y) (hb : b.Pairwise fun x y => x ≤ y) : a = b :=
  List.Perm.eq_of_pairwise (le := fun x y : Int => x ≤ y) (fun x y _ _ h1 h2 => by omega) ha hb hp
theorem nodup_perm {a b : List Int} (ha : a.Nodup) (hb : b.Nodup) (h : ∀ x, x ∈ a ↔ x ∈ b) : a.Perm b := (List.perm_ext_iff_of_nodup ha hb).2 h
theorem rise_nodup {l : List Int} (h : l.Pairwise (· < ·)) : l.Nodup := h.imp fun h => by omega
theorem riseAll_sort {l : List Int} (hn : l.Nodup) : riseAll l = sortI l :=
  sorted_eq ((nodup_perm (rise_nodup (riseAll_sorted l)) hn fun x => riseAll_mem x).trans (List.mergeSort_perm l _).symm) ((riseAll_sorted l).imp fun h => by omega) (sortI_pair l)
theorem m_i_those_eq {l : List RecD} {k : Int} (hl : l.length ≤ 100000) (hfu : l.length < fu) : m_i_those fu l k = some (sortI (txnsOf l k)) := by
  have key : ∀ (m i : Nat), i ≤ l.length → l.length - i < m → iterN (fun (s : (List Int) × Int) => m_i_those_a3 fu l k s.1 s.2) m (txnsOf (l.take i) k, (i : Int)) = some (Sum.inl (txnsOf l k)) := by
    intro m
    induction m with
    | zero => intro i _ h; omega
    | succ m ih =>
      intro i hi hm
      unfold iterN
      by_cases hlt : i < l.length
      · have hge := List.getElem?_eq_getElem hlt
        have hle := txnsOf_len (l.take i) k
        rw [List.length_take] at hle
        have step : m_i_those_a3 fu l k (txnsOf (l.take i) k) (i : Int) = some (Sum.inl (txnsOf (l.take (i + 1)) k, ((i + 1 : Nat) : Int))) := by
          unfold m_i_those_a3 m_i_those_a2
          rw [if_pos (decide_eq_true (Int.ofNat_lt.2 hlt)), atL_nat, hge, Option.bind_some, snocL_eq (by omega), wrap_succ (by omega), txnsOf_take k hge]
          by_cases h : l[i].kind = k <;> simp [h]
        simp only [step]
        exact ih (i + 1) hlt (by omega)
      · have step : m_i_those_a3 fu l k (txnsOf (l.take i) k) (i : Int) = some (Sum.inr (Sum.inl (txnsOf l k))) := by
          unfold m_i_those_a3
          rw [if_neg (by simp; omega), List.take_of_length_le (by omega)]
        simp only [step]
  have h := key fu 0 (Nat.zero_le _) (by omega)
  unfold m_i_those m_i_those_a1
  rw [show (([] : List Int), (0 : Int)) = (txnsOf (l.take 0) k, ((0 : Nat) : Int)) from rfl, h]
  rfl
theorem m_s_l13Kinds_eq {l : List RecD} {k : Int} (hl : l.length ≤ 100000) (hfu : l.length < fu) : m_s_l13Kinds fu l k = some (riseAll (txnsOf l k)) := by
  have key : ∀ (m i : Nat), i ≤ l.length → l.length - i < m → iterN (fun (s : (List Int) × Int) => m_s_l13Kinds_a3 fu l k s.1 s.2) m (riseAll (txnsOf (l.take i) k), (i : Int)) = some (Sum.inl (riseAll (txnsOf l k))) := by
    intro m
    induction m with
    | zero => intro i _ h; omega
    | succ m ih =>
      intro i hi hm
      unfold iterN
      by_cases hlt : i < l.length
      · have hge := List.getElem?_eq_getElem hlt
        have hle := txnsOf_len (l.take i) k
        have hle2 := riseAll_len (txnsOf (l.take i) k)
        rw [List.length_take] at hle
        have step : m_s_l13Kinds_a3 fu l k (riseAll (txnsOf (l.take i) k)) (i : Int) = some (Sum.inl (riseAll (txnsOf (l.take (i + 1)) k), ((i + 1 : Nat) : Int))) := by
          unfold m_s_l13Kinds_a3 m_s_l13Kinds_a2
          rw [if_pos (decide_eq_true (Int.ofNat_lt.2 hlt)), atL_nat, hge, Option.bind_some, m_s_l1Rise_eq (by omega) (by omega), wrap_succ (by omega), txnsOf_take k hge]
          by_cases h : l[i].kind = k
          · simp [h, riseAll_snoc]
          · simp [h]
        simp only [step]
        exact ih (i + 1) hlt (by omega)
      · have step : m_s_l13Kinds_a3 fu l k (riseAll (txnsOf (l.take i) k)) (i : Int) = some (Sum.inr (Sum.inl (riseAll (txnsOf l k)))) := by
          unfold m_s_l13Kinds_a3
          rw [if_neg (by simp; omega), List.take_of_length_le (by omega)]
        simp only [step]
  have h := key fu 0 (Nat.zero_le _) (by omega)
  unfold m_s_l13Kinds m_s_l13Kinds_a1
  rw [show (([] : List Int), (0 : Int)) = (riseAll (txnsOf (l.take 0) k), ((0 : Nat) : Int)) from rfl, h]
  rfl
theorem once {l : List RecD} : ∀ {a : List RecD} {c : List CellD}, runC a c l = 0 → (txnsOf a 1).Nodup → (txnsOf a 3).Nodup → (txnsOf (a ++ l) 1).Nodup ∧ (txnsOf (a ++ l) 3).Nodup := by
  induction l with
  | nil => intro a c _ h1 h3; simpa using ⟨h1, h3⟩
  | cons r l ih =>
    intro a c h h1 h3
    unfold runC at h
    split at h
    · rename_i hq; exact absurd h hq
    split at h
    · rename_i hq; exact absurd h hq
    rename_i hf0 hn0
    have hn : nextC a c r = 0 := by simpa using hn0
    have ap : ∀ k, txnsOf (a ++ [r]) k = txnsOf a k ++ (if r.kind = k then [r.txn] else []) := fun k => by
      unfold txnsOf; by_cases hk : r.kind = k <;> simp [List.filter_append, hk]
    have hm : ∀ k t, t ∈ txnsOf a k → ∃ x, x ∈ a ∧ x.kind = k ∧ x.txn = t := fun k t ht => by
      unfold txnsOf at ht
      obtain ⟨x, hx, rfl⟩ := List.mem_map.1 ht
      obtain ⟨q1, q2⟩ := List.mem_filter.1 hx
      exact ⟨x, q1, of_decide_eq_true q2, rfl⟩
    have n1 : (txnsOf (a ++ [r]) 1).Nodup := by
      rw [ap]
      by_cases hk : r.kind = 1
      · rw [if_pos hk, List.nodup_append]
        refine ⟨h1, by simp, fun t ht t' ht' => ?_⟩
        obtain rfl := List.mem_singleton.1 ht'
        rintro rfl
        obtain ⟨x, q1, q2, q3⟩ := hm _ _ ht
        unfold nextC at hn
        rw [if_neg (by omega), if_pos hk, if_pos (List.any_eq_true.2 ⟨x, q1, decide_eq_true q3⟩)] at hn
        cases hn
      · rw [if_neg hk]; simpa using h1
    have n3 : (txnsOf (a ++ [r]) 3).Nodup := by
      rw [ap]
      by_cases hk : r.kind = 3
      · rw [if_pos hk, List.nodup_append]
        refine ⟨h3, by simp, fun t ht t' ht' => ?_⟩
        obtain rfl := List.mem_singleton.1 ht'
        rintro rfl
        obtain ⟨x, q1, q2, q3⟩ := hm _ _ ht
        unfold nextC at hn
        have hkk : kinds a r.txn [3, 4] = true := kinds_iff.2 ⟨x, q1, q3, by simp [q2]⟩
        rw [if_neg (by omega), if_neg (by omega), hkk, if_pos (by simp)] at hn
        cases hn
      · rw [if_neg hk]; simpa using h3
    have := ih h n1 n3
    rwa [List.append_assoc] at this
theorem runC_once {l : List RecD} (h : runC [] [] l = 0) : (txnsOf l 1).Nodup ∧ (txnsOf l 3).Nodup := by
  have := once h (by simp [txnsOf]) (by simp [txnsOf])
  simpa using this
end
end Go.Proofs.Ytcngfjmfgeckmaa
