import Derived.ProofKit
import Derived.Deep.Slices
import Derived.Test.YtcngfjmfgeckmaaZ14k
set_option linter.unusedSimpArgs false
set_option linter.unusedVariables false
set_option linter.unusedSectionVars false
namespace Go.Proofs.Ytcngfjmfgeckmaa
open Go
section
variable {fu : Nat}
def undoOk (a : List RecD) (r : RecD) : Bool :=
  match chainG r.txn 0 a with
  | [] => false
  | b :: _ => decide (b = r.back) && (match a[(r.back - 1).toNat]? with | some x => (decide (r.key = x.key) && (r.has == x.had)) && decide (r.new = x.old) | none => false)
def nextC (a : List RecD) (c : List CellD) (r : RecD) : Int :=
  if r.kind = 6 then 0 else
  if r.kind = 1 then (if (a.any fun x => decide (x.txn = r.txn)) = true then 10 else 0) else
  if (!kinds a r.txn [1] || kinds a r.txn [3, 4]) = true then 10 else
  if (r.turns && (!(r.had == decide ((valC c r.key).code = 0)) || decide (r.old ≠ (valC c r.key).value))) = true then 1 else
  if (decide (r.kind = 2) && heldP a r) = true then 9 else
  if r.kind = 5 then (if undoOk a r = true then 0 else 4) else
  if r.kind = 4 then (if chainG r.txn 0 a = [] then 0 else 4) else
  if (decide (r.kind = 2) || decide (r.kind = 3)) = true then (if kinds a r.txn [5] = true then 4 else 0) else 0
theorem m_i_soundNext_eq {a : List RecD} {c : List CellD} {r : RecD} (ha : a.length ≤ 100000) (hr : rise c) (hk : keysOk c) (h2 : 0 ≤ r.key ∧ r.key ≤ 1000000) (hl : c.length ≤ 1000000) (hfu : a.length < fu) (hfu2 : c.length < fu) (h3 : 2 < fu) :
    m_i_soundNext fu a c r = some (nextC a c r) := by
  unfold m_i_soundNext nextC
  by_cases k6 : r.kind = 6
  · rw [if_pos (decide_eq_true k6), if_pos k6]
  rw [if_neg (by simp [k6]), if_neg k6, m_g_ContainsFunc_Rec__i_soundNext_1_eq (by omega) hfu, Option.bind_some]
  by_cases k1 : r.kind = 1
  · rw [if_pos (decide_eq_true k1), if_pos k1]
    split <;> rfl
  rw [if_neg (by simp [k1]), if_neg k1, m_i_kindsOf_eq (ks := [1]) (by omega) hfu (by decide) (by simp; omega), m_i_kindsOf_eq (ks := [3, 4]) (by omega) hfu (by decide) (by simp; omega), Option.bind_some, Option.bind_some]
  unfold m_i_soundNext_a7
  show (if (!kinds a r.txn [1]) = true then _ else if kinds a r.txn [3, 4] = true then _ else _) = _
  cases hb1 : kinds a r.txn [1] with
  | false => rfl
  | true =>
    cases hb2 : kinds a r.txn [3, 4] with
    | true => rfl
    | false =>
      simp only [Bool.not_true, Bool.false_eq_true, if_false, Bool.or_false, Bool.false_or]
      rw [m_i_valueIn_eq hr hk h2 hl hfu2, Option.bind_some]
      have a6T : m_i_soundNext_a6 fu a r true = some 1 := rfl
      have rest : m_i_soundNext_a6 fu a r false =
          some (if (decide (r.kind = 2) && heldP a r) = true then 9 else
            if r.kind = 5 then (if undoOk a r = true then 0 else 4) else
            if r.kind = 4 then (if chainG r.txn 0 a = [] then 0 else 4) else
            if (decide (r.kind = 2) || decide (r.kind = 3)) = true then (if kinds a r.txn [5] = true then 4 else 0) else 0) := by
        unfold m_i_soundNext_a6
        rw [if_neg (by decide), m_i_heldBy_eq (by omega) hfu h3, Option.bind_some]
        have inner : m_i_soundNext_a5 fu a r false = some (if r.kind = 5 then (if undoOk a r = true then 0 else 4) else
            if r.kind = 4 then (if chainG r.txn 0 a = [] then 0 else 4) else
            if (decide (r.kind = 2) || decide (r.kind = 3)) = true then (if kinds a r.txn [5] = true then 4 else 0) else 0) := by
          unfold m_i_soundNext_a5 m_i_soundNext_a4 m_i_soundNext_a3 m_i_soundNext_a2 m_i_soundNext_a1
          rw [if_neg (by decide), m_i_chain_eq (by omega) hfu, Option.bind_some, m_i_kindsOf_eq (ks := [5]) (by omega) hfu (by decide) (by simp; omega)]
          show _ = _
          by_cases k5 : r.kind = 5
          · rw [if_pos (decide_eq_true k5), if_pos k5]
            unfold undoOk
            cases hc : chainG r.txn 0 a with
            | nil => rfl
            | cons b t =>
              have hbd := chainG_bd (txn := r.txn) (l := a) (k := 0) (a := b) (by rw [hc]; simp)
              have e0 : atL (b :: t) 0 = some b := rfl
              rw [if_neg (by simp; omega), e0, Option.bind_some]
              by_cases hb : b = r.back
              · have hw : IntKind.i64.wrap (r.back - 1) = r.back - 1 := wrap_in (by omega) (by omega)
                have hlt : (r.back - 1).toNat < a.length := by omega
                have hat : atL a (r.back - 1) = some a[(r.back - 1).toNat] := by
                  unfold atL
                  rw [if_pos (by omega), List.getElem?_eq_getElem hlt]
                rw [if_neg (by simp [hb]), hw, hat, Option.bind_some, List.getElem?_eq_getElem hlt]
                simp only [decide_eq_true hb, Bool.true_and]
                generalize a[(r.back - 1).toNat] = x
                by_cases q1 : r.key = x.key
                · by_cases q2 : (r.has == x.had) = true
                  · by_cases q3 : r.new = x.old <;> simp [q1, q2, q3]
                  · simp [q1, q2]
                · simp [q1]
              · rw [if_pos (decide_eq_true hb)]
                simp [hb]
          · rw [if_neg (by simp [k5]), if_neg k5]
            by_cases k4 : r.kind = 4
            · rw [if_pos (decide_eq_true k4), if_pos k4]
              cases hc : chainG r.txn 0 a with
              | nil => rfl
              | cons b t => rw [if_pos (by simp), if_neg (by simp)]
            · rw [if_neg (by simp [k4]), if_neg k4]
              show (if decide (r.kind = 2) = true then (if decide (r.kind = 2) = true then Option.bind (some (kinds a r.txn [5])) _ else _) else (if decide (r.kind = 3) = true then Option.bind (some (kinds a r.txn [5])) _ else _)) = _
              simp only [Option.bind_some]
              by_cases k2 : r.kind = 2
              · cases kinds a r.txn [5] <;> simp [k2]
              · by_cases k3 : r.kind = 3
                · cases kinds a r.txn [5] <;> simp [k3]
                · simp [k2, k3]
        cases hh : heldP a r with
        | false =>
          rw [inner]
          simp only [Bool.and_false, Bool.false_eq_true, if_false]
          split <;> rfl
        | true =>
          rw [inner]
          by_cases k2 : r.kind = 2
          · simp only [k2, decide_true, if_true, Bool.and_true]
            rfl
          · simp [k2]
      cases ht : r.turns with
      | false => simp only [Bool.false_eq_true, if_false, Bool.false_and]; exact rest
      | true =>
        simp only [if_true, Bool.true_and]
        cases q1 : (r.had == decide ((valC c r.key).code = 0)) with
        | true =>
          by_cases q2 : r.old = (valC c r.key).value
          · simp only [q2, ne_eq, not_true_eq_false, decide_false, Bool.not_true, Bool.or_false, Bool.false_eq_true, if_false]; exact rest
          · simp only [q2, ne_eq, not_false_eq_true, decide_true, Bool.not_true, Bool.or_true, Bool.false_eq_true, if_true, if_false, a6T]
        | false => simp only [Bool.not_false, Bool.true_or, if_true, a6T]
def cellsN (c : List CellD) (r : RecD) : List CellD := if r.turns = true then (if r.has = true then insC c r.key r.new else delC c r.key) else c
def runC : List RecD → List CellD → List RecD → Int
  | _, _, [] => 0
  | a, c, r :: l => if recFault r ≠ 0 then recFault r else if nextC a c r ≠ 0 then nextC a c r else runC (a ++ [r]) (cellsN c r) l
structure Fine (r : RecD) : Prop where
  kind : 1 ≤ r.kind ∧ r.kind ≤ 6
  txn : r.kind ≠ 6 → 1 ≤ r.txn
  txn6 : r.kind = 6 → r.txn = 0
  key : 0 ≤ r.key ∧ r.key ≤ 31
  had : r.turns = true → r.had = false → r.old = 0
theorem fine_of {r : RecD} (h : recFault r = 0) : Fine r := by
  unfold recFault at h
  split at h
  · cases h
  rename_i h1
  split at h
  · cases h
  rename_i h2
  split at h
  · cases h
  rename_i h3
  unfold RecD.bad1 within at h1
  unfold RecD.bad3 at h3
  simp only [Bool.or_eq_true, Bool.not_eq_true', not_or, Bool.not_eq_false, Bool.and_eq_true, decide_eq_true_eq] at h1 h3
  refine ⟨h1.1.1.1.1.1, fun h6 => ?_, fun h6 => ?_, h1.1.1.1.2, fun _ hh => ?_⟩
  · have := h1.1.1.1.1.2
    rw [if_neg h6] at this
    simp at this; exact this.1
  · have := h1.1.1.1.1.2
    rw [if_pos h6] at this
    simpa using this
  · have := h3.1.1
    simpa [hh] using this
theorem cellsN_ok {c : List CellD} {r : RecD} (hf : Fine r) (hr : rise c) (hk : keysOk c) : rise (cellsN c r) ∧ keysOk (cellsN c r) ∧ (cellsN c r).length ≤ c.length + 1 := by
  unfold cellsN
  have := hf.key
  split
  · split
    · exact ⟨insC_rise hr, insC_keys hk (by omega), insC_len⟩
    · exact ⟨delC_rise hr, delC_keys hk, Nat.le_succ_of_le delC_len⟩
  · exact ⟨hr, hk, Nat.le_succ _⟩
theorem sound_iter {l : List RecD} (hl : l.length ≤ 400) (hfu : 1000 < fu) : ∀ (k i : Nat) (c : List CellD), i ≤ l.length → l.length - i < k → rise c → keysOk c → c.length ≤ i →
    (Option.bind (iterN (fun (s : (List CellD) × Int) => m_i_SoundRecs_a4 fu l s.1 s.2) k (c, (i : Int))) fun q => Sum.elim (fun (_ : Unit) => m_i_SoundRecs_a1 fu) (fun x => x) q) = some (runC (l.take i) c (l.drop i)) := by
  intro k
  induction k with
  | zero => intro i c _ h; omega
  | succ k ih =>
    intro i c hi hk hr hks hc
    unfold iterN
    by_cases hlt : i < l.length
    · have hge := List.getElem?_eq_getElem hlt
      have es : sliceL l 0 (i : Int) = some (l.take i) := by
        unfold sliceL
        rw [if_pos (by simp; omega)]
        simp
      rw [List.drop_eq_getElem_cons hlt, runC]
      have tk : l.take i ++ [l[i]] = l.take (i + 1) := by rw [List.take_add_one, hge]; rfl
      rw [tk]
      generalize l[i] = r at hge
      by_cases hf : recFault r = 0
      · have hfine := fine_of hf
        have hkey := hfine.key
        have ok := cellsN_ok hfine hr hks
        have step : (if r.turns = true then m_i_SoundRecs_a3 fu c (i : Int) r r.has else m_i_SoundRecs_a3 fu c (i : Int) r false) = some (Sum.inl (cellsN c r, ((i + 1 : Nat) : Int))) := by
          unfold m_i_SoundRecs_a3 m_i_SoundRecs_a2 cellsN
          rw [m_i_withCell_eq hr hks (by omega) (by omega) (by omega), m_i_without_eq hr hks (by omega) (by omega) (by omega), Option.bind_some, Option.bind_some, wrap_succ (by omega), withC_ins, withoutC_del]
          cases r.turns <;> cases r.has <;> rfl
        have key : m_i_SoundRecs_a4 fu l c (i : Int) = if nextC (l.take i) c r ≠ 0 then some (Sum.inr (Sum.inr (some (nextC (l.take i) c r)))) else some (Sum.inl (cellsN c r, ((i + 1 : Nat) : Int))) := by
          unfold m_i_SoundRecs_a4
          rw [if_pos (decide_eq_true (Int.ofNat_lt.2 hlt)), atL_nat, hge, Option.bind_some, if_neg (by simp [hf]), es, Option.bind_some, m_i_soundNext_eq (by rw [List.length_take]; omega) hr hks (by omega) (by omega) (by rw [List.length_take]; omega) (by omega) (by omega), Option.bind_some, step]
          by_cases hx : nextC (l.take i) c r = 0 <;> simp [hx]
        rw [if_neg (show ¬ recFault r ≠ 0 by simp [hf])]
        by_cases hx : nextC (l.take i) c r = 0
        · rw [if_neg (by simp [hx])] at key
          rw [if_neg (by simp [hx])]
          simp only [key]
          exact ih (i + 1) _ hlt (by omega) ok.1 ok.2.1 (by have := ok.2.2; omega)
        · rw [if_pos hx] at key
          rw [if_pos hx]
          simp only [key]
          rfl
      · have key : m_i_SoundRecs_a4 fu l c (i : Int) = some (Sum.inr (Sum.inr (some (recFault r)))) := by
          unfold m_i_SoundRecs_a4
          rw [if_pos (decide_eq_true (Int.ofNat_lt.2 hlt)), atL_nat, hge, Option.bind_some, if_pos (decide_eq_true hf)]
        simp only [key]
        rw [if_pos hf]
        rfl
    · have key : m_i_SoundRecs_a4 fu l c (i : Int) = some (Sum.inr (Sum.inl ())) := by
        unfold m_i_SoundRecs_a4
        rw [if_neg (by simp; omega)]
      simp only [key]
      rw [List.drop_of_length_le (by omega)]
      rfl
theorem m_i_SoundRecs_eq {l : List RecD} (hfu : 1000 < fu) : m_i_SoundRecs fu l = some (if 400 < l.length then 2 else runC [] [] l) := by
  unfold m_i_SoundRecs
  by_cases hl : 400 < l.length
  · rw [if_pos (decide_eq_true (by omega)), if_pos hl]
  · rw [if_neg (by simp; omega), if_neg hl]
    exact sound_iter (l := l) (by omega) hfu fu 0 [] (Nat.zero_le _) (by omega) List.Pairwise.nil (fun c hc => by simp at hc) (Nat.zero_le _)
end
end Go.Proofs.Ytcngfjmfgeckmaa
namespace Go.Proofs.Ytcngfjmfgeckmaa
open Go
section
variable {fu : Nat}
def begunOf (a : List RecD) : List Int := (a.filter fun x => decide (x.kind = 1)).map (·.txn)
def endedOf (a : List RecD) : List Int := (a.filter fun x => decide (x.kind = 3) || decide (x.kind = 4)).map (·.txn)
def undidOf (a : List RecD) : List Int := (a.filter fun x => decide (x.kind = 5)).map (·.txn)
def heldsOf (a : List RecD) : List HeldD := (a.filter fun x => x.turns).map fun x => ⟨x.txn, x.key⟩
def simOf (a : List RecD) (c : List CellD) : SimD := ⟨c, begunOf a, endedOf a, undidOf a, heldsOf a⟩
structure Gone (a : List RecD) : Prop where
  begun : ∀ x, x ∈ a → x.kind ≠ 6 → kinds a x.txn [1] = true
  chk : ∀ x, x ∈ a → x.kind = 6 → x.txn = 0
  undo : ∀ x, x ∈ a → x.kind = 5 → ∃ y, y ∈ a ∧ y.kind = 2 ∧ y.txn = x.txn ∧ y.key = x.key
theorem begun_has (t : Int) (a : List RecD) : (begunOf a).any (fun x => decide (x = t)) = kinds a t [1] := by
  unfold begunOf kinds
  induction a with
  | nil => rfl
  | cons r a ih =>
    rw [List.filter_cons, List.any_cons, ← ih]
    by_cases h : r.kind = 1 <;> simp [h]
theorem ended_has (t : Int) (a : List RecD) : (endedOf a).any (fun x => decide (x = t)) = kinds a t [3, 4] := by
  unfold endedOf kinds
  induction a with
  | nil => rfl
  | cons r a ih =>
    rw [List.filter_cons, List.any_cons, ← ih]
    by_cases h : r.kind = 3
    · simp [h]
    · by_cases h2 : r.kind = 4 <;> simp [h, h2]
theorem undid_has (t : Int) (a : List RecD) : (undidOf a).any (fun x => decide (x = t)) = kinds a t [5] := by
  unfold undidOf kinds
  induction a with
  | nil => rfl
  | cons r a ih =>
    rw [List.filter_cons, List.any_cons, ← ih]
    by_cases h : r.kind = 5 <;> simp [h]
theorem begunOf_len (a : List RecD) : (begunOf a).length ≤ a.length := by unfold begunOf; rw [List.length_map]; exact List.length_filter_le _ _
theorem endedOf_len (a : List RecD) : (endedOf a).length ≤ a.length := by unfold endedOf; rw [List.length_map]; exact List.length_filter_le _ _
theorem undidOf_len (a : List RecD) : (undidOf a).length ≤ a.length := by unfold undidOf; rw [List.length_map]; exact List.length_filter_le _ _
theorem heldsOf_len (a : List RecD) : (heldsOf a).length ≤ a.length := by unfold heldsOf; rw [List.length_map]; exact List.length_filter_le _ _
theorem kinds_iff {a : List RecD} {t : Int} {ks : List Int} : kinds a t ks = true ↔ ∃ x, x ∈ a ∧ x.txn = t ∧ x.kind ∈ ks := by
  unfold kinds
  simp [List.any_eq_true]
theorem any_begun {a : List RecD} {t : Int} (hg : Gone a) (ht : 1 ≤ t) : (a.any fun x => decide (x.txn = t)) = kinds a t [1] := by
  rw [Bool.eq_iff_iff, kinds_iff, List.any_eq_true]
  constructor
  · rintro ⟨x, hx, h⟩
    have h := of_decide_eq_true h
    have h6 : x.kind ≠ 6 := fun h6 => by have := hg.chk x hx h6; omega
    obtain ⟨y, h1, h2, h3⟩ := kinds_iff.1 (hg.begun x hx h6)
    exact ⟨y, h1, h2.trans h, h3⟩
  · rintro ⟨x, hx, h1, h2⟩
    exact ⟨x, hx, decide_eq_true h1⟩
theorem was_same {c : List CellD} {r : RecD} (hf : Fine r) (ht : r.turns = true) : (!wasP c r) = (!(r.had == decide ((valC c r.key).code = 0)) || decide (r.old ≠ (valC c r.key).value)) := by
  have h0 := hf.had ht
  unfold wasP
  cases hh : hasKey c r.key with
  | false =>
    rw [valC_none hh]
    cases hd : r.had with
    | false => simp [h0 hd]
    | true => simp
  | true =>
    obtain ⟨x, h1, h2⟩ := hasKey_get hh
    rw [valC_has h1 h2]
    cases hd : r.had with
    | false => simp
    | true => simp
theorem held_same {a : List RecD} {c : List CellD} {r : RecD} (hg : Gone a) : heldS (simOf a c) r = heldP a r := by
  unfold heldS heldP
  rw [Bool.eq_iff_iff, List.any_eq_true, List.any_eq_true]
  constructor
  · rintro ⟨x, hx, h⟩
    obtain ⟨y, hy, rfl⟩ := List.mem_map.1 hx
    obtain ⟨hya, hyt⟩ := List.mem_filter.1 hy
    simp only [simOf, ended_has] at h
    simp only [Bool.and_eq_true, decide_eq_true_eq] at h
    unfold RecD.turns at hyt
    rcases Bool.or_eq_true_iff.1 hyt with hk | hk
    · exact ⟨y, hya, by simp [of_decide_eq_true hk, h.1.1, h.1.2]; simpa using h.2⟩
    · obtain ⟨z, hz, z1, z2, z3⟩ := hg.undo y hya (of_decide_eq_true hk)
      exact ⟨z, hz, by rw [z1, z2, z3]; simp [h.1.1, h.1.2]; simpa using h.2⟩
  · rintro ⟨y, hy, h⟩
    simp only [Bool.and_eq_true, decide_eq_true_eq] at h
    refine ⟨⟨y.txn, y.key⟩, List.mem_map.2 ⟨y, List.mem_filter.2 ⟨hy, by unfold RecD.turns; simp [h.1.1.1]⟩, rfl⟩, ?_⟩
    simp only [simOf, ended_has]
    simp [h.1.1.2, h.1.2]; simpa using h.2
def fitsR (a : List RecD) (r : RecD) : Bool :=
  if r.kind = 5 then undoOk a r else if r.kind = 4 then decide (chainG r.txn 0 a = []) else if (decide (r.kind = 2) || decide (r.kind = 3)) = true then !kinds a r.txn [5] else true
def knownP (a : List RecD) (r : RecD) : Int := if r.kind = 6 then 0 else if r.kind = 1 then (if kinds a r.txn [1] = true then 10 else 0) else if (!kinds a r.txn [1] || kinds a r.txn [3, 4]) = true then 10 else 0
theorem m_s_l13Known_eq {a : List RecD} {c : List CellD} {r : RecD} (hl : a.length ≤ 100000) (hfu : a.length < fu) : m_s_l13Known fu (simOf a c) r = some (knownP a r) := by
  have := begunOf_len a
  have := endedOf_len a
  unfold m_s_l13Known m_s_l13Known_a1 knownP
  show (if decide (r.kind = 6) = true then some 0 else if decide (r.kind = 1) = true then Option.bind (m_s_l1Has fu (begunOf a) r.txn) _ else Option.bind (m_s_l1Has fu (begunOf a) r.txn) fun v => if (!v) = true then _ else Option.bind (m_s_l1Has fu (endedOf a) r.txn) _) = _
  rw [m_s_l1Has_eq (by omega) (by omega), m_s_l1Has_eq (by omega) (by omega), begun_has, ended_has, Option.bind_some, Option.bind_some, Option.bind_some]
  by_cases h6 : r.kind = 6
  · simp [h6]
  by_cases h1 : r.kind = 1
  · simp only [h1]; cases kinds a r.txn [1] <;> simp
  · simp only [h6, h1]
    cases kinds a r.txn [1] <;> cases kinds a r.txn [3, 4] <;> simp
theorem m_s_l13Fits_eq {l : List RecD} {i : Nat} {c : List CellD} {r : RecD} (hl : l.length ≤ 400) (hr : l[i]? = some r) (hfu : 1000 < fu) : m_s_l13Fits fu (simOf (l.take i) c) l (i : Int) = some (fitsR (l.take i) r) := by
  have hi : i < l.length := (List.getElem?_eq_some_iff.1 hr).1
  have es : sliceL l 0 (i : Int) = some (l.take i) := by
    unfold sliceL
    rw [if_pos (by simp; omega)]
    simp
  have hta : (l.take i).length = i := by rw [List.length_take]; omega
  have hun := undidOf_len (l.take i)
  unfold m_s_l13Fits m_s_l13Fits_a3 m_s_l13Fits_a2 m_s_l13Fits_a1 fitsR
  rw [atL_nat, hr, Option.bind_some, es, Option.bind_some, Option.bind_some, m_s_l3Back_eq (by omega) (by omega), Option.bind_some, Option.bind_some]
  show (if decide (r.kind = 5) = true then _ else if decide (r.kind = 4) = true then _ else if decide (r.kind = 2) = true then (if decide (r.kind = 2) = true then Option.bind (m_s_l1Has fu (undidOf (l.take i)) r.txn) _ else _) else (if decide (r.kind = 3) = true then Option.bind (m_s_l1Has fu (undidOf (l.take i)) r.txn) _ else _)) = _
  rw [m_s_l1Has_eq (by omega) (by omega), undid_has, Option.bind_some]
  by_cases k5 : r.kind = 5
  · rw [if_pos (decide_eq_true k5), if_pos k5]
    unfold undoOk
    cases hc : chainG r.txn 0 (l.take i) with
    | nil => rfl
    | cons b t =>
      have hbd := chainG_bd (txn := r.txn) (l := l.take i) (k := 0) (a := b) (by rw [hc]; simp)
      have e0 : atL (b :: t) 0 = some b := rfl
      rw [if_neg (by simp; omega), e0, Option.bind_some]
      by_cases hb : b = r.back
      · have hw : IntKind.i64.wrap (r.back - 1) = r.back - 1 := wrap_in (by omega) (by omega)
        have hlt : (r.back - 1).toNat < (l.take i).length := by omega
        have hge : l[(r.back - 1).toNat]? = some (l.take i)[(r.back - 1).toNat] := by
          rw [List.getElem_take, List.getElem?_eq_getElem (by omega)]
        have hat : atL l (r.back - 1) = some (l.take i)[(r.back - 1).toNat] := by
          unfold atL
          rw [if_pos (by omega), hge]
        rw [if_neg (by simp [hb]), hw, hat, Option.bind_some, List.getElem?_eq_getElem hlt]
        simp only [decide_eq_true hb, Bool.true_and]
        generalize (l.take i)[(r.back - 1).toNat] = x
        by_cases q1 : r.key = x.key
        · by_cases q2 : (r.has == x.had) = true
          · by_cases q3 : r.new = x.old <;> simp [q1, q2, q3]
          · simp [q1, q2]
        · simp [q1]
      · rw [if_pos (decide_eq_true hb)]
        simp [hb]
  · rw [if_neg (by simp [k5]), if_neg k5]
    by_cases k4 : r.kind = 4
    · rw [if_pos (decide_eq_true k4), if_pos k4]
      cases hc : chainG r.txn 0 (l.take i) with
      | nil => rfl
      | cons b t => simp; omega
    · rw [if_neg (by simp [k4]), if_neg k4]
      by_cases k2 : r.kind = 2
      · simp [k2]
      · by_cases k3 : r.kind = 3
        · simp [k3]
        · simp [k2, k3]
def specC (a : List RecD) (c : List CellD) (r : RecD) : Int :=
  if knownP a r ≠ 0 then knownP a r else if (r.turns && !wasP c r) = true then 1 else if (decide (r.kind = 2) && heldP a r) = true then 9 else if fitsR a r = true then 0 else 4
theorem specC_next {a : List RecD} {c : List CellD} {r : RecD} (hf : Fine r) (hg : Gone a) : specC a c r = nextC a c r := by
  unfold specC nextC knownP
  by_cases h6 : r.kind = 6
  · have ht : r.turns = false := by unfold RecD.turns; simp [h6]
    simp [h6, ht, fitsR]
  have h0 := hf.txn h6
  by_cases h1 : r.kind = 1
  · have ht : r.turns = false := by unfold RecD.turns; simp [h1]
    rw [any_begun hg h0]
    cases kinds a r.txn [1] <;> simp [h1, ht, fitsR]
  rw [if_neg h6, if_neg h1, if_neg h6, if_neg h1]
  cases hk : (!kinds a r.txn [1] || kinds a r.txn [3, 4]) with
  | true => simp
  | false =>
    simp only [Bool.false_eq_true, if_false, ne_eq, not_true_eq_false]
    have hw : (r.turns && !wasP c r) = (r.turns && (!(r.had == decide ((valC c r.key).code = 0)) || decide (r.old ≠ (valC c r.key).value))) := by
      cases ht : r.turns with
      | false => rfl
      | true => rw [was_same hf ht]
    rw [hw]
    split
    · rfl
    split
    · rfl
    unfold fitsR
    by_cases h5 : r.kind = 5
    · simp [h5]
    by_cases h4 : r.kind = 4
    · simp [h4]
    simp only [h5, h4, if_false]
    split
    · cases kinds a r.txn [5] <;> simp
    · simp
theorem gone_snoc {a : List RecD} {c : List CellD} {r : RecD} (hf : Fine r) (hg : Gone a) (hn : specC a c r = 0) : Gone (a ++ [r]) := by
  have hkn : knownP a r = 0 := by
    unfold specC at hn
    split at hn
    · rename_i h; exact absurd hn h
    · rename_i h; simpa using h
  have up : ∀ t ks, kinds a t ks = true → kinds (a ++ [r]) t ks = true := fun t ks h => by
    obtain ⟨x, h1, h2⟩ := kinds_iff.1 h
    exact kinds_iff.2 ⟨x, by simp [h1], h2⟩
  refine ⟨fun x hx h6 => ?_, fun x hx h6 => ?_, fun x hx h5 => ?_⟩
  · rcases List.mem_append.1 hx with h | h
    · exact up _ _ (hg.begun x h h6)
    · obtain rfl := List.mem_singleton.1 h
      by_cases h1 : x.kind = 1
      · exact kinds_iff.2 ⟨x, by simp, rfl, by simp [h1]⟩
      · refine up _ _ ?_
        unfold knownP at hkn
        rw [if_neg h6, if_neg h1] at hkn
        split at hkn
        · cases hkn
        · rename_i h; simp at h; exact h.1
  · rcases List.mem_append.1 hx with h | h
    · exact hg.chk x h h6
    · obtain rfl := List.mem_singleton.1 h
      exact hf.txn6 h6
  · rcases List.mem_append.1 hx with h | h
    · obtain ⟨y, h1, h2⟩ := hg.undo x h h5
      exact ⟨y, by simp [h1], h2⟩
    · obtain rfl := List.mem_singleton.1 h
      have hfit : fitsR a x = true := by
        unfold specC at hn
        rw [if_neg (by simp [hkn])] at hn
        split at hn
        · cases hn
        split at hn
        · cases hn
        split at hn
        · assumption
        · cases hn
      unfold fitsR at hfit
      rw [if_pos h5] at hfit
      unfold undoOk at hfit
      split at hfit
      · cases hfit
      · rename_i b t hc
        obtain ⟨i, y, h1, h2, h3, h4⟩ := chainG_mem x.txn a 0 b (by rw [hc]; simp)
        simp only [Bool.and_eq_true, decide_eq_true_eq] at hfit
        have hi : (x.back - 1).toNat = i := by omega
        rw [hi, h1] at hfit
        simp only [Bool.and_eq_true, decide_eq_true_eq] at hfit
        exact ⟨y, by simp [List.mem_of_getElem? h1], h3, h4, hfit.2.1.1.symm⟩
theorem begunOf_snoc (a : List RecD) (r : RecD) : begunOf (a ++ [r]) = if r.kind = 1 then begunOf a ++ [r.txn] else begunOf a := by
  unfold begunOf; by_cases h : r.kind = 1 <;> simp [List.filter_append, h]
theorem endedOf_snoc (a : List RecD) (r : RecD) : endedOf (a ++ [r]) = if r.kind = 3 then endedOf a ++ [r.txn] else if r.kind = 4 then endedOf a ++ [r.txn] else endedOf a := by
  unfold endedOf; by_cases h : r.kind = 3 <;> by_cases h2 : r.kind = 4 <;> simp [List.filter_append, h, h2]
theorem undidOf_snoc (a : List RecD) (r : RecD) : undidOf (a ++ [r]) = if r.kind = 5 then undidOf a ++ [r.txn] else undidOf a := by
  unfold undidOf; by_cases h : r.kind = 5 <;> simp [List.filter_append, h]
theorem heldsOf_snoc (a : List RecD) (r : RecD) : heldsOf (a ++ [r]) = if r.kind = 2 then heldsOf a ++ [⟨r.txn, r.key⟩] else if r.kind = 5 then heldsOf a ++ [⟨r.txn, r.key⟩] else heldsOf a := by
  unfold heldsOf RecD.turns; by_cases h : r.kind = 2 <;> by_cases h2 : r.kind = 5 <;> simp [List.filter_append, h, h2]
theorem snocH_eq {l : List HeldD} {a : HeldD} (h : l.length ≤ 1000000) : snocL 16 l a = some (l ++ [a]) := by
  unfold snocL roomL
  rw [if_pos (by simp; omega)]
theorem without_del {c : List CellD} {k : Int} (hr : rise c) (hl : c.length ≤ 1000000) (hfu : c.length < fu) : m_s_l1Without fu c k = some (delC c k) := by
  rw [m_s_l1Without_eq hl hfu, filter_del hr]
theorem with_ins {c : List CellD} {k w : Int} (hr : rise c) (hl : c.length ≤ 1000000) (hfu : c.length < fu) : m_s_l1With fu (delC c k) k w = some (insC c k w) := by
  have := delC_len (k := k) (l := c)
  rw [m_s_l1With_eq (by omega) (by omega)]
  have : (delC c k).filter (fun c => decide (c.key ≠ k)) = delC c k := by
    rw [← filter_del hr, List.filter_filter]; simp
  rw [this]
  exact congrArg some (insR_del k w hr)
theorem specStep {l : List RecD} {i : Nat} {c : List CellD} {r : RecD} (hl : l.length ≤ 400) (hr : l[i]? = some r) (hfu : 1000 < fu) (hc : rise c) (hcl : c.length ≤ i) (hfine : Fine r) (hf : recFault r = 0) (hg : Gone (l.take i)) :
    m_s_l13Sound_a6 fu l (begunOf (l.take i)) (endedOf (l.take i)) (undidOf (l.take i)) (heldsOf (l.take i)) c (i : Int) =
      if specC (l.take i) c r ≠ 0 then some (Sum.inr (Sum.inr (some (specC (l.take i) c r)))) else some (Sum.inl (begunOf (l.take i ++ [r]), endedOf (l.take i ++ [r]), undidOf (l.take i ++ [r]), heldsOf (l.take i ++ [r]), cellsN c r, ((i + 1 : Nat) : Int))) := by
  have hi : i < l.length := (List.getElem?_eq_some_iff.1 hr).1
  have hta : (l.take i).length = i := by rw [List.length_take]; omega
  have hfits := m_s_l13Fits_eq (fu := fu) (c := c) hl hr hfu
  generalize l.take i = a at *
  have b1 := begunOf_len a
  have b2 := endedOf_len a
  have b3 := undidOf_len a
  have b4 := heldsOf_len a
  have hheld := m_s_l13Held_eq (fu := fu) (s := simOf a c) (r := r) (by show (heldsOf a).length < _; omega) (by show (heldsOf a).length < _; omega) (by show (endedOf a).length < _; omega) (by show (endedOf a).length < _; omega)
  rw [held_same hg] at hheld
  have hwas := m_s_l13Was_eq (fu := fu) (s := simOf a c) (r := r) hc (by show c.length ≤ _; omega) (by show c.length < _; omega)
  have hknown := m_s_l13Known_eq (fu := fu) (a := a) (c := c) (r := r) (by omega) (by omega)
  unfold simOf at hheld hwas hknown hfits
  have tail : m_s_l13Sound_a3 fu l c (i : Int) r (begunOf a) (endedOf a) (undidOf a) (heldsOf a) false = if fitsR a r = true then some (Sum.inl (begunOf (a ++ [r]), endedOf (a ++ [r]), undidOf (a ++ [r]), heldsOf (a ++ [r]), cellsN c r, ((i + 1 : Nat) : Int))) else some (Sum.inr (Sum.inr (some 4))) := by
    unfold m_s_l13Sound_a3 m_s_l13Sound_a2
    rw [if_neg (by decide), hfits, Option.bind_some, wrap_succ (by omega), snocL_eq (by omega), snocL_eq (by omega), snocL_eq (by omega), snocH_eq (by omega), without_del hc (by omega) (by omega)]
    cases fitsR a r with
    | false => rfl
    | true =>
      rw [if_neg (by decide), if_pos rfl, begunOf_snoc, endedOf_snoc, undidOf_snoc, heldsOf_snoc]
      simp only [Option.bind_some]
      rw [with_ins hc (by omega) (by omega)]
      unfold cellsN RecD.turns
      have hk := hfine.kind
      have hkc : r.kind = 1 ∨ r.kind = 2 ∨ r.kind = 3 ∨ r.kind = 4 ∨ r.kind = 5 ∨ r.kind = 6 := by omega
      rcases hkc with h | h | h | h | h | h <;> simp only [h] <;> cases r.has <;> simp
  unfold m_s_l13Sound_a6 m_s_l13Sound_a5 m_s_l13Sound_a4
  rw [if_pos (decide_eq_true (Int.ofNat_lt.2 hi)), atL_nat, hr, Option.bind_some, if_neg (by simp [hf]), hknown, Option.bind_some]
  unfold specC
  by_cases hk : knownP a r = 0
  · rw [if_neg (by simp [hk]), if_neg (show ¬ knownP a r ≠ 0 by simp [hk])]
    have tail2 : (if (false : Bool) = true then some (Sum.inr (Sum.inr (some 1))) else (if decide (r.kind = 2) = true then Option.bind (m_s_l13Held fu (SimD.mk c (begunOf a) (endedOf a) (undidOf a) (heldsOf a)) r) fun v => m_s_l13Sound_a3 fu l c (i : Int) r (begunOf a) (endedOf a) (undidOf a) (heldsOf a) v else m_s_l13Sound_a3 fu l c (i : Int) r (begunOf a) (endedOf a) (undidOf a) (heldsOf a) false)) = if (decide (r.kind = 2) && heldP a r) = true then some (Sum.inr (Sum.inr (some 9))) else if fitsR a r = true then some (Sum.inl (begunOf (a ++ [r]), endedOf (a ++ [r]), undidOf (a ++ [r]), heldsOf (a ++ [r]), cellsN c r, ((i + 1 : Nat) : Int))) else some (Sum.inr (Sum.inr (some 4))) := by
      rw [if_neg (by decide), hheld, Option.bind_some]
      cases decide (r.kind = 2) with
      | false => rw [if_neg (by decide), tail]; rfl
      | true =>
        rw [if_pos rfl]
        cases heldP a r with
        | false => rw [tail]; rfl
        | true => rfl
    rw [hwas, Option.bind_some]
    have ht : (if decide (r.kind = 2) = true then true else decide (r.kind = 5)) = r.turns := by
      unfold RecD.turns
      cases decide (r.kind = 2) <;> rfl
    cases htt : r.turns with
    | false =>
      have k2 : decide (r.kind = 2) = false := by unfold RecD.turns at htt; cases h : decide (r.kind = 2) <;> simp_all
      have k5 : decide (r.kind = 5) = false := by unfold RecD.turns at htt; cases h : decide (r.kind = 5) <;> simp_all
      rw [k2] at tail2
      rw [k2, k5, if_neg (by decide), if_neg (by decide), tail2]
      simp only [Bool.false_and, Bool.false_eq_true, if_false]
      cases fitsR a r <;> rfl
    | true =>
      have one : (if decide (r.kind = 2) = true then (if true = true then (if (!wasP c r) = true then some (Sum.inr (Sum.inr (some 1))) else (if decide (r.kind = 2) = true then Option.bind (m_s_l13Held fu (SimD.mk c (begunOf a) (endedOf a) (undidOf a) (heldsOf a)) r) fun v => m_s_l13Sound_a3 fu l c (i : Int) r (begunOf a) (endedOf a) (undidOf a) (heldsOf a) v else m_s_l13Sound_a3 fu l c (i : Int) r (begunOf a) (endedOf a) (undidOf a) (heldsOf a) false)) else (if false = true then some (Sum.inr (Sum.inr (some 1))) else (if decide (r.kind = 2) = true then Option.bind (m_s_l13Held fu (SimD.mk c (begunOf a) (endedOf a) (undidOf a) (heldsOf a)) r) fun v => m_s_l13Sound_a3 fu l c (i : Int) r (begunOf a) (endedOf a) (undidOf a) (heldsOf a) v else m_s_l13Sound_a3 fu l c (i : Int) r (begunOf a) (endedOf a) (undidOf a) (heldsOf a) false)))
          else (if decide (r.kind = 5) = true then (if (!wasP c r) = true then some (Sum.inr (Sum.inr (some 1))) else (if decide (r.kind = 2) = true then Option.bind (m_s_l13Held fu (SimD.mk c (begunOf a) (endedOf a) (undidOf a) (heldsOf a)) r) fun v => m_s_l13Sound_a3 fu l c (i : Int) r (begunOf a) (endedOf a) (undidOf a) (heldsOf a) v else m_s_l13Sound_a3 fu l c (i : Int) r (begunOf a) (endedOf a) (undidOf a) (heldsOf a) false)) else (if false = true then some (Sum.inr (Sum.inr (some 1))) else (if decide (r.kind = 2) = true then Option.bind (m_s_l13Held fu (SimD.mk c (begunOf a) (endedOf a) (undidOf a) (heldsOf a)) r) fun v => m_s_l13Sound_a3 fu l c (i : Int) r (begunOf a) (endedOf a) (undidOf a) (heldsOf a) v else m_s_l13Sound_a3 fu l c (i : Int) r (begunOf a) (endedOf a) (undidOf a) (heldsOf a) false)))) =
          if (!wasP c r) = true then some (Sum.inr (Sum.inr (some 1))) else (if (decide (r.kind = 2) && heldP a r) = true then some (Sum.inr (Sum.inr (some 9))) else if fitsR a r = true then some (Sum.inl (begunOf (a ++ [r]), endedOf (a ++ [r]), undidOf (a ++ [r]), heldsOf (a ++ [r]), cellsN c r, ((i + 1 : Nat) : Int))) else some (Sum.inr (Sum.inr (some 4)))) := by
        rw [← tail2]
        unfold RecD.turns at htt
        cases h2 : decide (r.kind = 2) with
        | true => rfl
        | false =>
          have h5 : decide (r.kind = 5) = true := by rw [h2] at htt; exact htt
          rw [h5]; rfl
      refine one.trans ?_
      simp only [Bool.true_and]
      cases wasP c r with
      | false => rfl
      | true =>
        cases (decide (r.kind = 2) && heldP a r) with
        | true => rfl
        | false => cases fitsR a r <;> rfl
  · rw [if_pos (decide_eq_true hk), if_pos hk, if_pos hk]
theorem spec_iter {l : List RecD} (hl : l.length ≤ 400) (hfu : 1000 < fu) : ∀ (k i : Nat) (c : List CellD), i ≤ l.length → l.length - i < k → rise c → keysOk c → c.length ≤ i → Gone (l.take i) →
    (Option.bind (iterN (fun (s : (List Int) × (List Int) × (List Int) × (List HeldD) × (List CellD) × Int) => m_s_l13Sound_a6 fu l s.1 s.2.1 s.2.2.1 s.2.2.2.1 s.2.2.2.2.1 s.2.2.2.2.2) k (begunOf (l.take i), endedOf (l.take i), undidOf (l.take i), heldsOf (l.take i), c, (i : Int))) fun q => Sum.elim (fun (_ : Unit) => m_s_l13Sound_a1 fu) (fun x => x) q) = some (runC (l.take i) c (l.drop i)) := by
  intro k
  induction k with
  | zero => intro i c _ h; omega
  | succ k ih =>
    intro i c hi hk hr hks hc hg
    unfold iterN
    by_cases hlt : i < l.length
    · have hge := List.getElem?_eq_getElem hlt
      rw [List.drop_eq_getElem_cons hlt, runC]
      have tk : l.take i ++ [l[i]] = l.take (i + 1) := by rw [List.take_add_one, hge]; rfl
      by_cases hf : recFault l[i] = 0
      · have hfine := fine_of hf
        have key := specStep (fu := fu) hl hge hfu hr hc hfine hf hg
        rw [specC_next hfine hg] at key
        rw [if_neg (show ¬ recFault l[i] ≠ 0 by simp [hf])]
        by_cases hx : nextC (l.take i) c l[i] = 0
        · have hgn := gone_snoc (c := c) hfine hg (by rw [specC_next hfine hg]; exact hx)
          have ok := cellsN_ok hfine hr hks
          rw [if_neg (by simp [hx]), tk] at key
          rw [tk] at hgn
          rw [if_neg (by simp [hx]), tk]
          simp only [key]
          exact ih (i + 1) _ hlt (by omega) ok.1 ok.2.1 (by have := ok.2.2; omega) hgn
        · rw [if_pos hx] at key
          rw [if_pos hx]
          simp only [key]
          rfl
      · have key : m_s_l13Sound_a6 fu l (begunOf (l.take i)) (endedOf (l.take i)) (undidOf (l.take i)) (heldsOf (l.take i)) c (i : Int) = some (Sum.inr (Sum.inr (some (recFault l[i])))) := by
          unfold m_s_l13Sound_a6
          rw [if_pos (decide_eq_true (Int.ofNat_lt.2 hlt)), atL_nat, hge, Option.bind_some, if_pos (decide_eq_true hf)]
        simp only [key]
        rw [if_pos hf]
        rfl
    · have key : m_s_l13Sound_a6 fu l (begunOf (l.take i)) (endedOf (l.take i)) (undidOf (l.take i)) (heldsOf (l.take i)) c (i : Int) = some (Sum.inr (Sum.inl ())) := by
        unfold m_s_l13Sound_a6
        rw [if_neg (by simp; omega)]
      simp only [key]
      rw [List.drop_of_length_le (by omega)]
      rfl
theorem m_s_l13Sound_eq {l : List RecD} (hfu : 1000 < fu) : m_s_l13Sound fu l = some (if 400 < l.length then 2 else runC [] [] l) := by
  unfold m_s_l13Sound
  by_cases hl : 400 < l.length
  · rw [if_pos (decide_eq_true (by omega)), if_pos hl]
  · rw [if_neg (by simp; omega), if_neg hl]
    exact spec_iter (l := l) (by omega) hfu fu 0 [] (Nat.zero_le _) (by omega) List.Pairwise.nil (fun c hc => by simp at hc) (Nat.zero_le _) ⟨fun x hx => by simp at hx, fun x hx => by simp at hx, fun x hx => by simp at hx⟩
end
end Go.Proofs.Ytcngfjmfgeckmaa
section
namespace Go.Proofs.Ytcngfjmfgeckmaa
open Go
set_option linter.unusedSimpArgs false
set_option linter.unusedVariables false
set_option maxRecDepth 20000
attribute [local irreducible] IntKind.wrap bitA
section
variable {h : Heap} {n : Nat} {K : AV → Heap → Nat → Prop}
def m_s_SoundRecs (fu : Nat) (v0 : List RecD) : Option Int :=
  (Option.bind (m_s_l13Sound fu v0) fun v26 => some v26)
set_option maxHeartbeats 2000000 in
theorem w_s_SoundRecs {x0 : AV} {v0 : List RecD} (h0 : (SlH h n 8 RecR) x0 v0) {fu : Nat} {r : Int} (hm : m_s_SoundRecs fu v0 = some r) (hk : ∀ y, Int64R y r → K y h n) : CA Try.prog 15 [x0] h n K := by
 refine CA.enterQ (N := 5) (rs := [.tmp 2]) hT Try.call15 Try.func15 rfl rfl (of_decide_eq_true rfl) rfl fun hlt => ?_
 unfold m_s_SoundRecs at hm
 obtain ⟨es11, q12, a13, l14, b15, c16, g17⟩ := slH_open h0
 refine WQ.sr hT rfl fun K18 hK18 => ?_
 simp only [go_sem, ↓reduceIte, reduceCtorEq, Nat.reduceEqDiff, Nat.reduceLT, Nat.reduceLeDiff, Nat.reduceAdd, Nat.reduceMul, Int.reduceLE]
 refine kn hK18 ?_
 clear hK18 K18
 obtain ⟨v26, q25, hm⟩ := obs hm
 refine WQ.sr hT rfl fun K19 hK19 => ?_
 simp only [go_sem, ↓reduceIte, reduceCtorEq, Nat.reduceEqDiff, Nat.reduceLT, Nat.reduceLeDiff, Nat.reduceAdd, Nat.reduceMul, Int.reduceLE, rdSl_hp q12 (slH_lt h0), l14, c16, g17]
 refine w_s_l13Sound (SlH.up h0 0) q25 (fun y27 h28 => ?_)
 obtain ⟨rfl, i29⟩ := h28
 unfold sealK; simp only [go_sem, ↓reduceIte, reduceCtorEq, Nat.reduceEqDiff, Nat.reduceLT, Nat.reduceLeDiff, Nat.reduceAdd, Nat.reduceMul, Int.reduceLE, rdSl_hp q12 (slH_lt h0), l14, c16, g17]
 refine kn hK19 ?_
 clear hK19 K19
 refine retN (t := 2) (js := []) (u := (.int .i64 v26)) (v := (.int .i64 v26)) hlt ?_ (.keep _ (.int _ _)) (.int _ _) rfl ?_
 kernel_rfl
 exact hkr hk (m := v26) hm (int64R i29)
end
end Go.Proofs.Ytcngfjmfgeckmaa
end
namespace Go.Proofs.Ytcngfjmfgeckmaa
open Go
section
variable {h : Heap} {n : Nat} {K : AV → Heap → Nat → Prop}
def soundP (l : List RecD) : Int := if 400 < l.length then 2 else runC [] [] l
theorem s_sound {x : AV} {l : List RecD} (hx : RecSR x l) (hk : I64 (soundP l) → K (.int .i64 (soundP l)) h n) : CA Try.prog 15 [x] h n K := by
  refine w_s_SoundRecs (SlR.toH hx) (fu := 100000) (r := soundP l) ?_ fun y hy => ?_
  · unfold m_s_SoundRecs
    rw [m_s_l13Sound_eq (by omega)]; rfl
  · obtain ⟨rfl, hi⟩ := hy
    exact hk hi
theorem i_sound {x : AV} {l : List RecD} (hx : RecSR x l) (hk : I64 (soundP l) → K (.int .i64 (soundP l)) h n) : CA Try.prog 17 [x] h n K := by
  refine w_i_SoundRecs (SlR.toH hx) (fu := 100000) (r := soundP l) (m_i_SoundRecs_eq (by omega)) fun y hy => ?_
  obtain ⟨rfl, hi⟩ := hy
  exact hk hi
theorem c4 {x : AV} {l : List RecD} (hx : RecSR x l) (hk : K (.bool true) h n) : CA Try.prog 4 [x] h n K := by
  refine CA.conv (CA.enter (N := 27) (rs := [.tmp 2]) hT Try.call4 Try.func4 rfl rfl (by simp) rfl fun hlt => ?_)
  refine WP.seq_k fun K1 hK1 => WP.region hT rfl ?_
  simp only [↓planL, ↓opsA, List.contains_nil, List.contains_cons, Bool.or_false, Bool.false_or, ↓stepA, ↓e_len1, ↓e_append1, ↓e_min1, ↓e_max1, ↓callA, List.toList_toArray, Int.toNat_natCast, List.map_cons, List.map_nil, ev, Env.get_put_some, Env.put_none, Env.get_envOf, ↓e_move, ↓e_assign, ↓e_alloc, ↓e_box, ↓e_binOp, ↓e_unOp, ↓e_nilCheck, ↓e_pick, ↓e_load, ↓e_store, ↓e_fieldAddr, ↓e_field, ↓e_indexAddr, ↓e_index, ↓e_extract, ↓e_convert, ↓e_makeSlice, ↓e_build, ↓e_buildSlice, ↓e_makeFunc, b_add, b_sub, b_mul, b_eql, b_neq, b_lss, b_leq, b_gtr, b_geq, b_and, b_or, b_quo, b_rem, b_shl, b_shr, b_seql, b_sneq, b_beql, b_bneq, u_not, u_neg, rdSl_ro, rdSl_nils, rdSl_sl, setPart_agg, setPart_bool, setPart_int, setPart_str, setPart_nils, setPart_ro, setPart_sl, ofVal, ↓thenA, ↓blockA, Heap.upd_get, Heap.upd_upd, Heap.upd_sort, Nat.add_lt_add_iff_left, Nat.lt_add_right_iff_pos, Nat.pos_of_neZero, good_bool, good_int, good_str, good_nils, good_ro, good_sl, good_ep, good_nilp, good_nilf, good_fn, good_agg, AV.cells_bool, AV.cells_int, AV.cells_str, AV.cells_nils, AV.cells_ro, AV.cells_sl, AV.cells_ep, AV.cells_nilp, AV.cells_nilf, AV.cells_fn, AV.cells_agg, reduceIte, Nat.reduceEqDiff, Nat.reduceLT, Nat.reduceLeDiff, Nat.reduceAdd, Nat.add_assoc, true_and, and_true, List.getElem?_cons_zero, List.getElem?_cons_succ, Option.getD_some, List.length_cons, List.length_nil, List.set_cons_zero, List.set_cons_succ, Nat.zero_add, Nat.add_zero, List.drop_zero, List.take_succ_cons, List.take_zero, List.drop_succ_cons, List.drop_nil, List.cons_append, List.nil_append, List.append_nil, Nat.add_eq, Nat.left_eq_add, Nat.add_eq_left, List.getElem?_nil, Nat.zero_lt_succ, decide_true, decide_false, Option.bind_some, Option.map_some, Nat.one_ne_zero, Nat.lt_add_one, ↓reduceIte, Nat.le_refl, Nat.add_left_cancel_iff, T_2, T_3, T_4, T_33, T_36]
  refine hK1 _ _ _ ?_
  clear hK1 K1
  refine WP.seq_k fun K1 hK1 => WP.region hT rfl ?_
  simp only [↓planL, ↓opsA, List.contains_nil, List.contains_cons, Bool.or_false, Bool.false_or, ↓stepA, ↓e_len1, ↓e_append1, ↓e_min1, ↓e_max1, ↓callA, List.toList_toArray, Int.toNat_natCast, List.map_cons, List.map_nil, ev, Env.get_put_some, Env.put_none, Env.get_envOf, ↓e_move, ↓e_assign, ↓e_alloc, ↓e_box, ↓e_binOp, ↓e_unOp, ↓e_nilCheck, ↓e_pick, ↓e_load, ↓e_store, ↓e_fieldAddr, ↓e_field, ↓e_indexAddr, ↓e_index, ↓e_extract, ↓e_convert, ↓e_makeSlice, ↓e_build, ↓e_buildSlice, ↓e_makeFunc, b_add, b_sub, b_mul, b_eql, b_neq, b_lss, b_leq, b_gtr, b_geq, b_and, b_or, b_quo, b_rem, b_shl, b_shr, b_seql, b_sneq, b_beql, b_bneq, u_not, u_neg, rdSl_ro, rdSl_nils, rdSl_sl, setPart_agg, setPart_bool, setPart_int, setPart_str, setPart_nils, setPart_ro, setPart_sl, ofVal, ↓thenA, ↓blockA, Heap.upd_get, Heap.upd_upd, Heap.upd_sort, Nat.add_lt_add_iff_left, Nat.lt_add_right_iff_pos, Nat.pos_of_neZero, good_bool, good_int, good_str, good_nils, good_ro, good_sl, good_ep, good_nilp, good_nilf, good_fn, good_agg, AV.cells_bool, AV.cells_int, AV.cells_str, AV.cells_nils, AV.cells_ro, AV.cells_sl, AV.cells_ep, AV.cells_nilp, AV.cells_nilf, AV.cells_fn, AV.cells_agg, reduceIte, Nat.reduceEqDiff, Nat.reduceLT, Nat.reduceLeDiff, Nat.reduceAdd, Nat.add_assoc, true_and, and_true, List.getElem?_cons_zero, List.getElem?_cons_succ, Option.getD_some, List.length_cons, List.length_nil, List.set_cons_zero, List.set_cons_succ, Nat.zero_add, Nat.add_zero, List.drop_zero, List.take_succ_cons, List.take_zero, List.drop_succ_cons, List.drop_nil, List.cons_append, List.nil_append, List.append_nil, Nat.add_eq, Nat.left_eq_add, Nat.add_eq_left, List.getElem?_nil, Nat.zero_lt_succ, decide_true, decide_false, Option.bind_some, Option.map_some, Nat.one_ne_zero, Nat.lt_add_one, ↓reduceIte, Nat.le_refl, Nat.add_left_cancel_iff, T_2, T_3, T_4, T_33, T_36]
  refine hK1 _ _ _ ?_
  clear hK1 K1
  refine WP.seq_k fun K1 hK1 => WP.region hT rfl ?_
  simp only [↓planL, ↓opsA, List.contains_nil, List.contains_cons, Bool.or_false, Bool.false_or, ↓stepA, ↓e_len1, ↓e_append1, ↓e_min1, ↓e_max1, ↓callA, List.toList_toArray, Int.toNat_natCast, List.map_cons, List.map_nil, ev, Env.get_put_some, Env.put_none, Env.get_envOf, ↓e_move, ↓e_assign, ↓e_alloc, ↓e_box, ↓e_binOp, ↓e_unOp, ↓e_nilCheck, ↓e_pick, ↓e_load, ↓e_store, ↓e_fieldAddr, ↓e_field, ↓e_indexAddr, ↓e_index, ↓e_extract, ↓e_convert, ↓e_makeSlice, ↓e_build, ↓e_buildSlice, ↓e_makeFunc, b_add, b_sub, b_mul, b_eql, b_neq, b_lss, b_leq, b_gtr, b_geq, b_and, b_or, b_quo, b_rem, b_shl, b_shr, b_seql, b_sneq, b_beql, b_bneq, u_not, u_neg, rdSl_ro, rdSl_nils, rdSl_sl, setPart_agg, setPart_bool, setPart_int, setPart_str, setPart_nils, setPart_ro, setPart_sl, ofVal, ↓thenA, ↓blockA, Heap.upd_get, Heap.upd_upd, Heap.upd_sort, Nat.add_lt_add_iff_left, Nat.lt_add_right_iff_pos, Nat.pos_of_neZero, good_bool, good_int, good_str, good_nils, good_ro, good_sl, good_ep, good_nilp, good_nilf, good_fn, good_agg, AV.cells_bool, AV.cells_int, AV.cells_str, AV.cells_nils, AV.cells_ro, AV.cells_sl, AV.cells_ep, AV.cells_nilp, AV.cells_nilf, AV.cells_fn, AV.cells_agg, reduceIte, Nat.reduceEqDiff, Nat.reduceLT, Nat.reduceLeDiff, Nat.reduceAdd, Nat.add_assoc, true_and, and_true, List.getElem?_cons_zero, List.getElem?_cons_succ, Option.getD_some, List.length_cons, List.length_nil, List.set_cons_zero, List.set_cons_succ, Nat.zero_add, Nat.add_zero, List.drop_zero, List.take_succ_cons, List.take_zero, List.drop_succ_cons, List.drop_nil, List.cons_append, List.nil_append, List.append_nil, Nat.add_eq, Nat.left_eq_add, Nat.add_eq_left, List.getElem?_nil, Nat.zero_lt_succ, decide_true, decide_false, Option.bind_some, Option.map_some, Nat.one_ne_zero, Nat.lt_add_one, ↓reduceIte, Nat.le_refl, Nat.add_left_cancel_iff, T_2, T_3, T_4, T_33, T_36]
  refine c14 hx (by omega) (by omega) (hK1 _ _ _ ?_)
  clear hK1 K1
  refine WP.seq_k fun K2 hK2 => ?_
  refine WP.seq_k fun K1 hK1 => WP.region hT rfl ?_
  simp only [↓planL, ↓opsA, List.contains_nil, List.contains_cons, Bool.or_false, Bool.false_or, ↓stepA, ↓e_len1, ↓e_append1, ↓e_min1, ↓e_max1, ↓callA, List.toList_toArray, Int.toNat_natCast, List.map_cons, List.map_nil, ev, Env.get_put_some, Env.put_none, Env.get_envOf, ↓e_move, ↓e_assign, ↓e_alloc, ↓e_box, ↓e_binOp, ↓e_unOp, ↓e_nilCheck, ↓e_pick, ↓e_load, ↓e_store, ↓e_fieldAddr, ↓e_field, ↓e_indexAddr, ↓e_index, ↓e_extract, ↓e_convert, ↓e_makeSlice, ↓e_build, ↓e_buildSlice, ↓e_makeFunc, b_add, b_sub, b_mul, b_eql, b_neq, b_lss, b_leq, b_gtr, b_geq, b_and, b_or, b_quo, b_rem, b_shl, b_shr, b_seql, b_sneq, b_beql, b_bneq, u_not, u_neg, rdSl_ro, rdSl_nils, rdSl_sl, setPart_agg, setPart_bool, setPart_int, setPart_str, setPart_nils, setPart_ro, setPart_sl, ofVal, ↓thenA, ↓blockA, Heap.upd_get, Heap.upd_upd, Heap.upd_sort, Nat.add_lt_add_iff_left, Nat.lt_add_right_iff_pos, Nat.pos_of_neZero, good_bool, good_int, good_str, good_nils, good_ro, good_sl, good_ep, good_nilp, good_nilf, good_fn, good_agg, AV.cells_bool, AV.cells_int, AV.cells_str, AV.cells_nils, AV.cells_ro, AV.cells_sl, AV.cells_ep, AV.cells_nilp, AV.cells_nilf, AV.cells_fn, AV.cells_agg, reduceIte, Nat.reduceEqDiff, Nat.reduceLT, Nat.reduceLeDiff, Nat.reduceAdd, Nat.add_assoc, true_and, and_true, List.getElem?_cons_zero, List.getElem?_cons_succ, Option.getD_some, List.length_cons, List.length_nil, List.set_cons_zero, List.set_cons_succ, Nat.zero_add, Nat.add_zero, List.drop_zero, List.take_succ_cons, List.take_zero, List.drop_succ_cons, List.drop_nil, List.cons_append, List.nil_append, List.append_nil, Nat.add_eq, Nat.left_eq_add, Nat.add_eq_left, List.getElem?_nil, Nat.zero_lt_succ, decide_true, decide_false, Option.bind_some, Option.map_some, Nat.one_ne_zero, Nat.lt_add_one, ↓reduceIte, Nat.le_refl, Nat.add_left_cancel_iff, T_2, T_3, T_4, T_33, T_36]
  refine hK1 _ _ _ ?_
  clear hK1 K1
  refine WP.cond (by simp only [ev, Env.get_put_some, ↓reduceIte]; rfl) (fun hc => ?_) (fun hc => ?_)
  · refine WP.seq_k fun K1 hK1 => WP.region hT rfl ?_
    simp only [↓planL, ↓opsA, List.contains_nil, List.contains_cons, Bool.or_false, Bool.false_or, ↓stepA, ↓e_len1, ↓e_append1, ↓e_min1, ↓e_max1, ↓callA, List.toList_toArray, Int.toNat_natCast, List.map_cons, List.map_nil, ev, Env.get_put_some, Env.put_none, Env.get_envOf, ↓e_move, ↓e_assign, ↓e_alloc, ↓e_box, ↓e_binOp, ↓e_unOp, ↓e_nilCheck, ↓e_pick, ↓e_load, ↓e_store, ↓e_fieldAddr, ↓e_field, ↓e_indexAddr, ↓e_index, ↓e_extract, ↓e_convert, ↓e_makeSlice, ↓e_build, ↓e_buildSlice, ↓e_makeFunc, b_add, b_sub, b_mul, b_eql, b_neq, b_lss, b_leq, b_gtr, b_geq, b_and, b_or, b_quo, b_rem, b_shl, b_shr, b_seql, b_sneq, b_beql, b_bneq, u_not, u_neg, rdSl_ro, rdSl_nils, rdSl_sl, setPart_agg, setPart_bool, setPart_int, setPart_str, setPart_nils, setPart_ro, setPart_sl, ofVal, ↓thenA, ↓blockA, Heap.upd_get, Heap.upd_upd, Heap.upd_sort, Nat.add_lt_add_iff_left, Nat.lt_add_right_iff_pos, Nat.pos_of_neZero, good_bool, good_int, good_str, good_nils, good_ro, good_sl, good_ep, good_nilp, good_nilf, good_fn, good_agg, AV.cells_bool, AV.cells_int, AV.cells_str, AV.cells_nils, AV.cells_ro, AV.cells_sl, AV.cells_ep, AV.cells_nilp, AV.cells_nilf, AV.cells_fn, AV.cells_agg, reduceIte, Nat.reduceEqDiff, Nat.reduceLT, Nat.reduceLeDiff, Nat.reduceAdd, Nat.add_assoc, true_and, and_true, List.getElem?_cons_zero, List.getElem?_cons_succ, Option.getD_some, List.length_cons, List.length_nil, List.set_cons_zero, List.set_cons_succ, Nat.zero_add, Nat.add_zero, List.drop_zero, List.take_succ_cons, List.take_zero, List.drop_succ_cons, List.drop_nil, List.cons_append, List.nil_append, List.append_nil, Nat.add_eq, Nat.left_eq_add, Nat.add_eq_left, List.getElem?_nil, Nat.zero_lt_succ, decide_true, decide_false, Option.bind_some, Option.map_some, Nat.one_ne_zero, Nat.lt_add_one, ↓reduceIte, Nat.le_refl, Nat.add_left_cancel_iff, T_2, T_3, T_4, T_33, T_36]
    refine hK1 _ _ _ ?_
    clear hK1 K1
    refine WP.ret ?_
    simp only [↓planL, ↓opsA, List.contains_nil, List.contains_cons, Bool.or_false, Bool.false_or, ↓stepA, ↓e_len1, ↓e_append1, ↓e_min1, ↓e_max1, ↓callA, List.toList_toArray, Int.toNat_natCast, List.map_cons, List.map_nil, ev, Env.get_put_some, Env.put_none, Env.get_envOf, ↓e_move, ↓e_assign, ↓e_alloc, ↓e_box, ↓e_binOp, ↓e_unOp, ↓e_nilCheck, ↓e_pick, ↓e_load, ↓e_store, ↓e_fieldAddr, ↓e_field, ↓e_indexAddr, ↓e_index, ↓e_extract, ↓e_convert, ↓e_makeSlice, ↓e_build, ↓e_buildSlice, ↓e_makeFunc, b_add, b_sub, b_mul, b_eql, b_neq, b_lss, b_leq, b_gtr, b_geq, b_and, b_or, b_quo, b_rem, b_shl, b_shr, b_seql, b_sneq, b_beql, b_bneq, u_not, u_neg, rdSl_ro, rdSl_nils, rdSl_sl, setPart_agg, setPart_bool, setPart_int, setPart_str, setPart_nils, setPart_ro, setPart_sl, ofVal, ↓thenA, ↓blockA, Heap.upd_get, Heap.upd_upd, Heap.upd_sort, Nat.add_lt_add_iff_left, Nat.lt_add_right_iff_pos, Nat.pos_of_neZero, good_bool, good_int, good_str, good_nils, good_ro, good_sl, good_ep, good_nilp, good_nilf, good_fn, good_agg, AV.cells_bool, AV.cells_int, AV.cells_str, AV.cells_nils, AV.cells_ro, AV.cells_sl, AV.cells_ep, AV.cells_nilp, AV.cells_nilf, AV.cells_fn, AV.cells_agg, reduceIte, Nat.reduceEqDiff, Nat.reduceLT, Nat.reduceLeDiff, Nat.reduceAdd, Nat.add_assoc, true_and, and_true, List.getElem?_cons_zero, List.getElem?_cons_succ, Option.getD_some, List.length_cons, List.length_nil, List.set_cons_zero, List.set_cons_succ, Nat.zero_add, Nat.add_zero, List.drop_zero, List.take_succ_cons, List.take_zero, List.drop_succ_cons, List.drop_nil, List.cons_append, List.nil_append, List.append_nil, Nat.add_eq, Nat.left_eq_add, Nat.add_eq_left, List.getElem?_nil, Nat.zero_lt_succ, decide_true, decide_false, Option.bind_some, Option.map_some, Nat.one_ne_zero, Nat.lt_add_one, ↓reduceIte, Nat.le_refl, Nat.add_left_cancel_iff, T_2, T_3, T_4, T_33, T_36, retA, resA]
    exact ⟨_, rfl, ret_p (Left.refl hlt) (.bool _) hk⟩
  refine WP.skip (hK2 _ _ _ ?_)
  clear hK2 K2
  obtain ⟨b1, b2⟩ := left_nonneg (by omega) (of_decide_eq_false hc)
  have hl : sizRecS l ≤ 1048576 := by omega
  refine WP.seq_k fun K1 hK1 => WP.region hT rfl ?_
  simp only [↓planL, ↓opsA, List.contains_nil, List.contains_cons, Bool.or_false, Bool.false_or, ↓stepA, ↓e_len1, ↓e_append1, ↓e_min1, ↓e_max1, ↓callA, List.toList_toArray, Int.toNat_natCast, List.map_cons, List.map_nil, ev, Env.get_put_some, Env.put_none, Env.get_envOf, ↓e_move, ↓e_assign, ↓e_alloc, ↓e_box, ↓e_binOp, ↓e_unOp, ↓e_nilCheck, ↓e_pick, ↓e_load, ↓e_store, ↓e_fieldAddr, ↓e_field, ↓e_indexAddr, ↓e_index, ↓e_extract, ↓e_convert, ↓e_makeSlice, ↓e_build, ↓e_buildSlice, ↓e_makeFunc, b_add, b_sub, b_mul, b_eql, b_neq, b_lss, b_leq, b_gtr, b_geq, b_and, b_or, b_quo, b_rem, b_shl, b_shr, b_seql, b_sneq, b_beql, b_bneq, u_not, u_neg, rdSl_ro, rdSl_nils, rdSl_sl, setPart_agg, setPart_bool, setPart_int, setPart_str, setPart_nils, setPart_ro, setPart_sl, ofVal, ↓thenA, ↓blockA, Heap.upd_get, Heap.upd_upd, Heap.upd_sort, Nat.add_lt_add_iff_left, Nat.lt_add_right_iff_pos, Nat.pos_of_neZero, good_bool, good_int, good_str, good_nils, good_ro, good_sl, good_ep, good_nilp, good_nilf, good_fn, good_agg, AV.cells_bool, AV.cells_int, AV.cells_str, AV.cells_nils, AV.cells_ro, AV.cells_sl, AV.cells_ep, AV.cells_nilp, AV.cells_nilf, AV.cells_fn, AV.cells_agg, reduceIte, Nat.reduceEqDiff, Nat.reduceLT, Nat.reduceLeDiff, Nat.reduceAdd, Nat.add_assoc, true_and, and_true, List.getElem?_cons_zero, List.getElem?_cons_succ, Option.getD_some, List.length_cons, List.length_nil, List.set_cons_zero, List.set_cons_succ, Nat.zero_add, Nat.add_zero, List.drop_zero, List.take_succ_cons, List.take_zero, List.drop_succ_cons, List.drop_nil, List.cons_append, List.nil_append, List.append_nil, Nat.add_eq, Nat.left_eq_add, Nat.add_eq_left, List.getElem?_nil, Nat.zero_lt_succ, decide_true, decide_false, Option.bind_some, Option.map_some, Nat.one_ne_zero, Nat.lt_add_one, ↓reduceIte, Nat.le_refl, Nat.add_left_cancel_iff, T_2, T_3, T_4, T_33, T_36]
  refine c16 hx hl fun r1 hr1 => s_sound hr1 fun hi => (hK1 _ _ _ ?_)
  clear hK1 K1
  refine WP.seq_k fun K1 hK1 => WP.region hT rfl ?_
  simp only [↓planL, ↓opsA, List.contains_nil, List.contains_cons, Bool.or_false, Bool.false_or, ↓stepA, ↓e_len1, ↓e_append1, ↓e_min1, ↓e_max1, ↓callA, List.toList_toArray, Int.toNat_natCast, List.map_cons, List.map_nil, ev, Env.get_put_some, Env.put_none, Env.get_envOf, ↓e_move, ↓e_assign, ↓e_alloc, ↓e_box, ↓e_binOp, ↓e_unOp, ↓e_nilCheck, ↓e_pick, ↓e_load, ↓e_store, ↓e_fieldAddr, ↓e_field, ↓e_indexAddr, ↓e_index, ↓e_extract, ↓e_convert, ↓e_makeSlice, ↓e_build, ↓e_buildSlice, ↓e_makeFunc, b_add, b_sub, b_mul, b_eql, b_neq, b_lss, b_leq, b_gtr, b_geq, b_and, b_or, b_quo, b_rem, b_shl, b_shr, b_seql, b_sneq, b_beql, b_bneq, u_not, u_neg, rdSl_ro, rdSl_nils, rdSl_sl, setPart_agg, setPart_bool, setPart_int, setPart_str, setPart_nils, setPart_ro, setPart_sl, ofVal, ↓thenA, ↓blockA, Heap.upd_get, Heap.upd_upd, Heap.upd_sort, Nat.add_lt_add_iff_left, Nat.lt_add_right_iff_pos, Nat.pos_of_neZero, good_bool, good_int, good_str, good_nils, good_ro, good_sl, good_ep, good_nilp, good_nilf, good_fn, good_agg, AV.cells_bool, AV.cells_int, AV.cells_str, AV.cells_nils, AV.cells_ro, AV.cells_sl, AV.cells_ep, AV.cells_nilp, AV.cells_nilf, AV.cells_fn, AV.cells_agg, reduceIte, Nat.reduceEqDiff, Nat.reduceLT, Nat.reduceLeDiff, Nat.reduceAdd, Nat.add_assoc, true_and, and_true, List.getElem?_cons_zero, List.getElem?_cons_succ, Option.getD_some, List.length_cons, List.length_nil, List.set_cons_zero, List.set_cons_succ, Nat.zero_add, Nat.add_zero, List.drop_zero, List.take_succ_cons, List.take_zero, List.drop_succ_cons, List.drop_nil, List.cons_append, List.nil_append, List.append_nil, Nat.add_eq, Nat.left_eq_add, Nat.add_eq_left, List.getElem?_nil, Nat.zero_lt_succ, decide_true, decide_false, Option.bind_some, Option.map_some, Nat.one_ne_zero, Nat.lt_add_one, ↓reduceIte, Nat.le_refl, Nat.add_left_cancel_iff, T_2, T_3, T_4, T_33, T_36]
  refine c16 hx hl fun r2 hr2 => hK1 _ _ _ ?_
  clear hK1 K1
  refine WP.seq_k fun K1 hK1 => WP.region hT rfl ?_
  simp only [↓planL, ↓opsA, List.contains_nil, List.contains_cons, Bool.or_false, Bool.false_or, ↓stepA, ↓e_len1, ↓e_append1, ↓e_min1, ↓e_max1, ↓callA, List.toList_toArray, Int.toNat_natCast, List.map_cons, List.map_nil, ev, Env.get_put_some, Env.put_none, Env.get_envOf, ↓e_move, ↓e_assign, ↓e_alloc, ↓e_box, ↓e_binOp, ↓e_unOp, ↓e_nilCheck, ↓e_pick, ↓e_load, ↓e_store, ↓e_fieldAddr, ↓e_field, ↓e_indexAddr, ↓e_index, ↓e_extract, ↓e_convert, ↓e_makeSlice, ↓e_build, ↓e_buildSlice, ↓e_makeFunc, b_add, b_sub, b_mul, b_eql, b_neq, b_lss, b_leq, b_gtr, b_geq, b_and, b_or, b_quo, b_rem, b_shl, b_shr, b_seql, b_sneq, b_beql, b_bneq, u_not, u_neg, rdSl_ro, rdSl_nils, rdSl_sl, setPart_agg, setPart_bool, setPart_int, setPart_str, setPart_nils, setPart_ro, setPart_sl, ofVal, ↓thenA, ↓blockA, Heap.upd_get, Heap.upd_upd, Heap.upd_sort, Nat.add_lt_add_iff_left, Nat.lt_add_right_iff_pos, Nat.pos_of_neZero, good_bool, good_int, good_str, good_nils, good_ro, good_sl, good_ep, good_nilp, good_nilf, good_fn, good_agg, AV.cells_bool, AV.cells_int, AV.cells_str, AV.cells_nils, AV.cells_ro, AV.cells_sl, AV.cells_ep, AV.cells_nilp, AV.cells_nilf, AV.cells_fn, AV.cells_agg, reduceIte, Nat.reduceEqDiff, Nat.reduceLT, Nat.reduceLeDiff, Nat.reduceAdd, Nat.add_assoc, true_and, and_true, List.getElem?_cons_zero, List.getElem?_cons_succ, Option.getD_some, List.length_cons, List.length_nil, List.set_cons_zero, List.set_cons_succ, Nat.zero_add, Nat.add_zero, List.drop_zero, List.take_succ_cons, List.take_zero, List.drop_succ_cons, List.drop_nil, List.cons_append, List.nil_append, List.append_nil, Nat.add_eq, Nat.left_eq_add, Nat.add_eq_left, List.getElem?_nil, Nat.zero_lt_succ, decide_true, decide_false, Option.bind_some, Option.map_some, Nat.one_ne_zero, Nat.lt_add_one, ↓reduceIte, Nat.le_refl, Nat.add_left_cancel_iff, T_2, T_3, T_4, T_33, T_36]
  refine i_sound hr2 fun hi2 => (hK1 _ _ _ ?_)
  clear hK1 K1
  refine WP.seq_k fun K2 hK2 => ?_
  refine WP.seq_k fun K1 hK1 => WP.region hT rfl ?_
  simp only [↓planL, ↓opsA, List.contains_nil, List.contains_cons, Bool.or_false, Bool.false_or, ↓stepA, ↓e_len1, ↓e_append1, ↓e_min1, ↓e_max1, ↓callA, List.toList_toArray, Int.toNat_natCast, List.map_cons, List.map_nil, ev, Env.get_put_some, Env.put_none, Env.get_envOf, ↓e_move, ↓e_assign, ↓e_alloc, ↓e_box, ↓e_binOp, ↓e_unOp, ↓e_nilCheck, ↓e_pick, ↓e_load, ↓e_store, ↓e_fieldAddr, ↓e_field, ↓e_indexAddr, ↓e_index, ↓e_extract, ↓e_convert, ↓e_makeSlice, ↓e_build, ↓e_buildSlice, ↓e_makeFunc, b_add, b_sub, b_mul, b_eql, b_neq, b_lss, b_leq, b_gtr, b_geq, b_and, b_or, b_quo, b_rem, b_shl, b_shr, b_seql, b_sneq, b_beql, b_bneq, u_not, u_neg, rdSl_ro, rdSl_nils, rdSl_sl, setPart_agg, setPart_bool, setPart_int, setPart_str, setPart_nils, setPart_ro, setPart_sl, ofVal, ↓thenA, ↓blockA, Heap.upd_get, Heap.upd_upd, Heap.upd_sort, Nat.add_lt_add_iff_left, Nat.lt_add_right_iff_pos, Nat.pos_of_neZero, good_bool, good_int, good_str, good_nils, good_ro, good_sl, good_ep, good_nilp, good_nilf, good_fn, good_agg, AV.cells_bool, AV.cells_int, AV.cells_str, AV.cells_nils, AV.cells_ro, AV.cells_sl, AV.cells_ep, AV.cells_nilp, AV.cells_nilf, AV.cells_fn, AV.cells_agg, reduceIte, Nat.reduceEqDiff, Nat.reduceLT, Nat.reduceLeDiff, Nat.reduceAdd, Nat.add_assoc, true_and, and_true, List.getElem?_cons_zero, List.getElem?_cons_succ, Option.getD_some, List.length_cons, List.length_nil, List.set_cons_zero, List.set_cons_succ, Nat.zero_add, Nat.add_zero, List.drop_zero, List.take_succ_cons, List.take_zero, List.drop_succ_cons, List.drop_nil, List.cons_append, List.nil_append, List.append_nil, Nat.add_eq, Nat.left_eq_add, Nat.add_eq_left, List.getElem?_nil, Nat.zero_lt_succ, decide_true, decide_false, Option.bind_some, Option.map_some, Nat.one_ne_zero, Nat.lt_add_one, ↓reduceIte, Nat.le_refl, Nat.add_left_cancel_iff, T_2, T_3, T_4, T_33, T_36]
  refine hK1 _ _ _ ?_
  clear hK1 K1
  refine WP.cond (by simp only [ev, Env.get_put_some, ↓reduceIte]; rfl) (fun hc => ?_) (fun hc => ?_)
  · exfalso
    simp at hc
  refine WP.skip (hK2 _ _ _ ?_)
  clear hK2 K2
  refine WP.seq_k fun K2 hK2 => ?_
  refine WP.seq_k fun K1 hK1 => WP.region hT rfl ?_
  simp only [↓planL, ↓opsA, List.contains_nil, List.contains_cons, Bool.or_false, Bool.false_or, ↓stepA, ↓e_len1, ↓e_append1, ↓e_min1, ↓e_max1, ↓callA, List.toList_toArray, Int.toNat_natCast, List.map_cons, List.map_nil, ev, Env.get_put_some, Env.put_none, Env.get_envOf, ↓e_move, ↓e_assign, ↓e_alloc, ↓e_box, ↓e_binOp, ↓e_unOp, ↓e_nilCheck, ↓e_pick, ↓e_load, ↓e_store, ↓e_fieldAddr, ↓e_field, ↓e_indexAddr, ↓e_index, ↓e_extract, ↓e_convert, ↓e_makeSlice, ↓e_build, ↓e_buildSlice, ↓e_makeFunc, b_add, b_sub, b_mul, b_eql, b_neq, b_lss, b_leq, b_gtr, b_geq, b_and, b_or, b_quo, b_rem, b_shl, b_shr, b_seql, b_sneq, b_beql, b_bneq, u_not, u_neg, rdSl_ro, rdSl_nils, rdSl_sl, setPart_agg, setPart_bool, setPart_int, setPart_str, setPart_nils, setPart_ro, setPart_sl, ofVal, ↓thenA, ↓blockA, Heap.upd_get, Heap.upd_upd, Heap.upd_sort, Nat.add_lt_add_iff_left, Nat.lt_add_right_iff_pos, Nat.pos_of_neZero, good_bool, good_int, good_str, good_nils, good_ro, good_sl, good_ep, good_nilp, good_nilf, good_fn, good_agg, AV.cells_bool, AV.cells_int, AV.cells_str, AV.cells_nils, AV.cells_ro, AV.cells_sl, AV.cells_ep, AV.cells_nilp, AV.cells_nilf, AV.cells_fn, AV.cells_agg, reduceIte, Nat.reduceEqDiff, Nat.reduceLT, Nat.reduceLeDiff, Nat.reduceAdd, Nat.add_assoc, true_and, and_true, List.getElem?_cons_zero, List.getElem?_cons_succ, Option.getD_some, List.length_cons, List.length_nil, List.set_cons_zero, List.set_cons_succ, Nat.zero_add, Nat.add_zero, List.drop_zero, List.take_succ_cons, List.take_zero, List.drop_succ_cons, List.drop_nil, List.cons_append, List.nil_append, List.append_nil, Nat.add_eq, Nat.left_eq_add, Nat.add_eq_left, List.getElem?_nil, Nat.zero_lt_succ, decide_true, decide_false, Option.bind_some, Option.map_some, Nat.one_ne_zero, Nat.lt_add_one, ↓reduceIte, Nat.le_refl, Nat.add_left_cancel_iff, T_2, T_3, T_4, T_33, T_36]
  refine c16 hx hl fun r3 hr3 => c18 hr2 hr3 (hK1 _ _ _ ?_)
  clear hK1 K1
  refine WP.cond (by simp only [ev, Env.get_put_some, ↓reduceIte]; rfl) (fun hc => ?_) (fun hc => ?_)
  · exfalso
    simp at hc
  refine WP.skip (hK2 _ _ _ ?_)
  clear hK2 K2
  refine WP.seq_k fun K1 hK1 => WP.region hT rfl ?_
  simp only [↓planL, ↓opsA, List.contains_nil, List.contains_cons, Bool.or_false, Bool.false_or, ↓stepA, ↓e_len1, ↓e_append1, ↓e_min1, ↓e_max1, ↓callA, List.toList_toArray, Int.toNat_natCast, List.map_cons, List.map_nil, ev, Env.get_put_some, Env.put_none, Env.get_envOf, ↓e_move, ↓e_assign, ↓e_alloc, ↓e_box, ↓e_binOp, ↓e_unOp, ↓e_nilCheck, ↓e_pick, ↓e_load, ↓e_store, ↓e_fieldAddr, ↓e_field, ↓e_indexAddr, ↓e_index, ↓e_extract, ↓e_convert, ↓e_makeSlice, ↓e_build, ↓e_buildSlice, ↓e_makeFunc, b_add, b_sub, b_mul, b_eql, b_neq, b_lss, b_leq, b_gtr, b_geq, b_and, b_or, b_quo, b_rem, b_shl, b_shr, b_seql, b_sneq, b_beql, b_bneq, u_not, u_neg, rdSl_ro, rdSl_nils, rdSl_sl, setPart_agg, setPart_bool, setPart_int, setPart_str, setPart_nils, setPart_ro, setPart_sl, ofVal, ↓thenA, ↓blockA, Heap.upd_get, Heap.upd_upd, Heap.upd_sort, Nat.add_lt_add_iff_left, Nat.lt_add_right_iff_pos, Nat.pos_of_neZero, good_bool, good_int, good_str, good_nils, good_ro, good_sl, good_ep, good_nilp, good_nilf, good_fn, good_agg, AV.cells_bool, AV.cells_int, AV.cells_str, AV.cells_nils, AV.cells_ro, AV.cells_sl, AV.cells_ep, AV.cells_nilp, AV.cells_nilf, AV.cells_fn, AV.cells_agg, reduceIte, Nat.reduceEqDiff, Nat.reduceLT, Nat.reduceLeDiff, Nat.reduceAdd, Nat.add_assoc, true_and, and_true, List.getElem?_cons_zero, List.getElem?_cons_succ, Option.getD_some, List.length_cons, List.length_nil, List.set_cons_zero, List.set_cons_succ, Nat.zero_add, Nat.add_zero, List.drop_zero, List.take_succ_cons, List.take_zero, List.drop_succ_cons, List.drop_nil, List.cons_append, List.nil_append, List.append_nil, Nat.add_eq, Nat.left_eq_add, Nat.add_eq_left, List.getElem?_nil, Nat.zero_lt_succ, decide_true, decide_false, Option.bind_some, Option.map_some, Nat.one_ne_zero, Nat.lt_add_one, ↓reduceIte, Nat.le_refl, Nat.add_left_cancel_iff, T_2, T_3, T_4, T_33, T_36]
  refine hK1 _ _ _ ?_
  clear hK1 K1
  refine WP.ret ?_
  simp only [↓planL, ↓opsA, List.contains_nil, List.contains_cons, Bool.or_false, Bool.false_or, ↓stepA, ↓e_len1, ↓e_append1, ↓e_min1, ↓e_max1, ↓callA, List.toList_toArray, Int.toNat_natCast, List.map_cons, List.map_nil, ev, Env.get_put_some, Env.put_none, Env.get_envOf, ↓e_move, ↓e_assign, ↓e_alloc, ↓e_box, ↓e_binOp, ↓e_unOp, ↓e_nilCheck, ↓e_pick, ↓e_load, ↓e_store, ↓e_fieldAddr, ↓e_field, ↓e_indexAddr, ↓e_index, ↓e_extract, ↓e_convert, ↓e_makeSlice, ↓e_build, ↓e_buildSlice, ↓e_makeFunc, b_add, b_sub, b_mul, b_eql, b_neq, b_lss, b_leq, b_gtr, b_geq, b_and, b_or, b_quo, b_rem, b_shl, b_shr, b_seql, b_sneq, b_beql, b_bneq, u_not, u_neg, rdSl_ro, rdSl_nils, rdSl_sl, setPart_agg, setPart_bool, setPart_int, setPart_str, setPart_nils, setPart_ro, setPart_sl, ofVal, ↓thenA, ↓blockA, Heap.upd_get, Heap.upd_upd, Heap.upd_sort, Nat.add_lt_add_iff_left, Nat.lt_add_right_iff_pos, Nat.pos_of_neZero, good_bool, good_int, good_str, good_nils, good_ro, good_sl, good_ep, good_nilp, good_nilf, good_fn, good_agg, AV.cells_bool, AV.cells_int, AV.cells_str, AV.cells_nils, AV.cells_ro, AV.cells_sl, AV.cells_ep, AV.cells_nilp, AV.cells_nilf, AV.cells_fn, AV.cells_agg, reduceIte, Nat.reduceEqDiff, Nat.reduceLT, Nat.reduceLeDiff, Nat.reduceAdd, Nat.add_assoc, true_and, and_true, List.getElem?_cons_zero, List.getElem?_cons_succ, Option.getD_some, List.length_cons, List.length_nil, List.set_cons_zero, List.set_cons_succ, Nat.zero_add, Nat.add_zero, List.drop_zero, List.take_succ_cons, List.take_zero, List.drop_succ_cons, List.drop_nil, List.cons_append, List.nil_append, List.append_nil, Nat.add_eq, Nat.left_eq_add, Nat.add_eq_left, List.getElem?_nil, Nat.zero_lt_succ, decide_true, decide_false, Option.bind_some, Option.map_some, Nat.one_ne_zero, Nat.lt_add_one, ↓reduceIte, Nat.le_refl, Nat.add_left_cancel_iff, T_2, T_3, T_4, T_33, T_36, retA, resA]
  exact ⟨_, rfl, ret_p (Left.refl hlt) (.bool _) hk⟩
end
end Go.Proofs.Ytcngfjmfgeckmaa
namespace Go.Proofs.Ytcngfjmfgeckmaa
open Go Go.ChangeShapes Go.WideShapes Go.ChangeAt Go.RowKit Go.Deep
def startCfg (W : World) : Cfg := ⟨fun _ => none, fun b => b < W.heap.size, W⟩
theorem start_hr (W : World) : HR (startCfg W) Heap.emp := ⟨fun id b hb => (by cases hb), fun i j bi bj x y h1 => (by cases h1), fun b hb => hb⟩
theorem start_fresh (W : World) : Fresh (startCfg W) 0 := fun _ _ => rfl
theorem below_of_ext {W : World} {c' : Cfg} {h' : Heap} {fr : Nat → Prop} (e : Ext (startCfg W) Heap.emp fr c' h') : Below W.heap.size W c'.w :=
  ⟨e.os, e.tape, e.output, e.size, fun k hk => e.frame k hk fun id blk x hb => (by cases hb)⟩
theorem law_calls {P : Program} {f : FuncId} {us : List AV} {vals : Array Value} {W : World} (hs : vals.size = us.length) (hv : ∀ (i : Nat) (u : AV) (v : Value), us[i]? = some u → vals[i]? = some v → VR (startCfg W) u v)
    (hc : CA P f us Heap.emp 0 (fun r _ _ => r = .bool true)) : Calls P f vals W (fun e w' => e = .returned (.bool true) ∧ Below W.heap.size W w') :=
  Calls.mono (hc.2 (startCfg W) vals (start_hr W) (start_fresh W) hs hv) fun e w' ⟨v, r, h', n', h1, ⟨c', h2, h3, h4, h5, h6, h7⟩, h8⟩ => by
    subst h1 h2 h8
    cases h6
    exact ⟨rfl, below_of_ext h3⟩
section
variable {H : Type} {enc : TypeId × Value → H} {P : Program} {W : World} {base : Nat} {spare : Nat → Bool} {held : Bool} {α : Type}
def Opn (enc : TypeId × Value → H) (P : Program) (W : World) (base : Nat) (spare : Nat → Bool) (held : Bool) (t : TypeId) (sz : Nat) (R : AV → α → Prop) : Prop :=
  ∀ (fuel : Nat) (cs : List Value) (x : DataW H × List MemPlace), DataW.trod enc P W base spare held fuel t cs = some x →
    ∃ u a, R u a ∧ u.cells.length = sz ∧ cs.length = sz ∧ (∀ x, x ∈ u.cells → x.one = true) ∧ ∀ (j : Nat) (u' : AV) (v : Value), u.cells[j]? = some u' → cs[j]? = some v → VR (startCfg W) u' v
theorem opn_one {t : TypeId} {R : AV → α → Prop} (h : ∀ (fuel : Nat) (cs : List Value) (x : DataW H × List MemPlace), DataW.trod enc P W base spare held fuel t cs = some x → ∃ u a v, R u a ∧ u.one = true ∧ cs = [v] ∧ VR (startCfg W) u v) : Opn enc P W base spare held t 1 R :=
  fun fuel cs x hx => by
    obtain ⟨u, a, v, h1, h2, rfl, h3⟩ := h fuel cs x hx
    have hc : u.cells = [u] := by cases u <;> first | rfl | (cases h2)
    refine ⟨u, a, h1, by rw [hc]; rfl, rfl, fun x hx => by rw [hc] at hx; rw [List.mem_singleton.1 hx]; exact h2, fun j u' v' hj hv => ?_⟩
    rw [hc] at hj
    cases j with
    | zero => simp only [List.getElem?_cons_zero, Option.some.injEq] at hj hv; subst hj; subst hv; exact h3
    | succ j => simp at hj
theorem opn_int {t : TypeId} {k : IntKind} (ht : P.underlying t = some (.int k)) : Opn enc P W base spare held t 1 (fun e a => e = .int k a ∧ (Lit.int k a).wf = true) :=
  opn_one fun fuel cs x hx => by
    obtain ⟨n, h1, _, h2⟩ := DataW.trod_int ht hx
    exact ⟨.int k n, n, .int k n, ⟨rfl, h2⟩, rfl, h1, .int _ _⟩
theorem opn_bool {t : TypeId} (ht : P.underlying t = some .bool) : Opn enc P W base spare held t 1 (fun e (a : Bool) => e = .bool a) :=
  opn_one fun fuel cs x hx => by
    obtain ⟨b, h1, _⟩ := DataW.trod_bool ht hx
    exact ⟨.bool b, b, .bool b, rfl, rfl, h1, .bool _⟩
theorem opn_mono {t : TypeId} {sz : Nat} {β : Type} {R : AV → α → Prop} {R' : AV → β → Prop} (h : Opn enc P W base spare held t sz R) (hr : ∀ u a, R u a → ∃ b, R' u b) : Opn enc P W base spare held t sz R' :=
  fun fuel cs x hx => by
    obtain ⟨u, a, h1, h2⟩ := h fuel cs x hx
    obtain ⟨b, hb⟩ := hr u a h1
    exact ⟨u, b, hb, h2⟩
theorem lists_of {β : Type} {Q : Nat → α → β → Prop} : ∀ (len : Nat), (∀ i, i < len → ∃ u a, Q i u a) → ∃ (es : List α) (l : List β), es.length = len ∧ l.length = len ∧ ∀ (i : Nat) u a, es[i]? = some u → l[i]? = some a → Q i u a
  | 0, _ => ⟨[], [], rfl, rfl, fun i u a h => by simp at h⟩
  | len + 1, h => by
    obtain ⟨es, l, h1, h2, h3⟩ := lists_of len (fun i hi => h i (by omega))
    obtain ⟨u, a, hq⟩ := h len (by omega)
    refine ⟨es ++ [u], l ++ [a], by simp [h1], by simp [h2], fun i u' a' hu ha => ?_⟩
    rcases Nat.lt_trichotomy i len with hlt | rfl | hgt
    · rw [List.getElem?_append_left (by omega)] at hu ha
      exact h3 i u' a' hu ha
    · rw [List.getElem?_append_right (by omega), h1, Nat.sub_self] at hu
      rw [List.getElem?_append_right (by omega), h2, Nat.sub_self] at ha
      simp only [List.getElem?_cons_zero, Option.some.injEq] at hu ha
      subst hu; subst ha; exact hq
    · rw [List.getElem?_eq_none (by simp; omega)] at hu; cases hu
theorem all2_of {β : Type} {Q : α → β → Prop} : ∀ (es : List α) (l : List β), es.length = l.length → (∀ (i : Nat) u a, es[i]? = some u → l[i]? = some a → Q u a) → All2 Q es l
  | [], [], _, _ => .nil
  | u :: es, a :: l, hl, h => .cons (h 0 u a rfl rfl) (all2_of es l (by simpa using hl) fun i u a h1 h2 => h (i + 1) u a (by simpa using h1) (by simpa using h2))
  | [], _ :: _, hl, _ => by simp at hl
  | _ :: _, [], hl, _ => by simp at hl
theorem opn_slice {t e : TypeId} {sz : Nat} {R : AV → α → Prop} (ht : P.underlying t = some (.slice e)) (hsz : P.cellsOf e = sz) (hpos : 0 < sz) (he : Opn enc P W base spare held e sz R) (hlt : ∀ u a n, R u a → u.Lt n) : Opn enc P W base spare held t 1 (SlR sz R) :=
  opn_one fun fuel cs x hx => by
    rcases open_slice ht hx with ⟨h1, _⟩ | ⟨a, len, cap, m, n, D, Pl, h1, hb, hl, hm, hmm, _, hel⟩
    · exact ⟨.nils, [], .slice none 0 0, ⟨[], rfl, .nil, Nat.zero_le _, fun n => .nils, rfl⟩, rfl, h1, .nils⟩
    · have hlm : len ≤ m := by rw [hmm]; split <;> omega
      obtain ⟨es, l, e1, e2, e3⟩ := lists_of (α := AV) (β := α) (Q := fun i u b => R u b ∧ u.cells.length = sz ∧ (∀ x, x ∈ u.cells → x.one = true) ∧ ∀ (j : Nat) (u' : AV), u.cells[j]? = some u' → ∃ v, W.cell? (a.add (i * sz + j)) = some v ∧ VR (startCfg W) u' v) len (fun i hi => by
        obtain ⟨cs', c1, c2⟩ := hel i (by omega)
        obtain ⟨u, b, k1, k2, k3, k4, k5⟩ := he n cs' _ c2
        refine ⟨u, b, k1, k2, k4, fun j u' hj => ?_⟩
        have hjl : j < cs'.length := by rw [k3, ← k2]; exact (List.getElem?_eq_some_iff.1 hj).1
        refine ⟨cs'[j], ?_, k5 j u' _ hj (List.getElem?_eq_getElem hjl)⟩
        rw [hsz] at c1
        obtain ⟨_, hlen, hat⟩ := World.cells?_some c1
        have := hat j (by omega)
        rw [add_add] at this
        rw [this]
        simp [hjl])
      have hall : All2 R es l := all2_of es l (by omega) fun i u b h1 h2 => (e3 i u b h1 h2).1
      have lget : ∀ (i : Nat) u, es[i]? = some u → ∃ b, l[i]? = some b := fun i u hu => by
        obtain ⟨b, hb, _⟩ := all2_get hall i u hu
        exact ⟨b, hb⟩
      refine ⟨.ro sz false es, l, .slice (some a) len cap, .mk_ro hall (by omega) hlt, rfl, h1, ?_⟩
      subst e1
      refine .ro sz false es a cap (fun i j => (W.cell? (a.add (i * sz + j))).getD Go.undef) hl hm (fun hq => by cases hq) (fun hne => ?_) (fun i u hu => ?_) (fun i u j u' hu hj => ?_) (fun i u j u' hu hj => ?_) (fun i u j u' hu hj => ?_)
      · have hl0 : 0 < es.length := by cases es with | nil => exact absurd rfl hne | cons => simp
        have hu := List.getElem?_eq_getElem hl0
        obtain ⟨b, hb⟩ := lget 0 _ hu
        have k := e3 0 _ b hu hb
        have hj : 0 < (es[0]'hl0).cells.length := by rw [k.2.1]; exact hpos
        obtain ⟨v, q1, _⟩ := k.2.2.2 0 _ (List.getElem?_eq_getElem hj)
        have := World.block_lt_of_cell? W _ q1
        rw [add_block] at this
        exact this
      · obtain ⟨b, hb⟩ := lget i u hu; exact (e3 i u b hu hb).2.1
      · obtain ⟨b, hb⟩ := lget i u hu; exact (e3 i u b hu hb).2.2.1 u' (List.mem_of_getElem? hj)
      · obtain ⟨b, hb⟩ := lget i u hu
        obtain ⟨v, q1, q2⟩ := (e3 i u b hu hb).2.2.2 j u' hj
        show W.cell? _ = _
        rw [q1]; rfl
      · obtain ⟨b, hb⟩ := lget i u hu
        obtain ⟨v, q1, q2⟩ := (e3 i u b hu hb).2.2.2 j u' hj
        simp only [q1, Option.getD_some]; exact q2
theorem SlR.one {sz : Nat} {R : AV → α → Prop} {u : AV} {l : List α} (h : SlR sz R u l) : u.one = true := by
  obtain ⟨_, _, _, _, _, h⟩ := h; exact h
structure Fld where
  t : TypeId
  sz : Nat
  q : AV → Prop
def layout : List Fld → Nat → List (Nat × TypeId)
  | [], _ => []
  | f :: r, o => (o, f.t) :: layout r (o + f.sz)
def total : List Fld → Nat
  | [] => 0
  | f :: r => f.sz + total r
def OpnQ (enc : TypeId × Value → H) (P : Program) (W : World) (base : Nat) (spare : Nat → Bool) (held : Bool) (f : Fld) : Prop := P.cellsOf f.t = f.sz ∧ Opn enc P W base spare held f.t f.sz (fun u (_ : Unit) => f.q u)
theorem fields_open {cs : List Value} {n : Nat} : ∀ (qs : List Fld) (fs : List Field) (o : Nat), (fs.map fun f => (f.offset, f.type)) = layout qs o → (∀ f, f ∈ qs → OpnQ enc P W base spare held f) →
    (∀ f, f ∈ fs → ∃ y, DataW.trod enc P W base spare held n f.type ((cs.drop f.offset).take (P.cellsOf f.type)) = some y) → cs.length = o + total qs →
    ∃ us : List AV, All2 (fun f u => f.q u ∧ u.cells.length = f.sz) qs us ∧ (us.flatMap AV.cells).length = total qs ∧ (∀ x, x ∈ us.flatMap AV.cells → x.one = true) ∧
      ∀ (j : Nat) (u' : AV) (v : Value), (us.flatMap AV.cells)[j]? = some u' → (cs.drop o)[j]? = some v → VR (startCfg W) u' v
  | [], fs, o, hl, _, _, _ => ⟨[], .nil, rfl, fun x hx => by simp at hx, fun j u' v h => by simp at h⟩
  | f :: qs, fs, o, hl, hq, ht, hc => by
    cases fs with
    | nil => simp [layout] at hl
    | cons g fs =>
      simp only [List.map_cons, layout, List.cons.injEq, Prod.mk.injEq] at hl
      obtain ⟨⟨g1, g2⟩, hl⟩ := hl
      obtain ⟨us, a1, a2, a3, a4⟩ := fields_open qs fs (o + f.sz) hl (fun f hf => hq f (by simp [hf])) (fun f hf => ht f (by simp [hf])) (by simp only [total] at hc; omega)
      obtain ⟨hsz, ho⟩ := hq f (by simp)
      obtain ⟨y, hy⟩ := ht g (by simp)
      rw [g1, g2, hsz] at hy
      obtain ⟨u, _, k1, k2, k3, k4, k5⟩ := ho n _ y hy
      refine ⟨u :: us, .cons ⟨k1, k2⟩ a1, by simp only [List.flatMap_cons, List.length_append, a2, k2, total], fun x hx => ?_, fun j u' v hj hv => ?_⟩
      · simp only [List.flatMap_cons, List.mem_append] at hx
        rcases hx with hx | hx
        · exact k4 x hx
        · exact a3 x hx
      · rw [List.flatMap_cons] at hj
        by_cases hlt : j < f.sz
        · rw [List.getElem?_append_left (by omega)] at hj
          refine k5 j u' v hj ?_
          rw [List.getElem?_take, if_pos hlt]; exact hv
        · rw [List.getElem?_append_right (by omega), k2] at hj
          refine a4 (j - f.sz) u' v hj ?_
          rw [List.getElem?_drop] at hv ⊢
          rw [← hv]; congr 1; omega
theorem opn_struct {t : TypeId} {F : Array Field} {R : AV → α → Prop} (qs : List Fld) (ht : P.underlying t = some (.struct F)) (hl : (F.toList.map fun f => (f.offset, f.type)) = layout qs 0) (hc : P.cellsOf t = total qs) (hq : ∀ f, f ∈ qs → OpnQ enc P W base spare held f)
    (hR : ∀ us : List AV, All2 (fun f u => f.q u ∧ u.cells.length = f.sz) qs us → ∃ a, R (.agg (us.flatMap AV.cells)) a) : Opn enc P W base spare held t (total qs) R := fun fuel cs x hx => by
  obtain ⟨xs, n, _, _, h3, h4, h5⟩ := DataW.trod_struct ht hx
  obtain ⟨us, a1, a2, a3, a4⟩ := fields_open (enc := enc) (base := base) (spare := spare) (held := held) (cs := cs) (n := n) qs F.toList 0 hl hq (fun f hf => by
    obtain ⟨i, hi⟩ := List.mem_iff_getElem?.1 hf
    have hi' : F[i]? = some f := by simpa using hi
    have hlt : i < xs.length := by rw [h4]; exact (Array.getElem?_eq_some_iff.1 hi').1
    exact ⟨xs[i], by rw [h5 i f hi', List.getElem?_eq_getElem hlt]⟩) (by rw [h3, hc]; omega)
  obtain ⟨a, ha⟩ := hR us a1
  exact ⟨_, a, ha, a2, by rw [h3, hc], a3, fun j u' v hj hv => a4 j u' v hj (by simpa using hv)⟩
def intF (t : TypeId) (k : IntKind) : Fld := ⟨t, 1, fun e => ∃ a, e = .int k a ∧ (Lit.int k a).wf = true⟩
theorem opnQ_int {t : TypeId} {k : IntKind} (ht : P.underlying t = some (.int k)) (hc : P.cellsOf t = 1) : OpnQ enc P W base spare held (intF t k) :=
  ⟨hc, opn_mono (opn_int ht) fun _ a h => ⟨(), a, h⟩⟩
theorem param_one {t : TypeId} {R : AV → α → Prop} (ho : Opn enc P W base spare held t 1 R) (hone : ∀ u a, R u a → u.one = true) {v : Value} {d : DataW H} {ps : List MemPlace} (hc : v.cells.toList = [v]) (hd : DataW.Trod enc P W base spare held t v d ps) :
    ∃ u a, R u a ∧ VR (startCfg W) u v := by
  obtain ⟨fuel, hf⟩ := hd
  obtain ⟨u, a, h1, h2, h3, h4, h5⟩ := ho fuel _ _ hf
  have hu := hone u a h1
  have hcu : u.cells = [u] := by cases u <;> first | rfl | (cases hu)
  exact ⟨u, a, h1, h5 0 u v (by rw [hcu]; rfl) (by rw [hc]; rfl)⟩
end
end Go.Proofs.Ytcngfjmfgeckmaa
namespace Go.Proofs.Ytcngfjmfgeckmaa
open Go Go.ChangeShapes Go.WideShapes Go.ChangeAt Go.RowKit Go.Deep
theorem ownKnob_2 : ownKnob Try.prog.godebug = none := by kernel_rfl
theorem laidOut_2 : laidOutB Try.prog = true := by kernel_rfl
theorem i64_of_wf {a : Int} (h : (Lit.int .i64 a).wf = true) : I64 a := by
  have h1 : IntKind.i64.min = -9223372036854775808 := by rfl
  have h2 : IntKind.i64.max = 9223372036854775807 := by rfl
  simp only [Lit.wf, h1, h2, Bool.and_eq_true, decide_eq_true_eq] at h
  unfold I64
  omega
section
variable {H : Type} {enc : TypeId × Value → H} {W : World} {base : Nat} {spare : Nat → Bool} {held : Bool}
def boolF (t : TypeId) : Fld := ⟨t, 1, fun e => ∃ a, e = .bool a⟩
theorem opnQ_bool {P : Program} {t : TypeId} (ht : P.underlying t = some .bool) (hc : P.cellsOf t = 1) : OpnQ enc P W base spare held (boolF t) := ⟨hc, opn_mono (opn_bool ht) fun _ a h => ⟨(), a, h⟩⟩
theorem opn_78 : Opn enc Try.prog W base spare held 78 8 RecR := by
  refine opn_struct [intF 2 .i64, intF 2 .i64, intF 2 .i64, boolF 4, intF 2 .i64, boolF 4, intF 2 .i64, intF 2 .i64] Try.underlying78 rfl (by kernel_rfl) (fun f hf => ?_) (fun us hus => ?_)
  · simp only [List.mem_cons, List.not_mem_nil, or_false] at hf
    rcases hf with rfl | rfl | rfl | rfl | rfl | rfl | rfl | rfl
    · exact opnQ_int Try.underlying2 (by kernel_rfl)
    · exact opnQ_int Try.underlying2 (by kernel_rfl)
    · exact opnQ_int Try.underlying2 (by kernel_rfl)
    · exact opnQ_bool Try.underlying4 (by kernel_rfl)
    · exact opnQ_int Try.underlying2 (by kernel_rfl)
    · exact opnQ_bool Try.underlying4 (by kernel_rfl)
    · exact opnQ_int Try.underlying2 (by kernel_rfl)
    · exact opnQ_int Try.underlying2 (by kernel_rfl)
  · cases hus with
    | cons h1 t1 => cases t1 with
      | cons h2 t2 => cases t2 with
        | cons h3 t3 => cases t3 with
          | cons h4 t4 => cases t4 with
            | cons h5 t5 => cases t5 with
              | cons h6 t6 => cases t6 with
                | cons h7 t7 => cases t7 with
                  | cons h8 t8 =>
                    cases t8
                    obtain ⟨⟨a1, rfl, w1⟩, _⟩ := h1
                    obtain ⟨⟨a2, rfl, w2⟩, _⟩ := h2
                    obtain ⟨⟨a3, rfl, w3⟩, _⟩ := h3
                    obtain ⟨⟨a4, rfl⟩, _⟩ := h4
                    obtain ⟨⟨a5, rfl, w5⟩, _⟩ := h5
                    obtain ⟨⟨a6, rfl⟩, _⟩ := h6
                    obtain ⟨⟨a7, rfl, w7⟩, _⟩ := h7
                    obtain ⟨⟨a8, rfl, w8⟩, _⟩ := h8
                    exact ⟨⟨a1, a2, a3, a4, a5, a6, a7, a8⟩, rfl, i64_of_wf w1, i64_of_wf w2, i64_of_wf w3, i64_of_wf w5, i64_of_wf w7, i64_of_wf w8⟩
theorem opn_33 : Opn enc Try.prog W base spare held 33 1 RecSR := opn_slice Try.underlying33 (by kernel_rfl) (by omega) opn_78 tyRec_78.lt
end
end Go.Proofs.Ytcngfjmfgeckmaa
