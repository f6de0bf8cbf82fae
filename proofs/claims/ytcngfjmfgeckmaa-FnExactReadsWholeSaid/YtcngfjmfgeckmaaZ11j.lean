import Derived.Test.YtcngfjmfgeckmaaZ11i
set_option linter.unusedSimpArgs false
set_option linter.unusedVariables false
set_option linter.unusedSectionVars false
namespace Go.Proofs.Ytcngfjmfgeckmaa
open Go
section
variable {fu : Nat}
theorem szByteS_ok {a : List Int} {left : Int} (h0 : 0 ≤ left) (h1 : left ≤ 1048576) (ha : a.length ≤ maxLen) : ∃ r, m_l_szByteS fu a left = some r ∧ (0 ≤ r → (a.length : Int) ≤ left ∧ r ≤ left) := by
  unfold maxLen at ha
  unfold m_l_szByteS
  rw [wr (by omega) (by omega)]
  by_cases h : left - (a.length : Int) < 0
  · exact ⟨-1, by simp [h], by omega⟩
  · exact ⟨left - a.length, by simp [h], by omega⟩
theorem szList_ok {α : Type} {xs : List α} {sz : α → Int → Option Int} {Q : α → Int → Prop} {step : Int × Int → Option ((Int × Int) ⊕ (Int ⊕ Int))} (hx : xs.length ≤ maxLen)
    (hsz : ∀ x left, x ∈ xs → 0 ≤ left → left ≤ 1048576 → ∃ r, sz x left = some r ∧ (0 ≤ r → Q x left ∧ r ≤ left)) (hQ : ∀ x l l', Q x l → l ≤ l' → Q x l')
    (hs : ∀ (i : Nat) x left r, xs[i]? = some x → sz x left = some r → step (left, (i : Int)) = some (if r < 0 then .inr (.inr (-1)) else .inl (r, ((i + 1 : Nat) : Int)))) (he : ∀ left, step (left, (xs.length : Int)) = some (.inr (.inl left)))
    {left : Int} (h0 : 0 ≤ left) (h1 : left ≤ 1048576) (hf : xs.length < fu) :
    ∃ r, (iterO step fu (left, 0)).bind (fun j => Sum.elim (fun x => some x) (fun x => some x) j) = some r ∧ (0 ≤ r → (∀ x, x ∈ xs → Q x left) ∧ r ≤ left) := by
  have key : ∀ (r : List α) (i : Nat) (l : Int) (fu : Nat), xs.drop i = r → i + r.length = xs.length → 0 ≤ l → l ≤ 1048576 → r.length < fu → ∃ j, iterO step fu (l, (i : Int)) = some j ∧ (∀ q, Sum.elim id id j = q → 0 ≤ q → (∀ x, x ∈ r → Q x l) ∧ q ≤ l) := fun r => by
    induction r with
    | nil =>
      intro i l fu e1 e2 h0 h1 hf
      cases fu with
      | zero => simp at hf
      | succ fu =>
        have hi : i = xs.length := by simpa using e2
        subst hi
        exact ⟨_, iter_out (he l), fun q hq hq0 => ⟨fun x hx => (by cases hx), by subst hq; exact Int.le_refl _⟩⟩
    | cons x r ih =>
      intro i l fu e1 e2 h0 h1 hf
      cases fu with
      | zero => simp at hf
      | succ fu =>
        have hx : xs[i]? = some x := by
          have := congrArg (fun l => l[0]?) e1
          simpa using this
        have hr : xs.drop (i + 1) = r := by
          have := congrArg (List.drop 1) e1
          simpa [List.drop_drop, Nat.add_comm] using this
        simp only [List.length_cons] at e2 hf
        obtain ⟨r1, q1, q2⟩ := hsz x l (List.mem_of_getElem? hx) h0 h1
        have hst := hs i x l r1 hx q1
        by_cases hneg : r1 < 0
        · rw [if_pos hneg] at hst
          exact ⟨_, iter_out hst, fun q hq hq0 => by subst hq; simp at hq0⟩
        · rw [if_neg hneg] at hst
          obtain ⟨q3, q4⟩ := q2 (by omega)
          obtain ⟨j, j1, j2⟩ := ih (i + 1) r1 fu hr (by omega) (by omega) (by omega) (by omega)
          refine ⟨j, by rw [iter_step hst]; exact j1, fun q hq hq0 => ?_⟩
          obtain ⟨m1, m2⟩ := j2 q hq hq0
          refine ⟨fun z hz => ?_, by omega⟩
          rcases List.mem_cons.1 hz with rfl | hz
          · exact q3
          · exact hQ z _ _ (m1 z hz) q4
  obtain ⟨j, j1, j2⟩ := key xs 0 left fu rfl (by simp) h0 h1 hf
  refine ⟨Sum.elim id id j, ?_, fun h => j2 _ rfl h⟩
  have j1' : iterO step fu (left, 0) = some j := j1
  rw [j1']
  cases j <;> rfl
theorem step_sz {z : Int × Int} {n i : Nat} {left : Int} (hz : z = (left, (i : Int))) (hi : i < n) (hn : n ≤ maxLen) : (decide (z.2 < (n : Int))) = true ∧ IntKind.i64.wrap (z.2 + 1) = ((i + 1 : Nat) : Int) := by
  unfold maxLen at hn
  subst hz
  exact ⟨by simp; omega, wsucc (by omega)⟩
theorem szByteSS_ok {a : List (List Int)} {left : Int} (h0 : 0 ≤ left) (h1 : left ≤ 1048576) (ha : a.length ≤ maxLen) (hb : ∀ x, x ∈ a → x.length ≤ maxLen) (hf : a.length < fu) :
    ∃ r, m_l_szByteSS fu a left = some r ∧ (0 ≤ r → (a.length : Int) ≤ left ∧ (∀ x, x ∈ a → (x.length : Int) ≤ left) ∧ r ≤ left) := by
  have ha' := ha
  unfold maxLen at ha'
  unfold m_l_szByteSS
  rw [wr (by omega) (by omega)]
  by_cases h : left - (a.length : Int) < 0
  · exact ⟨-1, by simp [h], by omega⟩
  · obtain ⟨r, q1, q2⟩ := szList_ok (xs := a) (sz := m_l_szByteS fu) (Q := fun x l => (x.length : Int) ≤ l) (step := l_szByteSS_l1 fu a) ha (fun x l hx h0 h1 => szByteS_ok h0 h1 (hb x hx)) (fun x l l' h h' => by omega)
      (fun i x l r hx hr => by
        have hi := (List.getElem?_eq_some_iff.1 hx).1
        unfold l_szByteSS_l1
        obtain ⟨e1, e2⟩ := step_sz (z := (l, (i : Int))) rfl hi ha
        rw [if_pos e1, e2]
        simp only [atI_nat, hx, Option.bind_some, hr]
        by_cases hneg : r < 0 <;> simp [hneg]) (fun l => by unfold l_szByteSS_l1; simp) (by omega : 0 ≤ left - (a.length : Int)) (by omega) hf
    refine ⟨r, by simp only [h, decide_false, Bool.false_eq_true, if_false]; exact q1, fun h => ?_⟩
    obtain ⟨q3, q4⟩ := q2 h
    exact ⟨by omega, fun x hx => by have := q3 x hx; omega, by omega⟩
theorem szLoose_ok {a : LooseD} {left : Int} (h0 : 0 ≤ left) (h1 : left ≤ 1048576) (ha : a.data.length ≤ maxLen) : ∃ r, m_l_szLoose fu a left = some r ∧ (0 ≤ r → (a.data.length : Int) ≤ left ∧ r ≤ left) := by
  obtain ⟨r, q1, q2⟩ := szByteS_ok (fu := fu) (a := a.data) h0 h1 ha
  unfold m_l_szLoose
  rw [q1]
  simp only [Option.bind_some]
  by_cases h : r < 0
  · exact ⟨-1, by simp [h], by omega⟩
  · exact ⟨r, by simp [h], q2⟩
theorem szLooseS_ok {a : List LooseD} {left : Int} (h0 : 0 ≤ left) (h1 : left ≤ 1048576) (ha : a.length ≤ maxLen) (hb : ∀ x, x ∈ a → x.data.length ≤ maxLen) (hf : a.length < fu) :
    ∃ r, m_l_szLooseS fu a left = some r ∧ (0 ≤ r → (a.length : Int) ≤ left ∧ (∀ x, x ∈ a → (x.data.length : Int) ≤ left) ∧ r ≤ left) := by
  have ha' := ha
  unfold maxLen at ha'
  unfold m_l_szLooseS
  rw [wr (by omega) (by omega)]
  by_cases h : left - (a.length : Int) < 0
  · exact ⟨-1, by simp [h], by omega⟩
  · obtain ⟨r, q1, q2⟩ := szList_ok (xs := a) (sz := m_l_szLoose fu) (Q := fun x l => (x.data.length : Int) ≤ l) (step := l_szLooseS_l1 fu a) ha (fun x l hx h0 h1 => szLoose_ok h0 h1 (hb x hx)) (fun x l l' h h' => by omega)
      (fun i x l r hx hr => by
        have hi := (List.getElem?_eq_some_iff.1 hx).1
        unfold l_szLooseS_l1
        obtain ⟨e1, e2⟩ := step_sz (z := (l, (i : Int))) rfl hi ha
        rw [if_pos e1, e2]
        simp only [atI_nat, hx, Option.bind_some, hr]
        by_cases hneg : r < 0 <;> simp [hneg]) (fun l => by unfold l_szLooseS_l1; simp) (by omega : 0 ≤ left - (a.length : Int)) (by omega) hf
    refine ⟨r, by simp only [h, decide_false, Bool.false_eq_true, if_false]; exact q1, fun h => ?_⟩
    obtain ⟨q3, q4⟩ := q2 h
    exact ⟨by omega, fun x hx => by have := q3 x hx; omega, by omega⟩
structure DkLen (a : DiskD) (n : Nat) : Prop where
  pages : a.pages.length ≤ n
  page : ∀ x, x ∈ a.pages → x.length ≤ n
  loose : a.loose.length ≤ n
  data : ∀ x, x ∈ a.loose → x.data.length ≤ n
theorem szDisk_ok {a : DiskD} {left : Int} (h0 : 0 ≤ left) (h1 : left ≤ 1048576) (ha : DkLen a maxLen) (hf : a.pages.length < fu) (hf2 : a.loose.length < fu) : ∃ r, m_l_szDisk fu a left = some r ∧ (0 ≤ r → DkLen a 1048576 ∧ r ≤ left) := by
  obtain ⟨r, q1, q2⟩ := szByteSS_ok (fu := fu) (a := a.pages) h0 h1 ha.pages ha.page hf
  unfold m_l_szDisk
  rw [q1]
  simp only [Option.bind_some]
  by_cases h : r < 0
  · exact ⟨-1, by simp [h], by omega⟩
  · obtain ⟨p1, p2, p3⟩ := q2 (by omega)
    obtain ⟨r2, s1, s2⟩ := szLooseS_ok (fu := fu) (a := a.loose) (left := r) (by omega) (by omega) ha.loose ha.data hf2
    simp only [h, decide_false, Bool.false_eq_true, if_false, s1, Option.bind_some]
    by_cases h2 : r2 < 0
    · exact ⟨-1, by simp [h2], by omega⟩
    · obtain ⟨t1, t2, t3⟩ := s2 (by omega)
      exact ⟨r2, by simp [h2], fun _ => ⟨⟨by omega, fun x hx => by have := p2 x hx; omega, by omega, fun x hx => by have := t2 x hx; omega⟩, by omega⟩⟩
theorem toByteS_ok {a : List Int} (ha : a.length ≤ 1048576) (hf : a.length < fu) : m_l_toByteS fu a = some a := by
  unfold m_l_toByteS
  rw [mkI_ok (by omega) (by omega)]
  simp only [Option.bind_some]
  rw [iter_copy (xs := a) (fun i x l hx hl => ?_) (fun l hl => ?_) hf]
  · rfl
  · have hi := (List.getElem?_eq_some_iff.1 hx).1
    unfold l_toByteS_l1
    simp only [atI_nat, hx, Option.bind_some, setI_nat, List.getElem?_eq_getElem (show i < l.length by omega)]
    rw [if_pos (by simp; omega), wsucc (by omega)]
  · unfold l_toByteS_l1; simp
theorem toByteSS_ok {a : List (List Int)} (ha : a.length ≤ 1048576) (hb : ∀ x, x ∈ a → x.length ≤ 1048576) (hf : 1048576 < fu) : m_l_toByteSS fu a = some a := by
  unfold m_l_toByteSS
  rw [mkI_ok (by omega) (by omega)]
  simp only [Option.bind_some]
  rw [iter_copy (xs := a) (fun i x l hx hl => ?_) (fun l hl => ?_) (by omega)]
  · rfl
  · have hi := (List.getElem?_eq_some_iff.1 hx).1
    have hxl := hb x (List.mem_of_getElem? hx)
    unfold l_toByteSS_l1
    simp only [atI_nat, hx, Option.bind_some, setI_nat, List.getElem?_eq_getElem (show i < l.length by omega), toByteS_ok hxl (show x.length < fu by omega)]
    rw [if_pos (by simp; omega), wsucc (by omega)]
  · unfold l_toByteSS_l1; simp
theorem toLoose_ok {a : LooseD} (ha : a.data.length ≤ 1048576) (hf : 1048576 < fu) : m_l_toLoose fu a = some a := by
  unfold m_l_toLoose
  rw [toByteS_ok ha (by omega)]
  rfl
theorem toLooseS_ok {a : List LooseD} (ha : a.length ≤ 1048576) (hb : ∀ x, x ∈ a → x.data.length ≤ 1048576) (hf : 1048576 < fu) : m_l_toLooseS fu a = some a := by
  unfold m_l_toLooseS
  rw [mkI_ok (by omega) (by omega)]
  simp only [Option.bind_some]
  rw [iter_copy (xs := a) (fun i x l hx hl => ?_) (fun l hl => ?_) (by omega)]
  · rfl
  · have hi := (List.getElem?_eq_some_iff.1 hx).1
    have hxl := hb x (List.mem_of_getElem? hx)
    unfold l_toLooseS_l1
    simp only [atI_nat, hx, Option.bind_some, setI_nat, List.getElem?_eq_getElem (show i < l.length by omega), toLoose_ok hxl hf]
    rw [if_pos (by simp; omega), wsucc (by omega)]
  · unfold l_toLooseS_l1; simp
theorem toDisk_ok {a : DiskD} (ha : DkLen a 1048576) (hf : 1048576 < fu) : m_l_toDisk fu a = some a := by
  unfold m_l_toDisk
  rw [toByteSS_ok ha.pages ha.page hf, toLooseS_ok ha.loose ha.data hf]
  rfl
theorem iter_all {ρ : Type} {n : Nat} {r : ρ} {step : Int → Option (Int ⊕ ρ)} (hs : ∀ i : Nat, i < n → step (i : Int) = some (.inl ((i + 1 : Nat) : Int))) (he : step (n : Int) = some (.inr r)) (hf : n < fu) : iterO step fu 0 = some r :=
  iter_for (fun i => (i : Int)) hs he hf
theorem eqByteS_ok {a : List Int} (ha : a.length ≤ 1048576) (hf : a.length < fu) : m_l_eqByteS fu a a = some true := by
  unfold m_l_eqByteS
  simp only [ne_eq, not_true, decide_false, Bool.false_eq_true, if_false]
  rw [iter_all (r := .inl ()) (n := a.length) (fun i hi => ?_) ?_ hf]
  · rfl
  · unfold l_eqByteS_l1; simp
  · unfold l_eqByteS_l1
    simp only [atI_nat, List.getElem?_eq_getElem hi, Option.bind_some]
    rw [if_pos (by simp; omega), wsucc (by omega)]
    simp
theorem eqByteSS_ok {a : List (List Int)} (ha : a.length ≤ 1048576) (hb : ∀ x, x ∈ a → x.length ≤ 1048576) (hf : 1048576 < fu) : m_l_eqByteSS fu a a = some true := by
  unfold m_l_eqByteSS
  simp only [ne_eq, not_true, decide_false, Bool.false_eq_true, if_false]
  rw [iter_all (r := .inl ()) (n := a.length) (fun i hi => ?_) ?_ (by omega)]
  · rfl
  · unfold l_eqByteSS_l1; simp
  · unfold l_eqByteSS_l1
    have hxl := hb a[i] (List.getElem_mem hi)
    simp only [atI_nat, List.getElem?_eq_getElem hi, Option.bind_some, eqByteS_ok hxl (show a[i].length < fu by omega)]
    rw [if_pos (by simp; omega), wsucc (by omega)]
    simp
theorem eqLoose_ok {a : LooseD} (ha : a.data.length ≤ 1048576) (hf : 1048576 < fu) : m_l_eqLoose fu a a = some true := by
  unfold m_l_eqLoose
  simp [eqByteS_ok ha (show a.data.length < fu by omega)]
theorem eqLooseS_ok {a : List LooseD} (ha : a.length ≤ 1048576) (hb : ∀ x, x ∈ a → x.data.length ≤ 1048576) (hf : 1048576 < fu) : m_l_eqLooseS fu a a = some true := by
  unfold m_l_eqLooseS
  simp only [ne_eq, not_true, decide_false, Bool.false_eq_true, if_false]
  rw [iter_all (r := .inl ()) (n := a.length) (fun i hi => ?_) ?_ (by omega)]
  · rfl
  · unfold l_eqLooseS_l1; simp
  · unfold l_eqLooseS_l1
    have hxl := hb a[i] (List.getElem_mem hi)
    simp only [atI_nat, List.getElem?_eq_getElem hi, Option.bind_some, eqLoose_ok hxl hf]
    rw [if_pos (by simp; omega), wsucc (by omega)]
    simp
theorem eqDisk_ok {a : DiskD} (ha : DkLen a 1048576) (hf : 1048576 < fu) : m_l_eqDisk fu a a = some true := by
  unfold m_l_eqDisk
  simp [eqByteSS_ok ha.pages ha.page hf, eqLooseS_ok ha.loose ha.data hf]
end
end Go.Proofs.Ytcngfjmfgeckmaa
namespace Go.Proofs.Ytcngfjmfgeckmaa
open Go
section
variable {fu : Nat}
def inR (a lo hi : Int) : Bool := decide (lo ≤ a) && decide (a ≤ hi)
theorem inR_iff {a lo hi : Int} : inR a lo hi = true ↔ lo ≤ a ∧ a ≤ hi := by simp [inR]
theorem l1In_ok (a lo hi : Int) : m_s_l1In fu a lo hi = some (inR a lo hi) := by
  unfold m_s_l1In inR
  by_cases h : lo ≤ a <;> simp [h]
theorem within_ok (a lo hi : Int) : m_i_within fu a lo hi = some (inR a lo hi) := by
  unfold m_i_within inR
  by_cases h : lo ≤ a <;> simp [h]
def findI {α ρ : Type} (bad : Nat → α → Option ρ) : Nat → List α → Option ρ
  | _, [] => none
  | i, x :: r => match bad i x with
    | some e => some e
    | none => findI bad (i + 1) r
theorem findI_some {α ρ : Type} {bad : α → Option ρ} : ∀ {r : List α} {i : Nat}, findI (fun _ => bad) i r = r.findSome? bad
  | [], _ => rfl
  | x :: r, i => by simp only [findI, List.findSome?_cons, findI_some]; cases bad x <;> rfl
theorem iter_findI {α ρ : Type} {xs : List α} {step : Int → Option (Int ⊕ (Unit ⊕ ρ))} (bad : Nat → α → Option ρ)
    (hs : ∀ (i : Nat) x, xs[i]? = some x → step (i : Int) = some (match bad i x with | some e => .inr (.inr e) | none => .inl ((i + 1 : Nat) : Int)))
    (he : step (xs.length : Int) = some (.inr (.inl ()))) (hf : xs.length < fu) :
    iterO step fu 0 = some (match findI bad 0 xs with | some e => .inr e | none => .inl ()) := by
  have : ∀ (r : List α) (i fu : Nat), xs.drop i = r → i + r.length = xs.length → r.length < fu → iterO step fu (i : Int) = some (match findI bad i r with | some e => .inr e | none => .inl ()) := fun r => by
    induction r with
    | nil =>
      intro i fu e1 e2 hf
      cases fu with
      | zero => simp at hf
      | succ fu =>
        have hi : i = xs.length := by simpa using e2
        subst hi
        exact iter_out he
    | cons x r ih =>
      intro i fu e1 e2 hf
      cases fu with
      | zero => simp at hf
      | succ fu =>
        have hx : xs[i]? = some x := by
          have := congrArg (fun l => l[0]?) e1
          simpa using this
        have hr : xs.drop (i + 1) = r := by
          have := congrArg (List.drop 1) e1
          simpa [List.drop_drop, Nat.add_comm] using this
        simp only [List.length_cons] at e2 hf
        have hst := hs i x hx
        cases hb : bad i x with
        | some e =>
          rw [hb] at hst
          rw [iter_out hst]
          simp [findI, hb]
        | none =>
          rw [hb] at hst
          rw [iter_step hst, ih (i + 1) fu hr (by omega) (by omega)]
          simp [findI, hb]
  exact this xs 0 fu rfl (by simp) hf
theorem iter_find1 {α ρ : Type} {xs : List α} {step : Int → Option (Int ⊕ (Unit ⊕ ρ))} (bad : α → Option ρ)
    (hs : ∀ (i : Nat) x, xs[i]? = some x → step (i : Int) = some (match bad x with | some e => .inr (.inr e) | none => .inl ((i + 1 : Nat) : Int)))
    (he : step (xs.length : Int) = some (.inr (.inl ()))) (hf : xs.length < fu) :
    iterO step fu 0 = some (match xs.findSome? bad with | some e => .inr e | none => .inl ()) := by
  rw [iter_findI (fun _ => bad) hs he hf, findI_some]
def badPage (x : List Int) : Option Int := if (x.length : Int) ≠ 48 then some 1 else none
def badLoose (n : Int) (l : LooseD) : Option Int := if inR l.page 0 (n - 1) = true ∧ inR l.part 0 2 = true then (if (l.data.length : Int) ≠ 16 then some 1 else none) else some 3
def dkFault (d : DiskD) : Int := if d.pages.length < 1 ∨ 8 < d.pages.length then 1 else match d.pages.findSome? badPage with
  | some e => e
  | none => if 60 < d.loose.length then 2 else (d.loose.findSome? (badLoose d.pages.length)).getD 0
structure DkOk (d : DiskD) : Prop where
  lo : 1 ≤ d.pages.length
  hi : d.pages.length ≤ 8
  page : ∀ x, x ∈ d.pages → x.length = 48
  loose : d.loose.length ≤ 60
  in_ : ∀ l, l ∈ d.loose → 0 ≤ l.page ∧ l.page < d.pages.length ∧ 0 ≤ l.part ∧ l.part ≤ 2 ∧ l.data.length = 16
theorem findSome_none {α β : Type} {f : α → Option β} : ∀ {l : List α}, l.findSome? f = none → ∀ x, x ∈ l → f x = none := fun {l} h x hx => by
  rw [List.findSome?_eq_none_iff] at h
  exact h x hx
theorem dk_ok {d : DiskD} (h : dkFault d = 0) : DkOk d := by
  unfold dkFault at h
  split at h
  · omega
  · rename_i h1
    split at h
    · rename_i e he
      subst h
      obtain ⟨l, x, r, _, hx, _⟩ := List.findSome?_eq_some_iff.1 he
      unfold badPage at hx
      split at hx <;> simp at hx
    · rename_i hp
      split at h
      · omega
      · rename_i h2
        have hl : d.loose.findSome? (badLoose d.pages.length) = none := by
          cases hq : d.loose.findSome? (badLoose d.pages.length) with
          | none => rfl
          | some e =>
            rw [hq] at h
            simp only [Option.getD_some] at h
            subst h
            obtain ⟨l, x, r, _, hx, _⟩ := List.findSome?_eq_some_iff.1 hq
            unfold badLoose at hx
            split at hx
            · split at hx <;> simp at hx
            · simp at hx
        refine ⟨by omega, by omega, fun x hx => ?_, by omega, fun l hl2 => ?_⟩
        · have := findSome_none hp x hx
          unfold badPage at this
          split at this
          · cases this
          · omega
        · have := findSome_none hl l hl2
          unfold badLoose at this
          split at this
          · rename_i h3
            rw [inR_iff, inR_iff] at h3
            split at this
            · cases this
            · omega
          · cases this
theorem s_fault_ok {d : DiskD} (hd : DkLen d 1048576) (hf : 1048576 < fu) : m_s_DiskFault fu d = some (dkFault d) := by
  unfold m_s_DiskFault dkFault
  have h1 : ((if (decide ((d.pages.length : Int) < 1)) = true then some true else some (decide (8 < (d.pages.length : Int))))) = some (decide (d.pages.length < 1 ∨ 8 < d.pages.length)) := by
    by_cases h : d.pages.length < 1
    · have : (d.pages.length : Int) < 1 := by omega
      simp [h, this]
    · have : ¬ (d.pages.length : Int) < 1 := by omega
      have e : (8 < (d.pages.length : Int)) ↔ 8 < d.pages.length := by omega
      simp [h, this, e]
  rw [h1]
  simp only [Option.bind_some, decide_eq_true_eq]
  split
  · rfl
  · rename_i hn
    rw [iter_find1 (xs := d.pages) badPage (fun i x hx => ?_) ?_ (by omega)]
    · cases d.pages.findSome? badPage with
      | some e => rfl
      | none =>
        simp only [Option.bind_some, Sum.elim_inl]
        have e60 : (60 < (d.loose.length : Int)) ↔ 60 < d.loose.length := by omega
        simp only [e60]
        split
        · rfl
        · rw [iter_find1 (xs := d.loose) (badLoose d.pages.length) (fun i x hx => ?_) ?_ (by omega)]
          · cases d.loose.findSome? (badLoose d.pages.length) <;> rfl
          · unfold s_DiskFault_l2; simp
          · have hi := (List.getElem?_eq_some_iff.1 hx).1
            unfold s_DiskFault_l2 s_DiskFault_j1 badLoose
            simp only [atI_nat, hx, Option.bind_some, l1In_ok]
            rw [if_pos (by simp; omega), wsucc (by omega), wr (by omega) (by omega)]
            cases inR x.page 0 ((d.pages.length : Int) - 1) <;> cases inR x.part 0 2 <;> simp
            split <;> rfl
    · unfold s_DiskFault_l1; simp
    · have hi := (List.getElem?_eq_some_iff.1 hx).1
      unfold s_DiskFault_l1 badPage
      simp only [atI_nat, hx, Option.bind_some]
      rw [if_pos (by simp; omega), wsucc (by omega)]
      simp only [decide_eq_true_eq]
      split <;> rfl
theorem i_fault_ok {d : DiskD} (hd : DkLen d 1048576) (hf : 1048576 < fu) : m_i_DiskFault fu d = some (dkFault d) := by
  have hl := hd.pages
  have hl2 := hd.loose
  unfold m_i_DiskFault dkFault
  have j1 : ∃ r : Int, i_DiskFault_j1 fu d = some r ∧ (0 ≤ r ↔ (d.pages.findSome? badPage).isSome = true) := by
    unfold i_DiskFault_j1
    rw [iter_findI (xs := d.pages) (fun i x => if (x.length : Int) ≠ 48 then some (i : Int) else none) (fun i x hx => ?_) ?_ (by omega)]
    · have key : ∀ (r : List (List Int)) (i : Nat), (match findI (fun i (x : List Int) => if (x.length : Int) ≠ 48 then some (i : Int) else none) i r with
          | some e => 0 ≤ e ∧ (r.findSome? badPage).isSome = true
          | none => (r.findSome? badPage).isSome = false) := fun r => by
        induction r with
        | nil => intro i; rfl
        | cons x r ih =>
          intro i
          have := ih (i + 1)
          simp only [findI, List.findSome?_cons, badPage]
          by_cases h : (x.length : Int) ≠ 48
          · simp [h]
          · simp only [h, if_false]
            exact this
      have := key d.pages 0
      cases hq : findI (fun i (x : List Int) => if (x.length : Int) ≠ 48 then some (i : Int) else none) 0 d.pages with
      | some e => rw [hq] at this; exact ⟨e, rfl, by simp [this.1, this.2]⟩
      | none => rw [hq] at this; exact ⟨-1, rfl, by simp [this]⟩
    · unfold i_DiskFault_l1; simp
    · have hi := (List.getElem?_eq_some_iff.1 hx).1
      unfold i_DiskFault_l1
      simp only [atI_nat, hx, Option.bind_some]
      rw [if_pos (by simp; omega), wsucc (by omega)]
      simp only [decide_eq_true_eq]
      split <;> rfl
  obtain ⟨r, r1, r2⟩ := j1
  have all1 : ∀ {e : Int}, d.pages.findSome? badPage = some e → e = 1 := fun {e} he => by
    obtain ⟨l, x, r, _, hx, _⟩ := List.findSome?_eq_some_iff.1 he
    unfold badPage at hx
    split at hx <;> simp at hx
    exact hx.symm
  have h1 : i_DiskFault_j2 fu d = some (decide ((d.pages.length < 1 ∨ 8 < d.pages.length) ∨ (d.pages.findSome? badPage).isSome = true)) := by
    unfold i_DiskFault_j2
    by_cases h : d.pages.length < 1
    · have : (d.pages.length : Int) < 1 := by omega
      simp [h, this]
    · have : ¬ (d.pages.length : Int) < 1 := by omega
      by_cases h8 : 8 < d.pages.length
      · have h9 : 8 < (d.pages.length : Int) := by omega
        simp [h8, h9]
      · have h9 : ¬ 8 < (d.pages.length : Int) := by omega
        simp only [this, h9, decide_false, Bool.false_eq_true, if_false, r1, Option.bind_some, h, h8, or_self, false_or, r2]
  rw [h1]
  simp only [Option.bind_some, decide_eq_true_eq]
  by_cases hn : d.pages.length < 1 ∨ 8 < d.pages.length
  · rw [if_pos (.inl hn), if_pos hn]
  · simp only [hn, false_or, if_false]
    cases hp : d.pages.findSome? badPage with
    | some e => rw [all1 hp]; rfl
    | none =>
      simp only [Option.isSome_none, Bool.false_eq_true, if_false]
      have e60 : (60 < (d.loose.length : Int)) ↔ 60 < d.loose.length := by omega
      simp only [e60]
      split
      · rfl
      · rw [iter_find1 (xs := d.loose) (badLoose d.pages.length) (fun i x hx => ?_) ?_ (by omega)]
        · cases d.loose.findSome? (badLoose d.pages.length) <;> rfl
        · unfold i_DiskFault_l2; simp
        · have hi := (List.getElem?_eq_some_iff.1 hx).1
          unfold i_DiskFault_l2 i_DiskFault_j3 badLoose m_i_Disk_hasPage
          simp only [atI_nat, hx, Option.bind_some, within_ok]
          rw [if_pos (by simp; omega), wsucc (by omega), wr (by omega) (by omega)]
          cases inR x.page 0 ((d.pages.length : Int) - 1) <;> cases inR x.part 0 2 <;> simp
          split <;> rfl
end
end Go.Proofs.Ytcngfjmfgeckmaa
namespace Go.Proofs.Ytcngfjmfgeckmaa
open Go
section
variable {fu : Nat}
theorem atI_pos {α : Type} {l : List α} {i : Int} (h : 0 ≤ i) : atI l i = l[i.toNat]? := by simp [atI, h]
theorem s_copy_ok {d : DiskD} (hd : DkLen d 1048576) (hf : 1048576 < fu) : m_s_l2Copy fu d = some d := by
  have hl := hd.pages
  have hl2 := hd.loose
  unfold m_s_l2Copy
  have h1 : iterO (s_l2Copy_l1 fu d) fu (0, []) = some d.pages := by
    have := iter_push (xs := d.pages) (g := id) (step := s_l2Copy_l1 fu d) (fu := fu) (fun i x hx => ?_) ?_ (by omega)
    · simpa using this
    · have hi := (List.getElem?_eq_some_iff.1 hx).1
      have hx2 := hd.page x (List.mem_of_getElem? hx)
      unfold s_l2Copy_l1
      simp only [atI_nat, hx, Option.bind_some, List.map_id]
      rw [appI_ok (by simp; omega) (by simp; omega)]
      simp only [Option.bind_some, List.nil_append]
      rw [appI_ok (by simp; omega) (by simp; omega)]
      rw [if_pos (by simp; omega), wsucc (by omega)]
      rfl
    · unfold s_l2Copy_l1; simp
  have h2 : iterO (s_l2Copy_l2 fu d) fu (0, []) = some d.loose := by
    have := iter_push (xs := d.loose) (g := id) (step := s_l2Copy_l2 fu d) (fu := fu) (fun i x hx => ?_) ?_ (by omega)
    · simpa using this
    · have hi := (List.getElem?_eq_some_iff.1 hx).1
      have hx2 := hd.data x (List.mem_of_getElem? hx)
      unfold s_l2Copy_l2
      simp only [atI_nat, hx, Option.bind_some, List.map_id]
      rw [appI_ok (by simp; omega) (by simp; omega)]
      simp only [Option.bind_some, List.nil_append]
      rw [appI_ok (by simp; omega) (by simp; omega)]
      rw [if_pos (by simp; omega), wsucc (by omega)]
      rfl
    · unfold s_l2Copy_l2; simp
  rw [h1, h2]; rfl
theorem i_copied_ok {d : DiskD} (hd : DkLen d 1048576) (hf : 1048576 < fu) : m_i_Disk_copied fu d = some d := by
  have hl := hd.pages
  have hl2 := hd.loose
  unfold m_i_Disk_copied
  have h1 : iterO (i_Disk_copied_l1 fu d) fu (0, []) = some d.pages := by
    have := iter_push (xs := d.pages) (g := id) (step := i_Disk_copied_l1 fu d) (fu := fu) (fun i x hx => ?_) ?_ (by omega)
    · simpa using this
    · have hi := (List.getElem?_eq_some_iff.1 hx).1
      have hx2 := hd.page x (List.mem_of_getElem? hx)
      unfold i_Disk_copied_l1
      simp only [atI_nat, hx, Option.bind_some, List.map_id]
      rw [cloneI_ok (by omega) (by omega)]
      simp only [Option.bind_some]
      rw [appI_ok (by simp; omega) (by simp; omega)]
      rw [if_pos (by simp; omega), wsucc (by omega)]
      rfl
    · unfold i_Disk_copied_l1; simp
  have h2 : iterO (i_Disk_copied_l2 fu d) fu (0, []) = some d.loose := by
    have := iter_push (xs := d.loose) (g := id) (step := i_Disk_copied_l2 fu d) (fu := fu) (fun i x hx => ?_) ?_ (by omega)
    · simpa using this
    · have hi := (List.getElem?_eq_some_iff.1 hx).1
      have hx2 := hd.data x (List.mem_of_getElem? hx)
      unfold i_Disk_copied_l2
      simp only [atI_nat, hx, Option.bind_some, List.map_id]
      rw [cloneI_ok (by omega) (by omega)]
      simp only [Option.bind_some]
      rw [appI_ok (by simp; omega) (by simp; omega)]
      rw [if_pos (by simp; omega), wsucc (by omega)]
      rfl
    · unfold i_Disk_copied_l2; simp
  rw [h1, h2]; rfl
def patch (x : List Int) (o : Nat) (ys : List Int) : List Int := x.take o ++ ys ++ x.drop (o + ys.length)
theorem patch_len {x : List Int} {o : Nat} {ys : List Int} (h : o + ys.length ≤ x.length) : (patch x o ys).length = x.length := by
  simp only [patch, List.length_append, List.length_take, List.length_drop]; omega
theorem patch_zero (x : List Int) (o : Nat) : patch x o [] = x := by simp [patch]
theorem patch_snoc {x : List Int} {o : Nat} {ys : List Int} {y : Int} (h : o + ys.length < x.length) : (patch x o ys).set (o + ys.length) y = patch x o (ys ++ [y]) := by
  have e1 : (x.take o).length = o := by simp; omega
  apply List.ext_getElem?
  intro k
  have get : ∀ zs : List Int, o + zs.length ≤ x.length → ∀ k : Nat, (patch x o zs)[k]? = if k < o then x[k]? else if k < o + zs.length then zs[k - o]? else x[k]? := fun zs hz k => by
    unfold patch
    by_cases h1 : k < o
    · rw [if_pos h1, List.getElem?_append_left (by simp; omega), List.getElem?_append_left (by simp; omega), List.getElem?_take, if_pos h1]
    · rw [if_neg h1]
      by_cases h2 : k < o + zs.length
      · rw [if_pos h2, List.getElem?_append_left (by simp; omega), List.getElem?_append_right (by simp; omega), e1]
      · rw [if_neg h2, List.getElem?_append_right (by simp; omega), List.getElem?_drop]
        congr 1; simp; omega
  rw [List.getElem?_set, get ys (by omega), get (ys ++ [y]) (by simp; omega), patch_len (by omega)]
  simp only [List.length_append, List.length_singleton]
  by_cases hk : o + ys.length = k
  · subst hk
    rw [if_pos rfl, if_pos (by omega), if_neg (by omega), if_pos (by omega)]
    simp
  · rw [if_neg hk]
    by_cases h1 : k < o
    · rw [if_pos h1, if_pos h1]
    · rw [if_neg h1, if_neg h1]
      by_cases h2 : k < o + ys.length
      · rw [if_pos h2, if_pos (by omega), List.getElem?_append_left (by omega)]
      · rw [if_neg h2, if_neg (by omega)]
def dkPut (ps : List (List Int)) (l : LooseD) : List (List Int) := ps.set l.page.toNat (patch ((ps[l.page.toNat]?).getD []) (l.part.toNat * 16) l.data)
def dkDone (d : DiskD) : List (List Int) := d.loose.foldl dkPut d.pages
structure PsOk (n : Nat) (ps : List (List Int)) : Prop where
  len : ps.length = n
  page : ∀ x, x ∈ ps → x.length = 48
def LsOk (n : Nat) (l : LooseD) : Prop := 0 ≤ l.page ∧ l.page < n ∧ 0 ≤ l.part ∧ l.part ≤ 2 ∧ l.data.length = 16
theorem dkPut_ok {n : Nat} {ps : List (List Int)} {l : LooseD} (hp : PsOk n ps) (hl : LsOk n l) : PsOk n (dkPut ps l) := by
  obtain ⟨h1, h2, h3, h4, h5⟩ := hl
  refine ⟨by simp [dkPut, hp.len], fun x hx => ?_⟩
  have hlt : l.page.toNat < ps.length := by rw [hp.len]; omega
  rcases List.mem_or_eq_of_mem_set hx with hx | rfl
  · exact hp.page x hx
  · rw [List.getElem?_eq_getElem hlt]
    have := hp.page _ (List.getElem_mem hlt)
    simp only [Option.getD_some]
    rw [patch_len (by omega)]
    exact this
theorem foldl_ok {n : Nat} : ∀ {ls : List LooseD} {ps : List (List Int)}, PsOk n ps → (∀ l, l ∈ ls → LsOk n l) → PsOk n (ls.foldl dkPut ps)
  | [], ps, hp, _ => hp
  | l :: ls, ps, hp, hl => by
    rw [List.foldl_cons]
    exact foldl_ok (dkPut_ok hp (hl l (by simp))) fun l' h => hl l' (by simp [h])
theorem done_ps {d : DiskD} (h : DkOk d) : PsOk d.pages.length (dkDone d) := foldl_ok ⟨rfl, h.page⟩ h.in_
theorem take_foldl {α β : Type} (f : β → α → β) (b : β) {xs : List α} {i : Nat} {x : α} (hx : xs[i]? = some x) : (xs.take (i + 1)).foldl f b = f ((xs.take i).foldl f b) x := by
  rw [List.take_add_one, hx]; simp
theorem s_inner {n : Nat} {ps : List (List Int)} {l : LooseD} (hp : PsOk n ps) (hl : LsOk n l) (hf : 16 < fu) : iterO (s_l2Sync_l1 fu l) fu (0, ps) = some (dkPut ps l) := by
  obtain ⟨h1, h2, h3, h4, h5⟩ := hl
  have hlt : l.page.toNat < ps.length := by rw [hp.len]; omega
  have hpx := hp.page _ (List.getElem_mem hlt)
  have hpg : (l.page.toNat : Int) = l.page := by omega
  have st := iter_for (step := s_l2Sync_l1 fu l) (n := 16) (fu := fu) (r := dkPut ps l) (fun j => ((j : Int), ps.set l.page.toNat (patch ps[l.page.toNat] (l.part.toNat * 16) (l.data.take j)))) (fun j hj => ?_) ?_ hf
  · simp only [List.take_zero, patch_zero, List.set_getElem_self] at st
    exact st
  · unfold s_l2Sync_l1
    have hjd : j < l.data.length := by omega
    have hpt : l.part.toNat * 16 + j < 48 := by omega
    have hidx : IntKind.i64.wrap (IntKind.i64.wrap (l.part * 16) + (j : Int)) = ((l.part.toNat * 16 + j : Nat) : Int) := by
      rw [wr (x := l.part * 16) (by omega) (by omega), wr (by omega) (by omega)]; omega
    have hlen : (patch ps[l.page.toNat] (l.part.toNat * 16) (l.data.take j)).length = 48 := by rw [patch_len (by simp; omega), hpx]
    have hat : atI (ps.set l.page.toNat (patch ps[l.page.toNat] (l.part.toNat * 16) (l.data.take j))) l.page = some (patch ps[l.page.toNat] (l.part.toNat * 16) (l.data.take j)) := by
      rw [atI_pos h1]; simp [hlt]
    simp only [hat, Option.bind_some, hidx, atI_nat, List.getElem?_eq_getElem hjd, List.getElem?_eq_getElem (show l.part.toNat * 16 + j < (patch ps[l.page.toNat] (l.part.toNat * 16) (l.data.take j)).length by omega)]
    rw [if_pos (by simp; omega), wsucc (by omega), setI_nat]
    have e1 : (l.data.take j).length = j := by simp; omega
    have := patch_snoc (x := ps[l.page.toNat]) (o := l.part.toNat * 16) (ys := l.data.take j) (y := l.data[j]) (by rw [e1]; omega)
    rw [e1] at this
    rw [this]
    unfold setI
    have e2 : l.data.take j ++ [l.data[j]] = l.data.take (j + 1) := by rw [List.take_add_one, List.getElem?_eq_getElem hjd]; rfl
    rw [e2]
    simp
  · unfold s_l2Sync_l1
    have e : l.data.take 16 = l.data := by rw [← h5, List.take_length]
    rw [if_neg (by simp), e]
    simp only [dkPut, List.getElem?_eq_getElem hlt, Option.getD_some]
theorem s_sync_ok {d : DiskD} (h : DkOk d) (hf : 1048576 < fu) : m_s_l2Sync fu d = some ⟨dkDone d, []⟩ := by
  have hlen : DkLen d 1048576 := ⟨by have := h.hi; omega, fun x hx => by have := h.page x hx; omega, by have := h.loose; omega, fun l hl => by have := (h.in_ l hl).2.2.2.2; omega⟩
  unfold m_s_l2Sync
  rw [s_copy_ok hlen hf]
  simp only [Option.bind_some]
  have st := iter_for (step := s_l2Sync_l2 fu d) (n := d.loose.length) (fu := fu) (r := dkDone d) (fun i => ((i : Int), (d.loose.take i).foldl dkPut d.pages)) (fun i hi => ?_) ?_ (by have := h.loose; omega)
  · have st' : iterO (s_l2Sync_l2 fu d) fu (0, d.pages) = some (dkDone d) := st
    rw [st']; rfl
  · have hx : d.loose[i]? = some d.loose[i] := List.getElem?_eq_getElem hi
    have hps : PsOk d.pages.length ((d.loose.take i).foldl dkPut d.pages) := foldl_ok ⟨rfl, h.page⟩ fun l hl => h.in_ l (List.mem_of_mem_take hl)
    unfold s_l2Sync_l2
    simp only [atI_nat, hx, Option.bind_some, s_inner hps (h.in_ _ (List.getElem_mem hi)) (show 16 < fu by omega)]
    rw [if_pos (by simp; omega), wsucc (by have := h.loose; omega), take_foldl dkPut d.pages hx]
  · unfold s_l2Sync_l2
    simp [dkDone]
theorem cpy_patch {x : List Int} {o : Nat} {ys : List Int} (h : o + ys.length ≤ x.length) : cpyI x (o : Int) (x.length : Int) ys = patch x o ys := by
  have : ((x.length : Int) - (o : Int)).toNat = x.length - o := by omega
  unfold cpyI patch
  rw [this, List.take_of_length_le (l := ys) (by omega)]
  simp
theorem i_done_ok {d : DiskD} (h : DkOk d) (hf : 1048576 < fu) : m_i_Disk_done fu d d.loose = some ⟨dkDone d, []⟩ := by
  have hlen : DkLen d 1048576 := ⟨by have := h.hi; omega, fun x hx => by have := h.page x hx; omega, by have := h.loose; omega, fun l hl => by have := (h.in_ l hl).2.2.2.2; omega⟩
  unfold m_i_Disk_done
  rw [i_copied_ok hlen hf]
  simp only [Option.bind_some]
  have st := iter_for (step := i_Disk_done_l1 fu d.loose) (n := d.loose.length) (fu := fu) (r := dkDone d) (fun i => ((i : Int), (d.loose.take i).foldl dkPut d.pages)) (fun i hi => ?_) ?_ (by have := h.loose; omega)
  · have st' : iterO (i_Disk_done_l1 fu d.loose) fu (0, d.pages) = some (dkDone d) := st
    rw [st']; rfl
  · have hx : d.loose[i]? = some d.loose[i] := List.getElem?_eq_getElem hi
    have hps : PsOk d.pages.length ((d.loose.take i).foldl dkPut d.pages) := foldl_ok ⟨rfl, h.page⟩ fun l hl => h.in_ l (List.mem_of_mem_take hl)
    obtain ⟨h1, h2, h3, h4, h5⟩ := h.in_ _ (List.getElem_mem hi)
    rw [take_foldl dkPut d.pages hx]
    generalize (d.loose.take i).foldl dkPut d.pages = ps at hps ⊢
    generalize d.loose[i] = l at *
    have hlt : l.page.toNat < ps.length := by rw [hps.len]; omega
    have hpx := hps.page _ (List.getElem_mem hlt)
    have hpg : (l.page.toNat : Int) = l.page := by omega
    have hat : atI ps l.page = some ps[l.page.toNat] := by rw [atI_pos h1]; simp [hlt]
    have hidx : IntKind.i64.wrap (16 * l.part) = ((l.part.toNat * 16 : Nat) : Int) := by rw [wr (by omega) (by omega)]; omega
    unfold i_Disk_done_l1
    simp only [atI_nat, hx, Option.bind_some, hat, hidx]
    rw [slcI_nat (by omega) (Nat.le_refl _), if_pos (by simp; omega), wsucc (by have := h.loose; omega)]
    simp only [Option.bind_some]
    rw [cpy_patch (by omega)]
    simp [dkPut, setI, List.getElem?_eq_getElem hlt]
  · unfold i_Disk_done_l1
    simp [dkDone]
end
end Go.Proofs.Ytcngfjmfgeckmaa
namespace Go.Proofs.Ytcngfjmfgeckmaa
open Go
section
variable {fu : Nat}
def By (l : List Int) : Prop := ∀ b, b ∈ l → 0 ≤ b ∧ b < 256
theorem By.app {l m : List Int} (h1 : By l) (h2 : By m) : By (l ++ m) := fun b hb => (List.mem_append.1 hb).elim (h1 b) (h2 b)
theorem u8_rng (x : Int) : 0 ≤ IntKind.u8.wrap x ∧ IntKind.u8.wrap x < 256 := by
  have : IntKind.u8.wrap x = x % 256 := by simp [IntKind.wrap, IntKind.bits, IntKind.signed]
  rw [this]; omega
def byteAt (v : Int) (i : Nat) : Int := IntKind.u8.wrap (v.fdiv (2 ^ (8 * i)))
def bytesBE (v : Int) : Nat → List Int
  | 0 => []
  | n + 1 => byteAt v n :: bytesBE v n
theorem bytesBE_len (v : Int) : ∀ n, (bytesBE v n).length = n
  | 0 => rfl
  | n + 1 => by simp [bytesBE, bytesBE_len v n]
theorem bytesBE_by (v : Int) : ∀ n, By (bytesBE v n)
  | 0 => fun b hb => by cases hb
  | n + 1 => fun b hb => by
    rcases List.mem_cons.1 hb with rfl | hb
    · exact u8_rng _
    · exact bytesBE_by v n b hb
theorem bytes_loop {step : Int × List Int → Option ((Int × List Int) ⊕ List Int)} (v : Int) (hs : ∀ (i : Nat) l, i < 8 → l.length ≤ 1000 → step ((i : Int), l) = some (.inl ((i : Int) - 1, l ++ [byteAt v i]))) (he : ∀ l, step (-1, l) = some (.inr l)) :
    ∀ (n : Nat) (l : List Int) (fu : Nat), n ≤ 8 → l.length + n ≤ 1000 → n < fu → iterO step fu ((n : Int) - 1, l) = some (l ++ bytesBE v n)
  | 0, l, fu, _, _, hf => by
    cases fu with
    | zero => omega
    | succ fu => rw [show ((0 : Nat) : Int) - 1 = -1 by rfl, iter_out (he l)]; simp [bytesBE]
  | n + 1, l, fu, h1, h2, hf => by
    cases fu with
    | zero => omega
    | succ fu =>
      have e : ((n + 1 : Nat) : Int) - 1 = (n : Int) := by omega
      rw [e, iter_step (hs n l (by omega) (by omega)), bytes_loop v hs he n (l ++ [byteAt v n]) fu (by omega) (by simp; omega) (by omega)]
      simp [bytesBE]
theorem app1 {l m : List Int} (h : l.length + m.length ≤ 100000) : appI 1 l m = some (l ++ m) := appI_ok (by omega) (by omega)
theorem byteAt_i {v : Int} {i : Nat} (h : i < 8) : IntKind.u8.wrap (v.fdiv (2 ^ (min (IntKind.i64.wrap (8 * (i : Int))).toNat (IntKind.i64).bits))) = byteAt v i := by
  rw [wr (by omega) (by omega)]
  have : min (8 * (i : Int)).toNat (IntKind.i64).bits = 8 * i := by
    show min (8 * (i : Int)).toNat 64 = 8 * i
    omega
  rw [this]; rfl
theorem put_step {v : Int} {i : Nat} {l : List Int} (hi : i < 8) (hl : l.length ≤ 1000) : (if (decide (0 ≤ (i : Int))) = true then (if 0 ≤ IntKind.i64.wrap (8 * (i : Int)) then (Option.bind (appI 1 l [IntKind.u8.wrap (v.fdiv (2 ^ (min (IntKind.i64.wrap (8 * (i : Int))).toNat (IntKind.i64).bits)))]) fun x0 => some (Sum.inl (IntKind.i64.wrap ((i : Int) - 1), x0))) else none) else some (Sum.inr l)) = (some (.inl ((i : Int) - 1, l ++ [byteAt v i])) : Option ((Int × List Int) ⊕ List Int)) := by
  rw [if_pos (by simp), byteAt_i hi, if_pos (by rw [wr (by omega) (by omega)]; omega), app1 (by simp; omega), wr (by omega) (by omega)]
  rfl
theorem l1Bytes_ok {v : Int} {n : Nat} (hn : n ≤ 8) (hf : 8 < fu) : m_s_l1Bytes fu v (n : Int) = some (bytesBE v n) := by
  unfold m_s_l1Bytes
  rw [wr (by omega) (by omega), bytes_loop v (fun i l hi hl => ?_) (fun l => ?_) n [] fu hn (by simp; omega) (by omega)]
  · simp
  · unfold s_l1Bytes_l1
    have e : IntKind.u64.wrap (IntKind.i64.wrap (8 * (i : Int))) = 8 * (i : Int) := by
      rw [wr (by omega) (by omega)]
      have : IntKind.u64.wrap (8 * (i : Int)) = (8 * (i : Int)) % 18446744073709551616 := by simp [IntKind.wrap, IntKind.bits, IntKind.signed]
      rw [this]; omega
    have e2 : min (8 * (i : Int)).toNat (IntKind.i64).bits = 8 * i := by
      show min (8 * (i : Int)).toNat 64 = 8 * i
      omega
    simp only [e, e2]
    rw [if_pos (by simp), if_pos (by omega), app1 (by simp; omega), wr (by omega) (by omega)]
    rfl
  · unfold s_l1Bytes_l1; simp
def sumB (l : List Int) : Int := l.foldl (fun a b => (IntKind.i64.wrap ((IntKind.i64.wrap ((IntKind.i64.wrap (a * 269)) + (IntKind.i64.wrap b))) + 1)).tmod 65521) 9
theorem s_sum_ok {l : List Int} (hl : l.length ≤ 1048576) (hf : l.length < fu) : m_s_SumBytes fu l = some (sumB l) := by
  unfold m_s_SumBytes
  have := iter_for (step := s_SumBytes_l1 fu l) (n := l.length) (fu := fu) (r := sumB l) (fun i => ((l.take i).foldl (fun a b => (IntKind.i64.wrap ((IntKind.i64.wrap ((IntKind.i64.wrap (a * 269)) + (IntKind.i64.wrap b))) + 1)).tmod 65521) 9, (i : Int))) (fun i hi => ?_) ?_ hf
  · have st : iterO (s_SumBytes_l1 fu l) fu (9, 0) = some (sumB l) := this
    rw [st]; rfl
  · have hx : l[i]? = some l[i] := List.getElem?_eq_getElem hi
    unfold s_SumBytes_l1
    simp only [atI_nat, hx, Option.bind_some]
    rw [if_pos (by simp; omega), wsucc (by omega), take_foldl _ _ hx]
  · unfold s_SumBytes_l1; simp [sumB]
theorem i_sum_ok {l : List Int} (hl : l.length ≤ 1048576) (hf : l.length < fu) : m_i_SumBytes fu l = some (sumB l) := by
  unfold m_i_SumBytes
  have := iter_for (step := i_SumBytes_l1 fu l) (n := l.length) (fu := fu) (r := sumB l) (fun i => ((l.take i).foldl (fun a b => (IntKind.i64.wrap ((IntKind.i64.wrap ((IntKind.i64.wrap (a * 269)) + (IntKind.i64.wrap b))) + 1)).tmod 65521) 9, (i : Int))) (fun i hi => ?_) ?_ hf
  · have st : iterO (i_SumBytes_l1 fu l) fu (9, 0) = some (sumB l) := this
    rw [st]; rfl
  · have hx : l[i]? = some l[i] := List.getElem?_eq_getElem hi
    unfold i_SumBytes_l1
    simp only [atI_nat, hx, Option.bind_some]
    rw [if_pos (by simp; omega), wsucc (by omega), take_foldl _ _ hx]
  · unfold i_SumBytes_l1; simp [sumB]
def badCell (cs : List CellD) (i : Nat) (x : CellD) : Option Int := if inR x.key 0 31 = true ∧ inR x.value 0 9999 = true then (if 0 < i then (match cs[i - 1]? with | some p => if x.key ≤ p.key then some 1 else none | none => none) else none) else some 3
def cellsFault (cs : List CellD) : Int := (findI (badCell cs) 0 cs).getD 0
def pgFault (p : PageD) : Int := if inR p.id 0 7 = true ∧ inR p.lsn 0 1000000 = true then (if 12 < p.cells.length then 2 else cellsFault p.cells) else 3
theorem s_pgFault_ok {p : PageD} (hl : p.cells.length ≤ 1048576) (hf : 1048576 < fu) : m_s_PageFault fu p = some (pgFault p) := by
  unfold m_s_PageFault pgFault s_PageFault_j1 m_s_l1Lsn
  simp only [l1In_ok, Option.bind_some]
  by_cases h1 : inR p.id 0 7 = true
  · by_cases h2 : inR p.lsn 0 1000000 = true
    · simp only [h1, h2, Bool.not_true, Bool.false_eq_true, if_false, Option.bind_some, and_self, if_true]
      have e12 : (12 < (p.cells.length : Int)) ↔ 12 < p.cells.length := by omega
      simp only [decide_eq_true_eq, e12]
      split
      · rfl
      · unfold cellsFault
        rw [iter_findI (xs := p.cells) (badCell p.cells) (fun i x hx => ?_) ?_ (by omega)]
        · cases findI (badCell p.cells) 0 p.cells <;> rfl
        · unfold s_PageFault_l1; simp
        · have hi := (List.getElem?_eq_some_iff.1 hx).1
          unfold s_PageFault_l1 s_PageFault_j2 s_PageFault_j3 badCell m_s_l1Key m_s_l1Value
          simp only [atI_nat, hx, Option.bind_some, l1In_ok]
          rw [if_pos (by simp; omega), wsucc (by omega)]
          cases inR x.key 0 31 <;> cases inR x.value 0 9999 <;> simp
          by_cases h0 : 0 < i
          · have e : IntKind.i64.wrap ((i : Int) - 1) = ((i - 1 : Nat) : Int) := by rw [wr (by omega) (by omega)]; omega
            simp only [h0, if_true, e, atI_nat, List.getElem?_eq_getElem (show i - 1 < p.cells.length by omega), Option.bind_some]
            simp only [decide_eq_true_eq]
            split <;> simp_all
          · simp [h0]
    · have h2' : inR p.lsn 0 1000000 = false := by simpa using h2
      simp [h1, h2']
  · have h1' : inR p.id 0 7 = false := by simpa using h1
    simp [h1']
theorem i_pgFault_ok {p : PageD} (hl : p.cells.length ≤ 1048576) (hf : 1048576 < fu) : m_i_PageFault fu p = some (pgFault p) := by
  unfold m_i_PageFault pgFault i_PageFault_j1 m_i_isLsn
  simp only [within_ok, Option.bind_some]
  by_cases h1 : inR p.id 0 7 = true
  · by_cases h2 : inR p.lsn 0 1000000 = true
    · simp only [h1, h2, Bool.not_true, Bool.false_eq_true, if_false, Option.bind_some, and_self, if_true]
      have e12 : (12 < (p.cells.length : Int)) ↔ 12 < p.cells.length := by omega
      simp only [decide_eq_true_eq, e12]
      split
      · rfl
      · unfold cellsFault m_i_cellsFault
        rw [iter_findI (xs := p.cells) (badCell p.cells) (fun i x hx => ?_) ?_ (by omega)]
        · cases findI (badCell p.cells) 0 p.cells <;> rfl
        · unfold i_cellsFault_l1; simp
        · have hi := (List.getElem?_eq_some_iff.1 hx).1
          unfold i_cellsFault_l1 i_cellsFault_j1 i_cellsFault_j2 badCell m_i_isKey m_i_isValue
          simp only [atI_nat, hx, Option.bind_some, within_ok]
          rw [if_pos (by simp; omega), wsucc (by omega)]
          cases inR x.key 0 31 <;> cases inR x.value 0 9999 <;> simp
          by_cases h0 : 0 < i
          · have e : IntKind.i64.wrap ((i : Int) - 1) = ((i - 1 : Nat) : Int) := by rw [wr (by omega) (by omega)]; omega
            simp only [h0, if_true, e, atI_nat, List.getElem?_eq_getElem (show i - 1 < p.cells.length by omega), Option.bind_some]
            simp only [decide_eq_true_eq]
            split <;> simp_all
          · simp [h0]
    · have h2' : inR p.lsn 0 1000000 = false := by simpa using h2
      simp [h1, h2']
  · have h1' : inR p.id 0 7 = false := by simpa using h1
    simp [h1']
def packC (cs : List CellD) : List Int := cs.flatMap fun c => bytesBE c.key 1 ++ bytesBE c.value 2
def packB (p : PageD) : List Int := bytesBE p.id 1 ++ bytesBE p.lsn 4 ++ bytesBE p.cells.length 1 ++ packC p.cells
def packP (p : PageD) : List Int := let b := packB p ++ List.replicate (46 - (packB p).length) 0; b ++ bytesBE (sumB b) 2
theorem packC_len (cs : List CellD) : (packC cs).length = 3 * cs.length := by
  induction cs with
  | nil => rfl
  | cons c cs ih =>
    have : packC (c :: cs) = bytesBE c.key 1 ++ bytesBE c.value 2 ++ packC cs := by simp [packC]
    rw [this]; simp [bytesBE_len, ih]; omega
theorem packB_len (p : PageD) : (packB p).length = 6 + 3 * p.cells.length := by simp [packB, bytesBE_len, packC_len]; omega
theorem packP_len {p : PageD} (h : p.cells.length ≤ 12) : (packP p).length = 48 := by simp [packP, packB_len, bytesBE_len]; omega
theorem packC_by (cs : List CellD) : By (packC cs) := fun b hb => by
  simp only [packC, List.mem_flatMap] at hb
  obtain ⟨c, _, hc⟩ := hb
  exact (bytesBE_by _ _).app (bytesBE_by _ _) b hc
theorem packP_by (p : PageD) : By (packP p) := by
  have h0 : By (List.replicate (46 - (packB p).length) 0) := fun b hb => by rw [List.eq_of_mem_replicate hb]; omega
  exact (((((bytesBE_by _ _).app (bytesBE_by _ _)).app (bytesBE_by _ _)).app (packC_by _)).app h0).app (bytesBE_by _ _)
theorem packC_snoc {cs : List CellD} {i : Nat} {x : CellD} (hx : cs[i]? = some x) : packC (cs.take (i + 1)) = packC (cs.take i) ++ (bytesBE x.key 1 ++ bytesBE x.value 2) := by
  rw [List.take_add_one, hx]; simp [packC]
theorem packC_take_len (cs : List CellD) (i : Nat) : (packC (cs.take i)).length ≤ 3 * cs.length := by rw [packC_len]; simp; omega
theorem key1 (k : Int) : bytesBE k 1 = [IntKind.u8.wrap k] := by simp [bytesBE, byteAt]
theorem pad_loop {step : List Int → Option (List Int ⊕ List Int)} (hs : ∀ l : List Int, l.length < 46 → step l = some (.inl (l ++ [0]))) (he : ∀ l : List Int, 46 ≤ l.length → step l = some (.inr l)) : ∀ (n : Nat) (l : List Int) (fu : Nat), 46 - l.length = n → n < fu → iterO step fu l = some (l ++ List.replicate n 0)
  | 0, l, fu, h, hf => by
    cases fu with
    | zero => omega
    | succ fu => rw [iter_out (he l (by omega))]; simp
  | n + 1, l, fu, h, hf => by
    cases fu with
    | zero => omega
    | succ fu =>
      rw [iter_step (hs l (by omega)), pad_loop hs he n (l ++ [0]) fu (by simp; omega) (by omega)]
      simp [List.replicate_succ]
theorem s_pack_ok {p : PageD} (h : p.cells.length ≤ 12) (hf : 1048576 < fu) : m_s_l1Pack fu p = some (packP p) := by
  unfold m_s_l1Pack
  rw [show (4 : Int) = ((4 : Nat) : Int) by rfl, show (2 : Int) = ((2 : Nat) : Int) by rfl, l1Bytes_ok (by omega) (by omega)]
  simp only [Option.bind_some]
  rw [app1 (by simp [bytesBE_len])]
  simp only [Option.bind_some]
  rw [app1 (by simp [bytesBE_len])]
  simp only [Option.bind_some]
  have e0 : [IntKind.u8.wrap p.id] ++ bytesBE p.lsn 4 ++ [IntKind.u8.wrap (p.cells.length : Int)] = bytesBE p.id 1 ++ bytesBE p.lsn 4 ++ bytesBE p.cells.length 1 := by rw [key1, key1]
  rw [e0]
  have h1 := iter_for (step := s_l1Pack_l1 fu p) (n := p.cells.length) (fu := fu) (r := packB p) (fun i => ((i : Int), bytesBE p.id 1 ++ bytesBE p.lsn 4 ++ bytesBE p.cells.length 1 ++ packC (p.cells.take i))) (fun i hi => ?_) ?_ (by omega)
  · have h1' : iterO (s_l1Pack_l1 fu p) fu (0, bytesBE p.id 1 ++ bytesBE p.lsn 4 ++ bytesBE p.cells.length 1) = some (packB p) := by simpa [packC] using h1
    rw [h1']
    simp only [Option.bind_some]
    have hb := packB_len p
    rw [pad_loop (fun l hl => ?_) (fun l hl => ?_) (46 - (packB p).length) (packB p) fu rfl (by omega)]
    · simp only [Option.bind_some]
      rw [s_sum_ok (by simp; omega) (by simp; omega)]
      simp only [Option.bind_some]
      rw [l1Bytes_ok (by omega) (by omega)]
      simp only [Option.bind_some]
      rw [app1 (by simp [bytesBE_len]; omega)]
      rfl
    · unfold s_l1Pack_l2
      rw [if_pos (by simp; omega), app1 (by simp; omega)]; rfl
    · unfold s_l1Pack_l2
      rw [if_neg (by simp; omega)]
  · have hx : p.cells[i]? = some p.cells[i] := List.getElem?_eq_getElem hi
    have hl := packC_take_len p.cells i
    unfold s_l1Pack_l1
    simp only [atI_nat, hx, Option.bind_some]
    rw [show (2 : Int) = ((2 : Nat) : Int) by rfl, l1Bytes_ok (by omega) (by omega), app1 (by simp [bytesBE_len]; omega)]
    simp only [Option.bind_some]
    rw [app1 (by simp [bytesBE_len]; omega), if_pos (by simp; omega), wsucc (by omega), packC_snoc hx, key1 p.cells[i].key]
    simp
  · unfold s_l1Pack_l1; simp [packB]
theorem i_put1 {v : Int} {n : Nat} {l : List Int} {step : Int × List Int → Option ((Int × List Int) ⊕ List Int)} (hst : ∀ z : Int × List Int, step z = (if (decide (0 ≤ z.1)) = true then (if 0 ≤ IntKind.i64.wrap (8 * z.1) then (Option.bind (appI 1 z.2 [IntKind.u8.wrap (v.fdiv (2 ^ (min (IntKind.i64.wrap (8 * z.1)).toNat (IntKind.i64).bits)))]) fun x0 => some (Sum.inl (IntKind.i64.wrap (z.1 - 1), x0))) else none) else some (Sum.inr z.2)))
    (hn : n ≤ 8) (hl : l.length + n ≤ 1000) (hf : 8 < fu) : iterO step fu (IntKind.i64.wrap ((n : Int) - 1), l) = some (l ++ bytesBE v n) := by
  rw [wr (by omega) (by omega), bytes_loop v (fun i l hi hl => by rw [hst]; exact put_step hi hl) (fun l => by rw [hst]; simp) n l fu hn hl (by omega)]
theorem i_pack_ok {p : PageD} (h : p.cells.length ≤ 12) (hf : 1048576 < fu) : m_i_Page_pack fu p = some (packP p) := by
  unfold m_i_Page_pack
  have q1 := i_put1 (fu := fu) (v := p.id) (n := 1) (l := []) (step := i_Page_pack_l1 fu p) (fun z => rfl) (by omega) (by simp) (by omega)
  have q2 := i_put1 (fu := fu) (v := p.lsn) (n := 4) (l := [] ++ bytesBE p.id 1) (step := i_Page_pack_l2 fu p) (fun z => rfl) (by omega) (by simp [bytesBE_len]) (by omega)
  have q3 := i_put1 (fu := fu) (v := p.cells.length) (n := 1) (l := [] ++ bytesBE p.id 1 ++ bytesBE p.lsn 4) (step := i_Page_pack_l3 fu p) (fun z => rfl) (by omega) (by simp [bytesBE_len]) (by omega)
  have q1' : iterO (i_Page_pack_l1 fu p) fu (IntKind.i64.wrap (1 - 1), []) = some ([] ++ bytesBE p.id 1) := q1
  have q2' : iterO (i_Page_pack_l2 fu p) fu (IntKind.i64.wrap (4 - 1), [] ++ bytesBE p.id 1) = some ([] ++ bytesBE p.id 1 ++ bytesBE p.lsn 4) := q2
  have q3' : iterO (i_Page_pack_l3 fu p) fu (IntKind.i64.wrap (1 - 1), [] ++ bytesBE p.id 1 ++ bytesBE p.lsn 4) = some ([] ++ bytesBE p.id 1 ++ bytesBE p.lsn 4 ++ bytesBE p.cells.length 1) := q3
  rw [q1']
  simp only [Option.bind_some]
  rw [q2']
  simp only [Option.bind_some]
  rw [q3']
  simp only [Option.bind_some, List.nil_append]
  have h1 := iter_for (step := i_Page_pack_l6 fu p) (n := p.cells.length) (fu := fu) (r := packB p) (fun i => ((i : Int), bytesBE p.id 1 ++ bytesBE p.lsn 4 ++ bytesBE p.cells.length 1 ++ packC (p.cells.take i))) (fun i hi => ?_) ?_ (by omega)
  · have h1' : iterO (i_Page_pack_l6 fu p) fu (0, bytesBE p.id 1 ++ bytesBE p.lsn 4 ++ bytesBE p.cells.length 1) = some (packB p) := by simpa [packC] using h1
    rw [h1']
    simp only [Option.bind_some]
    have hb := packB_len p
    have hz : appZ 1 (packB p) (IntKind.i64.wrap (46 - ((packB p).length : Int))) 0 = some (packB p ++ List.replicate (46 - (packB p).length) 0) := by
      rw [wr (by omega) (by omega)]
      have e : (46 - ((packB p).length : Int)).toNat = 46 - (packB p).length := by omega
      simp only [appZ, roomI, e]
      rw [if_pos ⟨by omega, by simp; omega⟩]
    rw [hz]
    simp only [Option.bind_some]
    rw [i_sum_ok (by simp; omega) (by simp; omega)]
    simp only [Option.bind_some]
    have q4 := i_put1 (fu := fu) (v := sumB (packB p ++ List.replicate (46 - (packB p).length) 0)) (n := 2) (l := packB p ++ List.replicate (46 - (packB p).length) 0) (step := i_Page_pack_l7 fu (sumB (packB p ++ List.replicate (46 - (packB p).length) 0))) (fun z => rfl) (by omega) (by simp; omega) (by omega)
    have q4' : iterO (i_Page_pack_l7 fu (sumB (packB p ++ List.replicate (46 - (packB p).length) 0))) fu (IntKind.i64.wrap (2 - 1), packB p ++ List.replicate (46 - (packB p).length) 0) = some (packP p) := q4
    rw [q4']; rfl
  · have hx : p.cells[i]? = some p.cells[i] := List.getElem?_eq_getElem hi
    have hl := packC_take_len p.cells i
    generalize hacc : bytesBE p.id 1 ++ bytesBE p.lsn 4 ++ bytesBE (p.cells.length : Int) 1 ++ packC (p.cells.take i) = acc
    have hal : acc.length ≤ 100 := by rw [← hacc]; simp [bytesBE_len]; omega
    have r1 := i_put1 (fu := fu) (v := p.cells[i].key) (n := 1) (l := acc) (step := i_Page_pack_l4 fu p.cells[i]) (fun z => rfl) (by omega) (by omega) (by omega)
    have r2 := i_put1 (fu := fu) (v := p.cells[i].value) (n := 2) (l := acc ++ bytesBE p.cells[i].key 1) (step := i_Page_pack_l5 fu p.cells[i]) (fun z => rfl) (by omega) (by simp [bytesBE_len]; omega) (by omega)
    have r1' : iterO (i_Page_pack_l4 fu p.cells[i]) fu (IntKind.i64.wrap (1 - 1), acc) = some (acc ++ bytesBE p.cells[i].key 1) := r1
    have r2' : iterO (i_Page_pack_l5 fu p.cells[i]) fu (IntKind.i64.wrap (2 - 1), acc ++ bytesBE p.cells[i].key 1) = some (acc ++ bytesBE p.cells[i].key 1 ++ bytesBE p.cells[i].value 2) := r2
    unfold i_Page_pack_l6
    simp only [atI_nat, hx, Option.bind_some, r1', r2']
    rw [if_pos (by simp; omega), wsucc (by omega), packC_snoc hx, ← List.append_assoc, hacc]
    simp
  · unfold i_Page_pack_l6; simp [packB]
end
end Go.Proofs.Ytcngfjmfgeckmaa
namespace Go.Proofs.Ytcngfjmfgeckmaa
open Go
section
variable {fu : Nat}
def be (l : List Int) : Int := l.foldl (fun a b => a * 256 + b) 0
theorem be_take_rng : ∀ {l : List Int}, By l → 0 ≤ be l ∧ be l < 256 ^ l.length := fun {l} => by
  have key : ∀ (l : List Int) (a : Int) (k : Nat), By l → 0 ≤ a → a < 256 ^ k → 0 ≤ l.foldl (fun a b => a * 256 + b) a ∧ l.foldl (fun a b => a * 256 + b) a < 256 ^ (k + l.length) := fun l => by
    induction l with
    | nil => intro a k _ h1 h2; exact ⟨h1, h2⟩
    | cons b l ih =>
      intro a k hb h1 h2
      obtain ⟨b1, b2⟩ := hb b (by simp)
      have e : (256 : Int) ^ (k + 1) = 256 ^ k * 256 := Int.pow_succ _ _
      have := ih (a * 256 + b) (k + 1) (fun c hc => hb c (by simp [hc])) (by omega) (by rw [e]; omega)
      rw [show k + (b :: l).length = k + 1 + l.length by simp; omega]
      exact this
  intro hb
  have := key l 0 0 hb (by omega) (by simp)
  simpa [be] using this
theorem be_rng {l : List Int} (hb : By l) (hl : l.length ≤ 4) : 0 ≤ be l ∧ be l < 4294967296 := by
  obtain ⟨h1, h2⟩ := be_take_rng hb
  refine ⟨h1, Int.lt_of_lt_of_le h2 ?_⟩
  match l.length, hl with
  | 0, _ => decide
  | 1, _ => decide
  | 2, _ => decide
  | 3, _ => decide
  | 4, _ => decide
theorem By.drop {l : List Int} (h : By l) (n : Nat) : By (l.drop n) := fun b hb => h b (List.mem_of_mem_drop hb)
theorem By.take {l : List Int} (h : By l) (n : Nat) : By (l.take n) := fun b hb => h b (List.mem_of_mem_take hb)
theorem seg_get {x : List Int} {a n j : Nat} (hj : j < n) : ((x.drop a).take n)[j]? = x[a + j]? := by
  rw [List.getElem?_take, if_pos hj, List.getElem?_drop]
theorem s_take_ok {x : List Int} {a n : Nat} (hb : By x) (h : a + n ≤ x.length) (hn : n ≤ 4) (hx : x.length ≤ 1048576) (hf : 8 < fu) : m_s_l1Take fu x (a : Int) (n : Int) = some (be ((x.drop a).take n)) := by
  unfold m_s_l1Take
  have hsl : ((x.drop a).take n).length = n := by simp; omega
  have st := iter_for (step := s_l1Take_l1 fu n x a) (n := n) (fu := fu) (r := be ((x.drop a).take n)) (fun j => (be (((x.drop a).take n).take j), (j : Int))) (fun j hj => ?_) ?_ (by omega)
  · have st' : iterO (s_l1Take_l1 fu n x a) fu (0, 0) = some (be ((x.drop a).take n)) := by simpa [be] using st
    rw [st']; rfl
  · have hg : ((x.drop a).take n)[j]? = some x[a + j] := by rw [seg_get hj]; exact List.getElem?_eq_getElem (by omega)
    obtain ⟨b1, b2⟩ := hb x[a + j] (List.getElem_mem (by omega))
    have hr := be_rng (((hb.drop a).take n).take j) (by simp; omega)
    have hidx : IntKind.i64.wrap ((a : Int) + (j : Int)) = ((a + j : Nat) : Int) := by rw [wr (by omega) (by omega)]; omega
    have hnext : be (((x.drop a).take n).take (j + 1)) = be (((x.drop a).take n).take j) * 256 + x[a + j] := by unfold be; rw [take_foldl _ _ hg]
    unfold s_l1Take_l1
    simp only [hidx, atI_nat, List.getElem?_eq_getElem (show a + j < x.length by omega), Option.bind_some]
    rw [if_pos (by simp; omega), wsucc (by omega), hnext]
    rw [wr (x := be (((x.drop a).take n).take j) * 256) (by omega) (by omega), wr (x := x[a + j]) (by omega) (by omega), wr (by omega) (by omega)]
  · unfold s_l1Take_l1
    rw [if_neg (by simp)]
    rw [List.take_of_length_le (by omega)]
theorem or_byte {a b : Int} (h1 : 0 ≤ a) (h2 : a < 4294967296) (b1 : 0 ≤ b) (b2 : b < 256) : bitA .or .i64 (a * 256) b = a * 256 + b := by
  obtain ⟨m, rfl⟩ := Int.eq_ofNat_of_zero_le h1
  obtain ⟨k, rfl⟩ := Int.eq_ofNat_of_zero_le b1
  have e : m * 256 ||| k = m * 256 + k := by
    have := Nat.two_pow_add_eq_or_of_lt (b := k) (i := 8) (by omega) m
    rw [show 2 ^ 8 * m = m * 256 by omega] at this
    exact this.symm
  have h3 : ((m : Int) * 256) = ((m * 256 : Nat) : Int) := by omega
  have hm : m * 256 < 2 ^ 64 := by omega
  have hk : k < 2 ^ 64 := by omega
  have key : (BitVec.ofInt 64 ((m * 256 : Nat) : Int) ||| BitVec.ofInt 64 (k : Int)).toNat = m * 256 + k := by
    rw [BitVec.toNat_or, BitVec.ofInt_natCast, BitVec.ofInt_natCast, BitVec.toNat_ofNat, BitVec.toNat_ofNat, Nat.mod_eq_of_lt hm, Nat.mod_eq_of_lt hk, e]
  show IntKind.i64.wrap (((BitVec.ofInt 64 ((m : Int) * 256) ||| BitVec.ofInt 64 (k : Int)).toNat : Nat) : Int) = _
  rw [h3, key, wr (by omega) (by omega)]
  omega
theorem i_take_ok {l : List Int} (hb : By l) (hl : l.length ≤ 4) (hf : 8 < fu) : m_i_take fu l = some (be l) := by
  unfold m_i_take
  have st := iter_for (step := i_take_l1 fu l) (n := l.length) (fu := fu) (r := be l) (fun j => (be (l.take j), (j : Int))) (fun j hj => ?_) ?_ (by omega)
  · have st' : iterO (i_take_l1 fu l) fu (0, 0) = some (be l) := by simpa [be] using st
    rw [st']; rfl
  · have hg : l[j]? = some l[j] := List.getElem?_eq_getElem hj
    obtain ⟨b1, b2⟩ := hb l[j] (List.getElem_mem hj)
    have hr := be_rng (hb.take j) (by simp; omega)
    have hnext : be (l.take (j + 1)) = be (l.take j) * 256 + l[j] := by unfold be; rw [take_foldl _ _ hg]
    have e8 : (2 : Int) ^ (min (8 : Int).toNat (IntKind.i64).bits) = 256 := by decide
    unfold i_take_l1
    simp only [atI_nat, hg, Option.bind_some, e8]
    rw [if_pos (by simp; omega), if_pos (by omega), wsucc (by omega), hnext]
    rw [wr (x := be (l.take j) * 256) (by omega) (by omega), wr (x := l[j]) (by omega) (by omega), or_byte hr.1 hr.2 b1 b2]
  · unfold i_take_l1
    simp
def cellAt' (x : List Int) (i : Nat) : CellD := ⟨(x[6 + 3 * i]?).getD 0, be ((x.drop (7 + 3 * i)).take 2)⟩
def cellN (x : List Int) : Nat := min 13 ((x[5]?).getD 0).toNat
def celsOf (x : List Int) : List CellD := (List.range (cellN x)).map (cellAt' x)
def unpk (x : List Int) : PageResultD :=
  if be ((x.drop 46).take 2) ≠ sumB (x.take 46) then ⟨6, ⟨0, 0, []⟩⟩
  else if pgFault ⟨(x[0]?).getD 0, be ((x.drop 1).take 4), celsOf x⟩ = 0 ∧ packP ⟨(x[0]?).getD 0, be ((x.drop 1).take 4), celsOf x⟩ = x then ⟨0, ⟨(x[0]?).getD 0, be ((x.drop 1).take 4), celsOf x⟩⟩ else ⟨5, ⟨0, 0, []⟩⟩
theorem bytesStr_data (l : List Int) : (bytesStr l).data.toList = l.map fun m => UInt8.ofNat m.toNat := by
  have key : ∀ (l : List Int) (r : ByteArray), (l.foldl (fun r m => r.push (UInt8.ofNat m.toNat)) r).data.toList = r.data.toList ++ l.map fun m => UInt8.ofNat m.toNat := fun l => by
    induction l with
    | nil => intro r; simp
    | cons a l ih => intro r; rw [List.foldl_cons, ih]; simp [ByteArray.push]
  unfold bytesStr
  rw [key]
  rfl
theorem bytesStr_inj {l m : List Int} (hl : By l) (hm : By m) : bytesStr l = bytesStr m ↔ l = m := by
  refine ⟨fun h => ?_, fun h => by rw [h]⟩
  have h1 := congrArg (fun r : ByteArray => r.data.toList) h
  simp only [bytesStr_data] at h1
  have key : ∀ (l m : List Int), By l → By m → (l.map fun m => UInt8.ofNat m.toNat) = (m.map fun m => UInt8.ofNat m.toNat) → l = m := fun l => by
    induction l with
    | nil => intro m _ _ h; cases m with | nil => rfl | cons => cases h
    | cons a l ih =>
      intro m hl hm h
      cases m with
      | nil => cases h
      | cons b m =>
        simp only [List.map_cons, List.cons.injEq] at h
        obtain ⟨a1, a2⟩ := hl a (by simp)
        obtain ⟨b1, b2⟩ := hm b (by simp)
        have h3 := congrArg UInt8.toNat h.1
        simp only [UInt8.toNat_ofNat'] at h3
        have : a = b := by omega
        rw [this, ih m (fun c hc => hl c (by simp [hc])) (fun c hc => hm c (by simp [hc])) h.2]
  exact key l m hl hm h1
theorem eqLoop_ok {a b : List Int} (ha : a.length ≤ 1048576) (hf : 1048576 < fu) : i_UnpackPage_j1 fu a b = some (decide (a = b)) := by
  unfold i_UnpackPage_j1
  by_cases hl : a.length = b.length
  · have e : ¬ ((a.length : Int) ≠ (b.length : Int)) := by omega
    simp only [e, decide_false, Bool.false_eq_true, if_false]
    rw [iter_findI (xs := a) (fun i x => if b[i]? = some x then none else some false) (fun i x hx => ?_) ?_ (by omega)]
    · have key : ∀ (r : List Int) (i : Nat), (∀ j, r[j]? = a[i + j]?) → i + r.length = a.length → (findI (fun i (x : Int) => if b[i]? = some x then none else some false) i r = none ∧ r = b.drop i) ∨ (findI (fun i (x : Int) => if b[i]? = some x then none else some false) i r = some false ∧ r ≠ b.drop i) := fun r => by
        induction r with
        | nil => intro i _ h2; left; exact ⟨rfl, by simp at h2; rw [List.drop_of_length_le (by omega)]⟩
        | cons x r ih =>
          intro i h1 h2
          simp only [List.length_cons] at h2
          have hd : b.drop i = b[i] :: b.drop (i + 1) := List.drop_eq_getElem_cons (by omega)
          have hbi : b[i]? = some b[i] := List.getElem?_eq_getElem (by omega)
          simp only [findI, hbi, Option.some.injEq]
          by_cases hx : b[i] = x
          · rw [if_pos hx]
            rcases ih (i + 1) (fun j => by have := h1 (j + 1); simp only [List.getElem?_cons_succ] at this; rw [this]; congr 1; omega) (by omega) with ⟨k1, k2⟩ | ⟨k1, k2⟩
            · exact .inl ⟨k1, by rw [hd, hx]; exact congrArg (List.cons x) k2⟩
            · exact .inr ⟨k1, by rw [hd]; intro hq; exact k2 (List.cons.inj hq).2⟩
          · rw [if_neg hx]
            exact .inr ⟨rfl, by rw [hd]; intro hq; exact hx (List.cons.inj hq).1.symm⟩
      rcases key a 0 (fun j => by simp) (by simp) with ⟨k1, k2⟩ | ⟨k1, k2⟩
      · rw [k1]
        have : a = b := by simpa using k2
        simp [this]
      · rw [k1]
        have : ¬ a = b := by simpa using k2
        simp [this]
    · unfold i_UnpackPage_l2; simp
    · have hi := (List.getElem?_eq_some_iff.1 hx).1
      unfold i_UnpackPage_l2
      simp only [atI_nat, hx, Option.bind_some, List.getElem?_eq_getElem (show i < b.length by omega)]
      rw [if_pos (by simp; omega), wsucc (by omega)]
      simp only [decide_eq_true_eq, Option.some.injEq]
      by_cases hq : x = b[i]
      · rw [if_neg (by simpa using hq), if_pos hq.symm]
      · rw [if_pos hq, if_neg (fun h => hq h.symm)]
  · have e : ((a.length : Int) ≠ (b.length : Int)) := by omega
    have e2 : ¬ a = b := fun h => hl (by rw [h])
    simp [e, e2]
section
variable {x : List Int}
theorem head_ok (hx : x.length = 48) (hb : By x) (i : Nat) (hi : i < 48) : x[i]? = some ((x[i]?).getD 0) ∧ 0 ≤ (x[i]?).getD 0 ∧ (x[i]?).getD 0 < 256 := by
  have := List.getElem?_eq_getElem (show i < x.length by omega)
  rw [this]
  exact ⟨rfl, hb _ (List.getElem_mem (by omega))⟩
theorem s_cells_ok (hx : x.length = 48) (hb : By x) (hf : 1048576 < fu) : iterO (s_UnpackPage_l1 fu x) fu (0, []) = some (celsOf x) := by
  obtain ⟨a1, a2, a3⟩ := head_ok hx hb 5 (by omega)
  have e5 : atI x 5 = some ((x[5]?).getD 0) := by rw [show (5 : Int) = ((5 : Nat) : Int) by rfl, atI_nat]; exact a1
  have hn : cellN x ≤ 13 := Nat.min_le_left _ _
  have st := iter_for (step := s_UnpackPage_l1 fu x) (n := cellN x) (fu := fu) (r := celsOf x) (fun i => ((i : Int), (List.range i).map (cellAt' x))) (fun i hi => ?_) ?_ (by omega)
  · exact st
  · have hi13 : i < 13 := by omega
    have hi5 : i < ((x[5]?).getD 0).toNat := by unfold cellN at hi; omega
    have h3 : IntKind.i64.wrap (3 * (i : Int)) = 3 * i := wr (by omega) (by omega)
    have h6 : IntKind.i64.wrap (6 + 3 * (i : Int)) = ((6 + 3 * i : Nat) : Int) := by rw [wr (by omega) (by omega)]; omega
    have h7 : IntKind.i64.wrap (7 + 3 * (i : Int)) = ((7 + 3 * i : Nat) : Int) := by rw [wr (by omega) (by omega)]; omega
    have hg := List.getElem?_eq_getElem (show 6 + 3 * i < x.length by omega)
    obtain ⟨b2, b3⟩ := hb _ (List.getElem_mem (show 6 + 3 * i < x.length by omega))
    unfold s_UnpackPage_l1 s_UnpackPage_j1
    simp only [e5, Option.bind_some, h3, h6, h7, atI_nat, hg]
    rw [wr (x := (x[5]?).getD 0) (by omega) (by omega), wr (x := 9 + 3 * (i : Int)) (by omega) (by omega), if_pos (by simp; omega)]
    simp only [Option.bind_some]
    rw [if_pos (by simp; omega), show (2 : Int) = ((2 : Nat) : Int) by rfl, s_take_ok hb (by omega) (by omega) (by omega) (by omega)]
    simp only [Option.bind_some]
    rw [appI_ok (by simp; omega) (by simp; omega), wsucc (by omega), wr (x := x[6 + 3 * i]) (by omega) (by omega)]
    rw [List.range_succ, List.map_append]
    simp only [List.map_cons, List.map_nil, cellAt', hg, Option.getD_some, Option.bind_some]
  · unfold s_UnpackPage_l1 s_UnpackPage_j1
    simp only [e5, Option.bind_some]
    rw [wr (x := (x[5]?).getD 0) (by omega) (by omega), wr (x := 3 * ((cellN x : Nat) : Int)) (by omega) (by omega), wr (x := 9 + 3 * ((cellN x : Nat) : Int)) (by omega) (by omega)]
    by_cases hq : ((cellN x : Nat) : Int) < (x[5]?).getD 0
    · have : cellN x = 13 := by unfold cellN at hq ⊢; omega
      rw [if_pos (by simpa using hq)]
      simp [this, celsOf]
    · rw [if_neg (by simpa using hq)]
      simp [celsOf]
theorem i_cells_ok (hx : x.length = 48) (hb : By x) (hf : 1048576 < fu) : iterO (i_UnpackPage_l1 fu ((x[5]?).getD 0) x) fu (0, 0, 0, 0, []) = some (.inl (0, 0, 0, celsOf x)) := by
  obtain ⟨a1, a2, a3⟩ := head_ok hx hb 5 (by omega)
  have hn : cellN x ≤ 13 := Nat.min_le_left _ _
  have hm : (if 13 < IntKind.i64.wrap ((x[5]?).getD 0) then (13 : Int) else IntKind.i64.wrap ((x[5]?).getD 0)) = ((cellN x : Nat) : Int) := by
    rw [wr (by omega) (by omega)]
    unfold cellN
    split <;> omega
  have st := iter_for (step := i_UnpackPage_l1 fu ((x[5]?).getD 0) x) (n := cellN x) (fu := fu) (r := .inl (0, 0, 0, celsOf x)) (fun i => ((i : Int), 0, 0, 0, (List.range i).map (cellAt' x))) (fun i hi => ?_) ?_ (by omega)
  · exact st
  · have h3 : IntKind.i64.wrap (3 * (i : Int)) = 3 * i := wr (by omega) (by omega)
    have h6 : IntKind.i64.wrap (6 + 3 * (i : Int)) = ((6 + 3 * i : Nat) : Int) := by rw [wr (by omega) (by omega)]; omega
    have h7 : IntKind.i64.wrap (((6 + 3 * i : Nat) : Int) + 1) = ((7 + 3 * i : Nat) : Int) := by rw [wr (by omega) (by omega)]; omega
    have h9 : IntKind.i64.wrap (((6 + 3 * i : Nat) : Int) + 3) = ((9 + 3 * i : Nat) : Int) := by rw [wr (by omega) (by omega)]; omega
    obtain ⟨b1, b2, b3⟩ := head_ok hx hb (6 + 3 * i) (by omega)
    have s1 : (x.drop (6 + 3 * i)).take (7 + 3 * i - (6 + 3 * i)) = [(x[6 + 3 * i]?).getD 0] := by
      rw [show 7 + 3 * i - (6 + 3 * i) = 1 by omega, List.drop_eq_getElem_cons (show 6 + 3 * i < x.length by omega)]
      simp only [List.take_succ_cons, List.take_zero, List.getElem?_eq_getElem (show 6 + 3 * i < x.length by omega), Option.getD_some]
    have s2 : (x.drop (7 + 3 * i)).take (9 + 3 * i - (7 + 3 * i)) = (x.drop (7 + 3 * i)).take 2 := by rw [show 9 + 3 * i - (7 + 3 * i) = 2 by omega]
    unfold i_UnpackPage_l1
    simp only [hm, h3, h6, h7, h9]
    rw [if_pos (by simp; omega), if_neg (by simp; omega), slcI_nat (by omega) (by omega), slcI_nat (by omega) (by omega), s1, s2]
    simp only [Option.bind_some]
    rw [i_take_ok (fun b hq => by rw [List.mem_singleton.1 hq]; exact ⟨b2, b3⟩) (by simp) (by omega), i_take_ok ((hb.drop _).take _) (by simp; omega) (by omega)]
    simp only [Option.bind_some]
    rw [appI_ok (by simp; omega) (by simp; omega), wsucc (by omega)]
    rw [List.range_succ, List.map_append]
    simp [cellAt', be]
  · unfold i_UnpackPage_l1
    simp only [hm]
    rw [if_neg (by simp)]
    rfl
theorem cellsOf_len : (celsOf x).length ≤ 13 := by simp [celsOf, cellN]; omega
theorem s_unpk_ok (hx : x.length = 48) (hb : By x) (hf : 1048576 < fu) : m_s_UnpackPage fu x = some (unpk x) := by
  obtain ⟨a1, a2, a3⟩ := head_ok hx hb 0 (by omega)
  have e0 : atI x 0 = some ((x[0]?).getD 0) := by rw [show (0 : Int) = ((0 : Nat) : Int) by rfl, atI_nat]; exact a1
  have hcl := cellsOf_len (x := x)
  unfold m_s_UnpackPage unpk
  rw [if_neg (by simp [hx]), show (0 : Int) = ((0 : Nat) : Int) by rfl, show (46 : Int) = ((46 : Nat) : Int) by rfl, slcI_nat (by omega) (by omega), show (2 : Int) = ((2 : Nat) : Int) by rfl, s_take_ok hb (by omega) (by omega) (by omega) (by omega)]
  simp only [Option.bind_some, List.drop_zero, Nat.sub_zero]
  rw [s_sum_ok (by simp; omega) (by simp; omega)]
  simp only [Option.bind_some, decide_eq_true_eq]
  split
  · rfl
  · rw [show ((0 : Nat) : Int) = (0 : Int) by rfl, e0]
    simp only [Option.bind_some]
    rw [show (1 : Int) = ((1 : Nat) : Int) by rfl, show (4 : Int) = ((4 : Nat) : Int) by rfl, s_take_ok hb (by omega) (by omega) (by omega) (by omega)]
    simp only [Option.bind_some]
    rw [s_cells_ok hx hb hf]
    simp only [Option.bind_some]
    rw [wr (x := (x[0]?).getD 0) (by omega) (by omega)]
    unfold s_UnpackPage_j2
    rw [wr (x := (x[0]?).getD 0) (by omega) (by omega), s_pgFault_ok (by show (celsOf x).length ≤ _; omega) hf]
    simp only [Option.bind_some, decide_eq_true_eq]
    generalize be ((x.drop 1).take 4) = lsn
    by_cases h0 : pgFault ⟨(x[0]?).getD 0, lsn, celsOf x⟩ = 0
    · have h12 : (celsOf x).length ≤ 12 := by
        unfold pgFault at h0
        split at h0
        · split at h0
          · omega
          · rename_i h; exact Nat.not_lt.1 h
        · omega
      rw [if_neg (by simpa using h0), s_pack_ok h12 hf]
      simp only [Option.bind_some, ne_eq, bytesStr_inj (packP_by _) hb]
      by_cases h1 : packP ⟨(x[0]?).getD 0, lsn, celsOf x⟩ = x
      · simp [h0, h1]
      · simp [h0, h1]
    · rw [if_pos h0]
      simp [h0]
theorem i_unpk_ok (hx : x.length = 48) (hb : By x) (hf : 1048576 < fu) : m_i_UnpackPage fu x = some (unpk x) := by
  obtain ⟨a1, a2, a3⟩ := head_ok hx hb 0 (by omega)
  obtain ⟨c1, c2, c3⟩ := head_ok hx hb 5 (by omega)
  have e5 : atI x 5 = some ((x[5]?).getD 0) := by rw [show (5 : Int) = ((5 : Nat) : Int) by rfl, atI_nat]; exact c1
  have hcl := cellsOf_len (x := x)
  have s0 : slcI x 46 (x.length : Int) = some ((x.drop 46).take 2) := by
    rw [show (46 : Int) = ((46 : Nat) : Int) by rfl, slcI_nat (by omega) (Nat.le_refl _), hx]
  have s1 : slcI x 0 46 = some (x.take 46) := by
    rw [show (0 : Int) = ((0 : Nat) : Int) by rfl, show (46 : Int) = ((46 : Nat) : Int) by rfl, slcI_nat (by omega) (by omega)]; simp
  have s2 : slcI x 0 1 = some [(x[0]?).getD 0] := by
    rw [show (0 : Int) = ((0 : Nat) : Int) by rfl, show (1 : Int) = ((1 : Nat) : Int) by rfl, slcI_nat (by omega) (by omega), List.drop_zero]
    congr 1
    match x, hx with
    | a :: x, _ => rfl
  have s3 : slcI x 1 5 = some ((x.drop 1).take 4) := by
    rw [show (1 : Int) = ((1 : Nat) : Int) by rfl, show (5 : Int) = ((5 : Nat) : Int) by rfl, slcI_nat (by omega) (by omega)]
  unfold m_i_UnpackPage unpk
  rw [if_neg (by simp [hx]), s0, s1, s2, s3, e5]
  simp only [Option.bind_some]
  rw [i_take_ok ((hb.drop _).take _) (by simp; omega) (by omega), i_sum_ok (by simp; omega) (by simp; omega)]
  simp only [Option.bind_some, decide_eq_true_eq]
  split
  · rfl
  · rw [i_take_ok (fun b hq => by rw [List.mem_singleton.1 hq]; exact ⟨a2, a3⟩) (by simp) (by omega), i_take_ok ((hb.drop _).take _) (by simp; omega) (by omega)]
    simp only [Option.bind_some]
    rw [i_cells_ok hx hb hf]
    simp only [Option.bind_some, Sum.elim_inl]
    have e1 : be [(x[0]?).getD 0] = (x[0]?).getD 0 := by simp [be]
    rw [e1]
    unfold i_UnpackPage_j2
    rw [i_pgFault_ok (by show (celsOf x).length ≤ _; omega) hf]
    simp only [Option.bind_some, decide_eq_true_eq]
    generalize be ((x.drop 1).take 4) = lsn
    by_cases h0 : pgFault ⟨(x[0]?).getD 0, lsn, celsOf x⟩ = 0
    · have h12 : (celsOf x).length ≤ 12 := by
        unfold pgFault at h0
        split at h0
        · split at h0
          · omega
          · rename_i h; exact Nat.not_lt.1 h
        · omega
      rw [if_neg (by simpa using h0), i_pack_ok h12 hf]
      simp only [Option.bind_some]
      rw [eqLoop_ok (by rw [packP_len h12]; omega) hf]
      by_cases h1 : packP ⟨(x[0]?).getD 0, lsn, celsOf x⟩ = x
      · simp [h0, h1]
      · simp [h0, h1]
    · rw [if_pos h0]
      simp [h0]
end
end
end Go.Proofs.Ytcngfjmfgeckmaa
namespace Go.Proofs.Ytcngfjmfgeckmaa
open Go
section
variable {fu : Nat}
structure DkBy (d : DiskD) : Prop where
  page : ∀ x, x ∈ d.pages → By x
  data : ∀ l, l ∈ d.loose → By l.data
theorem patch_by {x ys : List Int} {o : Nat} (h1 : By x) (h2 : By ys) : By (patch x o ys) := ((h1.take _).app h2).app (h1.drop _)
theorem foldl_by : ∀ {ls : List LooseD} {ps : List (List Int)}, (∀ x, x ∈ ps → By x) → (∀ l, l ∈ ls → By l.data) → ∀ x, x ∈ ls.foldl dkPut ps → By x
  | [], ps, hp, _ => hp
  | l :: ls, ps, hp, hl => by
    rw [List.foldl_cons]
    refine foldl_by (fun x hx => ?_) fun l' h => hl l' (by simp [h])
    rcases List.mem_or_eq_of_mem_set hx with hx | rfl
    · exact hp x hx
    · refine patch_by ?_ (hl l (by simp))
      cases hq : ps[l.page.toNat]? with
      | none => intro b hb; cases hb
      | some y => exact hp y (List.mem_of_getElem? hq)
theorem done_by {d : DiskD} (h : DkBy d) : ∀ x, x ∈ dkDone d → By x := foldl_by h.page h.data
def imgAt (ls : List LooseD) (id : Int) (i : Nat) : List (List Int) := match ls[i]?, ls[i + 1]?, ls[i + 2]? with
  | some a, some b, some c => if (a.page = id ∧ b.page = id ∧ c.page = id) ∧ a.part = 0 ∧ b.part = 1 ∧ c.part = 2 then [a.data ++ b.data ++ c.data] else []
  | _, _, _ => []
def imgsTo (d : DiskD) (id : Int) (pg : List Int) : Nat → List (List Int)
  | 0 => [pg]
  | n + 1 => imgsTo d id pg n ++ imgAt d.loose id n
def imgs (d : DiskD) (id : Int) (pg : List Int) : List (List Int) := imgsTo d id pg (d.loose.length - 2)
theorem imgAt_len {ls : List LooseD} {id : Int} {i : Nat} : (imgAt ls id i).length ≤ 1 := by
  unfold imgAt
  split
  · split <;> simp
  · simp
theorem imgsTo_len {d : DiskD} {id : Int} {pg : List Int} : ∀ n, (imgsTo d id pg n).length ≤ n + 1
  | 0 => by simp [imgsTo]
  | n + 1 => by
    have h1 := imgsTo_len (d := d) (id := id) (pg := pg) n
    have h2 := imgAt_len (ls := d.loose) (id := id) (i := n)
    simp only [imgsTo, List.length_append]; omega
theorem imgAt_by {d : DiskD} (h : DkBy d) {id : Int} {i : Nat} : ∀ x, x ∈ imgAt d.loose id i → By x := fun x hx => by
  unfold imgAt at hx
  split at hx
  · rename_i a b c ha hb hc
    split at hx
    · rw [List.mem_singleton.1 hx]
      exact ((h.data a (List.mem_of_getElem? ha)).app (h.data b (List.mem_of_getElem? hb))).app (h.data c (List.mem_of_getElem? hc))
    · cases hx
  · cases hx
theorem imgsTo_by {d : DiskD} (h : DkBy d) {id : Int} {pg : List Int} (hp : By pg) : ∀ n x, x ∈ imgsTo d id pg n → By x
  | 0, x, hx => by rw [List.mem_singleton.1 hx]; exact hp
  | n + 1, x, hx => by
    rcases List.mem_append.1 hx with hx | hx
    · exact imgsTo_by h hp n x hx
    · exact imgAt_by h x hx
section
variable {d : DiskD}
theorem s_imgs_ok (h : DkOk d) {id : Int} {pg : List Int} (hf : 1048576 < fu) : iterO (s_ReadsWhole_l1 fu d id) fu (0, [pg]) = some (imgs d id pg) := by
  have hl := h.loose
  have st := iter_for (step := s_ReadsWhole_l1 fu d id) (n := d.loose.length - 2) (fu := fu) (r := imgs d id pg) (fun i => ((i : Int), imgsTo d id pg i)) (fun i hi => ?_) ?_ (by omega)
  · exact st
  · have g0 := List.getElem?_eq_getElem (show i < d.loose.length by omega)
    have g1 := List.getElem?_eq_getElem (show i + 1 < d.loose.length by omega)
    have g2 := List.getElem?_eq_getElem (show i + 2 < d.loose.length by omega)
    have l0 := (h.in_ _ (List.getElem_mem (show i < d.loose.length by omega))).2.2.2.2
    have l1 := (h.in_ _ (List.getElem_mem (show i + 1 < d.loose.length by omega))).2.2.2.2
    have l2 := (h.in_ _ (List.getElem_mem (show i + 2 < d.loose.length by omega))).2.2.2.2
    have hal := imgsTo_len (d := d) (id := id) (pg := pg) i
    have e1 : IntKind.i64.wrap ((i : Int) + 1) = ((i + 1 : Nat) : Int) := wsucc (by omega)
    have e2 : IntKind.i64.wrap ((i : Int) + 2) = ((i + 2 : Nat) : Int) := by rw [wr (by omega) (by omega)]; omega
    unfold s_ReadsWhole_l1 s_ReadsWhole_j3
    simp only [e1, e2, atI_nat, g0, g1, g2, Option.bind_some]
    rw [if_pos (by simp; omega)]
    have hj : s_ReadsWhole_j2 fu d.loose[i] id d.loose[i + 1] d.loose[i + 2] = some (decide ((d.loose[i].page = id ∧ d.loose[i + 1].page = id ∧ d.loose[i + 2].page = id) ∧ d.loose[i].part = 0 ∧ d.loose[i + 1].part = 1 ∧ d.loose[i + 2].part = 2)) := by
      unfold s_ReadsWhole_j2
      by_cases h1 : d.loose[i].page = id <;> by_cases h2 : d.loose[i + 1].page = id <;> by_cases h3 : d.loose[i + 2].page = id <;> by_cases h4 : d.loose[i].part = 0 <;> by_cases h5 : d.loose[i + 1].part = 1 <;> simp [h1, h2, h3, h4, h5]
    rw [hj]
    simp only [Option.bind_some, decide_eq_true_eq, imgsTo, imgAt, g0, g1, g2]
    split
    · rw [app1 (by simp; omega)]
      simp only [Option.bind_some, List.nil_append]
      rw [app1 (by omega)]
      simp only [Option.bind_some]
      rw [app1 (by simp; omega)]
      simp only [Option.bind_some]
      rw [appI_ok (by simp; omega) (by simp; omega)]
      rfl
    · simp
  · unfold s_ReadsWhole_l1
    rw [wr (by omega) (by omega), if_neg (by simp; omega)]
    rfl
theorem i_three {a b c : LooseD} {id : Int} (ha : a.data.length = 16) (hb : b.data.length = 16) (hc : c.data.length = 16) (hf : 8 < fu) :
    iterO (i_Disk_images_l1 fu [a, b, c] id) fu (true, 0, []) = some (decide ((a.page = id ∧ b.page = id ∧ c.page = id) ∧ a.part = 0 ∧ b.part = 1 ∧ c.part = 2), a.data ++ b.data ++ c.data) := by
  obtain ⟨k, rfl⟩ : ∃ k, fu = k + 4 := ⟨fu - 4, by omega⟩
  have j : ∀ (ok : Bool) (i : Nat) (bs : List Int) (l : LooseD) (m : Nat), i_Disk_images_j1 m (ok, (i : Int), bs) l id = some (ok && decide (l.page = id) && decide (l.part = (i : Int))) := fun ok i bs l m => by
    unfold i_Disk_images_j1
    cases ok <;> by_cases h1 : l.page = id <;> simp [h1]
  have s : ∀ (ok : Bool) (i : Nat) (bs : List Int) (l : LooseD), [a, b, c][i]? = some l → l.data.length = 16 → bs.length ≤ 100 → i < 3 → i_Disk_images_l1 (k + 4) [a, b, c] id (ok, (i : Int), bs) = some (.inl (ok && decide (l.page = id) && decide (l.part = (i : Int)), ((i + 1 : Nat) : Int), bs ++ l.data)) := fun ok i bs l hl hd hbs hi => by
    unfold i_Disk_images_l1
    simp only [atI_nat, hl, Option.bind_some, j]
    rw [if_pos (by simp; omega), app1 (by omega), wsucc (by omega)]
    rfl
  rw [show (0 : Int) = ((0 : Nat) : Int) by rfl]
  rw [show k + 4 = (k + 3) + 1 by omega, iter_step (s true 0 [] a rfl ha (by simp) (by omega)), show k + 3 = (k + 2) + 1 by omega, iter_step (s _ 1 _ b rfl hb (by simp; omega) (by omega)), show k + 2 = (k + 1) + 1 by omega, iter_step (s _ 2 _ c rfl hc (by simp; omega) (by omega))]
  rw [iter_out (r := (true && decide (a.page = id) && decide (a.part = ((0 : Nat) : Int)) && decide (b.page = id) && decide (b.part = ((1 : Nat) : Int)) && decide (c.page = id) && decide (c.part = ((2 : Nat) : Int)), [] ++ a.data ++ b.data ++ c.data))]
  · simp only [Option.some.injEq, Prod.mk.injEq, List.nil_append, and_true]
    by_cases h1 : a.page = id <;> by_cases h2 : b.page = id <;> by_cases h3 : c.page = id <;> by_cases h4 : a.part = 0 <;> by_cases h5 : b.part = 1 <;> by_cases h6 : c.part = 2 <;> simp [h1, h2, h3, h4, h5, h6]
  · unfold i_Disk_images_l1; simp
theorem i_imgs_ok (h : DkOk d) {id : Nat} {pg : List Int} (hp : d.pages[id]? = some pg) (hf : 1048576 < fu) : m_i_Disk_images fu d (id : Int) = some (imgs d id pg) := by
  have hl := h.loose
  have hpl := h.page pg (List.mem_of_getElem? hp)
  unfold m_i_Disk_images
  rw [atI_nat, hp]
  simp only [Option.bind_some]
  rw [cloneI_ok (by omega) (by omega)]
  simp only [Option.bind_some]
  have st := iter_for (step := i_Disk_images_l2 fu d id) (n := d.loose.length - 2) (fu := fu) (r := imgs d id pg) (fun i => ((i : Int), imgsTo d id pg i)) (fun i hi => ?_) ?_ (by omega)
  · have st' : iterO (i_Disk_images_l2 fu d id) fu (0, [pg]) = some (imgs d id pg) := st
    rw [st']; rfl
  · have g0 := List.getElem?_eq_getElem (show i < d.loose.length by omega)
    have g1 := List.getElem?_eq_getElem (show i + 1 < d.loose.length by omega)
    have g2 := List.getElem?_eq_getElem (show i + 2 < d.loose.length by omega)
    have l0 := (h.in_ _ (List.getElem_mem (show i < d.loose.length by omega))).2.2.2.2
    have l1 := (h.in_ _ (List.getElem_mem (show i + 1 < d.loose.length by omega))).2.2.2.2
    have l2 := (h.in_ _ (List.getElem_mem (show i + 2 < d.loose.length by omega))).2.2.2.2
    have hal := imgsTo_len (d := d) (id := id) (pg := pg) i
    have e2 : IntKind.i64.wrap ((i : Int) + 2) = ((i + 2 : Nat) : Int) := by rw [wr (by omega) (by omega)]; omega
    have e3 : IntKind.i64.wrap ((i : Int) + 3) = ((i + 3 : Nat) : Int) := by rw [wr (by omega) (by omega)]; omega
    have hsl : slcI d.loose (i : Int) ((i + 3 : Nat) : Int) = some [d.loose[i], d.loose[i + 1], d.loose[i + 2]] := by
      rw [slcI_nat (by omega) (by omega), show i + 3 - i = 3 by omega, List.drop_eq_getElem_cons (show i < d.loose.length by omega), List.drop_eq_getElem_cons (show i + 1 < d.loose.length by omega), List.drop_eq_getElem_cons (show i + 1 + 1 < d.loose.length by omega)]
      rfl
    unfold i_Disk_images_l2 i_Disk_images_j2
    simp only [e2, e3, hsl, Option.bind_some, i_three l0 l1 l2 (show 8 < fu by omega)]
    rw [if_pos (by simp; omega), wsucc (by omega)]
    simp only [decide_eq_true_eq, imgsTo, imgAt, g0, g1, g2]
    split
    · rw [appI_ok (by simp; omega) (by simp; omega)]
      rfl
    · simp
  · unfold i_Disk_images_l2
    rw [wr (by omega) (by omega), if_neg (by simp; omega)]
    rfl
def rd0 (pg : List Int) (id : Int) : Bool := decide ((unpk pg).code = 0) && decide ((unpk pg).page.id = id)
theorem rd_code {r : PageResultD} {id : Int} : ∃ q, (Option.bind ((if (decide (r.code = 0)) = true then some (decide (r.page.id ≠ id)) else some false)) fun j => (if j = true then some (PageResultD.mk 1 (PageD.mk 0 0 [])) else some r)) = some q ∧ decide (q.code = 0) = (decide (r.code = 0) && decide (r.page.id = id)) := by
  by_cases h1 : r.code = 0
  · by_cases h2 : r.page.id = id
    · exact ⟨r, by simp [h1, h2], by simp [h1, h2]⟩
    · exact ⟨⟨1, ⟨0, 0, []⟩⟩, by simp [h1, h2], by simp [h2]⟩
  · exact ⟨r, by simp [h1], by simp [h1]⟩
theorem s_any_ok {l : List (List Int)} {pg : List Int} {p : DiskD} {id : Nat} (hp : p.pages[id]? = some pg) (hb : ∀ x, x ∈ l → By x) (hpb : By pg) (hl : l.length ≤ 1000) (hf : 1048576 < fu) : iterO (s_ReadsWhole_l2 fu l p id) fu (false, 0) = some (l.any fun x => decide (x = pg)) := by
  have st := iter_for (step := s_ReadsWhole_l2 fu l p id) (n := l.length) (fu := fu) (r := l.any fun x => decide (x = pg)) (fun i => ((l.take i).any (fun x => decide (x = pg)), (i : Int))) (fun i hi => ?_) ?_ (by omega)
  · exact st
  · have hx : l[i]? = some l[i] := List.getElem?_eq_getElem hi
    have hn : (l.take (i + 1)).any (fun x => decide (x = pg)) = ((l.take i).any (fun x => decide (x = pg)) || decide (l[i] = pg)) := by rw [List.take_add_one, hx, List.any_append]; simp
    unfold s_ReadsWhole_l2 s_ReadsWhole_j4
    simp only [atI_nat, hx, hp, Option.bind_some, hn, bytesStr_inj (hb _ (List.getElem_mem hi)) hpb]
    rw [if_pos (by simp; omega), wsucc (by omega)]
    cases (l.take i).any (fun x => decide (x = pg)) <;> simp
  · unfold s_ReadsWhole_l2; simp
theorem i_any_ok {l : List (List Int)} {pg : List Int} {p : DiskD} {id : Nat} (hp : p.pages[id]? = some pg) (hb : ∀ x, x ∈ l → x.length ≤ 1048576) (hl : l.length ≤ 1000) (hf : 1048576 < fu) : ∃ r : Int, i_ReadsWhole_j3 fu l p id = some r ∧ decide (0 ≤ r) = l.any fun x => decide (x = pg) := by
  have hj : ∀ x, x ∈ l → i_ReadsWhole_j2 fu x pg = some (decide (x = pg)) := fun x hx => by
    have := eqLoop_ok (fu := fu) (a := x) (b := pg) (hb x hx) hf
    have e : i_ReadsWhole_j2 fu x pg = i_UnpackPage_j1 fu x pg := rfl
    rw [e]; exact this
  unfold i_ReadsWhole_j3
  rw [iter_findI (xs := l) (fun i x => if x = pg then some (i : Int) else none) (fun i x hx => ?_) ?_ (by omega)]
  · have key : ∀ (r : List (List Int)) (i : Nat), (match findI (fun i (x : List Int) => if x = pg then some (i : Int) else none) i r with
        | some e => 0 ≤ e ∧ (r.any fun x => decide (x = pg)) = true
        | none => (r.any fun x => decide (x = pg)) = false) := fun r => by
      induction r with
      | nil => intro i; rfl
      | cons x r ih =>
        intro i
        have := ih (i + 1)
        simp only [findI, List.any_cons]
        by_cases h : x = pg
        · simp [h]
        · simp only [h, if_false, decide_false, Bool.false_or]
          exact this
    have := key l 0
    cases hq : findI (fun i (x : List Int) => if x = pg then some (i : Int) else none) 0 l with
    | some e => rw [hq] at this; exact ⟨e, rfl, by rw [this.2]; simp [this.1]⟩
    | none => rw [hq] at this; exact ⟨-1, rfl, by rw [this]; decide⟩
  · unfold i_ReadsWhole_l2; simp
  · have hi := (List.getElem?_eq_some_iff.1 hx).1
    unfold i_ReadsWhole_l2
    simp only [atI_nat, hx, hp, Option.bind_some, hj x (List.mem_of_getElem? hx)]
    rw [if_pos (by simp; omega), wsucc (by omega)]
    simp only [decide_eq_true_eq]
    split <;> rfl
end
def badRd (d a : DiskD) (i : Nat) (pg : List Int) : Option Bool := match (dkDone a)[i]? with
  | some q => if rd0 q i = true ∧ ((imgs d i pg).any fun x => decide (x = q)) = false then some false else none
  | none => none
def readsWhole (d a : DiskD) : Bool := if dkFault d ≠ 0 ∨ dkFault a ≠ 0 ∨ d.pages.length ≠ a.pages.length then false else (findI (badRd d a) 0 d.pages).getD true
variable {d a : DiskD}
theorem s_reads_ok (hd : DkLen d 1048576) (ha : DkLen a 1048576) (bd : DkBy d) (ba : DkBy a) (hf : 1048576 < fu) : m_s_ReadsWhole fu d a = some (readsWhole d a) := by
  unfold m_s_ReadsWhole readsWhole s_ReadsWhole_j1
  rw [s_fault_ok hd hf, s_fault_ok ha hf]
  simp only [Option.bind_some, decide_eq_true_eq]
  by_cases h1 : dkFault d = 0
  · by_cases h2 : dkFault a = 0
    · by_cases h3 : d.pages.length = a.pages.length
      · have ok1 := dk_ok h1
        have ok2 := dk_ok h2
        have hps := done_ps ok2
        have h3' : ¬ ((d.pages.length : Int) ≠ (a.pages.length : Int)) := by omega
        simp only [h1, h2, h3', not_true_eq_false, ne_eq, if_false, decide_false, Option.bind_some, Bool.false_eq_true, h3, or_self]
        rw [s_sync_ok ok2 hf]
        simp only [Option.bind_some]
        rw [iter_findI (xs := d.pages) (badRd d a) (fun i x hx => ?_) ?_ (by have := ok1.hi; omega)]
        · cases findI (badRd d a) 0 d.pages <;> rfl
        · unfold s_ReadsWhole_l3; simp
        · have hi := (List.getElem?_eq_some_iff.1 hx).1
          have hi8 := ok1.hi
          have hlt : i < (dkDone a).length := by rw [hps.len]; omega
          have hq : (dkDone a)[i]? = some (dkDone a)[i] := List.getElem?_eq_getElem hlt
          have hqm := List.mem_of_getElem? hq
          have hxm := List.mem_of_getElem? hx
          have hpx := ok1.page x hxm
          unfold s_ReadsWhole_l3 s_ReadsWhole_j5 m_s_l2Read badRd
          rw [s_sync_ok ok2 hf]
          simp only [Option.bind_some, atI_nat, hq]
          rw [s_unpk_ok (hps.page _ hqm) (done_by ba _ hqm) hf]
          simp only [Option.bind_some]
          obtain ⟨q, q1, q2⟩ := rd_code (r := unpk (dkDone a)[i]) (id := (i : Int))
          rw [q1]
          simp only [Option.bind_some]
          rw [if_pos (by simp; omega), wsucc (by omega)]
          have hrd : (decide (q.code = 0)) = rd0 (dkDone a)[i] i := q2
          by_cases hc : q.code = 0
          · have hr : rd0 (dkDone a)[i] i = true := by rw [← hrd]; simp [hc]
            simp only [hc, ne_eq, not_true_eq_false, decide_false, Bool.false_eq_true, if_false, hx, Option.bind_some, hr, true_and]
            rw [app1 (by simp; omega)]
            simp only [Option.bind_some, List.nil_append]
            rw [s_imgs_ok ok1 hf]
            simp only [Option.bind_some]
            have hil := imgsTo_len (d := d) (id := i) (pg := x) (d.loose.length - 2)
            rw [s_any_ok (l := imgs d i x) (p := ⟨dkDone a, []⟩) hq (fun y hy => imgsTo_by bd (bd.page x hxm) _ y hy) (done_by ba _ hqm) (by show (imgsTo d i x (d.loose.length - 2)).length ≤ _; have := ok1.loose; omega) hf]
            simp only [Option.bind_some]
            cases (imgs d i x).any fun y => decide (y = (dkDone a)[i]) <;> simp
          · have hr : rd0 (dkDone a)[i] i = false := by rw [← hrd]; simp [hc]
            simp [hc, hr]
      · have h3' : ((d.pages.length : Int) ≠ (a.pages.length : Int)) := by omega
        simp [h1, h2, h3, h3']
    · simp [h1, h2]
  · simp [h1]
theorem i_reads_ok (hd : DkLen d 1048576) (ha : DkLen a 1048576) (bd : DkBy d) (ba : DkBy a) (hf : 1048576 < fu) : m_i_ReadsWhole fu d a = some (readsWhole d a) := by
  unfold m_i_ReadsWhole readsWhole i_ReadsWhole_j1
  rw [i_fault_ok hd hf, i_fault_ok ha hf]
  simp only [Option.bind_some, decide_eq_true_eq]
  by_cases h1 : dkFault d = 0
  · by_cases h2 : dkFault a = 0
    · by_cases h3 : d.pages.length = a.pages.length
      · have ok1 := dk_ok h1
        have ok2 := dk_ok h2
        have hps := done_ps ok2
        have h3' : ¬ ((d.pages.length : Int) ≠ (a.pages.length : Int)) := by omega
        simp only [h1, h2, h3', not_true_eq_false, ne_eq, if_false, decide_false, Option.bind_some, Bool.false_eq_true, h3, or_self]
        rw [i_done_ok ok2 hf]
        simp only [Option.bind_some]
        rw [iter_findI (xs := d.pages) (badRd d a) (fun i x hx => ?_) ?_ (by have := ok1.hi; omega)]
        · cases findI (badRd d a) 0 d.pages <;> rfl
        · unfold i_ReadsWhole_l3; simp
        · have hi := (List.getElem?_eq_some_iff.1 hx).1
          have hi8 := ok1.hi
          have hlt : i < (dkDone a).length := by rw [hps.len]; omega
          have hq : (dkDone a)[i]? = some (dkDone a)[i] := List.getElem?_eq_getElem hlt
          have hqm := List.mem_of_getElem? hq
          have hxm := List.mem_of_getElem? hx
          have hpx := ok1.page x hxm
          unfold i_ReadsWhole_l3 i_ReadsWhole_j4 m_i_Disk_read badRd
          simp only [Option.bind_some, atI_nat, hq]
          rw [i_unpk_ok (hps.page _ hqm) (done_by ba _ hqm) hf]
          simp only [Option.bind_some]
          obtain ⟨q, q1, q2⟩ := rd_code (r := unpk (dkDone a)[i]) (id := (i : Int))
          rw [q1]
          simp only [Option.bind_some]
          rw [if_pos (by simp; omega), wsucc (by omega)]
          have hrd : (decide (q.code = 0)) = rd0 (dkDone a)[i] i := q2
          by_cases hc : q.code = 0
          · have hr : rd0 (dkDone a)[i] i = true := by rw [← hrd]; simp [hc]
            rw [if_pos (by simp [hc]), i_imgs_ok ok1 hx hf]
            simp only [Option.bind_some, hr, true_and]
            have hil := imgsTo_len (d := d) (id := i) (pg := x) (d.loose.length - 2)
            obtain ⟨r, r1, r2⟩ := i_any_ok (fu := fu) (l := imgs d i x) (p := ⟨dkDone a, []⟩) hq (fun y hy => by
              have : ∀ n y, y ∈ imgsTo d i x n → y.length ≤ 1048576 := fun n => by
                induction n with
                | zero => intro y hy; rw [List.mem_singleton.1 hy]; omega
                | succ n ih =>
                  intro y hy
                  rcases List.mem_append.1 hy with hy | hy
                  · exact ih y hy
                  · unfold imgAt at hy
                    split at hy
                    · rename_i u v w hu hv hw
                      split at hy
                      · rw [List.mem_singleton.1 hy]
                        have e1 := (ok1.in_ u (List.mem_of_getElem? hu)).2.2.2.2
                        have e2 := (ok1.in_ v (List.mem_of_getElem? hv)).2.2.2.2
                        have e3 := (ok1.in_ w (List.mem_of_getElem? hw)).2.2.2.2
                        simp; omega
                      · cases hy
                    · cases hy
              exact this _ y hy) (by show (imgsTo d i x (d.loose.length - 2)).length ≤ _; have := ok1.loose; omega) hf
            rw [r1]
            simp only [Option.bind_some, r2]
            cases (imgs d i x).any fun y => decide (y = (dkDone a)[i]) <;> simp
          · have hr : rd0 (dkDone a)[i] i = false := by rw [← hrd]; simp [hc]
            simp [hc, hr]
      · have h3' : ((d.pages.length : Int) ≠ (a.pages.length : Int)) := by omega
        simp [h1, h2, h3, h3']
    · simp [h1, h2]
  · simp [h1]
theorem plain_readsWhole (hd : DkLen d maxLen) (ha : DkLen a maxLen) (bd : DkBy d) (ba : DkBy a) : ∃ fu, m_l_FnExactReadsWhole fu d a = some true := by
  refine ⟨d.pages.length + d.loose.length + a.pages.length + a.loose.length + 2000000, ?_⟩
  generalize hfu : d.pages.length + d.loose.length + a.pages.length + a.loose.length + 2000000 = fu
  obtain ⟨r1, p1, p2⟩ := szDisk_ok (fu := fu) (a := d) (left := 1048576) (by omega) (by omega) hd (by omega) (by omega)
  unfold m_l_FnExactReadsWhole
  rw [p1]
  simp only [Option.bind_some]
  by_cases h1 : r1 < 0
  · simp [h1]
  · obtain ⟨l1, l2⟩ := p2 (by omega)
    obtain ⟨r2, q1, q2⟩ := szDisk_ok (fu := fu) (a := a) (left := r1) (by omega) (by omega) ha (by omega) (by omega)
    simp only [h1, decide_false, Bool.false_eq_true, if_false, q1, Option.bind_some]
    by_cases h2 : r2 < 0
    · simp [h2]
    · obtain ⟨m1, m2⟩ := q2 (by omega)
      have hf : 1048576 < fu := by omega
      simp only [h2, decide_false, Bool.false_eq_true, if_false, toDisk_ok l1 hf, toDisk_ok m1 hf, Option.bind_some, s_reads_ok l1 m1 bd ba hf, i_reads_ok l1 m1 bd ba hf, eqDisk_ok l1 hf, eqDisk_ok m1 hf]
      simp
end
end Go.Proofs.Ytcngfjmfgeckmaa
namespace Go.Proofs.Ytcngfjmfgeckmaa
open Go
theorem wf_len {t : PT} {xs : List t.den} (h : WfV (.rd false t xs)) : xs.length ≤ maxLen := by cases h; assumption
theorem wf_el {t : PT} {xs : List t.den} (h : WfV (.rd false t xs)) : ∀ x, x ∈ xs → WfP t x := by cases h; assumption
theorem wf_by {xs : List Int} (h : WfV (.rd false (.int .u8) xs)) : By xs := fun b hb => by
  have h1 := wf_el h b hb _ (List.mem_singleton.2 rfl)
  cases h1 with
  | int _ _ h2 =>
    simp [Lit.wf] at h2
    have e : IntKind.u8.max = 255 := by decide
    have e0 : IntKind.u8.min = 0 := by decide
    omega
theorem wf_loose {l : LooseD} (h : WfP (.rcd .loose) l) : l.data.length ≤ maxLen ∧ By l.data := by
  have h1 := h (.rd false (.int .u8) l.data) (by simp [explode, explodeR])
  exact ⟨wf_len h1, wf_by h1⟩
theorem wf_page {x : List Int} (h : WfP (.list (.int .u8)) x) : x.length ≤ maxLen ∧ By x := by
  have h1 := h (.rd false (.int .u8) x) (by simp [explode])
  exact ⟨wf_len h1, wf_by h1⟩
theorem wf_disk {d : DiskD} (h : WfP (.rcd .disk) d) : DkLen d maxLen ∧ DkBy d := by
  have h1 := h (.rd false (.list (.int .u8)) d.pages) (by simp [explode, explodeR])
  have h2 := h (.rd false (.rcd .loose) d.loose) (by simp [explode, explodeR])
  exact ⟨⟨wf_len h1, fun x hx => (wf_page (wf_el h1 x hx)).1, wf_len h2, fun l hl => (wf_loose (wf_el h2 l hl)).1⟩, ⟨fun x hx => (wf_page (wf_el h1 x hx)).2, fun l hl => (wf_loose (wf_el h2 l hl)).2⟩⟩
end Go.Proofs.Ytcngfjmfgeckmaa
