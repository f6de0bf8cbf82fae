/- Rows that a function owns, told by what the heap holds at their ids. Own work. -/
import Derived.Test.YtplkjfnjdekgpaaLtFamG
namespace Go.Proofs.Ytplkjfnjdekgpaa
open Go

theorem Heap.upd_lt (h : Heap) {id x : Nat} (b : List AV) (hx : x < id) : (h.upd id b) x = h x := Heap.upd_ne h b (by omega)
theorem Heap.upd_gt (h : Heap) {id x : Nat} (b : List AV) (hx : id < x) : (h.upd id b) x = h x := Heap.upd_ne h b (by omega)
theorem lt_off {a b k : Nat} (h : a < b) : (a < b + k) = True := eq_true (by omega)

/-- The id of a row, if it has one. -/
def AV.idIs (A : AV) (k : Nat) : Prop := match A with
  | .sl _ id _ _ _ _ => id = k
  | _ => False

def delOf (A : AV) (h : Heap) : Heap := match A with
  | .sl _ id _ _ _ _ => h.del id
  | _ => h

theorem delOf_get {A : AV} {h : Heap} {x : Nat} (hx : ¬ A.idIs x) : (delOf A h) x = h x := by
  unfold delOf
  cases A <;> simp only
  rename_i sz id off len lo ex
  unfold Heap.del
  rw [if_neg]
  rintro rfl
  exact hx rfl

/-- A row that grows by appending: nil, or a row of its own, of which nothing is known behind its end. -/
def OwnR (h : Heap) (n0 n1 sz : Nat) (A : AV) (es : List AV) : Prop :=
  (A = .nils ∧ es = []) ∨ ∃ k ex, n0 ≤ k ∧ k < n1 ∧ A = .sl sz k 0 es.length es.length ex ∧ h k = some es

/-- What one may append to: a row of its own, or a frozen one that is full. -/
def GrowR (h : Heap) (n0 n1 sz : Nat) (A : AV) (es : List AV) : Prop := OwnR h n0 n1 sz A es ∨ A = .ro sz true es

section
variable {T : TE} {h : Heap} {n0 n sz : Nat} {A : AV} {es : List AV} {K : AV → Heap → Nat → Prop}

theorem OwnR.read (ho : OwnR h n0 n sz A es) : rdSl h sz A = some es := by
  rcases ho with ⟨rfl, rfl⟩ | ⟨k, ex, _, _, rfl, hk⟩
  · rfl
  · rw [rdSl_sl, hk]; simp

theorem OwnR.new {h' : Heap} {n1 : Nat} {ex : Bool} (h0 : n0 ≤ n) (h1 : n < n1) (hh : h' n = some es) : OwnR h' n0 n1 sz (.sl sz n 0 es.length es.length ex) es := .inr ⟨n, ex, h0, h1, rfl, hh⟩

theorem OwnR.keep {h' : Heap} {n1 : Nat} (ho : OwnR h n0 n sz A es) (hn : n ≤ n1) (hh : ∀ k, A.idIs k → h' k = h k) : OwnR h' n0 n1 sz A es := by
  rcases ho with ⟨rfl, rfl⟩ | ⟨k, ex, a, b, rfl, hkk⟩
  · exact .inl ⟨rfl, rfl⟩
  · exact .inr ⟨k, ex, a, by omega, rfl, by rw [hh k rfl]; exact hkk⟩

theorem OwnR.id_lt (ho : OwnR h n0 n sz A es) {k : Nat} (hk : A.idIs k) : n0 ≤ k ∧ k < n := by
  rcases ho with ⟨rfl, rfl⟩ | ⟨k', ex, a, b, rfl, _⟩
  · exact hk.elim
  · have : k' = k := hk
    omega

theorem OwnR.low (ho : OwnR h n0 n sz A es) {id : Nat} {b : List AV} (hid : id < n0) : OwnR (h.upd id b) n0 n sz A es :=
  ho.keep (Nat.le_refl _) fun k hk => Heap.upd_ne _ _ (by have := ho.id_lt hk; omega)

theorem GrowR.keep {h' : Heap} {n1 : Nat} (ho : GrowR h n0 n sz A es) (hn : n ≤ n1) (hh : ∀ k, A.idIs k → h' k = h k) : GrowR h' n0 n1 sz A es := by
  rcases ho with ho | ho
  · exact .inl (ho.keep hn hh)
  · exact .inr ho

theorem GrowR.id_lt (ho : GrowR h n0 n sz A es) {k : Nat} (hk : A.idIs k) : n0 ≤ k ∧ k < n := by
  rcases ho with ho | rfl
  · exact ho.id_lt hk
  · exact hk.elim

/-- Some elements appended. -/
theorem GrowR.pushAll {el : TypeId} (hsz : (T el).sz = sz) (hpos : 0 < sz) {y : AV} {ys : List AV} (ho : GrowR h n0 n sz A es) (hy : rdSl h sz y = some ys) (hne : ys ≠ []) (hby : (es.length + ys.length) * (T el).bytes ≤ 140737488355328) (h63 : es.length + ys.length ≤ 140737488355328) (h0 : n0 ≤ n)
    (hk : ∀ h2, OwnR h2 n0 (n + 1) sz (.sl sz n 0 (es.length + ys.length) (es.length + ys.length) false) (es ++ ys) → (∀ id, id < n → ¬ A.idIs id → h2 id = h id) → K (.sl sz n 0 (es.length + ys.length) (es.length + ys.length) false) h2 (n + 1)) :
    appendP T el A y h n K := by
  subst hsz
  have hl : 0 < ys.length := by cases ys with | nil => exact absurd rfl hne | cons => simp
  have own : ∀ g : Heap, OwnR (g.upd n (es ++ ys)) n0 (n + 1) (T el).sz (.sl (T el).sz n 0 (es.length + ys.length) (es.length + ys.length) false) (es ++ ys) := fun g => .inr ⟨n, false, h0, by omega, by simp, Heap.upd_same _ _ _⟩
  refine ⟨ys, hy, hpos, ?_⟩
  rcases ho with (⟨rfl, rfl⟩ | ⟨k, ex, a, b, rfl, hkk⟩) | rfl
  · refine ⟨by simpa using hby, by simpa using h63, ?_⟩
    rw [if_neg hne]
    have := hk (h.upd n ys) (by simpa using own h) (fun id hid _ => Heap.upd_ne _ _ (by omega))
    simpa using this
  · refine ⟨rfl, hby, h63, es, hkk, by simp, ?_⟩
    rw [if_neg (by omega)]
    split
    · have := hk (h.upd n (es ++ ys)) (own h) (fun id hid _ => Heap.upd_ne _ _ (by omega))
      simpa using this
    · have := hk ((h.del k).upd n (es ++ ys)) (own _) (fun id hid hq => by
        rw [Heap.upd_ne _ _ (by omega)]
        unfold Heap.del
        rw [if_neg (fun hq2 => hq (show k = id from hq2.symm))])
      simpa using this
  · refine ⟨rfl, hby, h63, ?_⟩
    rw [if_neg hne]
    exact ⟨rfl, hk (h.upd n (es ++ ys)) (own h) (fun id hid _ => Heap.upd_ne _ _ (by omega))⟩

/-- One element appended. -/
theorem GrowR.push {el : TypeId} (hsz : (T el).sz = sz) (hpos : 0 < sz) {e : AV} (ho : GrowR h n0 n sz A es) (hby : (es.length + 1) * (T el).bytes ≤ 140737488355328) (h63 : es.length + 1 ≤ 140737488355328) (h0 : n0 ≤ n)
    (hk : ∀ h2, OwnR h2 n0 (n + 2) sz (.sl sz (n + 1) 0 (es.length + 1) (es.length + 1) false) (es ++ [e]) → (∀ id, id < n0 → h2 id = h id) → (∀ id, id < n → ¬ A.idIs id → h2 id = h id) → K (.sl sz (n + 1) 0 (es.length + 1) (es.length + 1) false) h2 (n + 2)) :
    appendP T el A (.sl sz n 0 1 1 true) (h.upd n [e]) (n + 1) K := by
  have ho' : GrowR (h.upd n [e]) n0 (n + 1) sz A es := ho.keep (by omega) fun k hk => Heap.upd_ne _ _ (by have := ho.id_lt hk; omega)
  refine ho'.pushAll (ys := [e]) hsz hpos (by rw [rdSl_sl, Heap.upd_same]; simp) (by simp) (by simpa using hby) (by simpa using h63) (by omega) fun h2 o2 u2 => ?_
  have u3 : ∀ id, id < n → ¬ A.idIs id → h2 id = h id := fun id h1 h2' => by rw [u2 id (by omega) h2', Heap.upd_ne _ _ (by omega)]
  exact hk h2 (by simpa using o2) (fun id hid => u3 id (by omega) fun hq => by have := ho.id_lt hq; omega) u3

theorem OwnR.push {el : TypeId} (hsz : (T el).sz = sz) (hpos : 0 < sz) {e : AV} (ho : OwnR h n0 n sz A es) (hby : (es.length + 1) * (T el).bytes ≤ 140737488355328) (h63 : es.length + 1 ≤ 140737488355328) (h0 : n0 ≤ n)
    (hk : ∀ h2, OwnR h2 n0 (n + 2) sz (.sl sz (n + 1) 0 (es.length + 1) (es.length + 1) false) (es ++ [e]) → (∀ id, id < n0 → h2 id = h id) → (∀ id, id < n → ¬ A.idIs id → h2 id = h id) → K (.sl sz (n + 1) 0 (es.length + 1) (es.length + 1) false) h2 (n + 2)) :
    appendP T el A (.sl sz n 0 1 1 true) (h.upd n [e]) (n + 1) K := GrowR.push hsz hpos (.inl ho) hby h63 h0 hk

/-- Whatever is appended to a row of its own, the whole is a row of its own. -/
theorem OwnR.pushAny {el : TypeId} (hsz : (T el).sz = sz) (hpos : 0 < sz) {y : AV} {ys : List AV} (ho : OwnR h n0 n sz A es) (hy : rdSl h sz y = some ys) (hby : (es.length + ys.length) * (T el).bytes ≤ 140737488355328) (h63 : es.length + ys.length ≤ 140737488355328) (h0 : n0 ≤ n)
    (hk : ∀ A2 h2 n2, n ≤ n2 → OwnR h2 n0 n2 sz A2 (es ++ ys) → (∀ id, id < n → ¬ A.idIs id → h2 id = h id) → (∀ k, A2.idIs k → A.idIs k ∨ n ≤ k) → K A2 h2 n2) : appendP T el A y h n K := by
  by_cases hne : ys = []
  · subst hne
    subst hsz
    refine ⟨[], hy, hpos, ?_⟩
    rcases ho with ⟨rfl, rfl⟩ | ⟨k, ex, a, b, rfl, hkk⟩
    · refine ⟨by simp, by simp, ?_⟩
      rw [if_pos rfl]
      exact hk _ _ _ (Nat.le_refl _) (.inl ⟨rfl, rfl⟩) (fun _ _ _ => rfl) (fun k hk => hk.elim)
    · refine ⟨rfl, hby, h63, es, hkk, by simp, ?_⟩
      rw [if_pos (by simp)]
      have he : h.upd k (es.take (0 + es.length) ++ [] ++ es.drop (0 + es.length + ([] : List AV).length)) = h := by
        funext x
        by_cases hx : x = k
        · subst hx; rw [Heap.upd_same]; simp [hkk]
        · rw [Heap.upd_ne _ _ hx]
      rw [he]
      exact hk _ _ _ (Nat.le_refl _) (.inr ⟨k, ex, a, b, by simp, by simpa using hkk⟩) (fun _ _ _ => rfl) (fun k2 hk2 => .inl hk2)
  · exact GrowR.pushAll hsz hpos (.inl ho) hy hne hby h63 h0 fun h2 o2 u2 => hk _ _ _ (by omega) o2 u2 fun k hk => .inr (by have : n = k := hk; omega)

end

section
variable {T : TE} {h : Heap} {n0 n sz : Nat} {A : AV} {es : List AV} {K : AV → Heap → Nat → Prop}

theorem Left.delOf {h0 h' h'' : Heap} (hl : Left n0 h0 h' h'') (ha : ∀ k, A.idIs k → n0 ≤ k) : Left n0 h0 (delOf A h') h'' := by
  unfold Go.Proofs.Ytplkjfnjdekgpaa.delOf
  cases A <;> first | exact hl | exact Left.del (ha _ rfl) hl

theorem e_bs1 (t : TypeId) (x : Operand) {e : Operand → AV} : opP T (.buildSlice t 1 #[(0, x)]) e h n K = (match (T t).ty with
    | .slice el => 0 < (T el).sz ∧ (T el).sz ≤ 16777216 ∧ (e x).cells.length = (T el).sz ∧ (e x).good = true ∧ K (.sl (T el).sz n 0 1 1 true) (h.upd n [e x]) (n + 1)
    | _ => False) := by
  rw [e_buildSlice]
  cases (T t).ty <;> simp only
  rename_i el
  refine propEq (fun ⟨h1, h2, _, h4, h5⟩ => ?_) (fun ⟨h1, h2, h3, h4, h5⟩ => ?_)
  · have := h4 (0, x) (by simp)
    exact ⟨h1, by simpa using h2, this.1, this.2, by simpa using h5⟩
  · exact ⟨h1, by simpa using h2, rfl, fun p hp => by simp at hp; subst hp; exact ⟨h3, h4⟩, by simpa using h5⟩

theorem buildP_nil (fs : List (Nat × TypeId)) (cells : List AV) (e : Operand → AV) (Kc : List AV → Prop) : buildP T fs cells e [] Kc = Kc cells := rfl
theorem buildP_cons (fs : List (Nat × TypeId)) (cells : List AV) (e : Operand → AV) (i : Nat) (x : Operand) (rest : List (Nat × Operand)) (Kc : List AV → Prop) : buildP T fs cells e ((i, x) :: rest) Kc = (match fs[i]? with
    | some p => (e x).cells.length = (T p.2).sz ∧ 0 < (T p.2).sz ∧ p.1 + (T p.2).sz ≤ cells.length ∧ (e x).good = true ∧ buildP T fs (cells.take p.1 ++ (e x).cells ++ cells.drop (p.1 + (T p.2).sz)) e rest Kc
    | none => False) := by
  refine propEq (fun ⟨p, h1, h2, h3, h4, h5, h6⟩ => by simp only [h1]; exact ⟨h2, h3, h4, h5, h6⟩) (fun hq => ?_)
  split at hq
  · rename_i p h1; exact ⟨p, h1, hq.1, hq.2.1, hq.2.2.1, hq.2.2.2.1, hq.2.2.2.2⟩
  · exact hq.elim

end
end Go.Proofs.Ytplkjfnjdekgpaa
