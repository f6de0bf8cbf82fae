/- Rows that a function owns, told by what the heap holds at their ids. Own work. -/
import Derived.Test.YtplkjfnjdekgpaaLtFamG
namespace Go.Proofs.Ytplkjfnjdekgpaa
open Go

theorem Heap.upd_lt (h : Heap) {id x : Nat} (b : List AV) (hx : x < id) : (h.upd id b) x = h x := Heap.upd_ne h b (by omega)
theorem Heap.upd_gt (h : Heap) {id x : Nat} (b : List AV) (hx : id < x) : (h.upd id b) x = h x := Heap.upd_ne h b (by omega)
theorem lt_off {a b k : Nat} (h : a < b) : (a < b + k) = True := eq_true (by omega)

/-- The id of a row, if it has one. -/
def AV.idIs (A : AV) (k : Nat) : Prop := match A with
  | .sl _ id _ _ _ _ => id = k
  | _ => False

def delOf (A : AV) (h : Heap) : Heap := match A with
  | .sl _ id _ _ _ _ => h.del id
  | _ => h

theorem delOf_get {A : AV} {h : Heap} {x : Nat} (hx : ¬ A.idIs x) : (delOf A h) x = h x := by
  unfold delOf
  cases A <;> simp only
  rename_i sz id off len lo ex
  unfold Heap.del
  rw [if_neg]
  rintro rfl
  exact hx rfl

/-- A row that grows by appending: nil, or a row of its own, of which nothing is known behind its end. -/
def OwnR (h : Heap) (n0 n1 sz : Nat) (A : AV) (es : List AV) : Prop :=
  (A = .nils ∧ es = []) ∨ ∃ k, n0 ≤ k ∧ k < n1 ∧ A = .sl sz k 0 es.length es.length false ∧ h k = some es

section
variable {T : TE} {h : Heap} {n0 n sz : Nat} {A : AV} {es : List AV} {K : AV → Heap → Nat → Prop}

theorem OwnR.read (ho : OwnR h n0 n sz A es) : rdSl h sz A = some es := by
  rcases ho with ⟨rfl, rfl⟩ | ⟨k, _, _, rfl, hk⟩
  · rfl
  · rw [rdSl_sl, hk]; simp

theorem OwnR.append {el : TypeId} (hsz : (T el).sz = sz) (hpos : 0 < sz) {y : AV} {ys : List AV} (ho : OwnR h n0 n sz A es) (hy : rdSl h sz y = some ys) (hne : ys ≠ []) (hby : (es.length + ys.length) * (T el).bytes ≤ 140737488355328) (h63 : es.length + ys.length ≤ 140737488355328)
    (hk : K (.sl sz n 0 (es ++ ys).length (es ++ ys).length false) ((delOf A h).upd n (es ++ ys)) (n + 1)) : appendP T el A y h n K := by
  subst hsz
  refine ⟨ys, hy, hpos, ?_⟩
  have hl : 0 < ys.length := by cases ys with | nil => exact absurd rfl hne | cons => simp
  rcases ho with ⟨rfl, rfl⟩ | ⟨k, _, _, rfl, hkk⟩
  · refine ⟨by simpa using hby, by simpa using h63, ?_⟩
    rw [if_neg hne]
    simpa [delOf] using hk
  · refine ⟨rfl, hby, h63, es, hkk, by simp, ?_⟩
    rw [if_neg (by omega), if_neg (by simp)]
    simpa [delOf] using hk

theorem OwnR.new {h' : Heap} {n1 : Nat} (h0 : n0 ≤ n) (h1 : n < n1) (hh : h' n = some es) : OwnR h' n0 n1 sz (.sl sz n 0 es.length es.length false) es := .inr ⟨n, h0, h1, rfl, hh⟩

theorem OwnR.keep {h' : Heap} {n1 : Nat} (ho : OwnR h n0 n sz A es) (hn : n ≤ n1) (hh : ∀ k, A.idIs k → h' k = h k) : OwnR h' n0 n1 sz A es := by
  rcases ho with ⟨rfl, rfl⟩ | ⟨k, a, b, rfl, hkk⟩
  · exact .inl ⟨rfl, rfl⟩
  · exact .inr ⟨k, a, by omega, rfl, by rw [hh k rfl]; exact hkk⟩

theorem OwnR.id_lt (ho : OwnR h n0 n sz A es) {k : Nat} (hk : A.idIs k) : n0 ≤ k ∧ k < n := by
  rcases ho with ⟨rfl, rfl⟩ | ⟨k', a, b, rfl, _⟩
  · exact hk.elim
  · have : k' = k := hk
    omega

theorem OwnR.low (ho : OwnR h n0 n sz A es) {id : Nat} {b : List AV} (hid : id < n0) : OwnR (h.upd id b) n0 n sz A es :=
  ho.keep (Nat.le_refl _) fun k hk => Heap.upd_ne _ _ (by have := ho.id_lt hk; omega)

/-- One element appended. -/
theorem OwnR.push {el : TypeId} (hsz : (T el).sz = sz) (hpos : 0 < sz) {e : AV} (ho : OwnR h n0 n sz A es) (hby : (es.length + 1) * (T el).bytes ≤ 140737488355328) (h63 : es.length + 1 ≤ 140737488355328) (h0 : n0 ≤ n)
    (hk : ∀ h2, OwnR h2 n0 (n + 2) sz (.sl sz (n + 1) 0 (es.length + 1) (es.length + 1) false) (es ++ [e]) → (∀ id, id < n0 → h2 id = h id) → (∀ id, id < n → ¬ A.idIs id → h2 id = h id) → K (.sl sz (n + 1) 0 (es.length + 1) (es.length + 1) false) h2 (n + 2)) :
    appendP T el A (.sl sz n 0 1 1 true) (h.upd n [e]) (n + 1) K := by
  have ho' : OwnR (h.upd n [e]) n0 (n + 1) sz A es := ho.keep (by omega) fun k hk => Heap.upd_ne _ _ (by have := ho.id_lt hk; omega)
  refine ho'.append (ys := [e]) hsz hpos (by rw [rdSl_sl, Heap.upd_same]; simp) (by simp) (by simpa using hby) (by simpa using h63) ?_
  have hA : ∀ id, ¬ A.idIs id → id < n → ((delOf A (h.upd n [e])).upd (n + 1) (es ++ [e])) id = h id := fun id h1 h2 => by
    rw [Heap.upd_ne _ _ (by omega), delOf_get h1, Heap.upd_ne _ _ (by omega)]
  have := hk ((delOf A (h.upd n [e])).upd (n + 1) (es ++ [e])) (.inr ⟨n + 1, by omega, by omega, by simp, Heap.upd_same _ _ _⟩) (fun id hid => hA id (fun hq => by have := ho.id_lt hq; omega) (by omega)) (fun id h1 h2 => hA id h2 h1)
  simpa using this

/-- A row of its own, frozen at the end. -/
theorem OwnR.frz (ho : OwnR h n0 n sz A es) (hl : ∀ e, e ∈ es → e.Lt n0) : ∃ r, Frz n0 h A r ∧ (r = .nils ∧ es = [] ∨ r = .ro sz false es) := by
  rcases ho with ⟨rfl, rfl⟩ | ⟨k, a, b, rfl, hkk⟩
  · exact ⟨.nils, .keep _ .nils, .inl ⟨rfl, rfl⟩⟩
  · refine ⟨_, .sl sz k 0 es.length es.length false es es a hkk (by omega) rfl (fun i e e' h1 h2 => ?_), .inr (by simp)⟩
    rw [Nat.zero_add, h2] at h1
    obtain rfl := Option.some.inj h1
    exact .keep _ (hl _ (List.mem_of_getElem? h2))

theorem Left.delOf {h0 h' h'' : Heap} (hl : Left n0 h0 h' h'') (ha : ∀ k, A.idIs k → n0 ≤ k) : Left n0 h0 (delOf A h') h'' := by
  unfold Go.Proofs.Ytplkjfnjdekgpaa.delOf
  cases A <;> first | exact hl | exact Left.del (ha _ rfl) hl

theorem e_bs1 (t : TypeId) (x : Operand) {e : Operand → AV} : opP T (.buildSlice t 1 #[(0, x)]) e h n K = (match (T t).ty with
    | .slice el => 0 < (T el).sz ∧ (T el).sz ≤ 16777216 ∧ (e x).cells.length = (T el).sz ∧ (e x).good = true ∧ K (.sl (T el).sz n 0 1 1 true) (h.upd n [e x]) (n + 1)
    | _ => False) := by
  rw [e_buildSlice]
  cases (T t).ty <;> simp only
  rename_i el
  refine propEq (fun ⟨h1, h2, _, h4, h5⟩ => ?_) (fun ⟨h1, h2, h3, h4, h5⟩ => ?_)
  · have := h4 (0, x) (by simp)
    exact ⟨h1, by simpa using h2, this.1, this.2, by simpa using h5⟩
  · exact ⟨h1, by simpa using h2, rfl, fun p hp => by simp at hp; subst hp; exact ⟨h3, h4⟩, by simpa using h5⟩

theorem buildP_nil (fs : List (Nat × TypeId)) (cells : List AV) (e : Operand → AV) (Kc : List AV → Prop) : buildP T fs cells e [] Kc = Kc cells := rfl
theorem buildP_cons (fs : List (Nat × TypeId)) (cells : List AV) (e : Operand → AV) (i : Nat) (x : Operand) (rest : List (Nat × Operand)) (Kc : List AV → Prop) : buildP T fs cells e ((i, x) :: rest) Kc = (match fs[i]? with
    | some p => (e x).cells.length = (T p.2).sz ∧ 0 < (T p.2).sz ∧ p.1 + (T p.2).sz ≤ cells.length ∧ (e x).good = true ∧ buildP T fs (cells.take p.1 ++ (e x).cells ++ cells.drop (p.1 + (T p.2).sz)) e rest Kc
    | none => False) := by
  refine propEq (fun ⟨p, h1, h2, h3, h4, h5, h6⟩ => by simp only [h1]; exact ⟨h2, h3, h4, h5, h6⟩) (fun hq => ?_)
  split at hq
  · rename_i p h1; exact ⟨p, h1, hq.1, hq.2.1, hq.2.2.1, hq.2.2.2.1, hq.2.2.2.2⟩
  · exact hq.elim

end
end Go.Proofs.Ytplkjfnjdekgpaa
