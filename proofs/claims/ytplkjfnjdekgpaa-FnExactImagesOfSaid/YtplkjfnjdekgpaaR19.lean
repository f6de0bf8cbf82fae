/- Row 6: the whole images of a page. Own work. -/
import Derived.Test.YtplkjfnjdekgpaaR18
namespace Go.Proofs.Ytplkjfnjdekgpaa
open Go

def imgAt (d : DiskD) (p : Int) (i : Nat) : Option (List Int) := match d.loose[i]?, d.loose[i + 1]?, d.loose[i + 2]? with
  | some a, some b, some c => if a.page = p ∧ b.page = p ∧ c.page = p ∧ a.part = 0 ∧ b.part = 1 ∧ c.part = 2 then some (a.data ++ b.data ++ c.data) else none
  | _, _, _ => none

def imagesF (d : DiskD) (p : Int) : List (List Int) := d.pages.getD p.toNat [] :: (List.range (d.loose.length - 2)).filterMap (imgAt d p)

def imagesR (d : DiskD) (p : Int) : PartsResultD := if diskFault d ≠ 0 then ⟨diskFault d, []⟩ else if within p 0 ((d.pages.length : Int) - 1) = false then ⟨3, []⟩ else ⟨0, imagesF d p⟩

/-- What a sound disk is. -/
structure DiskOk (d : DiskD) : Prop where
  n1 : 1 ≤ d.pages.length
  n8 : d.pages.length ≤ 8
  p48 : ∀ p, p ∈ d.pages → p.length = 48
  l60 : d.loose.length ≤ 60
  l16 : ∀ x, x ∈ d.loose → x.data.length = 16

theorem DiskOk.of {d : DiskD} (h : diskFault d = 0) : DiskOk d := by
  unfold diskFault at h
  split at h
  · cases h
  · rename_i h1
    split at h
    · cases h
    · rename_i h60
      have hn : d.loose.findSome? (looseFault d.pages.length) = none := by
        cases hq : d.loose.findSome? (looseFault d.pages.length) with
        | none => rfl
        | some c =>
          rw [hq] at h
          have hc : c = 0 := h
          obtain ⟨_, x, _, _, hx, _⟩ := List.findSome?_eq_some_iff.1 hq
          rw [hc] at hx
          unfold looseFault at hx
          split at hx
          · cases hx
          · split at hx <;> cases hx
      rw [List.findSome?_eq_none_iff] at hn
      refine ⟨?_, ?_, fun p hp => ?_, by omega, fun x hx => ?_⟩
      · rcases Nat.lt_or_ge d.pages.length 1 with q | q
        · exact absurd (Or.inl q) h1
        · exact q
      · rcases Nat.lt_or_ge 8 d.pages.length with q | q
        · exact absurd (Or.inr (Or.inl q)) h1
        · exact q
      · by_cases hq : p.length = 48
        · exact hq
        · exact absurd (Or.inr (Or.inr (List.any_eq_true.2 ⟨p, hp, by simpa using hq⟩))) h1
      · have := hn x hx
        unfold looseFault at this
        split at this
        · cases this
        · split at this
          · cases this
          · rename_i hq; simpa using hq

section
variable {h : Heap} {n : Nat} {K : AV → Heap → Nat → Prop}

theorem c91o {x : AV} {l : List Int} (hx : ByteSR x l) (hl : l.length ≤ 1048576) (hk : ∀ r h' n', OwnRes ByteSR h n r l h' n' → K r h' n') : CA Try.prog 91 [x] h n K := by
  refine CA.conv (CA.enter (N := 8) (rs := [.tmp 2]) hT Try.call91 Try.func91 rfl rfl (by simp) rfl fun hlt => ?_)
  refine WP.seq_k fun K1 hK1 => WP.region hT rfl ?_
  simp only [↓opsA, ↓stepA, ↓callA, ev, ↓e_assign, ofVal, ↓thenA]
  refine hK1 _ _ _ ?_
  clear hK1 K1
  refine WP.seq_k fun K3 hK3 => ?_
  rcases slr_cases hx with ⟨rfl, rfl⟩ | ⟨ex, es, rfl, hal⟩
  · refine WP.seq_k fun K1 hK1 => WP.region hT rfl ?_
    simp only [↓opsA, ↓stepA, ↓callA, ev, Env.get_put_some, Env.get_envOf, ↓e_move, ↓e_binOp, ofVal, ↓thenA, reduceIte, Nat.reduceEqDiff, List.getElem?_cons_zero, Option.getD_some, ↓reduceIte, b_nil_nil (T_113 ▸ rfl : (T 113).ty = .slice 5)]
    refine hK1 _ _ _ ?_
    clear hK1 K1
    refine WP.cond (by simp only [ev, Env.get_put_some, ↓reduceIte]; rfl) (fun hc => ?_) (fun hc => ?_)
    · refine WP.seq_k fun K1 hK1 => WP.region hT rfl ?_
      simp only [↓opsA, ↓stepA, ↓callA, ev, ↓e_assign, ofVal, ↓thenA]
      refine hK1 _ _ _ ?_
      clear hK1 K1
      refine WP.ret ?_
      simp only [Env.get_put_some, ↓thenA, reduceIte, Option.map_some, ↓reduceIte, retA, resA]
      exact ⟨_, rfl, ret_own_atom hlt (fun _ _ => rfl) (Nat.le_refl _) hx .nils .nils hk⟩
    · cases hc
  · have hel := all2_length hal
    refine WP.seq_k fun K1 hK1 => WP.region hT rfl ?_
    simp only [↓opsA, ↓stepA, ↓callA, ev, Env.get_put_some, Env.get_envOf, ↓e_move, ↓e_binOp, ofVal, ↓thenA, reduceIte, Nat.reduceEqDiff, List.getElem?_cons_zero, Option.getD_some, ↓reduceIte, b_nil_ro (T_113 ▸ rfl : (T 113).ty = .slice 5)]
    refine hK1 _ _ _ ?_
    clear hK1 K1
    refine WP.cond (by simp only [ev, Env.get_put_some, ↓reduceIte]; rfl) (fun hc => ?_) (fun hc => ?_)
    · cases hc
    refine WP.skip (hK3 _ _ _ ?_)
    clear hK3 K3
    refine WP.seq_k fun K1 hK1 => WP.region hT rfl ?_
    simp only [↓opsA, ↓stepA, ↓e_append1, ↓callA, ev, Env.get_put_some, Env.get_envOf, ↓e_move, ↓e_assign, ↓thenA, reduceIte, Nat.reduceEqDiff, true_and, List.getElem?_cons_zero, Option.getD_some, Nat.lt_add_one, ↓reduceIte, T_5, T_113, e_bs0]
    refine ⟨5, rfl, OwnR.pushAny (n0 := n) (es := []) rfl (by decide) (.inr ⟨n, true, Nat.le_refl _, by omega, rfl, Heap.upd_same _ _ _⟩) (rdSl_ro _ _ _) (by simp [T_5]; omega) (by simp; omega) (by omega) fun A2 h2 n2 hn2 o2 u2 i2 => ?_⟩
    refine hK1 _ _ _ ?_
    refine WP.ret ?_
    simp only [Env.get_put_some, reduceIte, Option.map_some, ↓reduceIte, retA, resA]
    rw [List.nil_append] at o2
    obtain ⟨A', I, tA, fA, iA⟩ := o2.tree (fun e he => by
      obtain ⟨j, hj⟩ := List.mem_iff_getElem?.1 he
      obtain ⟨b, _, hb⟩ := all2_get hal j e hj
      obtain ⟨rfl, _⟩ := hb
      exact plain_lt rfl)
    let g : Heap := fun id => if id < n ∨ id ∈ I then h2 id else none
    refine ⟨_, rfl, _, g, n2, .keep _ _ _ _ (fun id b hb => ?_), hk _ _ _ ⟨⟨A', I, tA.keep fun i hi => ?_, ?_, fun i hi => ?_, fun id hid hni => ?_⟩, fun id hid => ?_, by omega⟩⟩
    · simp only [g] at hb
      split at hb
      · exact hb
      · cases hb
    · simp only [g]; rw [if_pos (.inr hi)]
    · rcases fA with ⟨rfl, rfl⟩ | ⟨ex2, rfl⟩
      · cases hal; exact ⟨[], rfl, .nil, Nat.zero_le _, fun _ => .nils, rfl⟩
      · exact .mk_ro hal (by unfold maxLen; omega) tyByte_5.lt
    · have := iA i hi; omega
    · simp only [g]
      rw [if_neg]
      rintro (hq | hq)
      · omega
      · exact hni hq
    · simp only [g]
      rw [if_pos (.inl hid), u2 id (by omega) (fun hq => by have : n = id := hq; omega), Heap.upd_ne _ _ (by omega)]

/-- A list of byte rows, all one's own, that grows. -/
structure BInv (n0 m : Nat) (h h' : Heap) (n' : Nat) (A : AV) (ls : List (List Int)) : Prop where
  ex : ∃ es es' I, OwnR h' m n' 1 A es ∧ TreeL h' es es' I ∧ All2 ByteSR es' ls ∧ (∀ k, A.idIs k → k ∉ I) ∧ (∀ i, i ∈ I → m ≤ i ∧ i < n')
  bel : ∀ id, id < n0 → h' id = h id
  le : m ≤ n'

theorem BInv.id_lt {n0 m n' : Nat} {h h' : Heap} {A : AV} {ls : List (List Int)} (hB : BInv n0 m h h' n' A ls) {k : Nat} (hk : A.idIs k) : m ≤ k ∧ k < n' := by
  obtain ⟨_, _, _, oA, _⟩ := hB.ex
  exact oA.id_lt hk

theorem BInv.keep {n0 m n' n1 : Nat} {h h' h1 : Heap} {A : AV} {ls : List (List Int)} (hB : BInv n0 m h h' n' A ls) (hm : n0 ≤ n') (hn : n' ≤ n1) (hk : ∀ id, id < n' → h1 id = h' id) : BInv n0 m h h1 n1 A ls := by
  obtain ⟨es, es', I, oA, tr, hal, hni, hI⟩ := hB.ex
  have := hB.le
  refine ⟨⟨es, es', I, oA.keep hn fun k hk' => hk k (oA.id_lt hk').2, tr.keep fun i hi => hk i (hI i hi).2, hal, hni, fun i hi => by have := hI i hi; omega⟩, fun id hid => by rw [hk id (by omega)]; exact hB.bel id hid, by omega⟩

theorem BInv.push {n0 m n' n1 : Nat} {h h' h1 : Heap} {A r r' : AV} {ls : List (List Int)} {b : List Int} {J : List Nat} (hB : BInv n0 m h h' n' A ls) (hm : n0 ≤ m) (hn : n' ≤ n1) (hk1 : ∀ id, id < n' → h1 id = h' id) (tr : Tree h1 r r' J) (hJ : ∀ i, i ∈ J → n' ≤ i ∧ i < n1) (hr : ByteSR r' b) (hlen : ls.length ≤ 1000)
    (hK : ∀ A2 h2 n2, n1 ≤ n2 → BInv n0 m h h2 n2 A2 (ls ++ [b]) → (∀ id, id < n1 → ¬ A.idIs id → h2 id = h1 id) → (A2.cells = [A2] ∧ A2.good = true ∧ A2 ≠ .nils) → K A2 h2 n2) : appendP T 113 A (.sl 1 n1 0 1 1 true) (h1.upd n1 [r]) (n1 + 1) K := by
  obtain ⟨es, es', I, oA, tl, hal, hni, hI⟩ := hB.ex
  have hle := hB.le
  have hes : es.length = ls.length := by rw [← tl.length, all2_length hal]
  have oA1 : OwnR h1 m n1 1 A es := oA.keep hn fun k hk' => hk1 k (oA.id_lt hk').2
  refine OwnR.push (n0 := m) rfl (by decide) oA1 (by simp [T_113]; omega) (by omega) (by omega) fun h2 o2 s2 u2 => ?_
  refine hK _ h2 _ (by omega) ⟨⟨es ++ [r], es' ++ [r'], I ++ J, o2, ?_, all2_snoc hal hr, ?_, ?_⟩, fun id hid => ?_, by omega⟩ u2 ⟨rfl, rfl, fun hq => by cases hq⟩
  · refine TreeL.snoc (tl.keep fun i hi => ?_) (tr.keep fun i hi => ?_) (fun i hi hm => by have := hI i hi; have := hJ i hm; omega)
    · have := hI i hi
      rw [u2 i (by omega) (fun hq => hni i hq hi), hk1 i (by omega)]
    · have := hJ i hi
      exact u2 i (by omega) (fun hq => by have := oA.id_lt hq; omega)
  · intro k hk hm2
    have hk' : n1 + 1 = k := hk
    rcases List.mem_append.1 hm2 with hq | hq
    · have := hI k hq; omega
    · have := hJ k hq; omega
  · intro i hi
    rcases List.mem_append.1 hi with hq | hq
    · have := hI i hq; omega
    · have := hJ i hq; omega
  · rw [s2 id (by omega), hk1 id (by omega)]; exact hB.bel id hid

/-- The list at a function's end. -/
theorem BInv.tree {n0 m n' : Nat} {h h' : Heap} {A : AV} {ls : List (List Int)} (hB : BInv n0 m h h' n' A ls) (hl : ls.length ≤ 1000) (hA : A ≠ .nils) : ∃ A' I, Tree h' A A' I ∧ ByteSSR A' ls ∧ ∀ i, i ∈ I → m ≤ i ∧ i < n' := by
  obtain ⟨es, es', I, oA, tl, hal, hni, hI⟩ := hB.ex
  rcases oA with ⟨rfl, _⟩ | ⟨k, ex, a, b, rfl, hk⟩
  · exact absurd rfl hA
  · refine ⟨_, k :: I, .sl 1 k ex es es' I hk tl (hni k rfl), .mk_ro hal (by unfold maxLen; omega) tyByteS_113.lt, fun i hi => ?_⟩
    rcases List.mem_cons.1 hi with rfl | hi
    · exact ⟨a, b⟩
    · exact hI i hi

theorem all2_app {α β : Type} {Q : α → β → Prop} {a a' : List α} {b b' : List β} (h : All2 Q a b) (h' : All2 Q a' b') : All2 Q (a ++ a') (b ++ b') := by
  induction h with
  | nil => exact h'
  | cons h1 _ ih => exact .cons h1 ih

theorem bytes_tree {m n' : Nat} {A : AV} {h' : Heap} {l : List Int} {es : List AV} (hal : All2 ByteR es l) (oA : OwnR h' m n' 1 A es) (hl : l.length ≤ 1048576) : ∃ A' I, Tree h' A A' I ∧ ByteSR A' l ∧ ∀ i, i ∈ I → m ≤ i ∧ i < n' ∧ A.idIs i := by
  obtain ⟨A', I, tA, fA, iA⟩ := oA.tree (fun e he => by
    obtain ⟨j, hj⟩ := List.mem_iff_getElem?.1 he
    obtain ⟨b, _, hb⟩ := all2_get hal j e hj
    obtain ⟨rfl, _⟩ := hb
    exact plain_lt rfl)
  refine ⟨A', I, tA, ?_, iA⟩
  rcases fA with ⟨rfl, rfl⟩ | ⟨ex, rfl⟩
  · cases hal; exact ⟨[], rfl, .nil, Nat.zero_le _, fun _ => .nils, rfl⟩
  · exact .mk_ro hal (by unfold maxLen; omega) tyByte_5.lt
end
end Go.Proofs.Ytplkjfnjdekgpaa
