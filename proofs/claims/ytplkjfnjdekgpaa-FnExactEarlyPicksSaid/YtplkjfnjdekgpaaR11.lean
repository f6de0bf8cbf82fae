/- Row 5: the program's early picks. Own work. -/
import Derived.Test.YtplkjfnjdekgpaaR10
namespace Go.Proofs.Ytplkjfnjdekgpaa
open Go

theorem early_pre (w : Int) : ∀ (l : List Int) (s : List Int × Nat), (∀ p, p ∈ l → p ≠ w) → l.foldl (earlyStep w) s = (s.1 ++ l, s.2)
  | [], s, _ => by simp
  | p :: l, s, h => by
    have hp : p ≠ w := h p (by simp)
    rw [List.foldl_cons, early_pre w l _ (fun q hq => h q (by simp [hq]))]
    unfold earlyStep
    rw [if_pos hp]; simp

theorem early_post (w : Int) : ∀ (l a : List Int), l.foldl (earlyStep w) (a, 0) = (a ++ l.filter (fun p => decide (p ≠ w)), 0)
  | [], a => by simp
  | p :: l, a => by
    rw [List.foldl_cons]
    by_cases hp : p = w
    · subst hp
      rw [show earlyStep p (a, 0) p = (a, 0) by simp [earlyStep], early_post p l a]
      simp
    · rw [show earlyStep w (a, 0) p = (a ++ [p], 0) by simp [earlyStep, hp], early_post w l]
      simp [hp]

theorem filter_rep (w : Int) : ∀ (l : List Int), l.filter (fun p => decide (p = w)) = List.replicate (l.countP (fun p => decide (p = w))) w
  | [] => rfl
  | p :: l => by
    by_cases hp : p = w
    · subst hp; simp [filter_rep p l, List.replicate_succ]
    · simp [hp, filter_rep w l]

theorem early_none {w : Int} {picks : List Int} (h : picks.findIdx? (fun a => decide (w = a)) = none) : (picks.foldl (earlyStep w) ([], picks.countP (fun p => decide (p = w)))).1 = picks := by
  rw [List.findIdx?_eq_none_iff] at h
  rw [early_pre w picks _ (fun p hp hq => by have := h p hp; simp [hq] at this)]
  simp

theorem early_some {w : Int} {picks : List Int} {f : Nat} (h : picks.findIdx? (fun a => decide (w = a)) = some f) : f < picks.length ∧ picks[f]? = some w ∧
    (picks.foldl (earlyStep w) ([], picks.countP (fun p => decide (p = w)))).1 = picks.take f ++ (picks.drop f).filter (fun p => decide (p = w)) ++ (picks.drop f).filter (fun p => decide (p ≠ w)) := by
  rw [List.findIdx?_eq_some_iff_getElem] at h
  obtain ⟨hf, hw, hlt⟩ := h
  have hw' : w = picks[f] := by simpa using hw
  have hpre : ∀ p, p ∈ picks.take f → p ≠ w := fun p hp hq => by
    obtain ⟨j, hj⟩ := List.mem_iff_getElem?.1 hp
    rw [List.getElem?_take] at hj
    split at hj
    · rename_i hjf
      have hjl : j < picks.length := by omega
      rw [List.getElem?_eq_getElem hjl] at hj
      have := hlt j hjf
      simp only [decide_eq_true_eq] at this
      exact this (by rw [← hq]; exact (Option.some.inj hj).symm)
    · cases hj
  refine ⟨hf, by rw [List.getElem?_eq_getElem hf, hw'], ?_⟩
  have hd : picks.drop f = w :: picks.drop (f + 1) := by rw [List.drop_eq_getElem_cons hf, ← hw']
  have hsplit : picks = picks.take f ++ picks.drop f := (List.take_append_drop f picks).symm
  have hc0 : (picks.take f).countP (fun p => decide (p = w)) = 0 := List.countP_eq_zero.2 fun p hp => by simpa using hpre p hp
  have hcnt : picks.countP (fun p => decide (p = w)) = (picks.drop f).countP (fun p => decide (p = w)) := by
    conv => lhs; rw [hsplit]
    rw [List.countP_append, hc0]; simp
  have key : ∀ s, picks.foldl (earlyStep w) s = (picks.take f ++ picks.drop f).foldl (earlyStep w) s := fun s => by rw [List.take_append_drop]
  rw [hcnt, key, List.foldl_append, early_pre w _ _ hpre, filter_rep]
  rw [hd, List.foldl_cons]
  rw [show ∀ a c, earlyStep w (a, c) w = (a ++ List.replicate c w, 0) from fun a c => by simp [earlyStep]]
  rw [early_post]
  simp

theorem mergeF_code (l : List (List ActD)) (who : List Int) : (mergeF l who).code = askedF l who := by
  unfold mergeF
  split
  · rfl
  · rename_i h; simp at h; rw [h]

section
variable {h : Heap} {n : Nat} {K : AV → Heap → Nat → Prop}

theorem c63 {x : AV} {l : List Int} {w : Int} (hx : IntsR x l) (hw : I64 w) (hk : K (.int .i64 (idxV (l.findIdx? fun a => decide (w = a)))) h n) : CA Try.prog 63 [x, .int .i64 w] h n K :=
  idx_gen hT Try.call63 Try.func63 rfl rfl rfl rfl tyInt_2 hx (⟨rfl, hw⟩ : Int64R _ w) (fun e e' a b K hR hR' hk => by obtain ⟨rfl, _⟩ := hR; obtain ⟨rfl, _⟩ := hR'; rw [b_eql]; exact hk) hk

theorem c64o {x : AV} {l : List Int} (hx : IntsR x l) (hl : l.length ≤ 1048576) (hk : ∀ r h' n', OwnRes IntsR h n r l h' n' → K r h' n') : CA Try.prog 64 [x] h n K := by
  refine CA.conv (CA.enter (N := 8) (rs := [.tmp 2]) hT Try.call64 Try.func64 rfl rfl (by simp) rfl fun hlt => ?_)
  refine WP.seq_k fun K1 hK1 => WP.region hT rfl ?_
  simp only [↓opsA, ↓stepA, ↓callA, ev, ↓e_assign, ofVal, ↓thenA]
  refine hK1 _ _ _ ?_
  clear hK1 K1
  refine WP.seq_k fun K3 hK3 => ?_
  rcases slr_cases hx with ⟨rfl, rfl⟩ | ⟨ex, es, rfl, hal⟩
  · refine WP.seq_k fun K1 hK1 => WP.region hT rfl ?_
    simp only [↓opsA, ↓stepA, ↓callA, ev, Env.get_put_some, Env.get_envOf, ↓e_move, ↓e_binOp, ofVal, ↓thenA, reduceIte, Nat.reduceEqDiff, List.getElem?_cons_zero, Option.getD_some, ↓reduceIte, b_nil_nil (T_37 ▸ rfl : (T 37).ty = .slice 2)]
    refine hK1 _ _ _ ?_
    clear hK1 K1
    refine WP.cond (by simp only [ev, Env.get_put_some, ↓reduceIte]; rfl) (fun hc => ?_) (fun hc => ?_)
    · refine WP.seq_k fun K1 hK1 => WP.region hT rfl ?_
      simp only [↓opsA, ↓stepA, ↓callA, ev, ↓e_assign, ofVal, ↓thenA]
      refine hK1 _ _ _ ?_
      clear hK1 K1
      refine WP.ret ?_
      simp only [Env.get_put_some, ↓thenA, reduceIte, Option.map_some, ↓reduceIte, retA, resA]
      exact ⟨_, rfl, ret_own_atom hlt (fun _ _ => rfl) (Nat.le_refl _) hx .nils .nils hk⟩
    · cases hc
  · have hel := all2_length hal
    refine WP.seq_k fun K1 hK1 => WP.region hT rfl ?_
    simp only [↓opsA, ↓stepA, ↓callA, ev, Env.get_put_some, Env.get_envOf, ↓e_move, ↓e_binOp, ofVal, ↓thenA, reduceIte, Nat.reduceEqDiff, List.getElem?_cons_zero, Option.getD_some, ↓reduceIte, b_nil_ro (T_37 ▸ rfl : (T 37).ty = .slice 2)]
    refine hK1 _ _ _ ?_
    clear hK1 K1
    refine WP.cond (by simp only [ev, Env.get_put_some, ↓reduceIte]; rfl) (fun hc => ?_) (fun hc => ?_)
    · cases hc
    refine WP.skip (hK3 _ _ _ ?_)
    clear hK3 K3
    refine WP.seq_k fun K1 hK1 => WP.region hT rfl ?_
    simp only [↓opsA, ↓stepA, ↓e_append1, ↓callA, ev, Env.get_put_some, Env.get_envOf, ↓e_move, ↓e_assign, ↓thenA, reduceIte, Nat.reduceEqDiff, true_and, List.getElem?_cons_zero, Option.getD_some, Nat.lt_add_one, ↓reduceIte, T_2, T_37, e_bs0]
    refine ⟨2, rfl, OwnR.pushAny (n0 := n) (es := []) rfl (by decide) (.inr ⟨n, true, Nat.le_refl _, by omega, rfl, Heap.upd_same _ _ _⟩) (rdSl_ro _ _ _) (by simp [T_2]; omega) (by simp; omega) (by omega) fun A2 h2 n2 hn2 o2 u2 i2 => ?_⟩
    refine hK1 _ _ _ ?_
    refine WP.ret ?_
    simp only [Env.get_put_some, reduceIte, Option.map_some, ↓reduceIte, retA, resA]
    rw [List.nil_append] at o2
    obtain ⟨A', I, tA, fA, iA⟩ := o2.tree (fun e he => by
      obtain ⟨j, hj⟩ := List.mem_iff_getElem?.1 he
      obtain ⟨b, _, hb⟩ := all2_get hal j e hj
      obtain ⟨rfl, _⟩ := hb
      exact plain_lt rfl)
    let g : Heap := fun id => if id < n ∨ id ∈ I then h2 id else none
    refine ⟨_, rfl, _, g, n2, .keep _ _ _ _ (fun id b hb => ?_), hk _ _ _ ⟨⟨A', I, tA.keep fun i hi => ?_, ?_, fun i hi => ?_, fun id hid hni => ?_⟩, fun id hid => ?_, by omega⟩⟩
    · simp only [g] at hb
      split at hb
      · exact hb
      · cases hb
    · simp only [g]; rw [if_pos (.inr hi)]
    · rcases fA with ⟨rfl, rfl⟩ | ⟨ex2, rfl⟩
      · cases hal; exact ⟨[], rfl, .nil, Nat.zero_le _, fun _ => .nils, rfl⟩
      · exact .mk_ro hal (by unfold maxLen; omega) tyInt_2.lt
    · have := iA i hi; omega
    · simp only [g]
      rw [if_neg]
      rintro (hq | hq)
      · omega
      · exact hni hq
    · simp only [g]
      rw [if_pos (.inl hid), u2 id (by omega) (fun hq => by have : n = id := hq; omega), Heap.upd_ne _ _ (by omega)]
end
end Go.Proofs.Ytplkjfnjdekgpaa
