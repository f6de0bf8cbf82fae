/- Row 4: what its functions do. Own work. -/
import Derived.Test.YtplkjfnjdekgpaaR3
namespace Go.Proofs.Ytplkjfnjdekgpaa
open Go

def Int64R (e : AV) (a : Int) : Prop := e = .int .i64 a ∧ I64 a
def IntsR : AV → List Int → Prop := SlR 1 Int64R
theorem tyInt_2 : TyR T 2 Int64R := tyR_int rfl rfl rfl
theorem tyInts_37 : TyR T 37 IntsR := tyR_slice (e := 2) rfl rfl rfl

section
variable {h : Heap} {n : Nat} {K : AV → Heap → Nat → Prop}

def askedF (l : List (List ActD)) (who : List Int) : Int :=
  if sessFault l ≠ 0 then sessFault l else if 80 < who.length then 2 else if who.any (fun w => !within w 0 ((l.length : Int) - 1)) = true then 3 else 0

theorem c57 {x y : AV} {l : List (List ActD)} {who : List Int} (hx : ActSSR x l) (hy : IntsR y who) (hk : K (.int .i64 (askedF l who)) h n) : CA Try.prog 57 [x, y] h n K := by
  have hx0 := hx
  obtain ⟨es, hes, hal, hml, _, _⟩ := hx
  obtain ⟨ws, hws, hwl, hml2, _, _⟩ := hy
  have hel := all2_length hal
  have hwlen := all2_length hwl
  unfold maxLen at hml hml2
  refine CA.conv (CA.enter (N := 30) (rs := [.tmp 4]) hT Try.call57 Try.func57 rfl rfl (by simp) rfl fun hlt => ?_)
  refine WP.seq_k fun K1 hK1 => WP.region hT rfl ?_
  simp only [↓opsA, ↓stepA, ↓callA, ev, ↓e_assign, ofVal, ↓thenA]
  refine hK1 _ _ _ ?_
  clear hK1 K1
  refine WP.seq_k fun K1 hK1 => ?_
  refine WP.seq_k fun K2 hK2 => WP.region hT rfl ?_
  simp only [↓opsA, ↓stepA, ↓callA, List.map_cons, List.map_nil, ev, Env.get_put_some, Env.get_envOf, ↓e_move, ↓e_assign, ↓thenA, reduceIte, Nat.reduceEqDiff, List.getElem?_cons_zero, Option.getD_some, List.append_nil, ↓reduceIte]
  refine c15 hx0 (hK2 _ _ _ ?_)
  clear hK2 K2
  refine WP.seq_k fun K1 hK1 => WP.region hT rfl ?_
  simp only [↓opsA, ↓stepA, ↓callA, ev, Env.get_put_some, ↓e_move, ↓e_binOp, b_neq, ofVal, ↓thenA, reduceIte, ↓reduceIte]
  refine hK1 _ _ _ ?_
  clear hK1 K1
  refine WP.cond (by simp only [ev, Env.get_put_some, ↓reduceIte]; rfl) (fun hc0 => ?_) (fun hc0 => ?_)
  · refine WP.seq_k fun K1 hK1 => WP.region hT rfl ?_
    simp only [↓opsA, ↓stepA, ↓callA, ev, Env.get_put_some, ↓e_move, ↓e_assign, ↓thenA, reduceIte, Nat.reduceEqDiff, ↓reduceIte]
    refine hK1 _ _ _ ?_
    clear hK1 K1
    refine WP.ret ?_
    simp only [Env.get_put_some, ↓thenA, reduceIte, Option.map_some, ↓reduceIte, retA, resA]
    have hf : sessFault l ≠ 0 := by simpa using hc0
    unfold askedF at hk
    rw [if_pos hf] at hk
    exact ⟨_, rfl, ret_p (Left.refl hlt) (.int _ _) hk⟩
  have hf : sessFault l = 0 := by simpa using hc0
  obtain ⟨hl1, hl5⟩ := fault_len hf
  unfold askedF at hk
  rw [if_neg (by simp [hf])] at hk
  refine WP.skip (hK1 _ _ _ ?_)
  clear hK1 K1
  refine WP.seq_k fun K1 hK1 => ?_
  refine WP.seq_k fun K1 hK1 => WP.region hT rfl ?_
  simp only [↓opsA, ↓stepA, ↓e_len1, ↓callA, ev, Env.get_put_some, Env.get_envOf, ↓e_move, ↓e_binOp, b_gtr, ofVal, ↓thenA, reduceIte, Nat.reduceEqDiff, List.getElem?_cons_zero, List.getElem?_cons_succ, Option.getD_some, ↓reduceIte, T_2, T_37, rdSl_emp hws]
  refine hK1 _ _ _ ?_
  clear hK1 K1
  refine WP.cond (by simp only [ev, Env.get_put_some, ↓reduceIte]; rfl) (fun hc1 => ?_) (fun hc1 => ?_)
  · refine WP.seq_k fun K1 hK1 => WP.region hT rfl ?_
    simp only [↓opsA, ↓stepA, ↓callA, ev, ↓e_assign, ofVal, ↓thenA]
    refine hK1 _ _ _ ?_
    clear hK1 K1
    refine WP.ret ?_
    simp only [Env.get_put_some, ↓thenA, reduceIte, Option.map_some, ↓reduceIte, retA, resA]
    rw [if_pos (by simp at hc1; omega)] at hk
    exact ⟨_, rfl, ret_p (Left.refl hlt) (.int _ _) hk⟩
  rw [if_neg (by simp at hc1; omega)] at hk
  refine WP.skip (hK1 _ _ _ ?_)
  clear hK1 K1
  have hw : IntKind.i64.wrap ((es.length : Int) - 1) = (l.length : Int) - 1 := by rw [wrap_in (by omega) (by omega)]; omega
  refine WP.seq_k fun K4 hK4 => ?_
  refine WP.seq_k fun K1 hK1 => WP.region hT rfl ?_
  simp only [↓opsA, ↓stepA, ↓callA, ev, ↓e_assign, ofVal, ↓thenA]
  refine hK1 _ _ _ ?_
  clear hK1 K1
  refine WP.block (WP.loop (fun m E h' n' => ∃ j, m = who.length - j ∧ j ≤ who.length ∧ (∀ b, b ∈ who.take j → (!within b 0 ((l.length : Int) - 1)) = false) ∧ n = n' ∧ h = h' ∧ E.get 0 = x ∧ E.get 1 = y ∧ E.get 6 = .int .i64 j) who.length ?_ ?_)
  · exact ⟨0, by omega, Nat.zero_le _, by simp, rfl, rfl, rfl, rfl, rfl⟩
  rintro m E h' n' ⟨j, rfl, hj, hall, rfl, rfl, e0, e1, e6⟩
  refine WP.seq_k fun K6 hK6 => ?_
  refine WP.seq_k fun K1 hK1 => WP.region hT rfl ?_
  simp only [↓opsA, ↓stepA, ↓e_len1, ↓callA, ev, Env.get_put_some, ↓e_move, ↓e_binOp, b_lss, ↓thenA, reduceIte, Nat.reduceEqDiff, ↓reduceIte, T_2, T_37, rdSl_emp hws, e1, e6]
  refine hK1 _ _ _ ?_
  clear hK1 K1
  refine WP.cond (by simp only [ev, Env.get_put_some, ↓reduceIte]; rfl) (fun hc2 => ?_) (fun hc2 => ?_)
  · have hjl : j < who.length := by simp at hc2; omega
    obtain ⟨b, c, hb, hc, hR2⟩ := all2_at hwl hjl
    obtain ⟨rfl, hok⟩ := hR2
    refine WP.skip (hK6 _ _ _ ?_)
    clear hK6 K6
    refine WP.seq_k fun K10 hK10 => WP.block (WP.seq_k fun K12 hK12 => WP.region hT rfl ?_)
    simp only [↓opsA, ↓stepA, ↓e_len1, ↓callA, Int.toNat_natCast, List.map_cons, List.map_nil, ev, Env.get_put_some, ↓e_move, ↓e_binOp, ↓e_unOp, ↓e_load, ↓e_indexAddr, b_sub, ofVal, ↓thenA, AV.cells_int, reduceIte, Nat.reduceEqDiff, true_and, List.getElem?_cons_zero, List.append_nil, Nat.lt_add_one, ↓reduceIte, T_2, T_31, T_38, T_37, rdSl_emp hes, rdSl_emp hws, e0, e1, e6, hb, cellOk, pt_2, hw]
    refine ⟨by omega, by omega, c49 (hK12 _ _ _ ?_)⟩
    clear hK12 K12
    refine WP.cond (by simp only [ev, Env.get_put_some, ↓reduceIte]; rfl) (fun hc3 => ?_) (fun hc3 => ?_)
    · refine WP.seq_k fun K1 hK1 => WP.region hT rfl ?_
      simp only [↓opsA, ↓stepA, ↓callA, ev, ↓e_assign, ofVal, ↓thenA]
      refine hK1 _ _ _ ?_
      clear hK1 K1
      refine WP.ret ?_
      simp only [Env.get_put_some, ↓thenA, ↓blockA, reduceIte, Option.map_some, ↓reduceIte, retA, resA]
      rw [if_pos (List.any_eq_true.2 ⟨c, List.mem_of_getElem? hc, hc3⟩)] at hk
      exact ⟨_, rfl, ret_p (Left.refl hlt) (.int _ _) hk⟩
    refine WP.skip ?_
    simp only [↓thenA, ↓blockA]
    refine hK10 _ _ _ ?_
    clear hK10 K10
    refine WP.region hT rfl ?_
    simp only [↓opsA, ↓stepA, ↓callA, ev, Env.get_put_some, ↓e_move, ↓e_assign, ↓e_binOp, b_add, ofVal, ↓thenA, reduceIte, Nat.reduceEqDiff, true_and, ↓reduceIte, e6]
    refine ⟨who.length - (j + 1), by omega, j + 1, rfl, hjl, ?_, ?_, ?_, ?_⟩
    · intro b hb
      rcases mem_take_succ hc hb with hb | rfl
      · exact hall b hb
      · exact hc3
    · simpa [Env.get, Env.put] using e0
    · simpa [Env.get, Env.put] using e1
    · rw [wrap_in (by omega) (by omega)]
      rfl
  · have hjl : j = who.length := by simp at hc2; omega
    subst hjl
    rw [List.take_of_length_le (Nat.le_refl _)] at hall
    refine WP.exit ?_
    simp only [↓thenA, ↓blockA, reduceIte, ↓reduceIte]
    refine hK4 _ _ _ ?_
    clear hK6 K6 hK4 K4
    refine WP.seq_k fun K1 hK1 => WP.region hT rfl ?_
    simp only [↓opsA, ↓stepA, ↓callA, ev, ↓e_assign, ofVal, ↓thenA]
    refine hK1 _ _ _ ?_
    clear hK1 K1
    refine WP.ret ?_
    simp only [Env.get_put_some, reduceIte, Option.map_some, ↓reduceIte, retA, resA]
    rw [if_neg (by
      intro hq
      obtain ⟨b, hb, hbb⟩ := List.any_eq_true.1 hq
      rw [hall b hb] at hbb; cases hbb)] at hk
    exact ⟨_, rfl, ret_p (Left.refl hlt) (.int _ _) hk⟩

theorem c59 {w m : Int} {id : Nat} (hb : h id = some [.int .i64 m]) (hm : 1 ≤ m ∧ m ≤ 5) (hk : K (.bool (!within w 0 (m - 1))) h n) : CA Try.prog 59 ([.int .i64 w] ++ [.ep 1 (.sl 1 id 0 1 1 true) 0 0]) h n K := by
  refine CA.conv (CA.enter (N := 9) (rs := [.tmp 3]) hT Try.call59 Try.func59 rfl rfl (by simp) rfl fun hlt => ?_)
  refine WP.seq_k fun K1 hK1 => WP.region hT rfl ?_
  simp only [↓opsA, ↓stepA, ↓callA, ev, ↓e_assign, ofVal, ↓thenA, List.cons_append, List.nil_append]
  refine hK1 _ _ _ ?_
  clear hK1 K1
  have hw : IntKind.i64.wrap (m - 1) = m - 1 := wrap_in (by omega) (by omega)
  refine WP.seq_k fun K1 hK1 => WP.region hT rfl ?_
  simp only [↓opsA, ↓stepA, ↓callA, List.map_cons, List.map_nil, ev, Env.get_put_some, Env.get_envOf, ↓e_move, ↓e_assign, ↓e_binOp, ↓e_unOp, ↓e_load, b_sub, rdSl_sl, ofVal, ↓thenA, AV.cells_int, reduceIte, Nat.reduceEqDiff, true_and, List.getElem?_cons_zero, List.getElem?_cons_succ, Option.getD_some, List.length_cons, List.length_nil, Nat.zero_add, List.drop_zero, List.take_succ_cons, List.take_zero, List.append_nil, ↓reduceIte, Nat.le_refl, T_2, hb, pt_2, cellOk, hw]
  refine c53 ?_
  simp only [u_not]
  refine hK1 _ _ _ ?_
  clear hK1 K1
  refine WP.ret ?_
  simp only [Env.get_put_some, reduceIte, Option.map_some, ↓reduceIte, retA, resA]
  exact ⟨_, rfl, ret_p (Left.refl hlt) (.bool _) hk⟩

theorem c84 {x : AV} {who : List Int} {m : Int} {id : Nat} (hx : IntsR x who) (hb : h id = some [.int .i64 m]) (hm : 1 ≤ m ∧ m ≤ 5) (hk : K (.int .i64 (idxV (who.findIdx? fun w => !within w 0 (m - 1)))) h n) :
    CA Try.prog 84 [x, .fn 59 [.ep 1 (.sl 1 id 0 1 1 true) 0 0]] h n K :=
  idxF_gen (tf := 91) hT Try.call84 Try.func84 rfl rfl rfl rfl tyInt_2 hx (fun K e a _ hR hk => by obtain ⟨rfl, _⟩ := hR; exact c59 hb hm hk) hk

theorem c58 {x : AV} {who : List Int} {m : Int} {id : Nat} (hx : IntsR x who) (hb : h id = some [.int .i64 m]) (hm : 1 ≤ m ∧ m ≤ 5) (hk : K (.bool (who.any fun w => !within w 0 (m - 1))) h n) :
    CA Try.prog 58 [x, .fn 59 [.ep 1 (.sl 1 id 0 1 1 true) 0 0]] h n K :=
  conF_gen hT Try.call58 Try.func58 rfl rfl rfl hx (fun _ hk => c84 hx hb hm hk) hk

/-- What a merge keeps: the transactions of the sessions, how far each has been read, the next transaction, the acts and who did them. -/
structure MergeS where
  txns : List Int
  nexts : List Nat
  nt : Int
  acts : List ActD
  by_ : List Int

def beginAct : ActD := ⟨1, 0, 0, 0⟩

def mergeStep (l : List (List ActD)) (s : MergeS) (w : Int) : MergeS :=
  if s.txns.getD w.toNat 0 = 0 then ⟨s.txns.set w.toNat s.nt, s.nexts, s.nt + 1, s.acts ++ [beginAct], s.by_ ++ [w]⟩
  else match (l.getD w.toNat [])[s.nexts.getD w.toNat 0]? with
    | some a => ⟨s.txns, s.nexts.set w.toNat (s.nexts.getD w.toNat 0 + 1), s.nt, s.acts ++ [⟨a.kind, s.txns.getD w.toNat 0, a.key, a.value⟩], s.by_ ++ [w]⟩
    | none => s

def merge0 (l : List (List ActD)) : MergeS := ⟨List.replicate l.length 0, List.replicate l.length 0, 2, [], []⟩

/-- What a merge's state keeps to. -/
structure MOk (l : List (List ActD)) (i : Nat) (s : MergeS) : Prop where
  lt : s.txns.length = l.length
  ln : s.nexts.length = l.length
  n2 : 2 ≤ s.nt
  ni : s.nt ≤ 2 + i
  tx : ∀ t, t ∈ s.txns → 0 ≤ t ∧ t ≤ 2 + i
  nx : ∀ k, k ∈ s.nexts → k ≤ i
  la : s.acts.length ≤ i
  lb : s.by_.length ≤ i
  oa : ∀ a, a ∈ s.acts → a.ok
  ob : ∀ w, w ∈ s.by_ → I64 w

theorem MOk.zero (l : List (List ActD)) : MOk l 0 (merge0 l) where
  lt := by simp [merge0]
  ln := by simp [merge0]
  n2 := by simp [merge0]
  ni := by simp [merge0]
  tx := fun t ht => by simp [merge0] at ht; omega
  nx := fun t ht => by simp [merge0] at ht; omega
  la := by simp [merge0]
  lb := by simp [merge0]
  oa := fun a ha => by simp [merge0] at ha
  ob := fun a ha => by simp [merge0] at ha

theorem mem_set {α : Type} {l : List α} {i : Nat} {a b : α} (h : b ∈ l.set i a) : b ∈ l ∨ b = a := by
  rcases List.mem_or_eq_of_mem_set h with h | h
  · exact .inl h
  · exact .inr h

theorem getD_mem {α : Type} {l : List α} {i : Nat} {d : α} (h : i < l.length) : l.getD i d ∈ l := by
  rw [List.getD_eq_getElem?_getD, List.getElem?_eq_getElem h]; exact List.getElem_mem h

theorem MOk.step {l : List (List ActD)} {i : Nat} {s : MergeS} {w : Int} (h : MOk l i s) (hi : i ≤ 80) (hw : 0 ≤ w ∧ w < l.length) (hl : l.length ≤ 5) (hok : ∀ x, x ∈ l → ∀ a, a ∈ x → a.ok) : MOk l (i + 1) (mergeStep l s w) := by
  have hwi : I64 w := by unfold I64; omega
  have hni := h.ni
  have hn2 := h.n2
  have hla := h.la
  have hlb := h.lb
  unfold mergeStep
  split
  · rename_i h0
    refine ⟨by simpa using h.lt, h.ln, by simp only; omega, by simp only; omega, fun t ht => ?_, fun k hk => ?_, by simp; omega, by simp; omega, fun a ha => ?_, fun a ha => ?_⟩
    · rcases mem_set ht with ht | rfl
      · have := h.tx t ht; omega
      · omega
    · have := h.nx k hk; omega
    · rcases List.mem_append.1 ha with ha | ha
      · exact h.oa a ha
      · rw [List.mem_singleton.1 ha]
        exact ⟨⟨by decide, by decide⟩, ⟨by decide, by decide⟩, ⟨by decide, by decide⟩, ⟨by decide, by decide⟩⟩
    · rcases List.mem_append.1 ha with ha | ha
      · exact h.ob a ha
      · rw [List.mem_singleton.1 ha]; exact hwi
  · split
    · rename_i h0 a ha
      have hwt : w.toNat < s.txns.length := by rw [h.lt]; omega
      have hwn : w.toNat < s.nexts.length := by rw [h.ln]; omega
      have ht := h.tx _ (getD_mem (d := 0) hwt)
      have hn := h.nx _ (getD_mem (d := 0) hwn)
      refine ⟨h.lt, by simpa using h.ln, h.n2, by simp only; omega, fun t ht => ?_, fun k hk => ?_, by simp; omega, by simp; omega, fun b hb => ?_, fun b hb => ?_⟩
      · have := h.tx t ht; omega
      · rcases mem_set hk with hk | rfl
        · have := h.nx k hk; omega
        · omega
      · rcases List.mem_append.1 hb with hb | hb
        · exact h.oa b hb
        · rw [List.mem_singleton.1 hb]
          have hwl : w.toNat < l.length := by omega
          obtain ⟨k1, k2, k3, k4⟩ := hok _ (getD_mem (d := []) hwl) a (List.mem_of_getElem? ha)
          exact ⟨k1, ⟨by simp only; omega, by simp only; omega⟩, k3, k4⟩
      · rcases List.mem_append.1 hb with hb | hb
        · exact h.ob b hb
        · rw [List.mem_singleton.1 hb]; exact hwi
    · exact ⟨h.lt, h.ln, h.n2, by omega, fun t ht => by have := h.tx t ht; omega, fun k hk => by have := h.nx k hk; omega, by omega, by omega, h.oa, h.ob⟩


end
end Go.Proofs.Ytplkjfnjdekgpaa
