/- Families of functions: slices.IndexFunc, slices.ContainsFunc, slices.Index; types of slices. Own work. -/
import Derived.Test.YtplkjfnjdekgpaaLtFamF
namespace Go.Proofs.Ytplkjfnjdekgpaa
open Go

theorem tyR_slice {α : Type} {T : TE} {t e : TypeId} {sz : Nat} {R : AV → α → Prop} (ht : (T t).ty = .slice e) (h1 : (T t).sz = 1) (hz : (T t).zero = .nils) : TyR T t (SlR sz R) where
  pos := by omega
  cell := by unfold cellOk; rw [ht]
  zlen := by rw [hz, h1]; rfl
  part x a h := by
    obtain ⟨_, _, _, _, _, ho⟩ := h
    unfold part
    rw [ht]
    cases x <;> first | rfl | cases ho
  len x a h := by
    obtain ⟨_, _, _, _, _, ho⟩ := h
    rw [h1]
    cases x <;> first | rfl | cases ho
  good x a h := by
    obtain ⟨_, _, _, _, _, ho⟩ := h
    cases x <;> first | rfl | cases ho
  lt x a n h := by obtain ⟨_, _, _, _, hl, _⟩ := h; exact hl n
  setz x a h := by rw [hz]; rfl

theorem tyR_int {T : TE} {t : TypeId} {k : IntKind} {p : Int → Prop} (ht : (T t).ty = .int k) (h1 : (T t).sz = 1) (hz : (T t).zero = .int k 0) : TyR T t (fun e a => e = .int k a ∧ p a) where
  pos := by omega
  cell := by unfold cellOk; rw [ht]
  zlen := by rw [hz, h1]; rfl
  part x a h := by rw [h.1]; unfold part; rw [ht]; rfl
  len x a h := by rw [h.1, h1]; rfl
  good x a h := by rw [h.1]; rfl
  lt x a n h := by rw [h.1]; exact .int _ _
  setz x a h := by rw [hz]; rfl

theorem findIdx_hit {α : Type} {p : α → Bool} {l : List α} {i : Nat} {a : α} (hn : ∀ b, b ∈ l.take i → p b = false) (ha : l[i]? = some a) (hp : p a = true) : l.findIdx? p = some i := by
  rw [List.findIdx?_eq_some_iff_getElem]
  have hi := (List.getElem?_eq_some_iff.1 ha).1
  refine ⟨hi, ?_, fun j hj => ?_⟩
  · rw [(List.getElem?_eq_some_iff.1 ha).2]; exact hp
  · have := hn l[j] (by rw [List.mem_take_iff_getElem]; exact ⟨j, by omega, rfl⟩)
    simp [this]

theorem findIdx_none {α : Type} {p : α → Bool} {l : List α} (hn : ∀ b, b ∈ l → p b = false) : l.findIdx? p = none := by
  rw [List.findIdx?_eq_none_iff]
  exact hn

theorem le_sum {α : Type} {s : α → Nat} : ∀ {l : List α} {a : α}, a ∈ l → s a ≤ (l.map s).sum
  | x :: l, a, h => by
    rcases List.mem_cons.1 h with rfl | h
    · simp
    · have := le_sum (s := s) h
      simp; omega

def idxV (o : Option Nat) : Int := match o with | some i => i | none => -1

theorem mem_take_succ {α : Type} {l : List α} {i : Nat} {a b : α} (ha : l[i]? = some a) (hb : b ∈ l.take (i + 1)) : b ∈ l.take i ∨ b = a := by
  rw [List.take_add_one, ha] at hb
  simpa using hb

def idxFCode (t tf ts : Nat) (p0 p1 p2 p3 p4 p5 p6 p7 p8 p9 p10 p11 p12 p13 p14 p15 p16 p17 : String) : Code :=
  (.seq
    (.region 0 #[⟨(some 4), .assign (.const (.int .i64 0)), 3, p0, #[], none⟩] false)
    (.seq
      (.seq
        (.region 1 #[⟨(some 6), .move (.tmp 0), ts, p1, #[], none⟩,
          ⟨(some 7), .call { callee := (.builtin .len), args := #[(.tmp 6)], argTypes := #[ts] }, 3, p2, #[⟨0, .data⟩], none⟩,
          ⟨(some 8), .move (.const (.int .i64 0)), 3, p3, #[], none⟩] false)
        (.block 0
          (.loop
            (.seq
              (.region 2 #[⟨(some 9), .binOp .lss 3 (.tmp 8) (.tmp 7) 3, 0, p4, #[], none⟩] false)
              (.seq
                (.cond (.tmp 9)
                  .skip
                  (.exit 0))
                (.seq
                  (.block 1
                    (.seq
                      (.region 3 #[⟨(some 10), .move (.tmp 8), 3, p5, #[], none⟩,
                        ⟨(some 5), .assign (.tmp 10), 3, p6, #[⟨0, .data⟩, ⟨0, .phase⟩], none⟩] false)
                      (.seq
                        (.region 4 #[⟨(some 11), .move (.tmp 1), tf, p7, #[], none⟩,
                          ⟨(some 12), .move (.tmp 0), ts, p8, #[], none⟩,
                          ⟨(some 13), .move (.tmp 5), 3, p9, #[], none⟩,
                          ⟨(some 14), .indexAddr ts (.tmp 12) (.tmp 13), 0, p10, #[⟨1, .data⟩, ⟨2, .data⟩], none⟩,
                          ⟨(some 15), .load t (.tmp 14), t, p11, #[⟨3, .data⟩], none⟩,
                          ⟨(some 16), .call { callee := (.value (.tmp 11)), args := #[(.tmp 15)], argTypes := #[t] }, 4, p12, #[⟨0, .data⟩, ⟨4, .data⟩], none⟩] false)
                        (.cond (.tmp 16)
                          (.seq
                            (.region 5 #[⟨(some 17), .move (.tmp 5), 3, p13, #[], none⟩,
                              ⟨(some 4), .assign (.tmp 17), 3, p14, #[⟨0, .data⟩, ⟨0, .phase⟩], none⟩] false)
                            .ret)
                          .skip))))
                  (.region 6 #[⟨(some 18), .binOp .add 3 (.tmp 8) (.const (.int .i64 1)) 3, 3, p15, #[], none⟩,
                    ⟨(some 8), .move (.tmp 18), 3, p16, #[⟨0, .data⟩], none⟩] false)))))))
      (.seq
        (.region 7 #[⟨(some 4), .assign (.const (.int .i64 (-1))), 3, p17, #[], none⟩] false)
        .ret)))

theorem idxF_gen {P : Program} {T : TE} {α : Type} {R : AV → α → Prop} {p : α → Bool} {t tf ts : Nat} {p0 p1 p2 p3 p4 p5 p6 p7 p8 p9 p10 p11 p12 p13 p14 p15 p16 p17 : String}
    (hT : TEOk P T) {f : FuncId} {fn : Func} (hg : Goes P f) (hf : P.funcs[f]? = some fn) (hb : fn.body = some (idxFCode t tf ts p0 p1 p2 p3 p4 p5 p6 p7 p8 p9 p10 p11 p12 p13 p14 p15 p16 p17)) (hN : fn.ntmps = 19) (hrs : fn.results.toList = [.tmp 4])
    (hts : (T ts).ty = .slice t) (ht : TyR T t R) {x : AV} {l : List α} (hx : SlR (T t).sz R x l) {g : FuncId} {cap : List AV} {h : Heap} {n : Nat}
    (hcall : ∀ K e a, a ∈ l → R e a → K (.bool (p a)) h n → CA P g ([e] ++ cap) h n K)
    {K : AV → Heap → Nat → Prop} (hk : K (.int .i64 (idxV (l.findIdx? p))) h n) : CA P f [x, .fn g cap] h n K := by
  obtain ⟨es, hes, hal, hml, _, _⟩ := hx
  have hel := all2_length hal
  have hpt := ht.pos
  have hct := ht.cell
  unfold maxLen at hml
  refine CA.conv (CA.enter (N := 19) hT hg hf hb hN (by simp) hrs fun hlt => ?_)
  unfold idxFCode
  refine WP.seq_k fun K1 hK1 => WP.region hT rfl ?_
  simp only [↓opsA, ↓stepA, ↓callA, ev, ↓e_assign, ofVal, ↓thenA]
  refine hK1 _ _ _ ?_
  clear hK1 K1
  refine WP.seq_k fun K1 hK1 => WP.seq_k fun K2 hK2 => WP.region hT rfl ?_
  simp only [↓opsA, ↓stepA, ↓e_len1, ↓callA, ev, Env.get_put_some, Env.get_envOf, ↓e_move, ofVal, ↓thenA, reduceIte, Nat.reduceEqDiff, List.getElem?_cons_zero, Option.getD_some, ↓reduceIte, hts, rdSl_emp hes]
  refine hK2 _ _ _ ?_
  clear hK2 K2
  refine WP.block (WP.loop (fun m E h' n' => ∃ i, m = l.length - i ∧ i ≤ l.length ∧ (∀ b, b ∈ l.take i → p b = false) ∧ n' = n ∧ h' = h ∧ E.get 0 = x ∧ E.get 1 = .fn g cap ∧ E.get 7 = .int .i64 es.length ∧ E.get 8 = .int .i64 i) l.length ?_ ?_)
  · exact ⟨0, by omega, Nat.zero_le _, by simp, rfl, rfl, rfl, rfl, rfl, rfl⟩
  rintro m E h' n' ⟨i, rfl, hi, hno, rfl, rfl, e0, e1, e7, e8⟩
  refine WP.seq_k fun K2 hK2 => WP.region hT rfl ?_
  simp only [↓opsA, ↓stepA, ↓callA, ev, ↓e_binOp, b_lss, ↓thenA, e7, e8]
  refine hK2 _ _ _ ?_
  clear hK2 K2
  refine WP.seq_k fun K2 hK2 => ?_
  refine WP.cond (by simp only [ev, Env.get_put_some, ↓reduceIte]; rfl) (fun hc => ?_) (fun hc => ?_)
  · have hil : i < l.length := by simp at hc; omega
    refine WP.skip (hK2 _ _ _ ?_)
    clear hK2 K2
    obtain ⟨e, a, he, ha, hR⟩ := all2_at hal hil
    have hp := ht.part e a hR
    refine WP.seq_k fun K2 hK2 => WP.block (WP.seq_k fun K3 hK3 => WP.region hT rfl ?_)
    simp only [↓opsA, ↓stepA, ↓callA, ev, Env.get_put_some, ↓e_move, ↓e_assign, ↓thenA, reduceIte, Nat.reduceEqDiff, ↓reduceIte, e8]
    refine hK3 _ _ _ ?_
    clear hK3 K3
    refine WP.seq_k fun K3 hK3 => WP.region hT rfl ?_
    simp only [↓opsA, ↓stepA, ↓callA, Int.toNat_natCast, List.map_cons, List.map_nil, ev, Env.get_put_some, ↓e_move, ↓e_load, ↓e_indexAddr, ↓thenA, reduceIte, Nat.reduceEqDiff, List.cons_append, List.nil_append, ↓reduceIte, hts, e0, e1, rdSl_emp hes, he, hp]
    refine ⟨hpt, by omega, by omega, hct, hcall _ _ a (List.mem_of_getElem? ha) hR (hK3 _ _ _ ?_)⟩
    clear hK3 K3
    refine WP.cond (by simp only [ev, Env.get_put_some, ↓reduceIte]; rfl) (fun hc2 => ?_) (fun hc2 => ?_)
    · refine WP.seq_k fun K1 hK1 => WP.region hT rfl ?_
      simp only [↓opsA, ↓stepA, ↓callA, ev, Env.get_put_some, ↓e_move, ↓e_assign, ↓thenA, reduceIte, Nat.reduceEqDiff, ↓reduceIte]
      refine hK1 _ _ _ ?_
      clear hK1 K1
      refine WP.ret ?_
      simp only [Env.get_put_some, ↓thenA, ↓blockA, reduceIte, Option.map_some, ↓reduceIte, retA, resA]
      refine ⟨_, rfl, ret_p (Left.refl hlt) (.int _ _) ?_⟩
      rw [findIdx_hit hno ha hc2] at hk
      exact hk
    refine WP.skip ?_
    simp only [↓thenA, ↓blockA]
    refine hK2 _ _ _ ?_
    clear hK2 K2
    refine WP.region hT rfl ?_
    simp only [↓opsA, ↓stepA, ↓callA, ev, Env.get_put_some, ↓e_move, ↓e_binOp, b_add, ofVal, ↓thenA, reduceIte, Nat.reduceEqDiff, true_and, ↓reduceIte, e8]
    refine ⟨l.length - (i + 1), by omega, i + 1, rfl, hil, ?_, ?_, ?_, ?_, ?_⟩
    · intro b hb
      rcases mem_take_succ ha hb with hb | rfl
      · exact hno b hb
      · exact hc2
    · simpa [Env.get, Env.put] using e0
    · simpa [Env.get, Env.put] using e1
    · simpa [Env.get, Env.put] using e7
    · rw [wrap_in (by omega) (by omega)]
      rfl
  · have hil : i = l.length := by simp at hc; omega
    subst hil
    refine WP.exit ?_
    simp only [↓thenA, ↓blockA, reduceIte, ↓reduceIte]
    refine hK1 _ _ _ ?_
    clear hK2 K2 hK1 K1
    refine WP.seq_k fun K1 hK1 => WP.region hT rfl ?_
    simp only [↓opsA, ↓stepA, ↓callA, ev, ↓e_assign, ofVal, ↓thenA]
    refine hK1 _ _ _ ?_
    clear hK1 K1
    refine WP.ret ?_
    simp only [Env.get_put_some, reduceIte, Option.map_some, ↓reduceIte, retA, resA]
    refine ⟨_, rfl, ret_p (Left.refl hlt) (.int _ _) ?_⟩
    rw [List.take_of_length_le (Nat.le_refl _)] at hno
    rw [findIdx_none hno] at hk
    exact hk

def conFCode (g tf ts : Nat) (p0 p1 p2 p3 p4 p5 : String) : Code :=
  (.seq
    (.region 0 #[⟨(some 4), .assign (.const (.bool false)), 4, p0, #[], none⟩] false)
    (.seq
      (.region 1 #[⟨(some 5), .move (.tmp 0), ts, p1, #[], none⟩,
        ⟨(some 6), .move (.tmp 1), tf, p2, #[], none⟩,
        ⟨(some 7), .call { callee := (.value (.func g)), args := #[(.tmp 5), (.tmp 6)], argTypes := #[ts, tf] }, 3, p3, #[⟨0, .data⟩, ⟨1, .data⟩], none⟩,
        ⟨(some 8), .binOp .geq 3 (.tmp 7) (.const (.int .i64 0)) 3, 4, p4, #[⟨2, .data⟩], none⟩,
        ⟨(some 4), .assign (.tmp 8), 4, p5, #[⟨3, .data⟩, ⟨2, .chain⟩, ⟨0, .phase⟩, ⟨1, .phase⟩, ⟨2, .phase⟩, ⟨3, .phase⟩], none⟩] false)
      .ret))

theorem conF_gen {P : Program} {T : TE} {α : Type} {R : AV → α → Prop} {p : α → Bool} {sz g tf ts : Nat} {p0 p1 p2 p3 p4 p5 : String}
    (hT : TEOk P T) {f : FuncId} {fn : Func} (hg : Goes P f) (hf : P.funcs[f]? = some fn) (hb : fn.body = some (conFCode g tf ts p0 p1 p2 p3 p4 p5)) (hN : fn.ntmps = 9) (hrs : fn.results.toList = [.tmp 4])
    {x y : AV} {l : List α} (_ : SlR sz R x l) {h : Heap} {n : Nat} (hcall : ∀ K, K (.int .i64 (idxV (l.findIdx? p))) h n → CA P g [x, y] h n K)
    {K : AV → Heap → Nat → Prop} (hk : K (.bool (l.any p)) h n) : CA P f [x, y] h n K := by
  refine CA.conv (CA.enter (N := 9) hT hg hf hb hN (by simp) hrs fun hlt => ?_)
  unfold conFCode
  refine WP.seq_k fun K1 hK1 => WP.region hT rfl ?_
  simp only [↓opsA, ↓stepA, ↓callA, ev, ↓e_assign, ofVal, ↓thenA]
  refine hK1 _ _ _ ?_
  clear hK1 K1
  refine WP.seq_k fun K1 hK1 => WP.region hT rfl ?_
  simp only [↓opsA, ↓stepA, ↓callA, List.map_cons, List.map_nil, ev, Env.get_put_some, Env.get_envOf, ↓e_move, ↓e_assign, ↓e_binOp, ofVal, ↓thenA, reduceIte, Nat.reduceEqDiff, List.getElem?_cons_zero, List.getElem?_cons_succ, Option.getD_some, List.append_nil, ↓reduceIte]
  refine hcall _ ?_
  simp only [b_geq]
  refine hK1 _ _ _ ?_
  clear hK1 K1
  refine WP.ret ?_
  simp only [Env.get_put_some, reduceIte, Option.map_some, ↓reduceIte, retA, resA]
  refine ⟨_, rfl, ret_p (Left.refl hlt) (.bool _) ?_⟩
  have : decide ((0 : Int) ≤ idxV (l.findIdx? p)) = l.any p := by
    cases hq : l.findIdx? p with
    | none =>
      rw [List.findIdx?_eq_none_iff] at hq
      have : l.any p = false := by rw [List.any_eq_false]; intro a ha; simp [hq a ha]
      rw [this]; rfl
    | some i =>
      rw [List.findIdx?_eq_some_iff_getElem] at hq
      obtain ⟨hi, hp, _⟩ := hq
      have : l.any p = true := List.any_eq_true.2 ⟨_, List.getElem_mem hi, hp⟩
      rw [this]; simp [idxV]
  simpa [resV, this] using hk

def idxCode (t ts : Nat) (p0 p1 p2 p3 p4 p5 p6 p7 p8 p9 p10 p11 p12 p13 p14 p15 p16 p17 : String) : Code :=
  (.seq
    (.region 0 #[⟨(some 4), .assign (.const (.int .i64 0)), 3, p0, #[], none⟩] false)
    (.seq
      (.seq
        (.region 1 #[⟨(some 6), .move (.tmp 0), ts, p1, #[], none⟩,
          ⟨(some 7), .call { callee := (.builtin .len), args := #[(.tmp 6)], argTypes := #[ts] }, 3, p2, #[⟨0, .data⟩], none⟩,
          ⟨(some 8), .move (.const (.int .i64 0)), 3, p3, #[], none⟩] false)
        (.block 0
          (.loop
            (.seq
              (.region 2 #[⟨(some 9), .binOp .lss 3 (.tmp 8) (.tmp 7) 3, 0, p4, #[], none⟩] false)
              (.seq
                (.cond (.tmp 9)
                  .skip
                  (.exit 0))
                (.seq
                  (.block 1
                    (.seq
                      (.region 3 #[⟨(some 10), .move (.tmp 8), 3, p5, #[], none⟩,
                        ⟨(some 5), .assign (.tmp 10), 3, p6, #[⟨0, .data⟩, ⟨0, .phase⟩], none⟩] false)
                      (.seq
                        (.region 4 #[⟨(some 11), .move (.tmp 1), t, p7, #[], none⟩,
                          ⟨(some 12), .move (.tmp 0), ts, p8, #[], none⟩,
                          ⟨(some 13), .move (.tmp 5), 3, p9, #[], none⟩,
                          ⟨(some 14), .indexAddr ts (.tmp 12) (.tmp 13), 0, p10, #[⟨1, .data⟩, ⟨2, .data⟩], none⟩,
                          ⟨(some 15), .load t (.tmp 14), t, p11, #[⟨3, .data⟩], none⟩,
                          ⟨(some 16), .binOp .eql t (.tmp 11) (.tmp 15) t, 4, p12, #[⟨0, .data⟩, ⟨4, .data⟩], none⟩] false)
                        (.cond (.tmp 16)
                          (.seq
                            (.region 5 #[⟨(some 17), .move (.tmp 5), 3, p13, #[], none⟩,
                              ⟨(some 4), .assign (.tmp 17), 3, p14, #[⟨0, .data⟩, ⟨0, .phase⟩], none⟩] false)
                            .ret)
                          .skip))))
                  (.region 6 #[⟨(some 18), .binOp .add 3 (.tmp 8) (.const (.int .i64 1)) 3, 3, p15, #[], none⟩,
                    ⟨(some 8), .move (.tmp 18), 3, p16, #[⟨0, .data⟩], none⟩] false)))))))
      (.seq
        (.region 7 #[⟨(some 4), .assign (.const (.int .i64 (-1))), 3, p17, #[], none⟩] false)
        .ret)))

theorem idx_gen {P : Program} {T : TE} {α : Type} [DecidableEq α] {R : AV → α → Prop} {t ts : Nat} {p0 p1 p2 p3 p4 p5 p6 p7 p8 p9 p10 p11 p12 p13 p14 p15 p16 p17 : String}
    (hT : TEOk P T) {f : FuncId} {fn : Func} (hg : Goes P f) (hf : P.funcs[f]? = some fn) (hb : fn.body = some (idxCode t ts p0 p1 p2 p3 p4 p5 p6 p7 p8 p9 p10 p11 p12 p13 p14 p15 p16 p17)) (hN : fn.ntmps = 19) (hrs : fn.results.toList = [.tmp 4])
    (hts : (T ts).ty = .slice t) (ht : TyR T t R) {x y : AV} {l : List α} {b : α} (hx : SlR (T t).sz R x l) (hy : R y b) (heq : ∀ e e' a b (K : AV → Prop), R e a → R e' b → K (.bool (decide (a = b))) → binP T .eql t e e' K) {h : Heap} {n : Nat}
    {K : AV → Heap → Nat → Prop} (hk : K (.int .i64 (idxV (l.findIdx? (fun a => decide (b = a))))) h n) : CA P f [x, y] h n K := by
  obtain ⟨es, hes, hal, hml, _, _⟩ := hx
  have hel := all2_length hal
  have hpt := ht.pos
  have hct := ht.cell
  unfold maxLen at hml
  refine CA.conv (CA.enter (N := 19) hT hg hf hb hN (by simp) hrs fun hlt => ?_)
  unfold idxCode
  refine WP.seq_k fun K1 hK1 => WP.region hT rfl ?_
  simp only [↓opsA, ↓stepA, ↓callA, ev, ↓e_assign, ofVal, ↓thenA]
  refine hK1 _ _ _ ?_
  clear hK1 K1
  refine WP.seq_k fun K1 hK1 => WP.seq_k fun K2 hK2 => WP.region hT rfl ?_
  simp only [↓opsA, ↓stepA, ↓e_len1, ↓callA, ev, Env.get_put_some, Env.get_envOf, ↓e_move, ofVal, ↓thenA, reduceIte, Nat.reduceEqDiff, List.getElem?_cons_zero, Option.getD_some, ↓reduceIte, hts, rdSl_emp hes]
  refine hK2 _ _ _ ?_
  clear hK2 K2
  refine WP.block (WP.loop (fun m E h' n' => ∃ i, m = l.length - i ∧ i ≤ l.length ∧ (∀ c, c ∈ l.take i → decide (b = c) = false) ∧ n' = n ∧ h' = h ∧ E.get 0 = x ∧ E.get 1 = y ∧ E.get 7 = .int .i64 es.length ∧ E.get 8 = .int .i64 i) l.length ?_ ?_)
  · exact ⟨0, by omega, Nat.zero_le _, by simp, rfl, rfl, rfl, rfl, rfl, rfl⟩
  rintro m E h' n' ⟨i, rfl, hi, hno, rfl, rfl, e0, e1, e7, e8⟩
  refine WP.seq_k fun K2 hK2 => WP.region hT rfl ?_
  simp only [↓opsA, ↓stepA, ↓callA, ev, ↓e_binOp, b_lss, ↓thenA, e7, e8]
  refine hK2 _ _ _ ?_
  clear hK2 K2
  refine WP.seq_k fun K2 hK2 => ?_
  refine WP.cond (by simp only [ev, Env.get_put_some, ↓reduceIte]; rfl) (fun hc => ?_) (fun hc => ?_)
  · have hil : i < l.length := by simp at hc; omega
    refine WP.skip (hK2 _ _ _ ?_)
    clear hK2 K2
    obtain ⟨e, a, he, ha, hR⟩ := all2_at hal hil
    have hp := ht.part e a hR
    refine WP.seq_k fun K2 hK2 => WP.block (WP.seq_k fun K3 hK3 => WP.region hT rfl ?_)
    simp only [↓opsA, ↓stepA, ↓callA, ev, Env.get_put_some, ↓e_move, ↓e_assign, ↓thenA, reduceIte, Nat.reduceEqDiff, ↓reduceIte, e8]
    refine hK3 _ _ _ ?_
    clear hK3 K3
    refine WP.seq_k fun K3 hK3 => WP.region hT rfl ?_
    simp only [↓opsA, ↓stepA, ↓callA, Int.toNat_natCast, ev, Env.get_put_some, ↓e_move, ↓e_binOp, ↓e_load, ↓e_indexAddr, ↓thenA, reduceIte, Nat.reduceEqDiff, ↓reduceIte, hts, e0, e1, rdSl_emp hes, he, hp]
    refine ⟨hpt, by omega, by omega, hct, heq _ _ _ _ _ hy hR (hK3 _ _ _ ?_)⟩
    clear hK3 K3
    refine WP.cond (by simp only [ev, Env.get_put_some, ↓reduceIte]; rfl) (fun hc2 => ?_) (fun hc2 => ?_)
    · refine WP.seq_k fun K1 hK1 => WP.region hT rfl ?_
      simp only [↓opsA, ↓stepA, ↓callA, ev, Env.get_put_some, ↓e_move, ↓e_assign, ↓thenA, reduceIte, Nat.reduceEqDiff, ↓reduceIte]
      refine hK1 _ _ _ ?_
      clear hK1 K1
      refine WP.ret ?_
      simp only [Env.get_put_some, ↓thenA, ↓blockA, reduceIte, Option.map_some, ↓reduceIte, retA, resA]
      refine ⟨_, rfl, ret_p (Left.refl hlt) (.int _ _) ?_⟩
      rw [findIdx_hit hno ha hc2] at hk
      exact hk
    refine WP.skip ?_
    simp only [↓thenA, ↓blockA]
    refine hK2 _ _ _ ?_
    clear hK2 K2
    refine WP.region hT rfl ?_
    simp only [↓opsA, ↓stepA, ↓callA, ev, Env.get_put_some, ↓e_move, ↓e_binOp, b_add, ofVal, ↓thenA, reduceIte, Nat.reduceEqDiff, true_and, ↓reduceIte, e8]
    refine ⟨l.length - (i + 1), by omega, i + 1, rfl, hil, ?_, ?_, ?_, ?_, ?_⟩
    · intro c hb
      rcases mem_take_succ ha hb with hb | rfl
      · exact hno c hb
      · exact hc2
    · simpa [Env.get, Env.put] using e0
    · simpa [Env.get, Env.put] using e1
    · simpa [Env.get, Env.put] using e7
    · rw [wrap_in (by omega) (by omega)]
      rfl
  · have hil : i = l.length := by simp at hc; omega
    subst hil
    refine WP.exit ?_
    simp only [↓thenA, ↓blockA, reduceIte, ↓reduceIte]
    refine hK1 _ _ _ ?_
    clear hK2 K2 hK1 K1
    refine WP.seq_k fun K1 hK1 => WP.region hT rfl ?_
    simp only [↓opsA, ↓stepA, ↓callA, ev, ↓e_assign, ofVal, ↓thenA]
    refine hK1 _ _ _ ?_
    clear hK1 K1
    refine WP.ret ?_
    simp only [Env.get_put_some, reduceIte, Option.map_some, ↓reduceIte, retA, resA]
    refine ⟨_, rfl, ret_p (Left.refl hlt) (.int _ _) ?_⟩
    rw [List.take_of_length_le (Nat.le_refl _)] at hno
    rw [findIdx_none hno] at hk
    exact hk
end Go.Proofs.Ytplkjfnjdekgpaa
