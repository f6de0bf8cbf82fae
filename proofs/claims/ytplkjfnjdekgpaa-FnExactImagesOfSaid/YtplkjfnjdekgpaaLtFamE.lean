/- Families of functions: what is counted of a slice. Own work. -/
import Derived.Test.YtplkjfnjdekgpaaLtFamD
namespace Go.Proofs.Ytplkjfnjdekgpaa
open Go

def left (s : Nat) (k : Int) : Int := if (s : Int) ≤ k then k - s else -1
def sizL {α : Type} (s : α → Nat) (l : List α) : Nat := l.length + (l.map s).sum

def szS0Code (ts : Nat) (p0 p1 p2 p3 p4 p5 p6 p7 p8 p9 p10 : String) : Code :=
  (.seq
    (.region 0 #[⟨(some 4), .assign (.const (.int .i64 0)), 3, p0, #[], none⟩] false)
    (.seq
      (.region 1 #[⟨(some 5), .move (.tmp 1), 3, p1, #[], none⟩,
        ⟨(some 6), .move (.tmp 0), ts, p2, #[], none⟩,
        ⟨(some 7), .call { callee := (.builtin .len), args := #[(.tmp 6)], argTypes := #[ts] }, 3, p3, #[⟨1, .data⟩], none⟩,
        ⟨(some 8), .binOp .sub 3 (.tmp 5) (.tmp 7) 3, 3, p4, #[⟨0, .data⟩, ⟨2, .data⟩], none⟩,
        ⟨(some 1), .assign (.tmp 8), 3, p5, #[⟨3, .data⟩, ⟨0, .phase⟩, ⟨1, .phase⟩, ⟨2, .phase⟩, ⟨3, .phase⟩], none⟩] false)
      (.seq
        (.seq
          (.region 2 #[⟨(some 9), .move (.tmp 1), 3, p6, #[], none⟩,
            ⟨(some 10), .binOp .lss 3 (.tmp 9) (.const (.int .i64 0)) 3, 4, p7, #[⟨0, .data⟩], none⟩] false)
          (.cond (.tmp 10)
            (.seq
              (.region 3 #[⟨(some 4), .assign (.const (.int .i64 (-1))), 3, p8, #[], none⟩] false)
              .ret)
            .skip))
        (.seq
          (.region 4 #[⟨(some 11), .move (.tmp 1), 3, p9, #[], none⟩,
            ⟨(some 4), .assign (.tmp 11), 3, p10, #[⟨0, .data⟩, ⟨0, .phase⟩], none⟩] false)
          .ret))))

theorem szS0_gen {P : Program} {T : TE} {α : Type} {R : AV → α → Prop} {sz ts t : Nat} {p0 p1 p2 p3 p4 p5 p6 p7 p8 p9 p10 : String}
    (hT : TEOk P T) {f : FuncId} {fn : Func} (hg : Goes P f) (hf : P.funcs[f]? = some fn) (hb : fn.body = some (szS0Code ts p0 p1 p2 p3 p4 p5 p6 p7 p8 p9 p10)) (hN : fn.ntmps = 12) (hrs : fn.results.toList = [.tmp 4])
    (hts : (T ts).ty = .slice t) (hsz : (T t).sz = sz) {x : AV} {l : List α} (hx : SlR sz R x l) {k : Int} (h0 : 0 ≤ k) (h1 : k ≤ 4611686018427387904)
    {h : Heap} {n : Nat} {K : AV → Heap → Nat → Prop} (hk : K (.int .i64 (left (sizL (fun _ => 0) l) k)) h n) : CA P f [x, .int .i64 k] h n K := by
  obtain ⟨es, hes, hal, hml, _, _⟩ := hx
  have hel := all2_length hal
  unfold maxLen at hml
  subst hsz
  have hsum : ∀ l : List α, (l.map fun _ => 0).sum = 0 := fun l => by induction l with
    | nil => rfl
    | cons x l ih => simp [ih]
  have hs : sizL (fun _ => 0) l = l.length := by unfold sizL; rw [hsum]; rfl
  rw [hs] at hk
  refine CA.conv (CA.enter (N := 12) hT hg hf hb hN (by simp) hrs fun hlt => ?_)
  unfold szS0Code
  refine WP.seq_k fun K1 hK1 => WP.region hT rfl ?_
  simp only [↓opsA, ↓stepA, ↓callA, ev, ↓e_assign, ofVal, ↓thenA]
  refine hK1 _ _ _ ?_
  clear hK1 K1
  have hw : IntKind.i64.wrap (k - (es.length : Int)) = k - l.length := by rw [wrap_in (by omega) (by omega)]; omega
  refine WP.seq_k fun K1 hK1 => WP.region hT rfl ?_
  simp only [↓opsA, ↓stepA, ↓e_len1, ↓callA, ev, Env.get_put_some, Env.get_envOf, ↓e_move, ↓e_assign, ↓e_binOp, b_sub, ↓thenA, reduceIte, Nat.reduceEqDiff, List.getElem?_cons_zero, List.getElem?_cons_succ, Option.getD_some, ↓reduceIte, hts, rdSl_emp hes, hw]
  refine hK1 _ _ _ ?_
  clear hK1 K1
  refine WP.seq_k fun K2 hK2 => ?_
  refine WP.seq_k fun K1 hK1 => WP.region hT rfl ?_
  simp only [↓opsA, ↓stepA, ↓callA, ev, Env.get_put_some, ↓e_move, ↓e_binOp, b_lss, ofVal, ↓thenA, reduceIte, ↓reduceIte]
  refine hK1 _ _ _ ?_
  clear hK1 K1
  refine WP.cond (by simp only [ev, Env.get_put_some, ↓reduceIte]; rfl) (fun hc => ?_) (fun hc => ?_)
  · refine WP.seq_k fun K1 hK1 => WP.region hT rfl ?_
    simp only [↓opsA, ↓stepA, ↓callA, ev, ↓e_assign, ofVal, ↓thenA]
    refine hK1 _ _ _ ?_
    clear hK1 K1
    refine WP.ret ?_
    simp only [Env.get_put_some, ↓thenA, reduceIte, Option.map_some, ↓reduceIte, retA, resA]
    refine ⟨_, rfl, ret_plain (Left.refl hlt) (.int _ _) ?_⟩
    have : left l.length k = -1 := by unfold left; simp at hc; rw [if_neg (by omega)]
    simpa [resV, this] using hk
  refine WP.skip (hK2 _ _ _ ?_)
  clear hK2 K2
  refine WP.seq_k fun K1 hK1 => WP.region hT rfl ?_
  simp only [↓opsA, ↓stepA, ↓callA, ev, Env.get_put_some, ↓e_move, ↓e_assign, ↓thenA, reduceIte, Nat.reduceEqDiff, ↓reduceIte]
  refine hK1 _ _ _ ?_
  clear hK1 K1
  refine WP.ret ?_
  simp only [Env.get_put_some, reduceIte, Option.map_some, ↓reduceIte, retA, resA]
  refine ⟨_, rfl, ret_plain (Left.refl hlt) (.int _ _) ?_⟩
  have : left l.length k = k - l.length := by unfold left; simp at hc; rw [if_pos (by omega)]
  simpa [resV, this] using hk

def szSCode (g t ts : Nat) (p0 p1 p2 p3 p4 p5 p6 p7 p8 p9 p10 p11 p12 p13 p14 p15 p16 p17 p18 p19 p20 p21 p22 p23 p24 p25 p26 p27 p28 : String) : Code :=
  (.seq
    (.region 0 #[⟨(some 4), .assign (.const (.int .i64 0)), 3, p0, #[], none⟩] false)
    (.seq
      (.region 1 #[⟨(some 6), .move (.tmp 1), 3, p1, #[], none⟩,
        ⟨(some 7), .move (.tmp 0), ts, p2, #[], none⟩,
        ⟨(some 8), .call { callee := (.builtin .len), args := #[(.tmp 7)], argTypes := #[ts] }, 3, p3, #[⟨1, .data⟩], none⟩,
        ⟨(some 9), .binOp .sub 3 (.tmp 6) (.tmp 8) 3, 3, p4, #[⟨0, .data⟩, ⟨2, .data⟩], none⟩,
        ⟨(some 1), .assign (.tmp 9), 3, p5, #[⟨3, .data⟩, ⟨0, .phase⟩, ⟨1, .phase⟩, ⟨2, .phase⟩, ⟨3, .phase⟩], none⟩] false)
      (.seq
        (.seq
          (.region 2 #[⟨(some 10), .move (.tmp 1), 3, p6, #[], none⟩,
            ⟨(some 11), .binOp .lss 3 (.tmp 10) (.const (.int .i64 0)) 3, 4, p7, #[⟨0, .data⟩], none⟩] false)
          (.cond (.tmp 11)
            (.seq
              (.region 3 #[⟨(some 4), .assign (.const (.int .i64 (-1))), 3, p8, #[], none⟩] false)
              .ret)
            .skip))
        (.seq
          (.seq
            (.region 4 #[⟨(some 5), .assign (.const (.int .i64 0)), 3, p9, #[], none⟩] false)
            (.block 0
              (.loop
                (.seq
                  (.seq
                    (.region 5 #[⟨(some 12), .move (.tmp 5), 3, p10, #[], none⟩,
                      ⟨(some 13), .move (.tmp 0), ts, p11, #[], none⟩,
                      ⟨(some 14), .call { callee := (.builtin .len), args := #[(.tmp 13)], argTypes := #[ts] }, 3, p12, #[⟨1, .data⟩], none⟩,
                      ⟨(some 15), .binOp .lss 3 (.tmp 12) (.tmp 14) 3, 4, p13, #[⟨0, .data⟩, ⟨2, .data⟩], none⟩] false)
                    (.cond (.tmp 15)
                      .skip
                      (.exit 0)))
                  (.seq
                    (.block 1
                      (.seq
                        (.region 7 #[⟨(some 18), .move (.tmp 0), ts, p14, #[], none⟩,
                          ⟨(some 19), .move (.tmp 5), 3, p15, #[], none⟩,
                          ⟨(some 20), .indexAddr ts (.tmp 18) (.tmp 19), 0, p16, #[⟨0, .data⟩, ⟨1, .data⟩], none⟩,
                          ⟨(some 21), .load t (.tmp 20), t, p17, #[⟨2, .data⟩], none⟩,
                          ⟨(some 22), .move (.tmp 1), 3, p18, #[], none⟩,
                          ⟨(some 23), .call { callee := (.value (.func g)), args := #[(.tmp 21), (.tmp 22)], argTypes := #[t, 3] }, 3, p19, #[⟨3, .data⟩, ⟨4, .data⟩], none⟩,
                          ⟨(some 1), .assign (.tmp 23), 3, p20, #[⟨5, .data⟩, ⟨5, .chain⟩, ⟨0, .phase⟩, ⟨1, .phase⟩, ⟨2, .phase⟩, ⟨3, .phase⟩, ⟨4, .phase⟩, ⟨5, .phase⟩], none⟩] false)
                        (.seq
                          (.region 8 #[⟨(some 24), .move (.tmp 1), 3, p21, #[], none⟩,
                            ⟨(some 25), .binOp .lss 3 (.tmp 24) (.const (.int .i64 0)) 3, 4, p22, #[⟨0, .data⟩], none⟩] false)
                          (.cond (.tmp 25)
                            (.seq
                              (.region 9 #[⟨(some 4), .assign (.const (.int .i64 (-1))), 3, p23, #[], none⟩] false)
                              .ret)
                            .skip))))
                    (.region 6 #[⟨(some 16), .move (.tmp 5), 3, p24, #[], none⟩,
                      ⟨(some 17), .binOp .add 3 (.tmp 16) (.const (.int .i64 1)) 3, 3, p25, #[⟨0, .data⟩], none⟩,
                      ⟨(some 5), .assign (.tmp 17), 3, p26, #[⟨1, .data⟩, ⟨0, .phase⟩, ⟨1, .phase⟩], none⟩] false))))))
          (.seq
            (.region 10 #[⟨(some 26), .move (.tmp 1), 3, p27, #[], none⟩,
              ⟨(some 4), .assign (.tmp 26), 3, p28, #[⟨0, .data⟩, ⟨0, .phase⟩], none⟩] false)
            .ret)))))

theorem sum_take {α : Type} (s : α → Nat) (l : List α) (i : Nat) {a : α} (ha : l[i]? = some a) : ((l.take (i + 1)).map s).sum = ((l.take i).map s).sum + s a := by
  rw [List.take_add_one, ha]; simp

theorem sum_le {α : Type} (s : α → Nat) (l : List α) (i : Nat) : ((l.take i).map s).sum ≤ (l.map s).sum := by
  have : (l.map s).sum = ((l.take i).map s).sum + ((l.drop i).map s).sum := by rw [← List.sum_append, ← List.map_append, List.take_append_drop]
  omega

theorem szS_gen {P : Program} {T : TE} {α : Type} {R : AV → α → Prop} {s : α → Nat} {g ts t : Nat} {p0 p1 p2 p3 p4 p5 p6 p7 p8 p9 p10 p11 p12 p13 p14 p15 p16 p17 p18 p19 p20 p21 p22 p23 p24 p25 p26 p27 p28 : String}
    (hT : TEOk P T) {f : FuncId} {fn : Func} (hg : Goes P f) (hf : P.funcs[f]? = some fn) (hb : fn.body = some (szSCode g t ts p0 p1 p2 p3 p4 p5 p6 p7 p8 p9 p10 p11 p12 p13 p14 p15 p16 p17 p18 p19 p20 p21 p22 p23 p24 p25 p26 p27 p28)) (hN : fn.ntmps = 27) (hrs : fn.results.toList = [.tmp 4])
    (hts : (T ts).ty = .slice t) (ht : TyR T t R) {x : AV} {l : List α} (hx : SlR (T t).sz R x l)
    (hcall : ∀ h n K e a (k : Int), R e a → 0 ≤ k → k ≤ 4611686018427387904 → K (.int .i64 (left (s a) k)) h n → CA P g [e, .int .i64 k] h n K)
    {k : Int} (h0 : 0 ≤ k) (h1 : k ≤ 4611686018427387904)
    {h : Heap} {n : Nat} {K : AV → Heap → Nat → Prop} (hk : K (.int .i64 (left (sizL s l) k)) h n) : CA P f [x, .int .i64 k] h n K := by
  obtain ⟨es, hes, hal, hml, _, _⟩ := hx
  have hel := all2_length hal
  have hpt := ht.pos
  have hct := ht.cell
  unfold maxLen at hml
  refine CA.conv (CA.enter (N := 27) hT hg hf hb hN (by simp) hrs fun hlt => ?_)
  unfold szSCode
  refine WP.seq_k fun K1 hK1 => WP.region hT rfl ?_
  simp only [↓opsA, ↓stepA, ↓callA, ev, ↓e_assign, ofVal, ↓thenA]
  refine hK1 _ _ _ ?_
  clear hK1 K1
  have hw : IntKind.i64.wrap (k - (es.length : Int)) = k - l.length := by rw [wrap_in (by omega) (by omega)]; omega
  refine WP.seq_k fun K1 hK1 => WP.region hT rfl ?_
  simp only [↓opsA, ↓stepA, ↓e_len1, ↓callA, ev, Env.get_put_some, Env.get_envOf, ↓e_move, ↓e_assign, ↓e_binOp, b_sub, ↓thenA, reduceIte, Nat.reduceEqDiff, List.getElem?_cons_zero, List.getElem?_cons_succ, Option.getD_some, ↓reduceIte, hts, rdSl_emp hes, hw]
  refine hK1 _ _ _ ?_
  clear hK1 K1
  refine WP.seq_k fun K2 hK2 => ?_
  refine WP.seq_k fun K1 hK1 => WP.region hT rfl ?_
  simp only [↓opsA, ↓stepA, ↓callA, ev, Env.get_put_some, ↓e_move, ↓e_binOp, b_lss, ofVal, ↓thenA, reduceIte, ↓reduceIte]
  refine hK1 _ _ _ ?_
  clear hK1 K1
  refine WP.cond (by simp only [ev, Env.get_put_some, ↓reduceIte]; rfl) (fun hc => ?_) (fun hc => ?_)
  · refine WP.seq_k fun K1 hK1 => WP.region hT rfl ?_
    simp only [↓opsA, ↓stepA, ↓callA, ev, ↓e_assign, ofVal, ↓thenA]
    refine hK1 _ _ _ ?_
    clear hK1 K1
    refine WP.ret ?_
    simp only [Env.get_put_some, ↓thenA, reduceIte, Option.map_some, ↓reduceIte, retA, resA]
    refine ⟨_, rfl, ret_plain (Left.refl hlt) (.int _ _) ?_⟩
    have : left (sizL s l) k = -1 := by unfold left sizL; simp at hc; rw [if_neg (by omega)]
    simpa [resV, this] using hk
  refine WP.skip (hK2 _ _ _ ?_)
  clear hK2 K2
  simp only [decide_eq_false_iff_not, Int.not_lt] at hc
  refine WP.seq_k fun K1 hK1 => WP.seq_k fun K2 hK2 => WP.region hT rfl ?_
  simp only [↓opsA, ↓stepA, ↓callA, ev, ↓e_assign, ofVal, ↓thenA]
  refine hK2 _ _ _ ?_
  clear hK2 K2
  refine WP.block (WP.loop (fun m E h' n' => ∃ i, m = l.length - i ∧ i ≤ l.length ∧ ((l.length + ((l.take i).map s).sum : Nat) : Int) ≤ k ∧ n' = n ∧ h' = h ∧ E.get 0 = x ∧ E.get 1 = .int .i64 (k - (l.length + ((l.take i).map s).sum : Nat)) ∧ E.get 5 = .int .i64 i) l.length ?_ ?_)
  · exact ⟨0, by omega, Nat.zero_le _, by simp; omega, rfl, rfl, rfl, rfl, rfl⟩
  rintro m E h' n' ⟨i, rfl, hi, hle, rfl, rfl, e0, e1, e5⟩
  refine WP.seq_k fun K2 hK2 => WP.seq_k fun K3 hK3 => WP.region hT rfl ?_
  simp only [↓opsA, ↓stepA, ↓e_len1, ↓callA, ev, Env.get_put_some, ↓e_move, ↓e_binOp, b_lss, ↓thenA, reduceIte, Nat.reduceEqDiff, ↓reduceIte, hts, e0, e5, rdSl_emp hes]
  refine hK3 _ _ _ ?_
  clear hK3 K3
  refine WP.cond (by simp only [ev, Env.get_put_some, ↓reduceIte]; rfl) (fun hc => ?_) (fun hc => ?_)
  · have hil : i < l.length := by simp at hc; omega
    refine WP.skip (hK2 _ _ _ ?_)
    clear hK2 K2
    obtain ⟨e, a, he, ha, hR⟩ := all2_at hal hil
    have hp := ht.part e a hR
    have hst := sum_take s l i ha
    have hsl := sum_le s l (i + 1)
    refine WP.seq_k fun K2 hK2 => WP.block (WP.seq_k fun K3 hK3 => WP.region hT rfl ?_)
    simp only [↓opsA, ↓stepA, ↓callA, Int.toNat_natCast, List.map_cons, List.map_nil, ev, Env.get_put_some, ↓e_move, ↓e_assign, ↓e_load, ↓e_indexAddr, ↓thenA, reduceIte, Nat.reduceEqDiff, List.append_nil, ↓reduceIte, hts, e0, e1, e5, rdSl_emp hes, he, hp]
    refine ⟨hpt, by omega, by omega, hct, hcall _ _ _ _ a _ hR (by omega) (by omega) (hK3 _ _ _ ?_)⟩
    clear hK3 K3
    refine WP.seq_k fun K3 hK3 => WP.region hT rfl ?_
    simp only [↓opsA, ↓stepA, ↓callA, ev, Env.get_put_some, ↓e_move, ↓e_binOp, b_lss, ofVal, ↓thenA, reduceIte, ↓reduceIte]
    refine hK3 _ _ _ ?_
    clear hK3 K3
    refine WP.cond (by simp only [ev, Env.get_put_some, ↓reduceIte]; rfl) (fun hc2 => ?_) (fun hc2 => ?_)
    · refine WP.seq_k fun K1 hK1 => WP.region hT rfl ?_
      simp only [↓opsA, ↓stepA, ↓callA, ev, ↓e_assign, ofVal, ↓thenA]
      refine hK1 _ _ _ ?_
      clear hK1 K1
      refine WP.ret ?_
      simp only [Env.get_put_some, ↓thenA, ↓blockA, reduceIte, Option.map_some, ↓reduceIte, retA, resA]
      refine ⟨_, rfl, ret_plain (Left.refl hlt) (.int _ _) ?_⟩
      have : left (sizL s l) k = -1 := by
        unfold left at hc2 ⊢
        unfold sizL
        simp only [decide_eq_true_eq] at hc2
        split at hc2
        · omega
        · rw [if_neg (by omega)]
      simpa [resV, this] using hk
    have hfit : ((l.length + ((l.take (i + 1)).map s).sum : Nat) : Int) ≤ k := by
      unfold left at hc2
      simp only [decide_eq_false_iff_not, Int.not_lt] at hc2
      split at hc2 <;> omega
    have hleft : left (s a) (k - (l.length + ((l.take i).map s).sum : Nat)) = k - (l.length + ((l.take (i + 1)).map s).sum : Nat) := by
      unfold left
      rw [if_pos (by omega)]
      omega
    refine WP.skip ?_
    simp only [↓thenA, ↓blockA]
    refine hK2 _ _ _ ?_
    clear hK2 K2
    refine WP.region hT rfl ?_
    simp only [↓opsA, ↓stepA, ↓callA, ev, Env.get_put_some, ↓e_move, ↓e_assign, ↓e_binOp, b_add, ofVal, ↓thenA, reduceIte, Nat.reduceEqDiff, true_and, Nat.one_ne_zero, ↓reduceIte, e5]
    refine ⟨l.length - (i + 1), by omega, i + 1, rfl, hil, hfit, ?_, ?_, ?_⟩
    · simpa [Env.get, Env.put] using e0
    · rw [hleft]
    · rw [wrap_in (by omega) (by omega)]
      rfl
  · have hil : i = l.length := by simp at hc; omega
    subst hil
    refine WP.exit ?_
    simp only [↓thenA, ↓blockA, reduceIte, ↓reduceIte]
    refine hK1 _ _ _ ?_
    clear hK2 K2 hK1 K1
    refine WP.seq_k fun K1 hK1 => WP.region hT rfl ?_
    simp only [↓opsA, ↓stepA, ↓callA, ev, Env.get_put_some, ↓e_move, ↓e_assign, ↓thenA, reduceIte, Nat.reduceEqDiff, ↓reduceIte, e1]
    refine hK1 _ _ _ ?_
    clear hK1 K1
    refine WP.ret ?_
    simp only [Env.get_put_some, reduceIte, Option.map_some, ↓reduceIte, retA, resA]
    refine ⟨_, rfl, ret_plain (Left.refl hlt) (.int _ _) ?_⟩
    rw [List.take_of_length_le (Nat.le_refl _)] at hle ⊢
    have : left (sizL s l) k = k - (l.length + (l.map s).sum : Nat) := by unfold left sizL; rw [if_pos hle]
    simpa [resV, this] using hk
end Go.Proofs.Ytplkjfnjdekgpaa
