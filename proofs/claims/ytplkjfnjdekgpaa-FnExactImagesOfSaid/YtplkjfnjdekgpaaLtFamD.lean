/- Families of functions: two slices of integers compared. Own work. -/
import Derived.Test.YtplkjfnjdekgpaaLtFamC
namespace Go.Proofs.Ytplkjfnjdekgpaa
open Go

def IntR (k : IntKind) (e : AV) (a : Int) : Prop := e = .int k a

def eqS0Code (t ts : Nat) (p0 p1 p2 p3 p4 p5 p6 p7 p8 p9 p10 p11 p12 p13 p14 p15 p16 p17 p18 p19 p20 p21 p22 p23 p24 p25 : String) : Code :=
  (.seq
    (.region 0 #[⟨(some 4), .assign (.const (.bool false)), 4, p0, #[], none⟩] false)
    (.seq
      (.seq
        (.region 1 #[⟨(some 6), .move (.tmp 0), ts, p1, #[], none⟩,
          ⟨(some 7), .call { callee := (.builtin .len), args := #[(.tmp 6)], argTypes := #[ts] }, 3, p2, #[⟨0, .data⟩], none⟩,
          ⟨(some 8), .move (.tmp 1), ts, p3, #[], none⟩,
          ⟨(some 9), .call { callee := (.builtin .len), args := #[(.tmp 8)], argTypes := #[ts] }, 3, p4, #[⟨2, .data⟩], none⟩,
          ⟨(some 10), .binOp .neq 3 (.tmp 7) (.tmp 9) 3, 4, p5, #[⟨1, .data⟩, ⟨3, .data⟩], none⟩] false)
        (.cond (.tmp 10)
          (.seq
            (.region 2 #[⟨(some 4), .assign (.const (.bool false)), 4, p6, #[], none⟩] false)
            .ret)
          .skip))
      (.seq
        (.seq
          (.region 3 #[⟨(some 5), .assign (.const (.int .i64 0)), 3, p7, #[], none⟩] false)
          (.block 0
            (.loop
              (.seq
                (.seq
                  (.region 4 #[⟨(some 11), .move (.tmp 5), 3, p8, #[], none⟩,
                    ⟨(some 12), .move (.tmp 0), ts, p9, #[], none⟩,
                    ⟨(some 13), .call { callee := (.builtin .len), args := #[(.tmp 12)], argTypes := #[ts] }, 3, p10, #[⟨1, .data⟩], none⟩,
                    ⟨(some 14), .binOp .lss 3 (.tmp 11) (.tmp 13) 3, 4, p11, #[⟨0, .data⟩, ⟨2, .data⟩], none⟩] false)
                  (.cond (.tmp 14)
                    .skip
                    (.exit 0)))
                (.seq
                  (.block 1
                    (.seq
                      (.region 6 #[⟨(some 17), .move (.tmp 0), ts, p12, #[], none⟩,
                        ⟨(some 18), .move (.tmp 5), 3, p13, #[], none⟩,
                        ⟨(some 19), .indexAddr ts (.tmp 17) (.tmp 18), 0, p14, #[⟨0, .data⟩, ⟨1, .data⟩], none⟩,
                        ⟨(some 20), .load t (.tmp 19), t, p15, #[⟨2, .data⟩], none⟩,
                        ⟨(some 21), .move (.tmp 1), ts, p16, #[], none⟩,
                        ⟨(some 22), .move (.tmp 5), 3, p17, #[], none⟩,
                        ⟨(some 23), .indexAddr ts (.tmp 21) (.tmp 22), 0, p18, #[⟨4, .data⟩, ⟨5, .data⟩], none⟩,
                        ⟨(some 24), .load t (.tmp 23), t, p19, #[⟨6, .data⟩], none⟩,
                        ⟨(some 25), .binOp .neq t (.tmp 20) (.tmp 24) t, 4, p20, #[⟨3, .data⟩, ⟨7, .data⟩], none⟩] true)
                      (.cond (.tmp 25)
                        (.seq
                          (.region 7 #[⟨(some 4), .assign (.const (.bool false)), 4, p21, #[], none⟩] false)
                          .ret)
                        .skip)))
                  (.region 5 #[⟨(some 15), .move (.tmp 5), 3, p22, #[], none⟩,
                    ⟨(some 16), .binOp .add 3 (.tmp 15) (.const (.int .i64 1)) 3, 3, p23, #[⟨0, .data⟩], none⟩,
                    ⟨(some 5), .assign (.tmp 16), 3, p24, #[⟨1, .data⟩, ⟨0, .phase⟩, ⟨1, .phase⟩], none⟩] false))))))
        (.seq
          (.region 8 #[⟨(some 4), .assign (.const (.bool true)), 4, p25, #[], none⟩] false)
          .ret))))

theorem eqS0_gen {P : Program} {T : TE} {α : Type} [DecidableEq α] {R R2 : AV → α → Prop} {t ts : Nat} {p0 p1 p2 p3 p4 p5 p6 p7 p8 p9 p10 p11 p12 p13 p14 p15 p16 p17 p18 p19 p20 p21 p22 p23 p24 p25 : String}
    (hT : TEOk P T) (hM : P.follows .mixedOrders = true) {f : FuncId} {fn : Func} (hg : Goes P f) (hf : P.funcs[f]? = some fn) (hb : fn.body = some (eqS0Code t ts p0 p1 p2 p3 p4 p5 p6 p7 p8 p9 p10 p11 p12 p13 p14 p15 p16 p17 p18 p19 p20 p21 p22 p23 p24 p25)) (hN : fn.ntmps = 26) (hrs : fn.results.toList = [.tmp 4])
    (hts : (T ts).ty = .slice t) (ht : TyR T t R) (ht2 : TyR T t R2) {x y : AV} {l l2 : List α} (hx : SlR (T t).sz R x l) (hy : SlR (T t).sz R2 y l2)
    (hneq : ∀ e e' a b (K : AV → Prop), R e a → R2 e' b → K (.bool (decide (a ≠ b))) → binP T .neq t e e' K)
    {h : Heap} {n : Nat} {K : AV → Heap → Nat → Prop} (hk : K (.bool (decide (l = l2))) h n) : CA P f [x, y] h n K := by
  obtain ⟨es, hes, hal, hml, _, _⟩ := hx
  obtain ⟨fs, hfs, hbl, hml2, _, _⟩ := hy
  have hel := all2_length hal
  have hfl := all2_length hbl
  have hpt := ht.pos
  have hct := ht.cell
  unfold maxLen at hml hml2
  refine CA.conv (CA.enter (N := 26) hT hg hf hb hN (by simp) hrs fun hlt => ?_)
  unfold eqS0Code
  refine WP.seq_k fun K1 hK1 => WP.region hT rfl ?_
  simp only [↓opsA, ↓stepA, ↓callA, ev, ↓e_assign, ofVal, ↓thenA]
  refine hK1 _ _ _ ?_
  clear hK1 K1
  refine WP.seq_k fun K2 hK2 => ?_
  refine WP.seq_k fun K1 hK1 => WP.region hT rfl ?_
  simp only [↓opsA, ↓stepA, ↓e_len1, ↓callA, ev, Env.get_put_some, Env.get_envOf, ↓e_move, ↓e_binOp, b_neq, ↓thenA, reduceIte, Nat.reduceEqDiff, List.getElem?_cons_zero, List.getElem?_cons_succ, Option.getD_some, ↓reduceIte, hts, rdSl_emp hes, rdSl_emp hfs]
  refine hK1 _ _ _ ?_
  clear hK1 K1
  refine WP.cond (by simp only [ev, Env.get_put_some, ↓reduceIte]; rfl) (fun hc => ?_) (fun hc => ?_)
  · refine WP.seq_k fun K1 hK1 => WP.region hT rfl ?_
    simp only [↓opsA, ↓stepA, ↓callA, ev, ↓e_assign, ofVal, ↓thenA]
    refine hK1 _ _ _ ?_
    clear hK1 K1
    refine WP.ret ?_
    simp only [Env.get_put_some, ↓thenA, reduceIte, Option.map_some, ↓reduceIte, retA, resA]
    refine ⟨_, rfl, ret_plain (Left.refl hlt) (.bool _) ?_⟩
    have hne : l ≠ l2 := fun he => by subst he; simp at hc; omega
    simpa [resV, hne] using hk
  refine WP.skip (hK2 _ _ _ ?_)
  clear hK2 K2
  have hll : l.length = l2.length := by simp at hc; omega
  refine WP.seq_k fun K1 hK1 => WP.seq_k fun K2 hK2 => WP.region hT rfl ?_
  simp only [↓opsA, ↓stepA, ↓callA, ev, ↓e_assign, ofVal, ↓thenA]
  refine hK2 _ _ _ ?_
  clear hK2 K2
  refine WP.block (WP.loop (fun m E h' n' => ∃ i, m = l.length - i ∧ i ≤ l.length ∧ l.take i = l2.take i ∧ n' = n ∧ h' = h ∧ E.get 0 = x ∧ E.get 1 = y ∧ E.get 5 = .int .i64 i) l.length ?_ ?_)
  · exact ⟨0, by omega, Nat.zero_le _, rfl, rfl, rfl, rfl, rfl, rfl⟩
  rintro m E h' n' ⟨i, rfl, hi, htk, rfl, rfl, h0, h1, h5⟩
  refine WP.seq_k fun K2 hK2 => WP.seq_k fun K3 hK3 => WP.region hT rfl ?_
  simp only [↓opsA, ↓stepA, ↓e_len1, ↓callA, ev, Env.get_put_some, ↓e_move, ↓e_binOp, b_lss, ↓thenA, reduceIte, Nat.reduceEqDiff, ↓reduceIte, hts, h0, h5, rdSl_emp hes]
  refine hK3 _ _ _ ?_
  clear hK3 K3
  refine WP.cond (by simp only [ev, Env.get_put_some, ↓reduceIte]; rfl) (fun hc => ?_) (fun hc => ?_)
  · have hil : i < l.length := by simp at hc; omega
    refine WP.skip (hK2 _ _ _ ?_)
    clear hK2 K2
    obtain ⟨e, a, he, ha, hR⟩ := all2_at hal hil
    obtain ⟨e', b, he', hb', hR'⟩ := all2_at hbl (show i < l2.length by omega)
    have hp := ht.part e a hR
    have hp' := ht2.part e' b hR'
    refine WP.seq_k fun K2 hK2 => WP.block (WP.seq_k fun K3 hK3 => WP.drawL hT hM [(0, 0), (1, 0), (2, 0), (3, 0), (4, 0), (5, 0), (6, 0), (7, 0), (8, 0)] [] Heap.emp (by kernel_rfl) rfl (Heap.Sub.emp _) fun _ => ?_)
    simp only [↓planL, ↓stepA, ↓callA, Int.toNat_natCast, ev, Env.get_put_some, ↓e_move, ↓e_binOp, ↓e_load, ↓e_indexAddr, ↓thenA, reduceIte, Nat.reduceEqDiff, List.getElem?_cons_zero, List.getElem?_cons_succ, ↓reduceIte, hts, h0, h1, h5, hes, hfs, he, he', hp, hp']
    refine ⟨hpt, by omega, by omega, hct, hpt, by omega, by omega, hct, hneq _ _ _ _ _ hR hR' (hK3 _ _ _ ?_)⟩
    clear hK3 K3
    refine WP.cond (by simp only [ev, Env.get_put_some, ↓reduceIte]; rfl) (fun hc2 => ?_) (fun hc2 => ?_)
    · refine WP.seq_k fun K1 hK1 => WP.region hT rfl ?_
      simp only [↓opsA, ↓stepA, ↓callA, ev, ↓e_assign, ofVal, ↓thenA]
      refine hK1 _ _ _ ?_
      clear hK1 K1
      refine WP.ret ?_
      simp only [Env.get_put_some, ↓thenA, ↓blockA, reduceIte, Option.map_some, ↓reduceIte, retA, resA]
      refine ⟨_, rfl, ret_plain (Left.refl hlt) (.bool _) ?_⟩
      have hne : l ≠ l2 := fun he => by subst he; rw [ha] at hb'; obtain rfl := Option.some.inj hb'; simp at hc2
      simpa [resV, hne] using hk
    have hab : a = b := by simpa using hc2
    subst hab
    refine WP.skip ?_
    simp only [↓thenA, ↓blockA]
    refine hK2 _ _ _ ?_
    clear hK2 K2
    refine WP.region hT rfl ?_
    simp only [↓opsA, ↓stepA, ↓callA, ev, Env.get_put_some, ↓e_move, ↓e_assign, ↓e_binOp, b_add, ofVal, ↓thenA, reduceIte, Nat.reduceEqDiff, true_and, ↓reduceIte, h5]
    refine ⟨l.length - (i + 1), by omega, i + 1, rfl, hil, ?_, ?_, ?_, ?_⟩
    · rw [List.take_add_one, List.take_add_one, ha, hb', htk]
    · simpa [Env.get, Env.put] using h0
    · simpa [Env.get, Env.put] using h1
    · rw [wrap_in (by omega) (by omega)]
      rfl
  · have hil : i = l.length := by simp at hc; omega
    subst hil
    refine WP.exit ?_
    simp only [↓thenA, ↓blockA, reduceIte, ↓reduceIte]
    refine hK1 _ _ _ ?_
    clear hK2 K2 hK1 K1
    refine WP.seq_k fun K1 hK1 => WP.region hT rfl ?_
    simp only [↓opsA, ↓stepA, ↓callA, ev, ↓e_assign, ofVal, ↓thenA]
    refine hK1 _ _ _ ?_
    clear hK1 K1
    refine WP.ret ?_
    simp only [Env.get_put_some, reduceIte, Option.map_some, ↓reduceIte, retA, resA]
    refine ⟨_, rfl, ret_plain (Left.refl hlt) (.bool _) ?_⟩
    have he : l = l2 := by
      rw [List.take_of_length_le (Nat.le_refl _), List.take_of_length_le (by omega)] at htk
      exact htk
    simpa [resV, he] using hk
end Go.Proofs.Ytplkjfnjdekgpaa
