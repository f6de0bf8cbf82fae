/- Families of functions: a slice turned into a slice of another type, element by element. Own work. -/
import Derived.Test.YtplkjfnjdekgpaaLtFamA
namespace Go.Proofs.Ytplkjfnjdekgpaa
open Go

def toSCode (g t ts u us : Nat) (p0 p1 p2 p3 p4 p5 p6 p7 p8 p9 p10 p11 p12 p13 p14 p15 p16 p17 p18 p19 p20 p21 p22 p23 : String) : Code :=
  (.seq
    (.region 0 #[⟨(some 2), .assign (.const (.slice none 0 0)), us, p0, #[], none⟩] false)
    (.seq
      (.region 1 #[⟨(some 5), .move (.tmp 0), ts, p1, #[], none⟩,
        ⟨(some 6), .call { callee := (.builtin .len), args := #[(.tmp 5)], argTypes := #[ts] }, 3, p2, #[⟨0, .data⟩], none⟩,
        ⟨(some 7), .makeSlice us (.tmp 6) (.tmp 6), us, p3, #[⟨1, .data⟩, ⟨1, .data⟩], none⟩,
        ⟨(some 3), .assign (.tmp 7), us, p4, #[⟨2, .data⟩, ⟨0, .phase⟩, ⟨1, .phase⟩, ⟨2, .phase⟩], none⟩] false)
      (.seq
        (.seq
          (.region 2 #[⟨(some 4), .assign (.const (.int .i64 0)), 3, p5, #[], none⟩] false)
          (.block 0
            (.loop
              (.seq
                (.seq
                  (.region 3 #[⟨(some 8), .move (.tmp 4), 3, p6, #[], none⟩,
                    ⟨(some 9), .move (.tmp 0), ts, p7, #[], none⟩,
                    ⟨(some 10), .call { callee := (.builtin .len), args := #[(.tmp 9)], argTypes := #[ts] }, 3, p8, #[⟨1, .data⟩], none⟩,
                    ⟨(some 11), .binOp .lss 3 (.tmp 8) (.tmp 10) 3, 4, p9, #[⟨0, .data⟩, ⟨2, .data⟩], none⟩] false)
                  (.cond (.tmp 11)
                    .skip
                    (.exit 0)))
                (.seq
                  (.block 1
                    (.region 5 #[⟨(some 14), .move (.tmp 3), us, p10, #[], none⟩,
                      ⟨(some 15), .move (.tmp 4), 3, p11, #[], none⟩,
                      ⟨(some 16), .move (.tmp 0), ts, p12, #[], none⟩,
                      ⟨(some 17), .move (.tmp 4), 3, p13, #[], none⟩,
                      ⟨(some 18), .indexAddr ts (.tmp 16) (.tmp 17), 0, p14, #[⟨2, .data⟩, ⟨3, .data⟩], none⟩,
                      ⟨(some 19), .load t (.tmp 18), t, p15, #[⟨4, .data⟩], none⟩,
                      ⟨(some 20), .call { callee := (.value (.func g)), args := #[(.tmp 19)], argTypes := #[t] }, u, p16, #[⟨5, .data⟩], none⟩,
                      ⟨(some 21), .indexAddr us (.tmp 14) (.tmp 15), 0, p17, #[⟨0, .data⟩, ⟨1, .data⟩, ⟨0, .phase⟩, ⟨1, .phase⟩, ⟨2, .phase⟩, ⟨3, .phase⟩, ⟨4, .phase⟩, ⟨5, .phase⟩, ⟨6, .phase⟩], none⟩,
                      ⟨none, .store u (.tmp 21) (.tmp 20), 0, p18, #[⟨7, .data⟩, ⟨6, .data⟩, ⟨6, .chain⟩, ⟨0, .phase⟩, ⟨1, .phase⟩, ⟨2, .phase⟩, ⟨3, .phase⟩, ⟨4, .phase⟩, ⟨5, .phase⟩, ⟨6, .phase⟩], none⟩] false))
                  (.region 4 #[⟨(some 12), .move (.tmp 4), 3, p19, #[], none⟩,
                    ⟨(some 13), .binOp .add 3 (.tmp 12) (.const (.int .i64 1)) 3, 3, p20, #[⟨0, .data⟩], none⟩,
                    ⟨(some 4), .assign (.tmp 13), 3, p21, #[⟨1, .data⟩, ⟨0, .phase⟩, ⟨1, .phase⟩], none⟩] false))))))
        (.seq
          (.region 6 #[⟨(some 22), .move (.tmp 3), us, p22, #[], none⟩,
            ⟨(some 2), .assign (.tmp 22), us, p23, #[⟨0, .data⟩, ⟨0, .phase⟩], none⟩] false)
          .ret))))

theorem rdSl_new {h : Heap} {n k sz : Nat} {x : AV} {l : List AV} {b : List AV} (hlt : ∀ id b, h id = some b → id < n) (hk : n ≤ k) (hx : rdSl h sz x = some l) : rdSl (h.upd k b) sz x = some l :=
  rdSl_sub (fun id y hy => by rw [Heap.upd_ne _ _ (by have := hlt id y hy; omega)]; exact hy) hx

theorem toS_gen {P : Program} {T : TE} {α β : Type} {R : AV → α → Prop} {U : AV → β → Prop} {φ : α → β} {g t ts u us : Nat} {p0 p1 p2 p3 p4 p5 p6 p7 p8 p9 p10 p11 p12 p13 p14 p15 p16 p17 p18 p19 p20 p21 p22 p23 : String}
    (hT : TEOk P T) {f : FuncId} {fn : Func} (hg : Goes P f) (hf : P.funcs[f]? = some fn) (hb : fn.body = some (toSCode g t ts u us p0 p1 p2 p3 p4 p5 p6 p7 p8 p9 p10 p11 p12 p13 p14 p15 p16 p17 p18 p19 p20 p21 p22 p23)) (hN : fn.ntmps = 23) (hrs : fn.results.toList = [.tmp 2])
    (hts : (T ts).ty = .slice t) (hus : (T us).ty = .slice u) (ht : TyR T t R) (hu : TyR T u U) (hby : (T u).bytes ≤ 65536) {x : AV} {l : List α} (hx : SlR (T t).sz R x l) (hl : l.length ≤ 1048576)
    (hcall : ∀ h n K e a, a ∈ l → R e a → (∀ r, U r (φ a) → K r h n) → CA P g [e] h n K) {h : Heap} {n : Nat} {K : AV → Heap → Nat → Prop} (hk : ∀ r, SlR (T u).sz U r (l.map φ) → K r h n) : CA P f [x] h n K := by
  obtain ⟨es, hes, hal, _, _, _⟩ := hx
  have hel := all2_length hal
  have hpt := ht.pos
  have hpu := hu.pos
  have hct := ht.cell
  refine CA.conv (CA.enter (N := 23) hT hg hf hb hN (by simp) hrs fun hlt => ?_)
  unfold toSCode
  refine WP.seq_k fun K1 hK1 => WP.region hT rfl ?_
  simp only [↓opsA, ↓stepA, ↓callA, ev, ↓e_assign, ofVal, ↓thenA]
  refine hK1 _ _ _ ?_
  clear hK1 K1
  refine WP.seq_k fun K1 hK1 => WP.region hT rfl ?_
  simp only [↓opsA, ↓stepA, ↓e_len1, ↓callA, Int.toNat_natCast, ev, Env.get_put_some, Env.get_envOf, ↓e_move, ↓e_assign, ↓e_makeSlice, ↓thenA, reduceIte, Nat.reduceEqDiff, List.getElem?_cons_zero, Option.getD_some, ↓reduceIte, hts, hus, rdSl_emp hes]
  refine ⟨hpu, by omega, Int.le_refl _, ?_, by omega, hK1 _ _ _ ?_⟩
  · have := Nat.mul_le_mul hby (show es.length ≤ 1048576 by omega)
    omega
  clear hK1 K1
  refine WP.seq_k fun K1 hK1 => WP.seq_k fun K2 hK2 => WP.region hT rfl ?_
  simp only [↓opsA, ↓stepA, ↓callA, ev, ↓e_assign, ofVal, ↓thenA]
  refine hK2 _ _ _ ?_
  clear hK2 K2
  refine WP.block (WP.loop (fun m E h' n' => ∃ i done, m = l.length - i ∧ i ≤ l.length ∧ done.length = i ∧ All2 U done ((l.take i).map φ) ∧ n' = n + 1 ∧ h' = h.upd n (done ++ List.replicate (l.length - i) (T u).zero) ∧
    E.get 0 = x ∧ E.get 3 = .sl (T u).sz n 0 l.length l.length true ∧ E.get 4 = .int .i64 i) l.length ?_ ?_)
  · refine ⟨0, [], by omega, Nat.zero_le _, rfl, .nil, rfl, ?_, ?_, ?_, ?_⟩
    · simp [hel]
    · simp [Env.get, Env.put, envOf]
    · simp [Env.get, Env.put, hel]
    · simp [Env.get, Env.put]
  rintro m E h' n' ⟨i, done, rfl, hi, hd, hdone, rfl, rfl, h0, h3, h4⟩
  refine WP.seq_k fun K2 hK2 => WP.seq_k fun K3 hK3 => WP.region hT rfl ?_
  simp only [↓opsA, ↓stepA, ↓e_len1, ↓callA, ev, Env.get_put_some, ↓e_move, ↓e_binOp, b_lss, ↓thenA, reduceIte, Nat.reduceEqDiff, ↓reduceIte, hts, h0, h4, rdSl_emp hes]
  refine hK3 _ _ _ ?_
  clear hK3 K3
  refine WP.cond (by simp only [ev, Env.get_put_some, ↓reduceIte]; rfl) (fun hc => ?_) (fun hc => ?_)
  · have hil : i < l.length := by simp at hc; omega
    refine WP.skip (hK2 _ _ _ ?_)
    clear hK2 K2
    obtain ⟨e, a, he, ha, hR⟩ := all2_at hal hil
    have hp := ht.part e a hR
    refine WP.seq_k fun K2 hK2 => WP.block (WP.region hT rfl ?_)
    simp only [↓opsA, ↓stepA, ↓callA, Int.toNat_natCast, List.map_cons, List.map_nil, ev, Env.get_put_some, Env.put_none, ↓e_move, ↓e_load, ↓e_store, ↓e_indexAddr, ↓thenA, ↓blockA, reduceIte, Nat.reduceEqDiff, Nat.zero_add, List.append_nil, ↓reduceIte, hts, h0, h3, h4, rdSl_emp hes, he, hp, Int.toNat_natCast]
    refine ⟨hpt, by omega, by omega, hct, ?_⟩
    refine hcall _ _ _ e a (List.mem_of_getElem? ha) hR (fun r hr => ?_)
    have hrl := hu.len _ _ hr
    have hrg := hu.good _ _ hr
    have hrz := hu.setz _ _ hr
    have hzl := hu.zlen
    have hrep : l.length - i = (l.length - (i + 1)) + 1 := by omega
    have hblen : (done ++ List.replicate (l.length - i) (T u).zero).length = l.length := by simp; omega
    have hbi : (done ++ List.replicate (l.length - i) (T u).zero)[i]? = some (T u).zero := by
      rw [List.getElem?_append_right (by omega), hd, Nat.sub_self, hrep]; rfl
    have hset : (done ++ List.replicate (l.length - i) (T u).zero).set i r = (done ++ [r]) ++ List.replicate (l.length - (i + 1)) (T u).zero := by
      rw [List.set_append_right _ _ (by omega), hd, Nat.sub_self, hrep, List.replicate_succ, List.set_cons_zero]; simp
    simp only [rdSl_sl, Heap.upd_get, Heap.upd_upd, reduceIte, true_and, Nat.zero_add, List.drop_zero, ↓reduceIte, Nat.le_refl, hus, hblen, List.length_take, Nat.min_self, hbi, hrg, hrl, hrz, hzl]
    refine ⟨hpu, by omega, by omega, hpu, hK2 _ _ _ ?_⟩
    clear hK2 K2
    refine WP.region hT rfl ?_
    simp only [↓opsA, ↓stepA, ↓callA, ev, Env.get_put_some, ↓e_move, ↓e_assign, ↓e_binOp, b_add, ofVal, ↓thenA, reduceIte, Nat.reduceEqDiff, true_and, ↓reduceIte, h4]
    refine ⟨l.length - (i + 1), by omega, i + 1, done ++ [r], rfl, hil, by simp [hd], ?_, by rw [hset], ?_, ?_, ?_⟩
    · rw [List.take_add_one, ha]
      simpa using all2_snoc hdone hr
    · simpa [Env.get, Env.put] using h0
    · simpa [Env.get, Env.put] using h3
    · rw [wrap_in (by omega) (by omega)]
      rfl
  · have hil : i = l.length := by simp at hc; omega
    subst hil
    refine WP.exit ?_
    simp only [↓thenA, ↓blockA, reduceIte, ↓reduceIte]
    refine hK1 _ _ _ ?_
    clear hK2 K2 hK1 K1
    refine WP.seq_k fun K1 hK1 => WP.region hT rfl ?_
    simp only [↓opsA, ↓stepA, ↓callA, ev, Env.get_put_some, ↓e_move, ↓e_assign, ↓thenA, reduceIte, Nat.reduceEqDiff, ↓reduceIte, h3]
    refine hK1 _ _ _ ?_
    clear hK1 K1
    refine WP.ret ?_
    simp only [Env.get_put_some, reduceIte, Option.map_some, ↓reduceIte, retA, resA]
    refine ⟨_, rfl, ret_freeze (Left.upd (Nat.le_refl _) (Left.refl hlt)) (.sl (T u).sz n 0 l.length l.length true _ done (Nat.le_refl _) (Heap.upd_same _ _ _) (by simp; omega) hd (fun i e e' h1 h2 => ?_)) (hk _ (.mk_ro (by simpa using hdone) (by unfold maxLen; simp; omega) hu.lt))⟩
    rw [Nat.sub_self, List.replicate_zero, List.append_nil, Nat.zero_add, h2] at h1
    obtain rfl := Option.some.inj h1
    obtain ⟨b, _, hb⟩ := all2_get hdone _ _ h2
    exact .keep _ (hu.lt _ _ _ hb)
end Go.Proofs.Ytplkjfnjdekgpaa
