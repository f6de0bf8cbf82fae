/- Row 4: what the law calls beside. Own work. -/
import Derived.Test.YtplkjfnjdekgpaaR7
namespace Go.Proofs.Ytplkjfnjdekgpaa
open Go

theorem TyO.slice {β : Type} {T : TE} {t e : TypeId} {sz : Nat} {U : AV → β → Prop} (ht : (T t).ty = .slice e) (h1 : (T t).sz = 1) (hz : (T t).zero = .nils) (hp : ∀ (off : Nat) (x : AV), Go.Proofs.Ytplkjfnjdekgpaa.part T t off x = x.cells[off]?) : TyO T t (SlR sz U) where
  len := fun h r r' I b ht hu => by rw [ht.slOne hu, h1]; rfl
  good := fun h r r' I b ht hu => by
    obtain ⟨es, hes, _, _, hlt, _⟩ := hu
    cases ht with
    | atom u hu hn => cases hu <;> first | rfl | (cases hes; done)
    | sl => rfl
    | agg => cases hes
  setz := fun h r r' I b _ _ => by rw [hz]; rfl
  part := fun h r r' I b ht hu => by rw [hp, ht.slOne hu]; rfl

theorem TyO.plain {β : Type} {T : TE} {t : TypeId} {U : AV → β → Prop} (ht : TyR T t U) (hp : ∀ x b, U x b → (∃ cs, x = .agg cs ∧ ∀ u, u ∈ cs → u.plain = true) ∨ x.plain = true) : TyO T t U := by
  have key : ∀ h r r' I b, Tree h r r' I → U r' b → r = r' := fun h r r' I b htr hu => by
    rcases hp _ _ hu with ⟨cs, rfl, hc⟩ | hc
    · exact (htr.plainAgg hc).1
    · exact (htr.plainE hc).1
  exact ⟨fun h r r' I b a c => by rw [key _ _ _ _ _ a c]; exact ht.len _ _ c, fun h r r' I b a c => by rw [key _ _ _ _ _ a c]; exact ht.good _ _ c, fun h r r' I b a c => by rw [key _ _ _ _ _ a c]; exact ht.setz _ _ c,
    fun h r r' I b a c => by rw [key _ _ _ _ _ a c]; exact ht.part _ _ c⟩

theorem act_plain {x : AV} {a : ActD} (h : ActR x a) : ∃ cs, x = .agg cs ∧ ∀ u, u ∈ cs → u.plain = true := by
  obtain ⟨rfl, _⟩ := h
  exact ⟨_, rfl, by intro u hu; simp at hu; rcases hu with rfl | rfl | rfl | rfl <;> rfl⟩

theorem plainAgg_lt {cs : List AV} (hp : ∀ u, u ∈ cs → u.plain = true) : (AV.agg cs).Lt 0 ∧ NoRo (.agg cs) :=
  ⟨.agg _ fun i u hu => (plain_lt (hp u (List.mem_of_getElem? hu))).1, .agg _ fun i u hu => (plain_lt (hp u (List.mem_of_getElem? hu))).2⟩

section
variable {h : Heap} {n : Nat} {K : AV → Heap → Nat → Prop}

theorem sizL_mem {α : Type} {f : α → Nat} {l : List α} {a : α} (ha : a ∈ l) : f a ≤ sizL f l := by
  have : f a ≤ (l.map f).sum := by
    induction l with
    | nil => cases ha
    | cons b l ih =>
      simp only [List.map_cons, List.sum_cons]
      rcases List.mem_cons.1 ha with rfl | ha
      · omega
      · have := ih ha; omega
  unfold sizL; omega

theorem c80o {e : AV} {a : ActD} (ha : ActR e a) (hk : ∀ r h' n', OwnRes ActR h n r a h' n' → K r h' n') : CA Try.prog 80 [e] h n K :=
  CA.ofAtom Try.call80 (fun r hr => by obtain ⟨cs, rfl, hc⟩ := act_plain hr; exact plainAgg_lt hc) (fun K hk => c80 ha hk) hk

theorem c50o {x : AV} {l : List ActD} (hx : ActsR x l) (hl : l.length ≤ 1048576) (hk : ∀ r h' n', OwnRes ActsR h n r l h' n' → K r h' n') : CA Try.prog 50 [x] h n K :=
  toS_own_gen (φ := id) hT Try.call50 Try.func50 rfl rfl rfl rfl rfl tyAct_107 (TyO.plain tyAct_81 fun x b hb => .inl (act_plain hb)) (by decide) rfl tyAct_81.lt (by decide) hx hl (fun h n K e a _ hR hk => c80o hR hk) (by rw [List.map_id]; exact hk)

theorem c16o {x : AV} {l : List (List ActD)} (hx : ActSSR x l) (hl : sizL sizAct l ≤ 1048576) (hk : ∀ r h' n', OwnRes ActSSR h n r l h' n' → K r h' n') : CA Try.prog 16 [x] h n K := by
  have hll : l.length ≤ 1048576 := by unfold sizL at hl; omega
  exact toS_own_gen (φ := id) hT Try.call16 Try.func16 rfl rfl rfl rfl rfl tyActs_78 (TyO.slice (e := 81) rfl rfl rfl pt_38) (by decide) rfl tyActs_38.lt (by decide) hx hll (fun h n K e a ha hR hk => c50o hR (by have := sizL_mem (f := sizAct) ha; have := siz_zero a; unfold sizAct at *; omega) hk) (by rw [List.map_id]; exact hk)

theorem c22o {x : AV} {l : List Int} (hx : IntsR x l) (hl : l.length ≤ 1048576) (hk : ∀ r h' n', OwnRes IntsR h n r l h' n' → K r h' n') : CA Try.prog 22 [x] h n K :=
  toS0_own_gen hT Try.call22 Try.func22 rfl rfl rfl rfl tyInt_2 (fun e a h => by obtain ⟨rfl, _⟩ := h; exact .int _ _) (by decide) hx hl hk

theorem c22 {x : AV} {l : List Int} (hx : IntsR x l) (hl : l.length ≤ 1048576) (hk : ∀ r, IntsR r l → K r h n) : CA Try.prog 22 [x] h n K :=
  CA.ofOwn Try.call22 (fun K hk => c22o hx hl hk) hk

theorem c25 {x y : AV} {l l2 : List Int} (hx : IntsR x l) (hy : IntsR y l2) (hk : K (.bool (decide (l = l2))) h n) : CA Try.prog 25 [x, y] h n K :=
  eqS0_gen hT hM Try.call25 Try.func25 rfl rfl rfl rfl tyInt_2 tyInt_2 hx hy (fun e e' a b K hR hR' hk => by obtain ⟨rfl, _⟩ := hR; obtain ⟨rfl, _⟩ := hR'; rw [b_neq]; exact hk) hk

theorem c24 {x y : AV} {a b : MResD} (hx : MResR x a) (hy : MResR y b) (hk : K (.bool (decide (a = b))) h n) : CA Try.prog 24 [x, y] h n K := by
  obtain ⟨A, B, rfl, hA, hB⟩ := hx
  obtain ⟨A2, B2, rfl, hA2, hB2⟩ := hy
  refine CA.conv (CA.enter (N := 22) (rs := [.tmp 4]) hT Try.call24 Try.func24 rfl rfl (by simp) rfl fun hlt => ?_)
  have hd : decide (a = b) = (decide (a.code = b.code) && (decide (a.acts = b.acts) && decide (a.who = b.who))) := by
    cases a; cases b; simp [MResD.mk.injEq]
  rw [hd] at hk
  refine WP.seq_k fun K1 hK1 => WP.region hT rfl ?_
  simp only [↓opsA, ↓stepA, ↓callA, ev, Env.get_put_some, Env.get_envOf, ↓e_assign, ↓e_box, ofVal, ↓thenA, Nat.pos_of_neZero, good_agg, AV.cells_agg, reduceIte, Nat.reduceEqDiff, Nat.reduceAdd, Nat.add_assoc, true_and, List.getElem?_cons_zero, List.getElem?_cons_succ, Option.getD_some, List.length_cons, List.length_nil, Nat.zero_add, ↓reduceIte, T_40]
  refine hK1 _ _ _ ?_
  clear hK1 K1
  refine WP.seq_k fun K3 hK3 => ?_
  refine WP.seq_k fun K1 hK1 => WP.region hT rfl ?_
  simp only [↓opsA, ↓stepA, ↓callA, ev, Env.get_put_some, ↓e_binOp, ↓e_load, ↓e_fieldAddr, b_neq, rdSl_sl, ↓thenA, Heap.upd_get, AV.cells_agg, reduceIte, Nat.reduceEqDiff, true_and, List.getElem?_cons_zero, List.length_cons, List.length_nil, Nat.zero_add, Nat.add_zero, List.drop_zero, List.take_succ_cons, List.take_zero, Nat.left_eq_add, Nat.one_ne_zero, Nat.lt_add_one, ↓reduceIte, Nat.le_refl, T_2, T_40, pt_2, cellOk]
  refine hK1 _ _ _ ?_
  clear hK1 K1
  refine WP.cond (by simp only [ev, Env.get_put_some, ↓reduceIte]; rfl) (fun hc => ?_) (fun hc => ?_)
  · refine WP.seq_k fun K1 hK1 => WP.region hT rfl ?_
    simp only [↓opsA, ↓stepA, ↓callA, ev, ↓e_assign, ofVal, ↓thenA]
    refine hK1 _ _ _ ?_
    clear hK1 K1
    refine WP.ret ?_
    simp only [Env.get_put_some, ↓thenA, reduceIte, Option.map_some, ↓reduceIte, retA, resA]
    refine ⟨_, rfl, ret_p (Left.upd (by omega) (Left.upd (Nat.le_refl _) (Left.refl hlt))) (.bool _) ?_⟩
    have : a.code ≠ b.code := by simpa using hc
    simpa [resV, this] using hk
  have hce : a.code = b.code := by simpa using hc
  refine WP.skip (hK3 _ _ _ ?_)
  clear hK3 K3
  refine WP.seq_k fun K3 hK3 => ?_
  refine WP.seq_k fun K1 hK1 => WP.region hT rfl ?_
  simp only [↓opsA, ↓stepA, ↓callA, List.map_cons, List.map_nil, ev, Env.get_put_some, ↓e_unOp, ↓e_load, ↓e_fieldAddr, rdSl_sl, ↓thenA, Heap.upd_get, AV.cells_agg, reduceIte, Nat.reduceEqDiff, true_and, List.getElem?_cons_zero, List.getElem?_cons_succ, List.length_cons, List.length_nil, Nat.zero_add, List.drop_zero, List.take_succ_cons, List.take_zero, List.append_nil, Nat.left_eq_add, Nat.one_ne_zero, Nat.lt_add_one, ↓reduceIte, Nat.le_refl, T_38, T_40, pt_38, cellOk]
  refine c54 hA hA2 ?_
  refine hK1 _ _ _ ?_
  clear hK1 K1
  refine WP.cond (by simp only [ev, Env.get_put_some, ↓reduceIte]; rfl) (fun hc => ?_) (fun hc => ?_)
  · refine WP.seq_k fun K1 hK1 => WP.region hT rfl ?_
    simp only [↓opsA, ↓stepA, ↓callA, ev, ↓e_assign, ofVal, ↓thenA]
    refine hK1 _ _ _ ?_
    clear hK1 K1
    refine WP.ret ?_
    simp only [Env.get_put_some, ↓thenA, reduceIte, Option.map_some, ↓reduceIte, retA, resA]
    refine ⟨_, rfl, ret_p (Left.upd (by omega) (Left.upd (Nat.le_refl _) (Left.refl hlt))) (.bool _) ?_⟩
    have : a.acts ≠ b.acts := by simpa using hc
    simpa [resV, this] using hk
  have hae : a.acts = b.acts := by simpa using hc
  refine WP.skip (hK3 _ _ _ ?_)
  clear hK3 K3
  refine WP.seq_k fun K3 hK3 => ?_
  refine WP.seq_k fun K1 hK1 => WP.region hT rfl ?_
  simp only [↓opsA, ↓stepA, ↓callA, List.map_cons, List.map_nil, ev, Env.get_put_some, ↓e_unOp, ↓e_load, ↓e_fieldAddr, rdSl_sl, ↓thenA, Heap.upd_get, AV.cells_agg, reduceIte, Nat.reduceEqDiff, true_and, List.getElem?_cons_zero, List.getElem?_cons_succ, List.length_cons, List.length_nil, Nat.zero_add, List.drop_zero, List.take_succ_cons, List.take_zero, List.append_nil, Nat.left_eq_add, Nat.one_ne_zero, Nat.lt_add_one, ↓reduceIte, Nat.le_refl, T_37, T_40, pt_37, cellOk]
  refine c25 hB hB2 ?_
  refine hK1 _ _ _ ?_
  clear hK1 K1
  refine WP.cond (by simp only [ev, Env.get_put_some, ↓reduceIte]; rfl) (fun hc => ?_) (fun hc => ?_)
  · refine WP.seq_k fun K1 hK1 => WP.region hT rfl ?_
    simp only [↓opsA, ↓stepA, ↓callA, ev, ↓e_assign, ofVal, ↓thenA]
    refine hK1 _ _ _ ?_
    clear hK1 K1
    refine WP.ret ?_
    simp only [Env.get_put_some, ↓thenA, reduceIte, Option.map_some, ↓reduceIte, retA, resA]
    refine ⟨_, rfl, ret_p (Left.upd (by omega) (Left.upd (Nat.le_refl _) (Left.refl hlt))) (.bool _) ?_⟩
    have : a.who ≠ b.who := by simpa using hc
    simpa [resV, this] using hk
  have hwe : a.who = b.who := by simpa using hc
  refine WP.skip (hK3 _ _ _ ?_)
  clear hK3 K3
  refine WP.seq_k fun K1 hK1 => WP.region hT rfl ?_
  simp only [↓opsA, ↓stepA, ↓callA, ev, ↓e_assign, ofVal, ↓thenA]
  refine hK1 _ _ _ ?_
  clear hK1 K1
  refine WP.ret ?_
  simp only [Env.get_put_some, reduceIte, Option.map_some, ↓reduceIte, retA, resA]
  refine ⟨_, rfl, ret_p (Left.upd (by omega) (Left.upd (Nat.le_refl _) (Left.refl hlt))) (.bool _) ?_⟩
  simpa [resV, hce, hae, hwe] using hk
end
end Go.Proofs.Ytplkjfnjdekgpaa
