/- Families of functions: a slice turned into a slice of one's own. Own work. -/
import Derived.Test.YtplkjfnjdekgpaaLtTree
namespace Go.Proofs.Ytplkjfnjdekgpaa
open Go

def Heap.below (h : Heap) (n : Nat) : Prop := ∀ id b, h id = some b → id < n

/-- What an owned result is: a tree of new ids, all below as it was, nothing else new. -/
structure OwnRes {β : Type} (U : AV → β → Prop) (h : Heap) (n : Nat) (r : AV) (b : β) (h' : Heap) (n' : Nat) : Prop where
  tree : ∃ r' I, Tree h' r r' I ∧ U r' b ∧ (∀ i, i ∈ I → n ≤ i ∧ i < n') ∧ ∀ id, n ≤ id → id ∉ I → h' id = none
  below : ∀ id, id < n → h' id = h id
  le : n ≤ n'

/-- An owned value fits its place. -/
structure TyO {β : Type} (T : TE) (t : TypeId) (U : AV → β → Prop) : Prop where
  len : ∀ h r r' I b, Tree h r r' I → U r' b → r.cells.length = (T t).sz
  good : ∀ h r r' I b, Tree h r r' I → U r' b → r.good = true
  setz : ∀ h r r' I b, Tree h r r' I → U r' b → setPart (T t).zero 0 r = r
  part : ∀ h r r' I b, Tree h r r' I → U r' b → part T t 0 r = some r

section
variable {P : Program} {T : TE} {β : Type} {U : AV → β → Prop} {h : Heap} {n : Nat}

theorem Heap.below.none {h : Heap} {n id : Nat} (hb : h.below n) (hi : n ≤ id) : h id = none := by
  cases hq : h id with
  | none => rfl
  | some b => have := hb id b hq; omega

theorem OwnRes.lt {r : AV} {b : β} {h' : Heap} {n' : Nat} (ho : OwnRes U h n r b h' n') (_ : h.below n) : h'.below n' := fun id x hx => by
  obtain ⟨⟨r', I, _, _, h1, h2⟩, h3, h4⟩ := ho
  rcases Nat.lt_or_ge id n with hlt | hge
  · omega
  · by_cases hm : id ∈ I
    · exact (h1 id hm).2
    · rw [h2 id hge hm] at hx; cases hx

theorem CA.lt {f : FuncId} {args : List AV} {K : AV → Heap → Nat → Prop} (hg : Goes P f) (hc : h.below n → CA P f args h n K) : CA P f args h n K := by
  refine ⟨hg, fun c vals hh hf hs hv => (hc fun id b hid => ?_).2 c vals hh hf hs hv⟩
  obtain ⟨b', base, sz, arr, E, hB⟩ := hh.blk id b hid
  rcases Nat.lt_or_ge id n with h1 | h1
  · exact h1
  · have := hB.ι; rw [hf id h1] at this; cases this

/-- What has no rows is owned. -/
theorem OwnRes.atom {r : AV} {b : β} (hlt : h.below n) (hr : U r b) (h0 : r.Lt 0) (hn : NoRo r) : OwnRes U h n r b h n :=
  ⟨⟨r, [], .atom r h0 hn, hr, (fun i hi => by cases hi), fun id hid _ => hlt.none hid⟩, fun _ _ => rfl, Nat.le_refl _⟩

theorem CA.ofAtom {f : FuncId} {args : List AV} {K : AV → Heap → Nat → Prop} {b : β} (hg : Goes P f) (h0 : ∀ r, U r b → r.Lt 0 ∧ NoRo r) (hc : ∀ K : AV → Heap → Nat → Prop, (∀ r, U r b → K r h n) → CA P f args h n K)
    (hk : ∀ r h' n', OwnRes U h n r b h' n' → K r h' n') : CA P f args h n K := CA.lt hg fun hlt => hc K fun r hr => hk r h n (OwnRes.atom hlt hr (h0 r hr).1 (h0 r hr).2)

/-- Owned, it may be frozen. -/
theorem CA.ofOwn {f : FuncId} {args : List AV} {K : AV → Heap → Nat → Prop} {b : β} (hg : Goes P f) (hc : ∀ K : AV → Heap → Nat → Prop, (∀ r h' n', OwnRes U h n r b h' n' → K r h' n') → CA P f args h n K)
    (hk : ∀ r, U r b → K r h n) : CA P f args h n K := CA.lt hg fun hlt => CA.conv (hc _ fun r h' n' ho => by
  obtain ⟨⟨r', I, ht, hU, h1, h2⟩, h3, h4⟩ := ho
  refine ⟨r', h, n, .freeze _ _ _ _ _ (Tree.frz ht fun id b hi hb => ⟨(h1 id hi).1, hb⟩) ⟨fun id b hb => ⟨hlt id b hb, ?_⟩, fun id b hb => .inl hb⟩, hk r' hU⟩
  rw [h3 id (hlt id b hb)]; exact hb)

/-- A call to which the whole heap is lent; its result is one's own. -/
theorem CA.lendOwn {f : FuncId} {args args' : List AV} {K : AV → Heap → Nat → Prop} {b : β} (hg : Goes P f) (hl : args.length = args'.length) (ha : ∀ (i : Nat) (u u' : AV), args[i]? = some u → args'[i]? = some u' → u = u' ∨ Frz 0 h u u')
    (hc : ∀ K : AV → Heap → Nat → Prop, (∀ r h' n', OwnRes U Heap.emp n r b h' n' → K r h' n') → CA P f args' Heap.emp n K) (hk : ∀ r h' n', OwnRes U h n r b h' n' → K r h' n') : CA P f args h n K := CA.lt hg fun hlt => by
  have hmin : h.minus (fun i => decide (i < n)) = Heap.emp := funext fun id => by
    unfold Heap.minus Heap.emp
    by_cases hi : id < n
    · simp [hi]
    · simp [hi, hlt.none (Nat.le_of_not_lt hi)]
  have honly : h.only (fun i => decide (i < n)) = h := funext fun id => by
    unfold Heap.only
    by_cases hi : id < n
    · simp [hi]
    · simp [hi, hlt.none (Nat.le_of_not_lt hi)]
  refine CA.borrow (fun i => decide (i < n)) hl (by rw [honly]; exact ha) ?_
  rw [hmin]
  refine hc _ fun r h' n' ho => ?_
  obtain ⟨⟨r', I, ht, hU, h1, h2⟩, h3, h4⟩ := ho
  have hj : ∀ id, id ∈ I → (h'.join (fun i => decide (i < n)) h) id = h' id := fun id hi => by
    unfold Heap.join
    rw [if_neg (by have := (h1 id hi).1; simp; omega)]
  refine ⟨ht.noRo, fun id b hb e he u hu => ?_, hk _ _ _ ⟨⟨r', I, ht.keep hj, hU, h1, fun id hid hni => ?_⟩, fun id hid => ?_, h4⟩⟩
  · by_cases hi : id ∈ I
    · exact (Tree.rows ht id b hi hb e he).cells u hu
    · rcases Nat.lt_or_ge id n with hlt' | hge
      · rw [h3 id hlt'] at hb; cases hb
      · rw [h2 id hge hi] at hb; cases hb
  · unfold Heap.join
    rw [if_neg (by simp; omega)]
    exact h2 id hid hni
  · unfold Heap.join
    rw [if_pos (by simp; omega)]

/-- A call to which the whole heap is lent and that leaves nothing behind. -/
theorem CA.lend {f : FuncId} {args args' : List AV} {K : AV → Heap → Nat → Prop} {r : AV} (hg : Goes P f) (hl : args.length = args'.length) (ha : ∀ (i : Nat) (u u' : AV), args[i]? = some u → args'[i]? = some u' → u = u' ∨ Frz 0 h u u')
    (hn : NoRo r) (hc : ∀ K : AV → Heap → Nat → Prop, K r Heap.emp n → CA P f args' Heap.emp n K) (hk : K r h n) : CA P f args h n K := CA.lt hg fun hlt => by
  have hmin : h.minus (fun i => decide (i < n)) = Heap.emp := funext fun id => by
    unfold Heap.minus Heap.emp
    by_cases hi : id < n
    · simp [hi]
    · simp [hi, hlt.none (Nat.le_of_not_lt hi)]
  have honly : h.only (fun i => decide (i < n)) = h := funext fun id => by
    unfold Heap.only
    by_cases hi : id < n
    · simp [hi]
    · simp [hi, hlt.none (Nat.le_of_not_lt hi)]
  have hjoin : Heap.emp.join (fun i => decide (i < n)) h = h := funext fun id => by
    unfold Heap.join Heap.emp
    by_cases hi : id < n
    · simp [hi]
    · simp [hi, hlt.none (Nat.le_of_not_lt hi)]
  refine CA.borrow (fun i => decide (i < n)) hl (by rw [honly]; exact ha) ?_
  rw [hmin]
  exact hc _ ⟨hn, fun id b hb => (by cases hb), by rw [hjoin]; exact hk⟩

end

theorem toS_own_gen {P : Program} {T : TE} {α β : Type} {R : AV → α → Prop} {U : AV → β → Prop} {φ : α → β} {g t ts u us : Nat} {p0 p1 p2 p3 p4 p5 p6 p7 p8 p9 p10 p11 p12 p13 p14 p15 p16 p17 p18 p19 p20 p21 p22 p23 : String}
    (hT : TEOk P T) {f : FuncId} {fn : Func} (hg : Goes P f) (hf : P.funcs[f]? = some fn) (hb : fn.body = some (toSCode g t ts u us p0 p1 p2 p3 p4 p5 p6 p7 p8 p9 p10 p11 p12 p13 p14 p15 p16 p17 p18 p19 p20 p21 p22 p23)) (hN : fn.ntmps = 23) (hrs : fn.results.toList = [.tmp 2])
    (hts : (T ts).ty = .slice t) (hus : (T us).ty = .slice u) (ht : TyR T t R) (hu : TyO T u U) (hpu : 0 < (T u).sz) (hzl : (T u).zero.cells.length = (T u).sz) (hul : ∀ e a n, U e a → e.Lt n) (hby : (T u).bytes ≤ 65536) {x : AV} {l : List α} (hx : SlR (T t).sz R x l) (hl : l.length ≤ 1048576)
    (hcall : ∀ h n (K : AV → Heap → Nat → Prop) e a, a ∈ l → R e a → (∀ r h' n', OwnRes U h n r (φ a) h' n' → K r h' n') → CA P g [e] h n K) {h : Heap} {n : Nat} {K : AV → Heap → Nat → Prop} (hk : ∀ r h' n', OwnRes (SlR (T u).sz U) h n r (l.map φ) h' n' → K r h' n') : CA P f [x] h n K := by
  obtain ⟨es, hes, hal, _, _, _⟩ := hx
  have hel := all2_length hal
  have hpt := ht.pos
  have hct := ht.cell
  refine CA.conv (CA.enter (N := 23) hT hg hf hb hN (by simp) hrs fun hlt => ?_)
  unfold toSCode
  refine WP.seq_k fun K1 hK1 => WP.region hT rfl ?_
  simp only [↓opsA, ↓stepA, ↓callA, ev, ↓e_assign, ofVal, ↓thenA]
  refine hK1 _ _ _ ?_
  clear hK1 K1
  refine WP.seq_k fun K1 hK1 => WP.region hT rfl ?_
  simp only [↓opsA, ↓stepA, ↓e_len1, ↓callA, Int.toNat_natCast, ev, Env.get_put_some, Env.get_envOf, ↓e_move, ↓e_assign, ↓e_makeSlice, ↓thenA, reduceIte, Nat.reduceEqDiff, List.getElem?_cons_zero, Option.getD_some, ↓reduceIte, hts, hus, rdSl_emp hes]
  refine ⟨hpu, by omega, Int.le_refl _, ?_, by omega, hK1 _ _ _ ?_⟩
  · have := Nat.mul_le_mul hby (show es.length ≤ 1048576 by omega)
    omega
  clear hK1 K1
  refine WP.seq_k fun K1 hK1 => WP.seq_k fun K2 hK2 => WP.region hT rfl ?_
  simp only [↓opsA, ↓stepA, ↓callA, ev, ↓e_assign, ofVal, ↓thenA]
  refine hK2 _ _ _ ?_
  clear hK2 K2
  refine WP.block (WP.loop (fun m E h' n' => ∃ i D D' I, m = l.length - i ∧ i ≤ l.length ∧ D.length = i ∧ TreeL h' D D' I ∧ All2 U D' ((l.take i).map φ) ∧ n + 1 ≤ n' ∧ (∀ j, j ∈ I → n + 1 ≤ j ∧ j < n') ∧ (∀ id, n + 1 ≤ id → id ∉ I → h' id = none) ∧ (∀ id, id < n → h' id = h id) ∧
    h' n = some (D ++ List.replicate (l.length - i) (T u).zero) ∧ E.get 0 = x ∧ E.get 3 = .sl (T u).sz n 0 l.length l.length true ∧ E.get 4 = .int .i64 i) l.length ?_ ?_)
  · refine ⟨0, [], [], [], by omega, Nat.zero_le _, rfl, .nil, .nil, Nat.le_refl _, (fun j hj => by cases hj), fun id hid _ => ?_, fun id hid => Heap.upd_ne _ _ (by omega), ?_, ?_, ?_, ?_⟩
    · rw [Heap.upd_ne _ _ (by omega)]; exact Heap.below.none hlt (by omega)
    · rw [Heap.upd_same]; simp [hel]
    · simp [Env.get, Env.put, envOf]
    · simp [Env.get, Env.put, hel]
    · simp [Env.get, Env.put]
  rintro m E h' n' ⟨i, D, D', I, rfl, hi, hd, htr, hdone, hn', hI, hno, hbel, hrow, h0, h3, h4⟩
  refine WP.seq_k fun K2 hK2 => WP.seq_k fun K3 hK3 => WP.region hT rfl ?_
  simp only [↓opsA, ↓stepA, ↓e_len1, ↓callA, ev, Env.get_put_some, ↓e_move, ↓e_binOp, b_lss, ↓thenA, reduceIte, Nat.reduceEqDiff, ↓reduceIte, hts, h0, h4, rdSl_emp hes]
  refine hK3 _ _ _ ?_
  clear hK3 K3
  refine WP.cond (by simp only [ev, Env.get_put_some, ↓reduceIte]; rfl) (fun hc => ?_) (fun hc => ?_)
  · have hil : i < l.length := by simp at hc; omega
    refine WP.skip (hK2 _ _ _ ?_)
    clear hK2 K2
    obtain ⟨e, a, he, ha, hR⟩ := all2_at hal hil
    have hp := ht.part e a hR
    refine WP.seq_k fun K2 hK2 => WP.block (WP.region hT rfl ?_)
    simp only [↓opsA, ↓stepA, ↓callA, Int.toNat_natCast, List.map_cons, List.map_nil, ev, Env.get_put_some, Env.put_none, ↓e_move, ↓e_load, ↓e_store, ↓e_indexAddr, ↓thenA, ↓blockA, reduceIte, Nat.reduceEqDiff, Nat.zero_add, List.append_nil, ↓reduceIte, hts, h0, h3, h4, rdSl_emp hes, he, hp, Int.toNat_natCast]
    refine ⟨hpt, by omega, by omega, hct, ?_⟩
    refine hcall _ _ _ e a (List.mem_of_getElem? ha) hR (fun r h2 n2 hr => ?_)
    obtain ⟨⟨r', J, htr2, hU, hJ, hno2⟩, hbel2, hn2⟩ := hr
    have hrl := hu.len _ _ _ _ _ htr2 hU
    have hrg := hu.good _ _ _ _ _ htr2 hU
    have hrz := hu.setz _ _ _ _ _ htr2 hU
    have hrep : l.length - i = (l.length - (i + 1)) + 1 := by omega
    have hrow2 : h2 n = some (D ++ List.replicate (l.length - i) (T u).zero) := by rw [hbel2 n (by omega)]; exact hrow
    have hblen : (D ++ List.replicate (l.length - i) (T u).zero).length = l.length := by simp; omega
    have hbi : (D ++ List.replicate (l.length - i) (T u).zero)[i]? = some (T u).zero := by
      rw [List.getElem?_append_right (by omega), hd, Nat.sub_self, hrep]; rfl
    have hset : (D ++ List.replicate (l.length - i) (T u).zero).set i r = (D ++ [r]) ++ List.replicate (l.length - (i + 1)) (T u).zero := by
      rw [List.set_append_right _ _ (by omega), hd, Nat.sub_self, hrep, List.replicate_succ, List.set_cons_zero]; simp
    simp only [rdSl_sl, reduceIte, true_and, Nat.zero_add, List.drop_zero, ↓reduceIte, Nat.le_refl, hus, hrow2, hblen, List.length_take, Nat.min_self, hbi, hrg, hrl, hrz, hzl]
    refine ⟨hpu, by omega, by omega, hpu, hK2 _ _ _ ?_⟩
    clear hK2 K2
    refine WP.region hT rfl ?_
    simp only [↓opsA, ↓stepA, ↓callA, ev, Env.get_put_some, ↓e_move, ↓e_assign, ↓e_binOp, b_add, ofVal, ↓thenA, Heap.upd_get, reduceIte, Nat.reduceEqDiff, ↓reduceIte, h4]
    have hdj : ∀ j, j ∈ I → j ∉ J := fun j h1 h2 => by have := (hI j h1).2; have := (hJ j h2).1; omega
    refine ⟨l.length - (i + 1), by omega, i + 1, D ++ [r], D' ++ [r'], I ++ J, rfl, hil, by simp [hd], ?_, ?_, by omega, ?_, ?_, ?_, by rw [hset], ?_, ?_, ?_⟩
    · refine TreeL.snoc (htr.keep fun j hj => ?_) (htr2.keep fun j hj => ?_) hdj
      · have := hI j hj
        rw [Heap.upd_ne _ _ (by omega), hbel2 j (by omega)]
      · have := hJ j hj
        rw [Heap.upd_ne _ _ (by omega)]
    · rw [List.take_add_one, ha]
      simpa using all2_snoc hdone hU
    · intro j hj
      rcases List.mem_append.1 hj with hj | hj
      · have := hI j hj; omega
      · have := hJ j hj; omega
    · intro id hid hni
      rw [if_neg (by omega)]
      rcases Nat.lt_or_ge id n' with h1 | h1
      · rw [hbel2 id h1]; exact hno id hid fun hm => hni (List.mem_append_left _ hm)
      · exact hno2 id h1 fun hm => hni (List.mem_append_right _ hm)
    · intro id hid
      rw [if_neg (by omega), hbel2 id (by omega)]; exact hbel id hid
    · simpa [Env.get, Env.put] using h0
    · simpa [Env.get, Env.put] using h3
    · rw [wrap_in (by omega) (by omega)]
      rfl
  · have hil : i = l.length := by simp at hc; omega
    subst hil
    refine WP.exit ?_
    simp only [↓thenA, ↓blockA, reduceIte, ↓reduceIte]
    refine hK1 _ _ _ ?_
    clear hK2 K2 hK1 K1
    refine WP.seq_k fun K1 hK1 => WP.region hT rfl ?_
    simp only [↓opsA, ↓stepA, ↓callA, ev, Env.get_put_some, ↓e_move, ↓e_assign, ↓thenA, reduceIte, Nat.reduceEqDiff, ↓reduceIte, h3]
    refine hK1 _ _ _ ?_
    clear hK1 K1
    refine WP.ret ?_
    simp only [Env.get_put_some, reduceIte, Option.map_some, ↓reduceIte, retA, resA]
    rw [Nat.sub_self, List.replicate_zero, List.append_nil] at hrow
    rw [List.take_of_length_le (Nat.le_refl _)] at hdone
    have hml := all2_length hdone
    refine ⟨_, rfl, _, _, _, .keep _ _ _ _ (fun _ _ hx => hx), hk _ _ _ ⟨⟨.ro (T u).sz true D', n :: I, ?_, .mk_ro hdone (by unfold maxLen; simp; omega) hul, ?_, ?_⟩, hbel, by omega⟩⟩
    · have := Tree.sl (T u).sz n true D D' I hrow htr (fun hm => by have := hI n hm; omega)
      rw [hd] at this
      exact this
    · intro j hj
      rcases List.mem_cons.1 hj with rfl | hj
      · omega
      · have := hI j hj; omega
    · intro id hid hni
      exact hno id (by have : id ≠ n := fun hq => hni (by simp [hq]); omega) fun hm => hni (List.mem_cons_of_mem _ hm)

def toS0Code (t ts : Nat) (p0 p1 p2 p3 p4 p5 p6 p7 p8 p9 p10 p11 p12 p13 p14 p15 p16 p17 p18 p19 p20 p21 p22 : String) : Code :=
  (.seq
    (.region 0 #[⟨(some 2), .assign (.const (.slice none 0 0)), ts, p0, #[], none⟩] false)
    (.seq
      (.region 1 #[⟨(some 5), .move (.tmp 0), ts, p1, #[], none⟩,
        ⟨(some 6), .call { callee := (.builtin .len), args := #[(.tmp 5)], argTypes := #[ts] }, 3, p2, #[⟨0, .data⟩], none⟩,
        ⟨(some 7), .makeSlice ts (.tmp 6) (.tmp 6), ts, p3, #[⟨1, .data⟩, ⟨1, .data⟩], none⟩,
        ⟨(some 3), .assign (.tmp 7), ts, p4, #[⟨2, .data⟩, ⟨0, .phase⟩, ⟨1, .phase⟩, ⟨2, .phase⟩], none⟩] false)
      (.seq
        (.seq
          (.region 2 #[⟨(some 4), .assign (.const (.int .i64 0)), 3, p5, #[], none⟩] false)
          (.block 0
            (.loop
              (.seq
                (.seq
                  (.region 3 #[⟨(some 8), .move (.tmp 4), 3, p6, #[], none⟩,
                    ⟨(some 9), .move (.tmp 0), ts, p7, #[], none⟩,
                    ⟨(some 10), .call { callee := (.builtin .len), args := #[(.tmp 9)], argTypes := #[ts] }, 3, p8, #[⟨1, .data⟩], none⟩,
                    ⟨(some 11), .binOp .lss 3 (.tmp 8) (.tmp 10) 3, 4, p9, #[⟨0, .data⟩, ⟨2, .data⟩], none⟩] false)
                  (.cond (.tmp 11)
                    .skip
                    (.exit 0)))
                (.seq
                  (.block 1
                    (.region 5 #[⟨(some 14), .move (.tmp 3), ts, p10, #[], none⟩,
                      ⟨(some 15), .move (.tmp 4), 3, p11, #[], none⟩,
                      ⟨(some 16), .move (.tmp 0), ts, p12, #[], none⟩,
                      ⟨(some 17), .move (.tmp 4), 3, p13, #[], none⟩,
                      ⟨(some 18), .indexAddr ts (.tmp 16) (.tmp 17), 0, p14, #[⟨2, .data⟩, ⟨3, .data⟩], none⟩,
                      ⟨(some 19), .load t (.tmp 18), t, p15, #[⟨4, .data⟩], none⟩,
                      ⟨(some 20), .indexAddr ts (.tmp 14) (.tmp 15), 0, p16, #[⟨0, .data⟩, ⟨1, .data⟩, ⟨0, .phase⟩, ⟨1, .phase⟩, ⟨2, .phase⟩, ⟨3, .phase⟩, ⟨4, .phase⟩, ⟨5, .phase⟩], none⟩,
                      ⟨none, .store t (.tmp 20) (.tmp 19), 0, p17, #[⟨6, .data⟩, ⟨5, .data⟩, ⟨0, .phase⟩, ⟨1, .phase⟩, ⟨2, .phase⟩, ⟨3, .phase⟩, ⟨4, .phase⟩, ⟨5, .phase⟩], none⟩] false))
                  (.region 4 #[⟨(some 12), .move (.tmp 4), 3, p18, #[], none⟩,
                    ⟨(some 13), .binOp .add 3 (.tmp 12) (.const (.int .i64 1)) 3, 3, p19, #[⟨0, .data⟩], none⟩,
                    ⟨(some 4), .assign (.tmp 13), 3, p20, #[⟨1, .data⟩, ⟨0, .phase⟩, ⟨1, .phase⟩], none⟩] false))))))
        (.seq
          (.region 6 #[⟨(some 21), .move (.tmp 3), ts, p21, #[], none⟩,
            ⟨(some 2), .assign (.tmp 21), ts, p22, #[⟨0, .data⟩, ⟨0, .phase⟩], none⟩] false)
          .ret))))

theorem toS0_own_gen {P : Program} {T : TE} {α : Type} {R : AV → α → Prop} {t ts : Nat} {p0 p1 p2 p3 p4 p5 p6 p7 p8 p9 p10 p11 p12 p13 p14 p15 p16 p17 p18 p19 p20 p21 p22 : String}
    (hT : TEOk P T) {f : FuncId} {fn : Func} (hg : Goes P f) (hf : P.funcs[f]? = some fn) (hb : fn.body = some (toS0Code t ts p0 p1 p2 p3 p4 p5 p6 p7 p8 p9 p10 p11 p12 p13 p14 p15 p16 p17 p18 p19 p20 p21 p22)) (hN : fn.ntmps = 22) (hrs : fn.results.toList = [.tmp 2])
    (hts : (T ts).ty = .slice t) (ht : TyR T t R) (hnr : ∀ e a, R e a → NoRo e) (hby : (T t).bytes ≤ 65536) {x : AV} {l : List α} (hx : SlR (T t).sz R x l) (hl : l.length ≤ 1048576)
    {h : Heap} {n : Nat} {K : AV → Heap → Nat → Prop} (hk : ∀ r h' n', OwnRes (SlR (T t).sz R) h n r l h' n' → K r h' n') : CA P f [x] h n K := by
  obtain ⟨es, hes, hal, _, _, _⟩ := hx
  have hel := all2_length hal
  have hpt := ht.pos
  have hct := ht.cell
  have hzl := ht.zlen
  refine CA.conv (CA.enter (N := 22) hT hg hf hb hN (by simp) hrs fun hlt => ?_)
  unfold toS0Code
  refine WP.seq_k fun K1 hK1 => WP.region hT rfl ?_
  simp only [↓opsA, ↓stepA, ↓callA, ev, ↓e_assign, ofVal, ↓thenA]
  refine hK1 _ _ _ ?_
  clear hK1 K1
  refine WP.seq_k fun K1 hK1 => WP.region hT rfl ?_
  simp only [↓opsA, ↓stepA, ↓e_len1, ↓callA, Int.toNat_natCast, ev, Env.get_put_some, Env.get_envOf, ↓e_move, ↓e_assign, ↓e_makeSlice, ↓thenA, reduceIte, Nat.reduceEqDiff, List.getElem?_cons_zero, Option.getD_some, ↓reduceIte, hts, rdSl_emp hes]
  refine ⟨hpt, by omega, Int.le_refl _, ?_, by omega, hK1 _ _ _ ?_⟩
  · have := Nat.mul_le_mul hby (show es.length ≤ 1048576 by omega)
    omega
  clear hK1 K1
  refine WP.seq_k fun K1 hK1 => WP.seq_k fun K2 hK2 => WP.region hT rfl ?_
  simp only [↓opsA, ↓stepA, ↓callA, ev, ↓e_assign, ofVal, ↓thenA]
  refine hK2 _ _ _ ?_
  clear hK2 K2
  refine WP.block (WP.loop (fun m E h' n' => ∃ i, m = l.length - i ∧ i ≤ l.length ∧ n' = n + 1 ∧ h' = h.upd n (es.take i ++ List.replicate (l.length - i) (T t).zero) ∧
    E.get 0 = x ∧ E.get 3 = .sl (T t).sz n 0 l.length l.length true ∧ E.get 4 = .int .i64 i) l.length ?_ ?_)
  · refine ⟨0, by omega, Nat.zero_le _, rfl, ?_, ?_, ?_, ?_⟩
    · simp [hel]
    · simp [Env.get, Env.put, envOf]
    · simp [Env.get, Env.put, hel]
    · simp [Env.get, Env.put]
  rintro m E h' n' ⟨i, rfl, hi, rfl, rfl, h0, h3, h4⟩
  refine WP.seq_k fun K2 hK2 => WP.seq_k fun K3 hK3 => WP.region hT rfl ?_
  simp only [↓opsA, ↓stepA, ↓e_len1, ↓callA, ev, Env.get_put_some, ↓e_move, ↓e_binOp, b_lss, ↓thenA, reduceIte, Nat.reduceEqDiff, ↓reduceIte, hts, h0, h4, rdSl_emp hes]
  refine hK3 _ _ _ ?_
  clear hK3 K3
  refine WP.cond (by simp only [ev, Env.get_put_some, ↓reduceIte]; rfl) (fun hc => ?_) (fun hc => ?_)
  · have hil : i < l.length := by simp at hc; omega
    refine WP.skip (hK2 _ _ _ ?_)
    clear hK2 K2
    obtain ⟨e, a, he, ha, hR⟩ := all2_at hal hil
    have hp := ht.part e a hR
    have hrl := ht.len _ _ hR
    have hrg := ht.good _ _ hR
    have hrz := ht.setz _ _ hR
    have hrep : l.length - i = (l.length - (i + 1)) + 1 := by omega
    have htl : (es.take i).length = i := by simp; omega
    have hblen : (es.take i ++ List.replicate (l.length - i) (T t).zero).length = l.length := by simp; omega
    have hbi : (es.take i ++ List.replicate (l.length - i) (T t).zero)[i]? = some (T t).zero := by
      rw [List.getElem?_append_right (by omega), htl, Nat.sub_self, hrep]; rfl
    have hset : (es.take i ++ List.replicate (l.length - i) (T t).zero).set i e = es.take (i + 1) ++ List.replicate (l.length - (i + 1)) (T t).zero := by
      rw [List.set_append_right _ _ (by omega), htl, Nat.sub_self, hrep, List.replicate_succ, List.set_cons_zero, List.take_add_one, he]; simp
    refine WP.seq_k fun K2 hK2 => WP.block (WP.region hT rfl ?_)
    simp only [↓opsA, ↓stepA, ↓callA, Int.toNat_natCast, ev, Env.get_put_some, Env.put_none, ↓e_move, ↓e_load, ↓e_store, ↓e_indexAddr, rdSl_sl, ↓thenA, ↓blockA, Heap.upd_get, Heap.upd_upd, reduceIte, Nat.reduceEqDiff, true_and, Nat.zero_add, List.drop_zero, ↓reduceIte, Nat.le_refl, hts, h0, h3, h4, rdSl_emp hes, he, hp, Int.toNat_natCast, hblen, List.length_take, Nat.min_self, hbi, hrg, hrl, hrz, hzl]
    refine ⟨hpt, by omega, by omega, hct, hpt, by omega, by omega, hpt, hK2 _ _ _ ?_⟩
    clear hK2 K2
    refine WP.region hT rfl ?_
    simp only [↓opsA, ↓stepA, ↓callA, ev, Env.get_put_some, ↓e_move, ↓e_assign, ↓e_binOp, b_add, ofVal, ↓thenA, reduceIte, Nat.reduceEqDiff, true_and, ↓reduceIte, h4]
    refine ⟨l.length - (i + 1), by omega, i + 1, rfl, hil, by rw [hset], ?_, ?_, ?_⟩
    · simpa [Env.get, Env.put] using h0
    · simpa [Env.get, Env.put] using h3
    · rw [wrap_in (by omega) (by omega)]
      rfl
  · have hil : i = l.length := by simp at hc; omega
    subst hil
    refine WP.exit ?_
    simp only [↓thenA, ↓blockA, reduceIte, ↓reduceIte]
    refine hK1 _ _ _ ?_
    clear hK2 K2 hK1 K1
    refine WP.seq_k fun K1 hK1 => WP.region hT rfl ?_
    simp only [↓opsA, ↓stepA, ↓callA, ev, Env.get_put_some, ↓e_move, ↓e_assign, ↓thenA, reduceIte, Nat.reduceEqDiff, ↓reduceIte, h3]
    refine hK1 _ _ _ ?_
    clear hK1 K1
    refine WP.ret ?_
    simp only [Env.get_put_some, reduceIte, Option.map_some, ↓reduceIte, retA, resA]
    refine ⟨_, rfl, _, _, _, .keep _ _ _ _ (fun _ _ hx => hx), hk _ _ _ ⟨⟨.ro (T t).sz true es, [n], ?_, .mk_ro hal (by unfold maxLen; omega) ht.lt, ?_, ?_⟩, fun id hid => Heap.upd_ne _ _ (by omega), by omega⟩⟩
    · rw [Nat.sub_self, List.replicate_zero, List.append_nil, ← hel, List.take_of_length_le (Nat.le_refl _)]
      refine Tree.sl (T t).sz n true es es [] (Heap.upd_same _ _ _) (TreeL.atoms es fun e he => ?_) (fun hm => by cases hm)
      obtain ⟨j, hj⟩ := List.mem_iff_getElem?.1 he
      obtain ⟨b, _, hR⟩ := all2_get hal _ _ hj
      exact ⟨ht.lt _ _ _ hR, hnr _ _ hR⟩
    · intro j hj
      rw [List.mem_singleton.1 hj]; omega
    · intro id hid hni
      have : id ≠ n := fun hq => hni (by simp [hq])
      rw [Heap.upd_ne _ _ this]; exact Heap.below.none hlt hid
end Go.Proofs.Ytplkjfnjdekgpaa
