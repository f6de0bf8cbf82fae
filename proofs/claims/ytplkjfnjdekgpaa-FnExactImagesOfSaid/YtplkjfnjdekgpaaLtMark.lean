/- Families of functions: what writes numbers into all the cells of a value of one's own, and what reads them back. Own work. -/
import Derived.Test.YtplkjfnjdekgpaaLtFamH
namespace Go.Proofs.Ytplkjfnjdekgpaa
open Go

theorem dstIn_some {N d : Nat} {op : Op} {ty : TypeId} {p : String} {af : Array Edge} {g : Option (Nat × Bool)} : dstIn N ⟨some d, op, ty, p, af, g⟩ = decide (d < N) := rfl
theorem dstIn_none {N : Nat} {op : Op} {ty : TypeId} {p : String} {af : Array Edge} {g : Option (Nat × Bool)} : dstIn N ⟨none, op, ty, p, af, g⟩ = true := rfl

mutual
theorem Tree.some {h : Heap} : ∀ {x x' : AV} {I : List Nat}, Tree h x x' I → ∀ i, i ∈ I → ∃ b, h i = some b
  | _, _, _, .atom u hu hn => fun i hi => by cases hi
  | _, _, _, .sl sz id ex b b' I hb ht hid => fun i hi => by
    rcases List.mem_cons.1 hi with rfl | hi
    · exact ⟨b, hb⟩
    · exact TreeL.some ht i hi
  | _, _, _, .agg cs cs' I ht => TreeL.some ht
theorem TreeL.some {h : Heap} : ∀ {l l' : List AV} {I : List Nat}, TreeL h l l' I → ∀ i, i ∈ I → ∃ b, h i = some b
  | _, _, _, .nil => fun i hi => by cases hi
  | _, _, _, .cons u u' l l' I J hu hl hd => fun i hi => by
    rcases List.mem_append.1 hi with hi | hi
    · exact Tree.some hu i hi
    · exact TreeL.some hl i hi
end

/-- Read from k on, y gives k + w. -/
def HeldBy (P : Program) (f : FuncId) (y : AV) (w : Nat) (k : Int) : Prop := ∀ (h : Heap) (n : Nat) (K : AV → Heap → Nat → Prop), K (.int .i64 (k + w)) h n → CA P f [y, .int .i64 k] h n K

/-- A list of values, marked from k on. -/
inductive HdL (He : AV → Nat → Int → Prop) : List AV → List Nat → Int → Prop
  | nil (k : Int) : HdL He [] [] k
  | cons (e : AV) (w : Nat) (l : List AV) (ws : List Nat) (k : Int) (he : He e w k) (hl : HdL He l ws (k + w)) : HdL He (e :: l) (w :: ws) k

/-- A slice, marked from k on. -/
def HdS (sz : Nat) (He : AV → Nat → Int → Prop) (ws : List Nat) (x : AV) (_ : Nat) (k : Int) : Prop := ∃ es, rdSl Heap.emp sz x = some es ∧ x.one = true ∧ (∀ n, x.Lt n) ∧ HdL He es ws k

/-- What the marking of what is frozen x' does: w numbers from k on. -/
def MarkC (P : Program) (f : FuncId) (H : AV → Nat → Int → Prop) (x' : AV) (w : Nat) : Prop :=
  ∀ (h : Heap) (n : Nat) (K : AV → Heap → Nat → Prop) (x : AV) (I : List Nat) (k : Int), Tree h x x' I → 0 ≤ k → k + w ≤ 4611686018427387904 →
    (∀ x'' h' n', n ≤ n' → Tree h' x x'' I → (∀ id, id ∉ I → h' id = h id) → H x'' w k → K (.int .i64 (k + w)) h' n') → CA P f [x, .int .i64 k] h n K

theorem HdL.snoc {He : AV → Nat → Int → Prop} {l : List AV} {ws : List Nat} {k : Int} (hl : HdL He l ws k) {e : AV} {w : Nat} (he : He e w (k + ws.sum)) : HdL He (l ++ [e]) (ws ++ [w]) k := by
  induction hl with
  | nil k => exact .cons e w [] [] k (by simpa using he) (.nil _)
  | cons e' w' l ws k he' hl ih => exact .cons e' w' _ _ k he' (ih (by simpa [Int.add_assoc] using he))

theorem HdL.len {He : AV → Nat → Int → Prop} {l : List AV} {ws : List Nat} {k : Int} (hl : HdL He l ws k) : l.length = ws.length := by
  induction hl with
  | nil k => rfl
  | cons e' w' l ws k he' hl ih => simp [ih]

def walkCode (ts z r : Nat) (c : Code) (p0 p1 p2 p3 p4 p5 p6 p7 p8 p9 p10 : String) : Code :=
  (.seq
    (.region 0 #[⟨(some 4), .assign (.const (.int .i64 0)), 3, p0, #[], none⟩] false)
    (.seq
      (.seq
        (.region 1 #[⟨(some 5), .assign (.const (.int .i64 0)), 3, p1, #[], none⟩] false)
        (.block 0
          (.loop
            (.seq
              (.seq
                (.region 2 #[⟨(some 6), .move (.tmp 5), 3, p2, #[], none⟩,
                  ⟨(some 7), .move (.tmp 0), ts, p3, #[], none⟩,
                  ⟨(some 8), .call { callee := (.builtin .len), args := #[(.tmp 7)], argTypes := #[ts] }, 3, p4, #[⟨1, .data⟩], none⟩,
                  ⟨(some 9), .binOp .lss 3 (.tmp 6) (.tmp 8) 3, 4, p5, #[⟨0, .data⟩, ⟨2, .data⟩], none⟩] false)
                (.cond (.tmp 9)
                  .skip
                  (.exit 0)))
              (.seq
                (.block 1 c)
                (.region 3 #[⟨(some 10), .move (.tmp 5), 3, p6, #[], none⟩,
                  ⟨(some 11), .binOp .add 3 (.tmp 10) (.const (.int .i64 1)) 3, 3, p7, #[⟨0, .data⟩], none⟩,
                  ⟨(some 5), .assign (.tmp 11), 3, p8, #[⟨1, .data⟩, ⟨0, .phase⟩, ⟨1, .phase⟩], none⟩] false))))))
      (.seq
        (.region z #[⟨(some r), .move (.tmp 1), 3, p9, #[], none⟩,
          ⟨(some 4), .assign (.tmp r), 3, p10, #[⟨0, .data⟩, ⟨0, .phase⟩], none⟩] false)
        .ret)))

/-- What an element's marking does, in a row of one's own. -/
def MarkBody (P : Program) (N : Nat) (c : Code) (sz : Nat) (He : AV → Nat → Int → Prop) (e' : AV) (w : Nat) : Prop :=
  ∀ (Q : Exit → Env → Heap → Nat → Prop) (E : Env) (h : Heap) (n : Nat) (id : Nat) (ex : Bool) (b : List AV) (i : Nat) (e : AV) (J : List Nat) (k : Int), Tree h e e' J → id ∉ J → h id = some b → b[i]? = some e → i < b.length →
    b.length ≤ 9223372036854775807 → E.get 0 = .sl sz id 0 b.length b.length ex → E.get 1 = .int .i64 k → E.get 5 = .int .i64 i → 0 ≤ k → k + w ≤ 4611686018427387904 →
    (∀ E' h' n' e1 e'', n ≤ n' → Tree h' e1 e'' J → He e'' w k → h' id = some (b.set i e1) → (∀ j, j ≠ id → j ∉ J → h' j = h j) → E'.get 0 = E.get 0 → E'.get 1 = .int .i64 (k + w) → E'.get 5 = .int .i64 i → Q .normal E' h' n') → WP P N c Q E h n

theorem markS_gen {P : Program} {T : TE} {β : Type} {U : AV → β → Prop} {w : β → Nat} {He : AV → Nat → Int → Prop} {t ts z r N : Nat} {c : Code} {p0 p1 p2 p3 p4 p5 p6 p7 p8 p9 p10 : String}
    (hT : TEOk P T) {f : FuncId} {fn : Func} (hg : Goes P f) (hf : P.funcs[f]? = some fn) (hb : fn.body = some (walkCode ts z r c p0 p1 p2 p3 p4 p5 p6 p7 p8 p9 p10)) (hN : fn.ntmps = N) (h12 : 12 ≤ N) (hr : r < N) (hrs : fn.results.toList = [.tmp 4])
    (hts : (T ts).ty = .slice t) (hlt0 : ∀ e a n, He e a n → ∀ m, e.Lt m) {x' : AV} {l : List β} (hx : SlR (T t).sz U x' l) (hbody : ∀ e' a, a ∈ l → U e' a → MarkBody P N c (T t).sz He e' (w a)) : MarkC P f (HdS (T t).sz He (l.map w)) x' (l.map w).sum := by
  intro h n K x I k htr hk0 hkw hK
  obtain ⟨es, hes, hal, hml, _, hone⟩ := hx
  have hel := all2_length hal
  unfold maxLen at hml
  refine CA.conv (CA.enter (N := N) hT hg hf hb hN (by simp; omega) hrs fun hlt => ?_)
  unfold walkCode
  refine WP.seq_k fun K1 hK1 => WP.region hT (by simp only [List.all_cons, List.all_nil, dstIn_some, Bool.and_true, decide_eq_true_eq]; omega) ?_
  simp only [↓opsA, ↓stepA, ↓callA, ev, ↓e_assign, ofVal, ↓thenA]
  refine hK1 _ _ _ ?_
  clear hK1 K1
  refine WP.seq_k fun K1 hK1 => WP.seq_k fun K2 hK2 => WP.region hT (by simp only [List.all_cons, List.all_nil, dstIn_some, Bool.and_true, decide_eq_true_eq]; omega) ?_
  simp only [↓opsA, ↓stepA, ↓callA, ev, ↓e_assign, ofVal, ↓thenA]
  refine hK2 _ _ _ ?_
  clear hK2 K2
  have fin : ∀ (E' : Env) (h' : Heap) (n' : Nat) x'', n ≤ n' → E'.get 1 = .int .i64 (k + ((l.map w).sum : Nat)) → Tree h' x x'' I → (∀ id, id ∉ I → h' id = h id) → HdS (T t).sz He (l.map w) x'' (l.map w).sum k → K1 E' h' n' := by
    intro E' h' n' x'' hn hE htr' hfr hH
    refine hK1 _ _ _ ?_
    refine WP.seq_k fun K2 hK2 => WP.region hT (by simp only [List.all_cons, List.all_nil, dstIn_some, Bool.and_true, Bool.and_eq_true, decide_eq_true_eq]; omega) ?_
    simp only [↓opsA, ↓stepA, ↓callA, ev, Env.get_put_some, ↓e_move, ↓e_assign, ↓thenA, reduceIte, ↓reduceIte, hE, eq_self]
    refine hK2 _ _ _ ?_
    refine WP.ret ?_
    simp only [Env.get_put_some, reduceIte, Option.map_some, ↓reduceIte, retA, resA]
    exact ⟨_, rfl, _, _, _, .keep _ _ _ _ (fun _ _ hx => hx), hK _ _ _ hn htr' hfr hH⟩
  cases x' with
  | nils =>
    obtain ⟨rfl, rfl⟩ := htr.nils
    obtain rfl : es = [] := by simpa [rdSl] using hes.symm
    obtain rfl : l = [] := by cases l with | nil => rfl | cons => simp at hel
    refine WP.block (WP.loop (fun m E h' n' => n = n' ∧ h = h' ∧ E.get 0 = .nils ∧ E.get 1 = .int .i64 k ∧ E.get 5 = .int .i64 0) 0 ?_ ?_)
    · exact ⟨rfl, rfl, rfl, rfl, rfl⟩
    rintro m E h' n' ⟨rfl, rfl, h0, h1, h5⟩
    refine WP.seq_k fun K2 hK2 => WP.seq_k fun K3 hK3 => WP.region hT (by simp only [List.all_cons, List.all_nil, dstIn_some, Bool.and_true, Bool.and_eq_true, decide_eq_true_eq]; omega) ?_
    simp only [↓opsA, ↓stepA, ↓e_len1, ↓callA, ev, Env.get_put_some, ↓e_move, ↓e_binOp, b_lss, rdSl_nils, ↓thenA, reduceIte, Nat.reduceEqDiff, List.length_nil, ↓reduceIte, hts, h0, h5]
    refine hK3 _ _ _ ?_
    clear hK3 K3
    refine WP.cond (by simp only [ev, Env.get_put_some, ↓reduceIte]; rfl) (fun hc => ?_) (fun hc => ?_)
    · simp at hc
    refine WP.exit ?_
    simp only [↓thenA, ↓blockA, reduceIte, ↓reduceIte]
    refine fin _ _ _ .nils (Nat.le_refl _) ?_ htr (fun _ _ => rfl) ⟨[], rfl, rfl, fun _ => .nils, .nil _⟩
    simpa [Env.get, Env.put] using h1
  | ro sz ex b' =>
    obtain ⟨id, b, J, rfl, rfl, hrow, htl, hid⟩ := htr.ro
    obtain ⟨rfl, rfl⟩ : sz = (T t).sz ∧ es = b' := by
      unfold rdSl at hes
      split at hes <;> simp_all
    have hbl := htl.length
    refine WP.block (WP.loop (fun m E h' n' => ∃ D R D'' R' I1 I2 k1, m = R.length ∧ n ≤ n' ∧ J = I1 ++ I2 ∧ (∀ j, j ∈ I1 → j ∉ I2) ∧ TreeL h' D D'' I1 ∧ TreeL h' R R' I2 ∧ All2 U R' (l.drop D.length) ∧ b.length = (D ++ R).length ∧
      HdL He D'' ((l.take D.length).map w) k ∧ k1 = k + (((l.take D.length).map w).sum : Nat) ∧ h' id = some (D ++ R) ∧ (∀ j, j ≠ id → j ∉ J → h' j = h j) ∧
      E.get 0 = .sl (T t).sz id 0 b.length b.length ex ∧ E.get 1 = .int .i64 k1 ∧ E.get 5 = .int .i64 D.length) b.length ?_ ?_)
    · exact ⟨[], b, [], es, [], J, k, rfl, Nat.le_refl _, rfl, (fun j hj => by cases hj), .nil, htl, hal, rfl, .nil _, by simp, hrow, fun _ _ _ => rfl, rfl, rfl, rfl⟩
    rintro m E h' n' ⟨D, R, D'', R', I1, I2, k1, rfl, hn', rfl, hdj, htD, htR, hall, hbe, hHd, hk1, hrow', hfr, h0, h1, h5⟩
    have hbe' : b.length = D.length + R.length := by rw [hbe]; simp
    refine WP.seq_k fun K2 hK2 => WP.seq_k fun K3 hK3 => WP.region hT (by simp only [List.all_cons, List.all_nil, dstIn_some, Bool.and_true, Bool.and_eq_true, decide_eq_true_eq]; omega) ?_
    simp only [↓opsA, ↓stepA, ↓e_len1, ↓callA, ev, Env.get_put_some, ↓e_move, ↓e_binOp, b_lss, rdSl_sl, ↓thenA, reduceIte, Nat.reduceEqDiff, Nat.zero_add, List.drop_zero, ↓reduceIte, Nat.le_refl, hts, h0, h5, hrow', hbe]
    refine hK3 _ _ _ ?_
    clear hK3 K3
    have hRl := all2_length hall
    have hRl2 := htR.length
    refine WP.cond (by simp only [ev, Env.get_put_some, ↓reduceIte]; rfl) (fun hc => ?_) (fun hc => ?_)
    · have hil : D.length < b.length := by simp at hc; omega
      refine WP.skip (hK2 _ _ _ ?_)
      clear hK2 K2
      cases htR with
      | nil => simp at hbe'; omega
      | cons e e' R R' Je I3 hte htR hd3 =>
      have hdl : D.length < l.length := by simp at hRl hRl2 hbl hel; omega
      have hdrop : l.drop D.length = l[D.length] :: l.drop (D.length + 1) := List.drop_eq_getElem_cons hdl
      rw [hdrop] at hall
      cases hall with
      | cons hU hall =>
      have htake : l.take (D.length + 1) = l.take D.length ++ [l[D.length]] := by rw [List.take_add_one, List.getElem?_eq_getElem hdl]; rfl
      have hsum : (((l.take (D.length + 1)).map w).sum : Nat) + ((l.drop (D.length + 1)).map w).sum = (l.map w).sum := by
        rw [← List.sum_append_nat, ← List.map_append, List.take_append_drop]
      have hs1 : ((l.take (D.length + 1)).map w).sum = ((l.take D.length).map w).sum + w l[D.length] := by rw [htake, List.map_append, List.sum_append_nat, List.map_cons, List.map_nil, List.sum_cons, List.sum_nil, Nat.add_zero]
      refine WP.seq_k fun K2 hK2 => WP.block ?_
      have hbl2 : (D ++ e :: R).length = b.length := by rw [hbe]
      refine hbody e' _ (List.getElem_mem _) hU _ _ h' n' id ex (D ++ e :: R) D.length e Je k1 hte (fun hm => hid (by simp [hm])) hrow' (by simp) (by simp) (by rw [hbl2]; omega) ?_ ?_ ?_ (by omega) (by omega) ?_
      · rw [hbl2]; simpa [Env.get, Env.put] using h0
      · simpa [Env.get, Env.put] using h1
      · simpa [Env.get, Env.put] using h5
      intro E2 h2 n2 e1 e'' hn2 hte2 hHe hrow2 hfr2 g0 g1 g5
      simp only [↓thenA, ↓blockA]
      refine hK2 _ _ _ ?_
      clear hK2 K2
      refine WP.region hT (by simp only [List.all_cons, List.all_nil, dstIn_some, Bool.and_true, Bool.and_eq_true, decide_eq_true_eq]; omega) ?_
      simp only [↓opsA, ↓stepA, ↓callA, ev, Env.get_put_some, ↓e_move, ↓e_assign, ↓e_binOp, b_add, ofVal, ↓thenA, reduceIte, Nat.reduceEqDiff, List.length_cons, ↓reduceIte, g5]
      have keepD : ∀ j, j ∈ I1 → h2 j = h' j := fun j hj => hfr2 j (fun hq => hid (by subst hq; simp [hj])) (fun hm => hdj j hj (by simp [hm]))
      have keepR : ∀ j, j ∈ I3 → h2 j = h' j := fun j hj => hfr2 j (fun hq => hid (by subst hq; simp [hj])) (fun hm => hd3 j hm hj)
      refine ⟨R.length, by simp, D ++ [e1], R, D'' ++ [e''], R', I1 ++ Je, I3, k1 + w l[D.length], rfl, by omega, by simp, ?_, ?_, htR.keep keepR, by simpa using hall, by simp; simp at hbe'; omega, ?_, ?_, ?_, ?_, ?_, ?_, ?_⟩
      · intro j hj hm
        rcases List.mem_append.1 hj with hj | hj
        · exact hdj j hj (by simp [hm])
        · exact hd3 j hj hm
      · exact TreeL.snoc (htD.keep keepD) hte2 fun j hj hm => hdj j hj (by simp [hm])
      · rw [List.length_append, List.length_singleton, htake, List.map_append]
        exact hHd.snoc (by rw [← hk1]; exact hHe)
      · rw [List.length_append, List.length_singleton, hs1]; omega
      · rw [hrow2]; simp [List.set_append_right]
      · intro j h1 h2
        rw [hfr2 j h1 (fun hm => h2 (by simp [hm]))]
        exact hfr j h1 (by simpa using h2)
      · have q0 := g0.trans (show _ = AV.sl (T t).sz id 0 b.length b.length ex by simpa [Env.get, Env.put] using h0)
        simpa [Env.get, Env.put] using q0
      · simpa [Env.get, Env.put] using g1
      · rw [wrap_in (by omega) (by omega)]
        simp
    · have hil : D.length = b.length := by simp at hc; omega
      obtain rfl : R = [] := by cases R with | nil => rfl | cons => simp at hbe'; omega
      cases htR with
      | nil =>
      have hll : l.length = D.length := by omega
      have htk : l.take D.length = l := List.take_of_length_le (by omega)
      rw [htk] at hHd hk1
      refine WP.exit ?_
      simp only [↓thenA, ↓blockA, reduceIte, List.append_nil, ↓reduceIte]
      simp only [List.append_nil] at *
      refine fin _ _ _ (.ro (T t).sz ex D'') hn' ?_ ?_ (fun j hj => hfr j (fun hq => hj (by simp [hq])) (fun hm => hj (by simp [hm]))) ⟨D'', rdSl_ro _ _ _, rfl, fun m => ?_, hHd⟩
      · rw [← hk1]; simpa [Env.get, Env.put] using h1
      · have := Tree.sl (T t).sz id ex D D'' I1 hrow' htD hid
        rw [hil] at this
        exact this
      · rw [lt_ro]
        intro e he u hu
        have key : ∀ (l : List AV) ws k, HdL He l ws k → ∀ e, e ∈ l → e.Lt m := fun l ws k hh => by
          induction hh with
          | nil => intro e he; cases he
          | cons e0 w0 l0 ws0 k0 he0 _ ih =>
            intro e he
            rcases List.mem_cons.1 he with rfl | he
            · exact hlt0 _ _ _ he0 m
            · exact ih e he
        have hl := key _ _ _ hHd e he
        cases hl with
        | agg _ hl => obtain ⟨j, hj⟩ := List.mem_iff_getElem?.1 hu; exact hl j _ hj
        | _ => simp [AV.cells] at hu; subst hu; constructor <;> assumption
  | _ => first | (cases hes; done) | (simp [rdSl_sl, Heap.emp] at hes; done) | (unfold rdSl at hes; simp at hes; done) | (cases htr with | atom _ hu _ => cases hu with | sl _ _ _ _ _ _ hq => exact absurd hq (Nat.not_lt_zero _))

/-- What an element's reading back does. -/
def HeldBody (P : Program) (N : Nat) (c : Code) (sz : Nat) (He : AV → Nat → Int → Prop) : Prop :=
  ∀ (Q : Exit → Env → Heap → Nat → Prop) (E : Env) (h : Heap) (n : Nat) (x : AV) (es : List AV) (i : Nat) (e : AV) (w : Nat) (k : Int), (∀ h, rdSl h sz x = some es) → es[i]? = some e → es.length ≤ 9223372036854775807 → He e w k → E.get 0 = x → E.get 1 = .int .i64 k → E.get 5 = .int .i64 i →
    0 ≤ k → k + w ≤ 4611686018427387904 → (∀ E', E'.get 0 = x → E'.get 1 = .int .i64 (k + w) → E'.get 5 = .int .i64 i → Q .normal E' h n) → WP P N c Q E h n

theorem heldS_gen {P : Program} {T : TE} {He : AV → Nat → Int → Prop} {t ts z r N : Nat} {c : Code} {p0 p1 p2 p3 p4 p5 p6 p7 p8 p9 p10 : String}
    (hT : TEOk P T) {f : FuncId} {fn : Func} (hg : Goes P f) (hf : P.funcs[f]? = some fn) (hb : fn.body = some (walkCode ts z r c p0 p1 p2 p3 p4 p5 p6 p7 p8 p9 p10)) (hN : fn.ntmps = N) (h12 : 12 ≤ N) (hr : r < N) (hrs : fn.results.toList = [.tmp 4])
    (hts : (T ts).ty = .slice t) (hbody : HeldBody P N c (T t).sz He) {x : AV} {ws : List Nat} {k : Int} (hk0 : 0 ≤ k) (hkw : k + (ws.sum : Nat) ≤ 4611686018427387904) {w0 : Nat} (hlen : ws.length ≤ 9223372036854775807) (hx : HdS (T t).sz He ws x w0 k) : HeldBy P f x ws.sum k := by
  intro h n K hK
  obtain ⟨es, hes, hone, _, hHd⟩ := hx
  have hel := hHd.len
  refine CA.conv (CA.enter (N := N) hT hg hf hb hN (by simp; omega) hrs fun hlt => ?_)
  unfold walkCode
  refine WP.seq_k fun K1 hK1 => WP.region hT (by simp only [List.all_cons, List.all_nil, dstIn_some, Bool.and_true, decide_eq_true_eq]; omega) ?_
  simp only [↓opsA, ↓stepA, ↓callA, ev, ↓e_assign, ofVal, ↓thenA]
  refine hK1 _ _ _ ?_
  clear hK1 K1
  refine WP.seq_k fun K1 hK1 => WP.seq_k fun K2 hK2 => WP.region hT (by simp only [List.all_cons, List.all_nil, dstIn_some, Bool.and_true, decide_eq_true_eq]; omega) ?_
  simp only [↓opsA, ↓stepA, ↓callA, ev, ↓e_assign, ofVal, ↓thenA]
  refine hK2 _ _ _ ?_
  clear hK2 K2
  refine WP.block (WP.loop (fun m E h' n' => ∃ i R wr k1, m = es.length - i ∧ i ≤ es.length ∧ n = n' ∧ h = h' ∧ R = es.drop i ∧ HdL He R wr k1 ∧ 0 ≤ k1 ∧ k1 + (wr.sum : Nat) = k + (ws.sum : Nat) ∧ E.get 0 = x ∧ E.get 1 = .int .i64 k1 ∧ E.get 5 = .int .i64 i) es.length ?_ ?_)
  · exact ⟨0, es, ws, k, by omega, Nat.zero_le _, rfl, rfl, rfl, hHd, hk0, rfl, rfl, rfl, rfl⟩
  rintro m E h' n' ⟨i, R, wr, k1, rfl, hi, rfl, rfl, hR, hHR, hk1, hks, h0, h1, h5⟩
  refine WP.seq_k fun K2 hK2 => WP.seq_k fun K3 hK3 => WP.region hT (by simp only [List.all_cons, List.all_nil, dstIn_some, Bool.and_true, Bool.and_eq_true, decide_eq_true_eq]; omega) ?_
  simp only [↓opsA, ↓stepA, ↓e_len1, ↓callA, ev, Env.get_put_some, ↓e_move, ↓e_binOp, b_lss, ↓thenA, reduceIte, Nat.reduceEqDiff, ↓reduceIte, hts, h0, h5, rdSl_emp hes]
  refine hK3 _ _ _ ?_
  clear hK3 K3
  refine WP.cond (by simp only [ev, Env.get_put_some, ↓reduceIte]; rfl) (fun hc => ?_) (fun hc => ?_)
  · have hil : i < es.length := by simp at hc; omega
    refine WP.skip (hK2 _ _ _ ?_)
    clear hK2 K2
    have hdrop : es.drop i = es[i] :: es.drop (i + 1) := List.drop_eq_getElem_cons hil
    rw [hdrop] at hR
    subst hR
    cases hHR with
    | cons _ w _ ws' _ he hl =>
    simp only [List.sum_cons] at hks
    refine WP.seq_k fun K2 hK2 => WP.block ?_
    refine hbody _ _ h n x es i es[i] w k1 (fun h => rdSl_emp hes h) (List.getElem?_eq_getElem hil) (by omega) he ?_ ?_ ?_ hk1 (by omega) ?_
    · simpa [Env.get, Env.put] using h0
    · simpa [Env.get, Env.put] using h1
    · simpa [Env.get, Env.put] using h5
    intro E2 g0 g1 g5
    simp only [↓thenA, ↓blockA]
    refine hK2 _ _ _ ?_
    clear hK2 K2
    refine WP.region hT (by simp only [List.all_cons, List.all_nil, dstIn_some, Bool.and_true, Bool.and_eq_true, decide_eq_true_eq]; omega) ?_
    simp only [↓opsA, ↓stepA, ↓callA, ev, Env.get_put_some, ↓e_move, ↓e_assign, ↓e_binOp, b_add, ofVal, ↓thenA, reduceIte, Nat.reduceEqDiff, true_and, ↓reduceIte, g5]
    refine ⟨es.length - (i + 1), by omega, i + 1, _, ws', k1 + w, rfl, hil, rfl, hl, by omega, by omega, ?_, ?_, ?_⟩
    · simpa [Env.get, Env.put] using g0
    · simpa [Env.get, Env.put] using g1
    · rw [wrap_in (by omega) (by omega)]
      rfl
  · have hil : i = es.length := by simp at hc; omega
    subst hil
    rw [List.drop_length] at hR
    subst hR
    cases hHR with
    | nil =>
    refine WP.exit ?_
    simp only [↓thenA, ↓blockA, reduceIte, ↓reduceIte]
    refine hK1 _ _ _ ?_
    refine WP.seq_k fun K2 hK2 => WP.region hT (by simp only [List.all_cons, List.all_nil, dstIn_some, Bool.and_true, Bool.and_eq_true, decide_eq_true_eq]; omega) ?_
    simp only [↓opsA, ↓stepA, ↓callA, ev, Env.get_put_some, ↓e_move, ↓e_assign, ↓thenA, reduceIte, Nat.reduceEqDiff, ↓reduceIte, h1, eq_self]
    refine hK2 _ _ _ ?_
    refine WP.ret ?_
    simp only [Env.get_put_some, reduceIte, Option.map_some, ↓reduceIte, retA, resA]
    refine ⟨_, rfl, ret_p (Left.refl hlt) (.int _ _) ?_⟩
    have : k1 = k + (ws.sum : Nat) := by simpa using hks
    rw [this]; exact hK

end Go.Proofs.Ytplkjfnjdekgpaa
