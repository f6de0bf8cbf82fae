/- Families of functions: the marking and the reading back of elements. Own work. -/
import Derived.Test.YtplkjfnjdekgpaaLtMark
namespace Go.Proofs.Ytplkjfnjdekgpaa
open Go

def AV.plain : AV → Bool
  | .int _ _ => true
  | .bool _ => true
  | .str _ => true
  | _ => false

theorem Tree.plainE {h : Heap} {x x' : AV} {I : List Nat} (ht : Tree h x x' I) (hp : x'.plain = true) : x = x' ∧ I = [] := by
  cases ht with
  | atom u hu hn => exact ⟨rfl, rfl⟩
  | sl sz id ex b b' I hb ht hid => simp [AV.plain] at hp
  | agg cs cs' I ht => simp [AV.plain] at hp

theorem TreeL.plainE {h : Heap} {l l' : List AV} {I : List Nat} (ht : TreeL h l l' I) (hp : ∀ u, u ∈ l' → u.plain = true) : l = l' ∧ I = [] := by
  induction l' generalizing l I with
  | nil => cases ht; exact ⟨rfl, rfl⟩
  | cons u' l' ih =>
    cases ht with
    | cons u _ l _ I J hu hl hd =>
      obtain ⟨rfl, rfl⟩ := hu.plainE (hp _ (by simp))
      obtain ⟨rfl, rfl⟩ := ih hl (fun v hv => hp v (by simp [hv]))
      exact ⟨rfl, rfl⟩

theorem plain_lt {u : AV} (hu : u.plain = true) : u.Lt 0 ∧ NoRo u := by
  cases u <;> simp [AV.plain] at hu <;> constructor <;> constructor

theorem Tree.plainAgg {h : Heap} {x : AV} {cs : List AV} {I : List Nat} (ht : Tree h x (.agg cs) I) (hp : ∀ u, u ∈ cs → u.plain = true) : x = .agg cs ∧ I = [] := by
  obtain ⟨cs', rfl, hl⟩ := ht.aggE
  obtain ⟨rfl, rfl⟩ := hl.plainE hp
  exact ⟨rfl, rfl⟩

theorem Tree.ofPlain {h : Heap} {cs : List AV} (hp : ∀ u, u ∈ cs → u.plain = true) : Tree h (.agg cs) (.agg cs) [] := .agg _ _ _ (TreeL.atoms cs fun u hu => plain_lt (hp u hu))
theorem Tree.ofPlain1 {h : Heap} {u : AV} (hp : u.plain = true) : Tree h u u [] := .atom _ (plain_lt hp).1 (plain_lt hp).2

/-- Marked integers. -/
def HeInt (e : AV) (w : Nat) (k : Int) : Prop := w = 1 ∧ e = .int .i64 k

def markIntBody (ts t : Nat) (p0 p1 p2 p3 p4 p5 p6 p7 : String) : Code :=
  (.seq
    (.region 4 #[⟨(some 12), .move (.tmp 0), ts, p0, #[], none⟩,
      ⟨(some 13), .move (.tmp 5), 3, p1, #[], none⟩,
      ⟨(some 14), .move (.tmp 1), 3, p2, #[], none⟩,
      ⟨(some 15), .indexAddr ts (.tmp 12) (.tmp 13), 0, p3, #[⟨0, .data⟩, ⟨1, .data⟩, ⟨0, .phase⟩, ⟨1, .phase⟩, ⟨2, .phase⟩], none⟩,
      ⟨none, .store t (.tmp 15) (.tmp 14), 0, p4, #[⟨3, .data⟩, ⟨2, .data⟩, ⟨0, .phase⟩, ⟨1, .phase⟩, ⟨2, .phase⟩], none⟩] false)
    (.region 5 #[⟨(some 16), .move (.tmp 1), 3, p5, #[], none⟩,
      ⟨(some 17), .binOp .add 3 (.tmp 16) (.const (.int .i64 1)) 3, 3, p6, #[⟨0, .data⟩], none⟩,
      ⟨(some 1), .assign (.tmp 17), 3, p7, #[⟨1, .data⟩, ⟨0, .phase⟩, ⟨1, .phase⟩], none⟩] false))

theorem markInt_body {P : Program} {T : TE} {N ts t : Nat} {p0 p1 p2 p3 p4 p5 p6 p7 : String} {e' : AV} {a : Int} (hT : TEOk P T) (hN : 19 ≤ N) (hts : (T ts).ty = .slice t) (hsz : (T t).sz = 1) (_ : (T t).zero = .int .i64 0) (he : e' = .int .i64 a) : MarkBody P N (markIntBody ts t p0 p1 p2 p3 p4 p5 p6 p7) (T t).sz HeInt e' 1 := by
  intro Q E h n id ex b i e J k hte hid hrow hbi hib hbl h0 h1 h5 hk hkw hK
  subst he
  obtain ⟨rfl, rfl⟩ := hte.plainE rfl
  unfold markIntBody
  have hl : (List.take b.length b).length = b.length := by simp
  refine WP.seq_k fun K1 hK1 => WP.region hT (by simp only [List.all_cons, List.all_nil, dstIn_some, dstIn_none, Bool.and_true, Bool.and_eq_true, decide_eq_true_eq]; omega) ?_
  simp only [↓opsA, ↓stepA, ↓callA, Int.toNat_natCast, ev, Env.get_put_some, Env.put_none, ↓e_move, ↓e_store, ↓e_indexAddr, rdSl_sl, setPart_int, ↓thenA, good_int, AV.cells_int, reduceIte, Nat.reduceEqDiff, true_and, List.length_cons, List.length_nil, Nat.zero_add, List.drop_zero, Nat.lt_add_one, ↓reduceIte, Nat.le_refl, hts, hsz, h0, h1, h5, hrow, hbi, hl]
  refine ⟨by omega, by omega, hK1 _ _ _ ?_⟩
  clear hK1 K1
  refine WP.region hT (by simp only [List.all_cons, List.all_nil, dstIn_some, Bool.and_true, Bool.and_eq_true, decide_eq_true_eq]; omega) ?_
  simp only [↓opsA, ↓stepA, ↓callA, ev, Env.get_put_some, ↓e_move, ↓e_assign, ↓e_binOp, b_add, ofVal, reduceIte, Nat.reduceEqDiff, ↓reduceIte, h1]
  refine hK _ _ _ (.int .i64 k) (.int .i64 k) (Nat.le_refl _) (.ofPlain1 rfl) ⟨rfl, rfl⟩ (Heap.upd_same _ _ _) (fun j hj _ => Heap.upd_ne _ _ hj) ?_ ?_ ?_
  · simp [Env.get, Env.put]
  · rw [wrap_in (by omega) (by omega)]; rfl
  · simpa [Env.get, Env.put] using h5

def heldIntBody (ts t : Nat) (p0 p1 p2 p3 p4 p5 p6 p7 p8 p9 : String) : Code :=
  (.seq
    (.seq
      (.region 4 #[⟨(some 12), .move (.tmp 0), ts, p0, #[], none⟩,
        ⟨(some 13), .move (.tmp 5), 3, p1, #[], none⟩,
        ⟨(some 14), .indexAddr ts (.tmp 12) (.tmp 13), 0, p2, #[⟨0, .data⟩, ⟨1, .data⟩], none⟩,
        ⟨(some 15), .load t (.tmp 14), t, p3, #[⟨2, .data⟩], none⟩,
        ⟨(some 16), .move (.tmp 1), 3, p4, #[], none⟩,
        ⟨(some 17), .binOp .neq t (.tmp 15) (.tmp 16) t, 4, p5, #[⟨3, .data⟩, ⟨4, .data⟩], none⟩] false)
      (.cond (.tmp 17)
        (.seq
          (.region 5 #[⟨(some 4), .assign (.const (.int .i64 (-1))), 3, p6, #[], none⟩] false)
          .ret)
        .skip))
    (.region 6 #[⟨(some 18), .move (.tmp 1), 3, p7, #[], none⟩,
      ⟨(some 19), .binOp .add 3 (.tmp 18) (.const (.int .i64 1)) 3, 3, p8, #[⟨0, .data⟩], none⟩,
      ⟨(some 1), .assign (.tmp 19), 3, p9, #[⟨1, .data⟩, ⟨0, .phase⟩, ⟨1, .phase⟩], none⟩] false))

theorem heldInt_body {P : Program} {T : TE} {N ts t : Nat} {p0 p1 p2 p3 p4 p5 p6 p7 p8 p9 : String} (hT : TEOk P T) (hN : 20 ≤ N) (hts : (T ts).ty = .slice t) (hsz : (T t).sz = 1) (hc : cellOk T t = true) (hp : ∀ k, part T t 0 (.int .i64 k) = some (.int .i64 k)) : HeldBody P N (heldIntBody ts t p0 p1 p2 p3 p4 p5 p6 p7 p8 p9) (T t).sz HeInt := by
  intro Q E h n x es i e w k hrd hi hel he h0 h1 h5 hk hkw hK
  obtain ⟨rfl, rfl⟩ := he
  unfold heldIntBody
  rw [hsz] at hrd
  have hil : i < es.length := (List.getElem?_eq_some_iff.1 hi).1
  refine WP.seq_k fun K1 hK1 => ?_
  refine WP.seq_k fun K2 hK2 => WP.region hT (by simp only [List.all_cons, List.all_nil, dstIn_some, Bool.and_true, Bool.and_eq_true, decide_eq_true_eq]; omega) ?_
  simp only [↓opsA, ↓stepA, ↓callA, Int.toNat_natCast, ev, Env.get_put_some, ↓e_move, ↓e_binOp, ↓e_load, ↓e_indexAddr, b_neq, ↓thenA, reduceIte, Nat.reduceEqDiff, true_and, Nat.lt_add_one, ↓reduceIte, hts, hsz, h0, h1, h5, hrd, hi, hp, hc]
  refine ⟨by omega, by omega, hK2 _ _ _ ?_⟩
  clear hK2 K2
  refine WP.cond (by simp only [ev, Env.get_put_some, ↓reduceIte]; rfl) (fun hc0 => ?_) (fun hc0 => ?_)
  · simp at hc0
  refine WP.skip (hK1 _ _ _ ?_)
  clear hK1 K1
  refine WP.region hT (by simp only [List.all_cons, List.all_nil, dstIn_some, Bool.and_true, Bool.and_eq_true, decide_eq_true_eq]; omega) ?_
  simp only [↓opsA, ↓stepA, ↓callA, ev, Env.get_put_some, ↓e_move, ↓e_assign, ↓e_binOp, b_add, ofVal, reduceIte, Nat.reduceEqDiff, ↓reduceIte, h1]
  refine hK _ ?_ ?_ ?_
  · simpa [Env.get, Env.put] using h0
  · rw [wrap_in (by omega) (by omega)]; rfl
  · simpa [Env.get, Env.put] using h5

/-- Marked bytes. -/
def HeByte (e : AV) (w : Nat) (k : Int) : Prop := w = 1 ∧ e = .int .u8 (IntKind.u8.wrap k)

def markByteBody (ts t : Nat) (p0 p1 p2 p3 p4 p5 p6 p7 p8 : String) : Code :=
  (.seq
    (.region 4 #[⟨(some 12), .move (.tmp 0), ts, p0, #[], none⟩,
      ⟨(some 13), .move (.tmp 5), 3, p1, #[], none⟩,
      ⟨(some 14), .move (.tmp 1), 3, p2, #[], none⟩,
      ⟨(some 15), .convert 3 t (.tmp 14), t, p3, #[⟨2, .data⟩], none⟩,
      ⟨(some 16), .indexAddr ts (.tmp 12) (.tmp 13), 0, p4, #[⟨0, .data⟩, ⟨1, .data⟩, ⟨0, .phase⟩, ⟨1, .phase⟩, ⟨2, .phase⟩, ⟨3, .phase⟩], none⟩,
      ⟨none, .store t (.tmp 16) (.tmp 15), 0, p5, #[⟨4, .data⟩, ⟨3, .data⟩, ⟨0, .phase⟩, ⟨1, .phase⟩, ⟨2, .phase⟩, ⟨3, .phase⟩], none⟩] false)
    (.region 5 #[⟨(some 17), .move (.tmp 1), 3, p6, #[], none⟩,
      ⟨(some 18), .binOp .add 3 (.tmp 17) (.const (.int .i64 1)) 3, 3, p7, #[⟨0, .data⟩], none⟩,
      ⟨(some 1), .assign (.tmp 18), 3, p8, #[⟨1, .data⟩, ⟨0, .phase⟩, ⟨1, .phase⟩], none⟩] false))

theorem markByte_body {P : Program} {T : TE} {N ts t : Nat} {p0 p1 p2 p3 p4 p5 p6 p7 p8 : String} {e' : AV} {a : Int} (hT : TEOk P T) (hN : 20 ≤ N) (hts : (T ts).ty = .slice t) (hty : (T t).ty = .int .u8) (h3 : (T 3).ty = .int .i64) (hsz : (T t).sz = 1) (_ : (T t).zero = .int .u8 0) (he : e' = .int .u8 a) : MarkBody P N (markByteBody ts t p0 p1 p2 p3 p4 p5 p6 p7 p8) (T t).sz HeByte e' 1 := by
  intro Q E h n id ex b i e J k hte hid hrow hbi hib hbl h0 h1 h5 hk hkw hK
  subst he
  obtain ⟨rfl, rfl⟩ := hte.plainE rfl
  unfold markByteBody
  have hl : (List.take b.length b).length = b.length := by simp
  refine WP.seq_k fun K1 hK1 => WP.region hT (by simp only [List.all_cons, List.all_nil, dstIn_some, dstIn_none, Bool.and_true, Bool.and_eq_true, decide_eq_true_eq]; omega) ?_
  simp only [↓opsA, ↓stepA, ↓callA, Int.toNat_natCast, ev, Env.get_put_some, Env.put_none, ↓e_move, ↓e_store, ↓e_indexAddr, ↓e_convert, rdSl_sl, setPart_int, ↓thenA, good_int, AV.cells_int, reduceIte, Nat.reduceEqDiff, true_and, List.length_cons, List.length_nil, Nat.zero_add, List.drop_zero, Nat.lt_add_one, ↓reduceIte, Nat.le_refl, hts, hty, h3, hsz, h0, h1, h5, hrow, hbi, hl]
  refine ⟨by omega, by omega, hK1 _ _ _ ?_⟩
  clear hK1 K1
  refine WP.region hT (by simp only [List.all_cons, List.all_nil, dstIn_some, Bool.and_true, Bool.and_eq_true, decide_eq_true_eq]; omega) ?_
  simp only [↓opsA, ↓stepA, ↓callA, ev, Env.get_put_some, ↓e_move, ↓e_assign, ↓e_binOp, b_add, ofVal, reduceIte, Nat.reduceEqDiff, ↓reduceIte, h1]
  refine hK _ _ _ (.int .u8 (IntKind.u8.wrap k)) (.int .u8 (IntKind.u8.wrap k)) (Nat.le_refl _) (.ofPlain1 rfl) ⟨rfl, rfl⟩ (Heap.upd_same _ _ _) (fun j hj _ => Heap.upd_ne _ _ hj) ?_ ?_ ?_
  · simp [Env.get, Env.put]
  · rw [wrap_in (by omega) (by omega)]; rfl
  · simpa [Env.get, Env.put] using h5

def heldByteBody (ts t : Nat) (p0 p1 p2 p3 p4 p5 p6 p7 p8 p9 p10 : String) : Code :=
  (.seq
    (.seq
      (.region 4 #[⟨(some 12), .move (.tmp 0), ts, p0, #[], none⟩,
        ⟨(some 13), .move (.tmp 5), 3, p1, #[], none⟩,
        ⟨(some 14), .indexAddr ts (.tmp 12) (.tmp 13), 0, p2, #[⟨0, .data⟩, ⟨1, .data⟩], none⟩,
        ⟨(some 15), .load t (.tmp 14), t, p3, #[⟨2, .data⟩], none⟩,
        ⟨(some 16), .move (.tmp 1), 3, p4, #[], none⟩,
        ⟨(some 17), .convert 3 t (.tmp 16), t, p5, #[⟨4, .data⟩], none⟩,
        ⟨(some 18), .binOp .neq t (.tmp 15) (.tmp 17) t, 4, p6, #[⟨3, .data⟩, ⟨5, .data⟩], none⟩] false)
      (.cond (.tmp 18)
        (.seq
          (.region 5 #[⟨(some 4), .assign (.const (.int .i64 (-1))), 3, p7, #[], none⟩] false)
          .ret)
        .skip))
    (.region 6 #[⟨(some 19), .move (.tmp 1), 3, p8, #[], none⟩,
      ⟨(some 20), .binOp .add 3 (.tmp 19) (.const (.int .i64 1)) 3, 3, p9, #[⟨0, .data⟩], none⟩,
      ⟨(some 1), .assign (.tmp 20), 3, p10, #[⟨1, .data⟩, ⟨0, .phase⟩, ⟨1, .phase⟩], none⟩] false))

theorem heldByte_body {P : Program} {T : TE} {N ts t : Nat} {p0 p1 p2 p3 p4 p5 p6 p7 p8 p9 p10 : String} (hT : TEOk P T) (hN : 21 ≤ N) (hts : (T ts).ty = .slice t) (hty : (T t).ty = .int .u8) (h3 : (T 3).ty = .int .i64) (hsz : (T t).sz = 1) (hc : cellOk T t = true) (hp : ∀ k, part T t 0 (.int .u8 k) = some (.int .u8 k)) : HeldBody P N (heldByteBody ts t p0 p1 p2 p3 p4 p5 p6 p7 p8 p9 p10) (T t).sz HeByte := by
  intro Q E h n x es i e w k hrd hi hel he h0 h1 h5 hk hkw hK
  obtain ⟨rfl, rfl⟩ := he
  unfold heldByteBody
  rw [hsz] at hrd
  have hil : i < es.length := (List.getElem?_eq_some_iff.1 hi).1
  refine WP.seq_k fun K1 hK1 => ?_
  refine WP.seq_k fun K2 hK2 => WP.region hT (by simp only [List.all_cons, List.all_nil, dstIn_some, Bool.and_true, Bool.and_eq_true, decide_eq_true_eq]; omega) ?_
  simp only [↓opsA, ↓stepA, ↓callA, Int.toNat_natCast, ev, Env.get_put_some, ↓e_move, ↓e_binOp, ↓e_load, ↓e_indexAddr, ↓e_convert, b_neq, ↓thenA, reduceIte, Nat.reduceEqDiff, true_and, Nat.lt_add_one, ↓reduceIte, hts, hty, h3, hsz, h0, h1, h5, hrd, hi, hp, hc]
  refine ⟨by omega, by omega, hK2 _ _ _ ?_⟩
  clear hK2 K2
  refine WP.cond (by simp only [ev, Env.get_put_some, ↓reduceIte]; rfl) (fun hc0 => ?_) (fun hc0 => ?_)
  · simp at hc0
  refine WP.skip (hK1 _ _ _ ?_)
  clear hK1 K1
  refine WP.region hT (by simp only [List.all_cons, List.all_nil, dstIn_some, Bool.and_true, Bool.and_eq_true, decide_eq_true_eq]; omega) ?_
  simp only [↓opsA, ↓stepA, ↓callA, ev, Env.get_put_some, ↓e_move, ↓e_assign, ↓e_binOp, b_add, ofVal, reduceIte, Nat.reduceEqDiff, ↓reduceIte, h1]
  refine hK _ ?_ ?_ ?_
  · simpa [Env.get, Env.put] using h0
  · rw [wrap_in (by omega) (by omega)]; rfl
  · simpa [Env.get, Env.put] using h5

/-- The element is a slice (or what is one cell) that a function marks. -/
def markCallBody (ts t g : Nat) (p0 p1 p2 p3 p4 p5 p6 : String) : Code :=
  (.region 4 #[⟨(some 12), .move (.tmp 0), ts, p0, #[], none⟩,
    ⟨(some 13), .move (.tmp 5), 3, p1, #[], none⟩,
    ⟨(some 14), .indexAddr ts (.tmp 12) (.tmp 13), 0, p2, #[⟨0, .data⟩, ⟨1, .data⟩], none⟩,
    ⟨(some 15), .load t (.tmp 14), t, p3, #[⟨2, .data⟩], none⟩,
    ⟨(some 16), .move (.tmp 1), 3, p4, #[], none⟩,
    ⟨(some 17), .call { callee := (.value (.func g)), args := #[(.tmp 15), (.tmp 16)], argTypes := #[t, 3] }, 3, p5, #[⟨3, .data⟩, ⟨4, .data⟩], none⟩,
    ⟨(some 1), .assign (.tmp 17), 3, p6, #[⟨5, .data⟩, ⟨5, .chain⟩, ⟨0, .phase⟩, ⟨1, .phase⟩, ⟨2, .phase⟩, ⟨3, .phase⟩, ⟨4, .phase⟩, ⟨5, .phase⟩], none⟩] false)

theorem set_getElem? {α : Type} {b : List α} {i : Nat} {e : α} (h : b[i]? = some e) : b.set i e = b := by
  obtain ⟨hl, rfl⟩ := List.getElem?_eq_some_iff.1 h
  exact List.set_getElem_self hl

theorem markCall_body {P : Program} {T : TE} {N ts t g w : Nat} {H : AV → Nat → Int → Prop} {p0 p1 p2 p3 p4 p5 p6 : String} {e' : AV} (hT : TEOk P T) (hN : 18 ≤ N) (hts : (T ts).ty = .slice t) (hsz : (T t).sz = 1) (hc : cellOk T t = true) (hp : ∀ h e J, Tree h e e' J → part T t 0 e = some e)
    (hm : MarkC P g H e' w) : MarkBody P N (markCallBody ts t g p0 p1 p2 p3 p4 p5 p6) (T t).sz H e' w := by
  intro Q E h n id ex b i e J k hte hid hrow hbi hib hbl h0 h1 h5 hk hkw hK
  unfold markCallBody
  have hl : List.take b.length b = b := by simp
  have hpe := hp _ _ _ hte
  refine WP.region hT (by simp only [List.all_cons, List.all_nil, dstIn_some, Bool.and_true, Bool.and_eq_true, decide_eq_true_eq]; omega) ?_
  simp only [↓opsA, ↓stepA, ↓callA, Int.toNat_natCast, List.map_cons, List.map_nil, ev, Env.get_put_some, ↓e_move, ↓e_assign, ↓e_load, ↓e_indexAddr, rdSl_sl, reduceIte, Nat.reduceEqDiff, true_and, Nat.zero_add, List.drop_zero, List.append_nil, Nat.lt_add_one, ↓reduceIte, Nat.le_refl, hts, hsz, h0, h1, h5, hrow, hbi, hl, hpe, hc]
  refine ⟨by omega, by omega, hm _ _ _ e J k hte hk hkw fun e'' h2 n2 hn2 ht2 hfr2 hH => ?_⟩
  refine hK _ _ _ e e'' hn2 ht2 hH ?_ (fun j _ hj => hfr2 j hj) ?_ ?_ ?_
  · rw [hfr2 id hid, set_getElem? hbi]; exact hrow
  · simp [Env.get, Env.put]
  · simp [Env.get, Env.put]
  · simpa [Env.get, Env.put] using h5

def heldCallBody (ts t g : Nat) (p0 p1 p2 p3 p4 p5 p6 p7 p8 p9 : String) : Code :=
  (.seq
    (.region 4 #[⟨(some 12), .move (.tmp 0), ts, p0, #[], none⟩,
      ⟨(some 13), .move (.tmp 5), 3, p1, #[], none⟩,
      ⟨(some 14), .indexAddr ts (.tmp 12) (.tmp 13), 0, p2, #[⟨0, .data⟩, ⟨1, .data⟩], none⟩,
      ⟨(some 15), .load t (.tmp 14), t, p3, #[⟨2, .data⟩], none⟩,
      ⟨(some 16), .move (.tmp 1), 3, p4, #[], none⟩,
      ⟨(some 17), .call { callee := (.value (.func g)), args := #[(.tmp 15), (.tmp 16)], argTypes := #[t, 3] }, 3, p5, #[⟨3, .data⟩, ⟨4, .data⟩], none⟩,
      ⟨(some 1), .assign (.tmp 17), 3, p6, #[⟨5, .data⟩, ⟨5, .chain⟩, ⟨0, .phase⟩, ⟨1, .phase⟩, ⟨2, .phase⟩, ⟨3, .phase⟩, ⟨4, .phase⟩, ⟨5, .phase⟩], none⟩] false)
    (.seq
      (.region 5 #[⟨(some 18), .move (.tmp 1), 3, p7, #[], none⟩,
        ⟨(some 19), .binOp .lss 3 (.tmp 18) (.const (.int .i64 0)) 3, 4, p8, #[⟨0, .data⟩], none⟩] false)
      (.cond (.tmp 19)
        (.seq
          (.region 6 #[⟨(some 4), .assign (.const (.int .i64 (-1))), 3, p9, #[], none⟩] false)
          .ret)
        .skip)))

theorem heldCall_body {P : Program} {T : TE} {N ts t g : Nat} {He : AV → Nat → Int → Prop} {p0 p1 p2 p3 p4 p5 p6 p7 p8 p9 : String} (hT : TEOk P T) (hN : 20 ≤ N) (hts : (T ts).ty = .slice t) (hsz : (T t).sz = 1) (hc : cellOk T t = true)
    (hh : ∀ (e : AV) (w : Nat) (k : Int), 0 ≤ k → k + w ≤ 4611686018427387904 → He e w k → part T t 0 e = some e ∧ HeldBy P g e w k) : HeldBody P N (heldCallBody ts t g p0 p1 p2 p3 p4 p5 p6 p7 p8 p9) (T t).sz He := by
  intro Q E h n x es i e w k hrd hi hel he h0 h1 h5 hk hkw hK
  obtain ⟨hp, hb⟩ := hh e w k hk hkw he
  unfold heldCallBody
  rw [hsz] at hrd
  have hil : i < es.length := (List.getElem?_eq_some_iff.1 hi).1
  refine WP.seq_k fun K1 hK1 => WP.region hT (by simp only [List.all_cons, List.all_nil, dstIn_some, Bool.and_true, Bool.and_eq_true, decide_eq_true_eq]; omega) ?_
  simp only [↓opsA, ↓stepA, ↓callA, Int.toNat_natCast, List.map_cons, List.map_nil, ev, Env.get_put_some, ↓e_move, ↓e_assign, ↓e_load, ↓e_indexAddr, ↓thenA, reduceIte, Nat.reduceEqDiff, true_and, List.append_nil, Nat.lt_add_one, ↓reduceIte, hts, hsz, h0, h1, h5, hrd, hi, hp, hc]
  refine ⟨by omega, by omega, hb _ _ _ (hK1 _ _ _ ?_)⟩
  clear hK1 K1
  refine WP.seq_k fun K2 hK2 => WP.region hT (by simp only [List.all_cons, List.all_nil, dstIn_some, Bool.and_true, Bool.and_eq_true, decide_eq_true_eq]; omega) ?_
  simp only [↓opsA, ↓stepA, ↓callA, ev, Env.get_put_some, ↓e_move, ↓e_binOp, b_lss, ofVal, ↓thenA, reduceIte, ↓reduceIte]
  refine hK2 _ _ _ ?_
  clear hK2 K2
  refine WP.cond (by simp only [ev, Env.get_put_some, ↓reduceIte]; rfl) (fun hc0 => ?_) (fun hc0 => ?_)
  · simp at hc0; omega
  refine WP.skip (hK _ ?_ ?_ ?_)
  · simpa [Env.get, Env.put] using h0
  · simp [Env.get, Env.put]
  · simpa [Env.get, Env.put] using h5

end Go.Proofs.Ytplkjfnjdekgpaa
