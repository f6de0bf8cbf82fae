import Derived.Laws.BytesString
import Derived.Orders
import Derived.Tactics
import Derived.Test.YtcngfjmfgeckmaaZ19a
set_option linter.unusedSimpArgs false
set_option linter.unusedVariables false
set_option linter.unusedSectionVars false
namespace Go.Proofs.Ytcngfjmfgeckmaa
open Go
section
variable {P : Program} {T : TE} {c : Cfg} {h : Heap} {n : Nat} {K : AV → Heap → Nat → Prop}
theorem splice_ok (hh : HR c h) {id : Nat} {b ys : List AV} (hb : h id = some b) {bb bs sz p : Nat} {arr : Array Value} {E : TypeId} (hB : BlkR c id b bb bs sz arr E) (hpos : 0 < sz) (hle : p + ys.length ≤ b.length)
    {news : List Value} (ln : news.length = ys.length * sz) (n1 : ∀ x ∈ news, x.oneCell' = true)
    (rn : ∀ (i : Nat) (e : AV) (j : Nat) (u : AV), ys[i]? = some e → e.cells[j]? = some u → ∃ x, news[i * sz + j]? = some x ∧ VR c u x)
    (sy : ∀ (i : Nat) (e : AV), ys[i]? = some e → e.cells.length = sz) (oy : ∀ (i : Nat) (e : AV) (j : Nat) (u : AV), ys[i]? = some e → e.cells[j]? = some u → u.one = true) :
    ∃ w', (storeCells ⟨bb, bs + p * sz, none⟩ news).run P c.w = .ok () w' ∧ Ext c h (fun _ => False) ⟨c.ι, c.Fz, w'⟩ (h.upd id (b.take p ++ ys ++ b.drop (p + ys.length))) ∧
      HR ⟨c.ι, c.Fz, w'⟩ (h.upd id (b.take p ++ ys ++ b.drop (p + ys.length))) := by
  by_cases hy : ys = []
  · subst hy
    have hnil : news = [] := List.eq_nil_of_length_eq_zero (by simpa using ln)
    subst hnil
    have hsame : h.upd id (b.take p ++ [] ++ b.drop (p + ([] : List AV).length)) = h := by
      funext q
      unfold Heap.upd
      split
      · rename_i hq; subst hq; simp [hb]
      · rfl
    rw [hsame]
    exact ⟨c.w, by simp [storeCells], Ext.refl _ _ _, hh⟩
  have hl : 0 < ys.length := by cases ys with | nil => exact absurd rfl hy | cons => simp
  have hfit : bs + p * sz + news.length ≤ arr.size := by
    have hlt : p + ys.length - 1 < b.length := by omega
    have he := List.getElem?_eq_getElem hlt
    have hc := hB.size _ _ he
    have hj : sz - 1 < (b[p + ys.length - 1]).cells.length := by omega
    obtain ⟨v, q1, _⟩ := hB.cell _ _ _ _ he (List.getElem?_eq_getElem hj)
    have := (Array.getElem?_eq_some_iff.1 q1).1
    have e1 : (p + ys.length - 1) * sz + sz = p * sz + ys.length * sz := by rw [← Nat.add_mul, ← Nat.succ_mul]; congr 1; omega
    omega
  have hst := run_storeCells_at P bb (bs + p * sz) E news 0 arr c.w hB.heap (by simpa using hfit) n1
  simp only [Nat.add_zero] at hst
  refine ⟨_, hst, ?_⟩
  have spl : ∀ k, ((arr.toList.take (bs + p * sz) ++ news ++ arr.toList.drop (bs + p * sz + news.length)).toArray)[k]? =
      if bs + p * sz ≤ k ∧ k < bs + p * sz + news.length then news[k - (bs + p * sz)]? else arr[k]? := fun k => by
    rw [List.getElem?_toArray, getElem?_splice _ _ _ _ (by simp; omega)]
    simp
  refine write_ok hh hb hB (w' := c.w.setRow bb _) (arr' := (arr.toList.take (bs + p * sz) ++ news ++ arr.toList.drop (bs + p * sz + news.length)).toArray) (setRow_heap_eq hB.heap) rfl rfl rfl (by simp; omega) _
    (fun i x hi => ?_) (fun i x j u hi hj => ?_) (fun i x j u hi hj => ?_)
  · rw [getElem?_splice _ _ _ _ hle] at hi
    split at hi
    · exact sy _ _ hi
    · exact hB.size _ _ hi
  · rw [getElem?_splice _ _ _ _ hle] at hi
    split at hi
    · exact oy _ _ _ _ hi hj
    · exact hB.one _ _ _ _ hi hj
  · rw [spl]
    rw [getElem?_splice _ _ _ _ hle] at hi
    split at hi
    · rename_i hir
      have hjl : j < sz := by have := (List.getElem?_eq_some_iff.1 hj).1; rw [sy _ _ hi] at this; exact this
      obtain ⟨v, g1, g2⟩ := rn _ _ _ _ hi hj
      have e1 : i * sz = p * sz + (i - p) * sz := by rw [← Nat.add_mul]; congr 1; omega
      have e2 : (i - p) * sz + sz ≤ news.length := by
        rw [ln]
        have := Nat.mul_le_mul_right sz (show (i - p) + 1 ≤ ys.length by omega)
        rw [Nat.add_mul] at this; omega
      rw [if_pos (by omega)]
      refine ⟨v, ?_, g2⟩
      rw [← g1]; congr 1; omega
    · rename_i hir
      have hjl : j < sz := by have := (List.getElem?_eq_some_iff.1 hj).1; rw [hB.size _ _ hi] at this; exact this
      rw [if_neg (by
        rintro ⟨g1, g2⟩
        apply hir
        rw [ln] at g2
        refine ⟨?_, ?_⟩
        · rcases Nat.lt_or_ge i p with hlt | hge
          · have := Nat.mul_le_mul_right sz (show i + 1 ≤ p from hlt)
            simp only [Nat.add_mul] at this
            omega
          · exact hge
        · rcases Nat.lt_or_ge i (p + ys.length) with hlt | hge
          · exact hlt
          · have := Nat.mul_le_mul_right sz hge
            simp only [Nat.add_mul] at this
            omega)]
      exact hB.cell _ _ _ _ hi hj
theorem splice_op (hh : HR c h) (hf : ∀ id, n ≤ id → c.ι id = none) {sz id off len lo : Nat} {ex : Bool} {v : Value} (hv : VR c (.sl sz id off len lo ex) v) {b ys : List AV} (hb : h id = some b) (hpos : 0 < sz) (hle : off + ys.length ≤ b.length) (hyl : ys.length ≤ len)
    {news : List Value} (ln : news.length = ys.length * sz) (n1 : ∀ x ∈ news, x.oneCell' = true)
    (rn : ∀ (i : Nat) (e : AV) (j : Nat) (u : AV), ys[i]? = some e → e.cells[j]? = some u → ∃ x, news[i * sz + j]? = some x ∧ VR c u x)
    (sy : ∀ (i : Nat) (e : AV), ys[i]? = some e → e.cells.length = sz) (oy : ∀ (i : Nat) (e : AV) (j : Nat) (u : AV), ys[i]? = some e → e.cells[j]? = some u → u.one = true)
    {s : Sem Next} {r : AV} {vr : Value} (hr : ∀ c' : Cfg, VR c' r vr) (hs : ∀ a cap w', v = .slice (some a) len cap → (storeCells a news).run P c.w = .ok () w' → s.run P c.w = .ok (.value vr) w') (hK : K r (h.upd id (b.take off ++ ys ++ b.drop (off + ys.length))) n) : OpOk P c h n s K := by
  obtain ⟨bb, bs, sz', arr, E, hB⟩ := hh.blk id b hb
  cases hv with
  | sl _ _ _ _ _ _ bb' bs' cap' hι hlen hlo hex hmax' hroom ad had =>
    have hi := hB.ι
    rw [hι] at hi
    obtain ⟨rfl, rfl, rfl⟩ : bb' = bb ∧ bs' = bs ∧ sz = sz' := by simpa using hi
    obtain ⟨w', q1, q2, q3⟩ := splice_ok (P := P) hh hb hB hpos hle ln n1 rn sy oy
    have hst : (storeCells ad news).run P c.w = .ok () w' := by
      by_cases hc : cap' = 0
      · have hy : ys = [] := List.eq_nil_of_length_eq_zero (by omega)
        subst hy
        have hnil : news = [] := List.eq_nil_of_length_eq_zero (by simpa using ln)
        subst hnil
        simpa [storeCells] using q1
      · rw [had hc]; exact q1
    exact ⟨_, ⟨c.ι, c.Fz, w'⟩, r, _, n, vr, hs _ _ _ rfl hst, .inl rfl, q2.more (fun _ hq => hq.elim), q3, hf, hr _, Nat.le_refl _, hK⟩
theorem copy_ok (hT : TEOk P T) (hh : HR c h) (hf : ∀ id, n ≤ id → c.ι id = none) {t t' e ty : TypeId} (ht : (T t).ty = .slice e) {x y : AV} {vx vy : Value} (hx : VR c x vx) (hy : VR c y vy) (ha : copyP T e x y h n K)
    {s : Sem Next} (hs : ∀ v w', (Builtin.copy_ #[t, t'] ty #[vx, vy]).run P c.w = .ok v w' → s.run P c.w = .ok (.value v) w') : OpOk P c h n s K := by
  obtain ⟨ys, hry, hpos, ha⟩ := ha
  obtain ⟨i, z, hi, i1, i2, i3, i4, i5, i6⟩ := hT.info e hpos
  split at ha
  · cases hx
    obtain ⟨news, by_, capy, rfl, _, _, ln, n1, hn, rn, sy, oy, hk⟩ := rd_cellsX (P := P) hh hy hpos hry
    have h2 := hk 0 (Nat.zero_le _)
    refine OpOk.pure hh hf (hs (goInt 0) c.w ?_) (.int _ _) ha
    simp [Builtin.copy_, run_underlying (hT.tslice t e ht), sizeOf, typeInfo, hi, i1, Builtin.lenOf, goInt, h2]
  · rename_i sz id off len lo ex
    obtain ⟨rfl, b, hb, hle, ha⟩ := ha
    obtain ⟨news, by_, capy, rfl, _, _, ln, n1, hn, rn, sy, oy, hk⟩ := rd_cellsX (P := P) hh hy hpos hry
    have hlt : (ys.take len).length = min ys.length len := by simp [Nat.min_comm]
    have hmul := Nat.mul_le_mul_right (T e).sz (show min ys.length len ≤ ys.length from Nat.min_le_left _ _)
    have ln' : (news.take (min ys.length len * (T e).sz)).length = min ys.length len * (T e).sz := by rw [List.length_take]; omega
    refine splice_op (P := P) (K := K) (ys := ys.take len) (news := news.take (min ys.length len * (T e).sz)) hh hf hx hb hpos (by omega) (by omega) (by rw [hlt]; exact ln') (fun x hx => n1 x (List.mem_of_mem_take hx))
      (fun i e' j u hi hj => ?_) (fun i e' hi => ?_) (fun i e' j u hi hj => ?_) (r := .int .i64 (min ys.length len : Nat)) (vr := .int .i64 (min ys.length len : Nat)) (fun c' => .int _ _) (fun a cap w' hv hst => ?_) ha
    · rw [List.getElem?_take] at hi
      split at hi
      · rename_i hil
        obtain ⟨x, q1, q2⟩ := rn _ _ _ _ hi hj
        have hjl : j < (T e).sz := by have := (List.getElem?_eq_some_iff.1 hj).1; rw [sy _ _ hi] at this; exact this
        have hyl := (List.getElem?_eq_some_iff.1 hi).1
        have := Nat.mul_le_mul_right (T e).sz (show i + 1 ≤ min ys.length len by omega)
        rw [Nat.add_mul] at this
        exact ⟨x, by rw [List.getElem?_take, if_pos (by omega)]; exact q1, q2⟩
      · cases hi
    · rw [List.getElem?_take] at hi
      split at hi
      · exact sy _ _ hi
      · cases hi
    · rw [List.getElem?_take] at hi
      split at hi
      · exact oy _ _ _ _ hi hj
      · cases hi
    · refine hs _ _ ?_
      subst hv
      have h2 := hk (min ys.length len) (Nat.min_le_left _ _)
      simp [Builtin.copy_, run_underlying (hT.tslice t e ht), sizeOf, typeInfo, hi, i1, Builtin.lenOf, goInt, Nat.min_def] at h2 hst ⊢
      simp [h2, hst]
  · exact ha.elim
theorem getElem?_spliceX {α : Type} (l m : List α) (off k : Nat) (hle : off ≤ l.length) :
    (l.take off ++ m ++ l.drop (off + m.length))[k]? = if off ≤ k ∧ k < off + m.length then m[k - off]? else l[k]? := by
  simp only [List.getElem?_append, List.length_append, List.length_take, List.getElem?_take, List.getElem?_drop]
  have h1 : min off l.length = off := by omega
  rw [h1]
  by_cases hk : k < off
  · rw [if_pos (by omega), if_pos hk, if_pos hk, if_neg (by omega)]
  · by_cases hk2 : k < off + m.length
    · rw [if_pos hk2, if_neg hk, if_pos (by omega)]
    · rw [if_neg hk2, if_neg (by omega)]
      congr 1
      omega
theorem spliceX_ok (hh : HR c h) {id : Nat} {b ys : List AV} (hb : h id = some b) {bb bs sz p : Nat} {arr : Array Value} {E : TypeId} (hB : BlkR c id b bb bs sz arr E) (hpos : 0 < sz) (hle : p ≤ b.length) (hfit0 : bs + (p + ys.length) * sz ≤ arr.size)
    {news : List Value} (ln : news.length = ys.length * sz) (n1 : ∀ x ∈ news, x.oneCell' = true)
    (rn : ∀ (i : Nat) (e : AV) (j : Nat) (u : AV), ys[i]? = some e → e.cells[j]? = some u → ∃ x, news[i * sz + j]? = some x ∧ VR c u x)
    (sy : ∀ (i : Nat) (e : AV), ys[i]? = some e → e.cells.length = sz) (oy : ∀ (i : Nat) (e : AV) (j : Nat) (u : AV), ys[i]? = some e → e.cells[j]? = some u → u.one = true) :
    ∃ w', (storeCells ⟨bb, bs + p * sz, none⟩ news).run P c.w = .ok () w' ∧ Ext c h (fun _ => False) ⟨c.ι, c.Fz, w'⟩ (h.upd id (b.take p ++ ys ++ b.drop (p + ys.length))) ∧
      HR ⟨c.ι, c.Fz, w'⟩ (h.upd id (b.take p ++ ys ++ b.drop (p + ys.length))) := by
  by_cases hy : ys = []
  · subst hy
    have hnil : news = [] := List.eq_nil_of_length_eq_zero (by simpa using ln)
    subst hnil
    have hsame : h.upd id (b.take p ++ [] ++ b.drop (p + ([] : List AV).length)) = h := by
      funext q
      unfold Heap.upd
      split
      · rename_i hq; subst hq; simp [hb]
      · rfl
    rw [hsame]
    exact ⟨c.w, by simp [storeCells], Ext.refl _ _ _, hh⟩
  have hl : 0 < ys.length := by cases ys with | nil => exact absurd rfl hy | cons => simp
  have hfit : bs + p * sz + news.length ≤ arr.size := by
    rw [ln, Nat.add_assoc, ← Nat.add_mul]; exact hfit0
  have hst := run_storeCells_at P bb (bs + p * sz) E news 0 arr c.w hB.heap (by simpa using hfit) n1
  simp only [Nat.add_zero] at hst
  refine ⟨_, hst, ?_⟩
  have spl : ∀ k, ((arr.toList.take (bs + p * sz) ++ news ++ arr.toList.drop (bs + p * sz + news.length)).toArray)[k]? =
      if bs + p * sz ≤ k ∧ k < bs + p * sz + news.length then news[k - (bs + p * sz)]? else arr[k]? := fun k => by
    rw [List.getElem?_toArray, getElem?_spliceX _ _ _ _ (by simp; omega)]
    simp
  refine write_ok hh hb hB (w' := c.w.setRow bb _) (arr' := (arr.toList.take (bs + p * sz) ++ news ++ arr.toList.drop (bs + p * sz + news.length)).toArray) (setRow_heap_eq hB.heap) rfl rfl rfl (by simp; omega) _
    (fun i x hi => ?_) (fun i x j u hi hj => ?_) (fun i x j u hi hj => ?_)
  · rw [getElem?_spliceX _ _ _ _ hle] at hi
    split at hi
    · exact sy _ _ hi
    · exact hB.size _ _ hi
  · rw [getElem?_spliceX _ _ _ _ hle] at hi
    split at hi
    · exact oy _ _ _ _ hi hj
    · exact hB.one _ _ _ _ hi hj
  · rw [spl]
    rw [getElem?_spliceX _ _ _ _ hle] at hi
    split at hi
    · rename_i hir
      have hjl : j < sz := by have := (List.getElem?_eq_some_iff.1 hj).1; rw [sy _ _ hi] at this; exact this
      obtain ⟨v, g1, g2⟩ := rn _ _ _ _ hi hj
      have e1 : i * sz = p * sz + (i - p) * sz := by rw [← Nat.add_mul]; congr 1; omega
      have e2 : (i - p) * sz + sz ≤ news.length := by
        rw [ln]
        have := Nat.mul_le_mul_right sz (show (i - p) + 1 ≤ ys.length by omega)
        rw [Nat.add_mul] at this; omega
      rw [if_pos (by omega)]
      refine ⟨v, ?_, g2⟩
      rw [← g1]; congr 1; omega
    · rename_i hir
      have hjl : j < sz := by have := (List.getElem?_eq_some_iff.1 hj).1; rw [hB.size _ _ hi] at this; exact this
      rw [if_neg (by
        rintro ⟨g1, g2⟩
        apply hir
        rw [ln] at g2
        refine ⟨?_, ?_⟩
        · rcases Nat.lt_or_ge i p with hlt | hge
          · have := Nat.mul_le_mul_right sz (show i + 1 ≤ p from hlt)
            simp only [Nat.add_mul] at this
            omega
          · exact hge
        · rcases Nat.lt_or_ge i (p + ys.length) with hlt | hge
          · exact hlt
          · have := Nat.mul_le_mul_right sz hge
            simp only [Nat.add_mul] at this
            omega)]
      exact hB.cell _ _ _ _ hi hj
theorem spliceX_op (hh : HR c h) (hf : ∀ id, n ≤ id → c.ι id = none) {sz id off len lo : Nat} {ex : Bool} {v : Value} (hv : VR c (.sl sz id off len lo ex) v) {b ys : List AV} (hb : h id = some b) (hpos : 0 < sz) (hle : off ≤ b.length) (hyl : ys.length ≤ len)
    {news : List Value} (ln : news.length = ys.length * sz) (n1 : ∀ x ∈ news, x.oneCell' = true)
    (rn : ∀ (i : Nat) (e : AV) (j : Nat) (u : AV), ys[i]? = some e → e.cells[j]? = some u → ∃ x, news[i * sz + j]? = some x ∧ VR c u x)
    (sy : ∀ (i : Nat) (e : AV), ys[i]? = some e → e.cells.length = sz) (oy : ∀ (i : Nat) (e : AV) (j : Nat) (u : AV), ys[i]? = some e → e.cells[j]? = some u → u.one = true)
    {s : Sem Next} {r : AV} {vr : Value} (hr : ∀ c' : Cfg, VR c' r vr) (hs : ∀ a cap w', v = .slice (some a) len cap → (storeCells a news).run P c.w = .ok () w' → s.run P c.w = .ok (.value vr) w') (hK : K r (h.upd id (b.take off ++ ys ++ b.drop (off + ys.length))) n) : OpOk P c h n s K := by
  obtain ⟨bb, bs, sz', arr, E, hB⟩ := hh.blk id b hb
  cases hv with
  | sl _ _ _ _ _ _ bb' bs' cap' hι hlen hlo hex hmax' hroom ad had =>
    have hi := hB.ι
    rw [hι] at hi
    obtain ⟨rfl, rfl, rfl⟩ : bb' = bb ∧ bs' = bs ∧ sz = sz' := by simpa using hi
    obtain ⟨w', q1, q2, q3⟩ := spliceX_ok (P := P) hh hb hB hpos hle (by
      obtain ⟨arr2, E2, fr2, q1, q2⟩ := hroom
      rw [hB.heap] at q1
      obtain ⟨rfl, rfl, rfl⟩ := Obj.cells.inj (Option.some.inj q1)
      have := Nat.mul_le_mul_right sz (show off + ys.length ≤ off + cap' by omega)
      omega) ln n1 rn sy oy
    have hst : (storeCells ad news).run P c.w = .ok () w' := by
      by_cases hc : cap' = 0
      · have hy : ys = [] := List.eq_nil_of_length_eq_zero (by omega)
        subst hy
        have hnil : news = [] := List.eq_nil_of_length_eq_zero (by simpa using ln)
        subst hnil
        simpa [storeCells] using q1
      · rw [had hc]; exact q1
    exact ⟨_, ⟨c.ι, c.Fz, w'⟩, r, _, n, vr, hs _ _ _ rfl hst, .inl rfl, q2.more (fun _ hq => hq.elim), q3, hf, hr _, Nat.le_refl _, hK⟩
theorem copyX_ok (hT : TEOk P T) (hh : HR c h) (hf : ∀ id, n ≤ id → c.ι id = none) {t t' ty : TypeId} {x y : AV} {vx vy : Value} (hx : VR c x vx) (hy : VR c y vy) (ha : copyX T t x y h n K)
    {s : Sem Next} (hs : ∀ v w', (Builtin.copy_ #[t, t'] ty #[vx, vy]).run P c.w = .ok v w' → s.run P c.w = .ok (.value v) w') : OpOk P c h n s K := by
  obtain ⟨e, id, off, len, lo, ex, id2, off2, len2, lo2, ex2, b, b2, ht, hpos, rfl, rfl, hb, hle, hb2, hle2, ha⟩ := ha
  obtain ⟨i, z, hi, i1, i2, i3, i4, i5, i6⟩ := hT.info e hpos
  obtain ⟨k, hk0⟩ : ∃ k, k = min len2 len := ⟨_, rfl⟩
  rw [← hk0] at ha hle2
  obtain ⟨ys, hys⟩ : ∃ ys, ys = (b2.drop off2).take k := ⟨_, rfl⟩
  have hyl : ys.length = k := by rw [hys, List.length_take, List.length_drop]; omega
  rw [← hys] at ha
  cases hy with
  | sl _ _ _ _ _ _ b2' base2 cap2 hι2 hlen2 hlo2 hex2 hmax2 hroom2 ad2 had2 =>
    have hy' : VR c (.sl (T e).sz id2 off2 k lo2 ex2) (.slice (some ad2) k cap2) := .sl _ _ _ _ _ _ b2' base2 cap2 hι2 (by omega) hlo2 hex2 hmax2 hroom2 ad2 had2
    have hry : rdSl h (T e).sz (.sl (T e).sz id2 off2 k lo2 ex2) = some ys := by
      simp only [rdSl, if_true, hb2, hys]
      exact if_pos hle2
    obtain ⟨news, by_, capy, hv0, _, _, ln, n1, hn, rn, sy, oy, hk⟩ := rd_cellsX (P := P) hh hy' hpos hry
    rw [hyl] at hv0 ln hk
    obtain ⟨rfl, rfl⟩ : some ad2 = by_ ∧ cap2 = capy := by simpa using hv0
    refine spliceX_op (P := P) (K := K) (ys := ys) (news := news) hh hf hx hb hpos hle (by omega) (by rw [hyl]; exact ln) n1 rn sy oy (r := .int .i64 (k : Nat)) (vr := .int .i64 (k : Nat)) (fun c' => .int _ _) (fun a cap w' hv hst => ?_) (by rw [hyl]; exact ha)
    refine hs _ _ ?_
    subst hv
    have h2 := hk k (Nat.le_refl _)
    have h3 : (Builtin.firstCells (T e).sz k (.slice (some ad2) len2 cap2)).run P c.w = .ok news.toArray c.w := by
      rw [List.take_of_length_le (by omega)] at h2
      exact h2
    have hkl : (if len2 ≤ len then len2 else len) = k := by rw [hk0, Nat.min_def]
    have hkl' : min len len2 = k := by rw [hk0, Nat.min_comm]
    simp [Builtin.copy_, run_underlying (hT.tslice t e ht), sizeOf, typeInfo, hi, i1, Builtin.lenOf, goInt, hkl'] at h3 hst ⊢
    have hkm : len2.min len = k := hk0.symm
    simp [hkm, h3, hst]
theorem clear_ok (hT : TEOk P T) (hh : HR c h) (hf : ∀ id, n ≤ id → c.ι id = none) {t e ty : TypeId} (ht : (T t).ty = .slice e) {x : AV} {vx : Value} (hx : VR c x vx) (ha : clearP T e x h n K)
    {s : Sem Next} (hs : ∀ v w', (Builtin.clear_ #[t] ty #[vx]).run P c.w = .ok v w' → s.run P c.w = .ok (.value v) w') : OpOk P c h n s K := by
  obtain ⟨hpos, ha⟩ := ha
  obtain ⟨i, z, hi, i1, i2, i3, i4, i5, i6⟩ := hT.info e hpos
  have htup : ∀ c' : Cfg, VR c' (.tup []) (.tuple #[]) := fun c' => .tup _ _ rfl (fun i u v h => by simp at h)
  split at ha
  · cases hx
    exact OpOk.pure hh hf (hs (.tuple #[]) c.w (by simp [Builtin.clear_, run_underlying (hT.tslice t e ht)])) (htup _) ha
  · rename_i sz id off len lo ex
    obtain ⟨rfl, b, hb, hle, ha⟩ := ha
    obtain ⟨r1, r2, r3⟩ := zero_cells_rel (c := c) (m := len) (i4 c) i6 i5 hpos
    have hz : z.cells.size = (T e).sz := by rw [(VR.cells (i4 c) i6).1, i5]
    have hmz : Builtin.zeroCells z.cells len = madeCells z.cells (len * (T e).sz) := by simp [Builtin.zeroCells, madeCells, hz]
    refine splice_op (P := P) (K := K) (ys := List.replicate len (T e).zero) (news := (Builtin.zeroCells z.cells len).toList) hh hf hx hb hpos (by simpa using hle) (by simp) (by rw [hmz]; simp [size_madeCells]) (fun x hx => ?_)
      (fun i e' j u hi hj => ?_) r1 r2 htup (fun a cap w' hv hst => hs _ _ ?_) (by simpa using ha)
    · rw [hmz] at hx
      obtain ⟨k, hk, rfl⟩ := List.mem_iff_getElem.1 hx
      have hkl : k < len * (T e).sz := by simpa [size_madeCells] using hk
      have hm := Nat.mod_lt k hpos
      have hmz' : k % (T e).sz < (T e).zero.cells.length := by omega
      have hq := (VR.cells (i4 c) i6).2 (k % (T e).sz) _ (z.cells[k % (T e).sz]'(by omega)) (List.getElem?_eq_getElem hmz') (Array.getElem?_eq_getElem (by omega))
      have h1 := VR.one hq (i6 _ (List.getElem_mem hmz'))
      simpa [madeCells, hz, hm] using h1
    · obtain ⟨x, q1, q2⟩ := r3 i e' j u hi hj
      exact ⟨x, by rw [hmz]; simpa using q1, q2⟩
    · subst hv
      cases hl : len with
      | zero =>
        subst hl
        have : w' = c.w := by simpa [Builtin.zeroCells, storeCells] using hst.symm
        subst this
        simp [Builtin.clear_, run_underlying (hT.tslice t e ht)]
      | succ m =>
        subst hl
        simp [Builtin.clear_, run_underlying (hT.tslice t e ht), zeroValue, typeInfo, hi, i3, hst]
  · exact ha.elim
end
end Go.Proofs.Ytcngfjmfgeckmaa
namespace Go.Proofs.Ytcngfjmfgeckmaa
open Go
section
variable {P : Program} {T : TE} {c : Cfg} {h : Heap} {n : Nat} {K : AV → Heap → Nat → Prop}
theorem list1 {α : Type} {a : Array α} {x : α} (h : a.toList = [x]) : a = #[x] := by rw [← Array.toArray_toList (xs := a), h]
theorem list2 {α : Type} {a : Array α} {x y : α} (h : a.toList = [x, y]) : a = #[x, y] := by rw [← Array.toArray_toList (xs := a), h]
theorem map1 {α β : Type} {f : α → β} {l : List α} {b : β} (h : l.map f = [b]) : ∃ x, l = [x] ∧ f x = b := by
  cases l with
  | nil => cases h
  | cons x t => cases t with
    | nil => exact ⟨x, rfl, by simpa using h⟩
    | cons => simp at h
theorem map2 {α β : Type} {f : α → β} {l : List α} {b b' : β} (h : l.map f = [b, b']) : ∃ x y, l = [x, y] ∧ f x = b ∧ f y = b' := by
  cases l with
  | nil => cases h
  | cons x t => cases t with
    | nil => simp at h
    | cons y t => cases t with
      | nil => exact ⟨x, y, rfl, by simpa using h⟩
      | cons => simp at h
theorem len_sl (hh : HR c h) {a : AV} {v : Value} (hv : VR c a v) {sz : Nat} {l : List AV} (hr : rdSl h sz a = some l) : ∃ b k, v = .slice b l.length k := by
  rcases rd_slice hh hv hr with ⟨rfl, rfl⟩ | ⟨ad, cap, rfl, _⟩
  · exact ⟨none, 0, rfl⟩
  · exact ⟨_, _, rfl⟩
theorem good_of {z : AV} (h : ∀ u, u ∈ z.cells → u.one = true) : z.good = true := by
  cases z <;> first | rfl | simp [AV.cells, AV.one] at h
theorem builtin_ok (hT : TEOk P T) (hh : HR c h) (hf : ∀ id, n ≤ id → c.ι id = none) {ev : Operand → AV} {ρ : Operand → Value} (hρ : ∀ x, VR c (ev x) (ρ x)) {b : Builtin} {ts : Array TypeId} {args : Array Operand} {ty : TypeId} {cs : Array Bool}
    (ha : builtinP T b ts.toList (args.toList.map ev) h n K) : OpOk P c h n (builtin b ts ty cs (args.map ρ)) K := by
  unfold builtinP at ha
  split at ha
  · rename_i t s q1 q2
    obtain rfl := list1 q1
    obtain ⟨x, q3, hx⟩ := map1 q2
    obtain rfl := list1 q3
    obtain ⟨ht, hK⟩ := ha
    have hv := hρ x
    rw [hx] at hv
    obtain ⟨v, hv'⟩ : ∃ v, v = ρ x := ⟨_, rfl⟩
    rw [← hv'] at hv
    cases hv
    refine OpOk.pure hh hf (v := goInt s.size) ?_ (.int _ _) hK
    simp [builtin, Builtin.len_, ← hv', run_underlying (hT.tstr t ht)]
  · rename_i t x0 _ q1 q2
    obtain rfl := list1 q1
    obtain ⟨x, q3, hx⟩ := map1 q2
    obtain rfl := list1 q3
    obtain ⟨e, l, ht, hr, hK⟩ := ha
    rw [← hx] at hr
    obtain ⟨bb, k, hv⟩ := len_sl hh (hρ x) hr
    refine OpOk.pure hh hf (v := goInt l.length) ?_ (.int _ _) hK
    simp [builtin, Builtin.len_, hv, run_underlying (hT.tslice t e ht)]
  · rename_i t sz id off len lo ex q1 q2
    obtain rfl := list1 q1
    obtain ⟨x, q3, hx⟩ := map1 q2
    obtain rfl := list1 q3
    obtain ⟨e, ht, hex, hK⟩ := ha
    have hv := hρ x
    rw [hx] at hv
    obtain ⟨v, hv'⟩ : ∃ v, v = ρ x := ⟨_, rfl⟩
    rw [← hv'] at hv
    cases hv with
    | sl _ _ _ _ _ _ b base cap hι hlen hlo hexc hmax hroom a ha =>
      have := hexc hex
      subst this
      refine OpOk.pure hh hf (v := goInt cap) ?_ (.int _ _) hK
      simp [builtin, Builtin.cap_, ← hv', run_underlying (hT.tslice t e ht)]
  · rename_i k a k' b q2
    obtain ⟨x, y, q3, hx, hy⟩ := map2 q2
    obtain rfl := list2 q3
    obtain ⟨rfl, hK⟩ := ha
    have hv := hρ x
    rw [hx] at hv
    have hu := hρ y
    rw [hy] at hu
    obtain ⟨v, hv'⟩ : ∃ v, v = ρ x := ⟨_, rfl⟩
    obtain ⟨u, hu'⟩ : ∃ u, u = ρ y := ⟨_, rfl⟩
    rw [← hv'] at hv
    rw [← hu'] at hu
    cases hv; cases hu
    refine OpOk.pure hh hf (v := .int k (if b < a then b else a)) ?_ (.int _ _) hK
    simp [builtin, Builtin.min_, Builtin.min2, ← hv', ← hu']
  · rename_i k a k' b q2
    obtain ⟨x, y, q3, hx, hy⟩ := map2 q2
    obtain rfl := list2 q3
    obtain ⟨rfl, hK⟩ := ha
    have hv := hρ x
    rw [hx] at hv
    have hu := hρ y
    rw [hy] at hu
    obtain ⟨v, hv'⟩ : ∃ v, v = ρ x := ⟨_, rfl⟩
    obtain ⟨u, hu'⟩ : ∃ u, u = ρ y := ⟨_, rfl⟩
    rw [← hv'] at hv
    rw [← hu'] at hu
    cases hv; cases hu
    refine OpOk.pure hh hf (v := .int k (if a < b then b else a)) ?_ (.int _ _) hK
    simp [builtin, Builtin.max_, Builtin.max2, ← hv', ← hu']
  · rename_i t t' x0 y0 q1 q2
    obtain rfl := list2 q1
    obtain ⟨x, y, q3, hx, hy⟩ := map2 q2
    obtain rfl := list2 q3
    obtain ⟨rfl, e, ht, ha⟩ := ha
    rw [← hx, ← hy] at ha
    refine append_ok (ty := ty) hT hh hf ht (hρ x) (hρ y) ha (fun v w' hr => ?_)
    simp [builtin, hr]
  · rename_i t t' x0 y0 q1 q2
    obtain rfl := list2 q1
    obtain ⟨x, y, q3, hx, hy⟩ := map2 q2
    obtain rfl := list2 q3
    rcases ha with ⟨e, ht, ha⟩ | ha
    · rw [← hx, ← hy] at ha
      refine copy_ok (ty := ty) (t' := t') hT hh hf ht (hρ x) (hρ y) ha (fun v w' hr => ?_)
      simp [builtin, hr]
    · rw [← hx, ← hy] at ha
      refine copyX_ok (ty := ty) (t' := t') hT hh hf (hρ x) (hρ y) ha (fun v w' hr => ?_)
      simp [builtin, hr]
  · rename_i t x0 q1 q2
    obtain rfl := list1 q1
    obtain ⟨x, q3, hx⟩ := map1 q2
    obtain rfl := list1 q3
    obtain ⟨e, ht, ha⟩ := ha
    rw [← hx] at ha
    refine clear_ok (ty := ty) hT hh hf ht (hρ x) ha (fun v w' hr => ?_)
    simp [builtin, hr]
  · exact ha.elim
theorem opP_sound (hT : TEOk P T) (hh : HR c h) (hf : ∀ id, n ≤ id → c.ι id = none) {ev : Operand → AV} {ρ : Operand → Value} (hρ : ∀ x, VR c (ev x) (ρ x)) (o : Oper) (ho : opP T o.op ev h n K) : OpOk P c h n (execOp ρ o) K := by
  obtain ⟨dst, op, type, pos, after, guard⟩ := o
  simp only at ho
  cases op <;> simp only [opP] at ho
  all_goals first | exact ho.elim | skip
  case move x => exact OpOk.pure hh hf (by simp [execOp]) (hρ x) ho
  case assign x => exact OpOk.pure hh hf (by simp [execOp]) (hρ x) ho
  case pick cc a b =>
    obtain ⟨t, ht, hK⟩ := ho
    have hv := hρ cc
    rw [ht] at hv
    obtain ⟨v, hv'⟩ : ∃ v, v = ρ cc := ⟨_, rfl⟩
    rw [← hv'] at hv
    cases hv
    refine OpOk.pure hh hf (v := if t then ρ a else ρ b) (by simp [execOp, ← hv', asBool]) ?_ hK
    cases t
    · exact hρ b
    · exact hρ a
  case alloc e =>
    obtain ⟨hpos, hK⟩ := ho
    obtain ⟨i, z, hi, i1, i2, i3, i4, i5, i6⟩ := hT.info e hpos
    refine box_ok hh hf (i4 c) (good_of i6) i5 e ?_ hK
    simp [execOp, Instr.alloc, zeroValue, typeInfo, hi, i3, newVar, newRow]
  case box e x =>
    obtain ⟨hg, hl, hpos, hK⟩ := ho
    obtain ⟨i, z, hi, i1, i2, i3, i4, i5, i6⟩ := hT.info e hpos
    refine box_ok hh hf (hρ x) hg hl e ?_ hK
    simp [execOp, Instr.box, newVar, newRow]
  case build t parts =>
    obtain ⟨fs, ht, hpos, hfs, hb⟩ := ho
    exact build_ok hT hh hf hρ ht hpos hfs hb (fun v hr => by simp [execOp, hr])
  case buildSlice t len parts =>
    obtain ⟨e, ht, hpos, hlen, hp, hg, hK⟩ := ho
    exact buildSlice_ok hT hh hf hρ ht hpos hlen hp hg hK (fun v w' hr => by simp [execOp, hr])
  case load t a =>
    obtain ⟨sz, s, i, off, l, e, v, ha, hr, hi, hp, hst, hK⟩ := ho
    have hv := hρ a
    rw [ha] at hv
    obtain ⟨ad, hpv, hlen, hone, hc⟩ := rd_ep hh hv hr hi
    obtain ⟨u, q1, q2⟩ := load_run hT hp hst hone hc
    refine OpOk.pure hh hf ?_ q2 hK
    simp [execOp, Instr.loadAt, Instr.sureAddr, hpv, q1]
  case store t a x =>
    obtain ⟨sz, id, o, len, lo, ex, i, off, b, e, ha, hb, he, hg, hl, hpos, hle, hK⟩ := ho
    have hv := hρ a
    rw [ha] at hv
    exact store_ok hT hh hf hv (hρ x) hb he hg hl hpos hle hK (fun w' hr => by simp [execOp, hr])
  case nilCheck x =>
    split at ho
    · rename_i sz a i off hx
      have hv := hρ x
      rw [hx] at hv
      obtain ⟨ad, hp⟩ := ep_ptr hv
      rw [hp] at hv
      exact OpOk.pure hh hf (by simp [execOp, hp]) hv ho
    · rename_i f cp hx
      have hv := hρ x
      rw [hx] at hv
      obtain ⟨v, hv'⟩ : ∃ v, v = ρ x := ⟨_, rfl⟩
      rw [← hv'] at hv
      have hv2 := hv
      cases hv
      exact OpOk.pure hh hf (by simp [execOp, ← hv']) hv2 ho
    · exact ho.elim
  case binOp op t x y fl =>
    obtain ⟨r, v, q1, q2, q3⟩ := bin_ok hT (hρ x) (hρ y) ho x y
    refine OpOk.pure hh hf ?_ q2 q3
    simp only [Sem.run_bind] at q1
    simp only [execOp, Sem.run_bind, q1, Result.andThen_ok, Sem.run_pure]
  case unOp op fl x =>
    have hv := hρ x
    obtain ⟨v, hv'⟩ : ∃ v, v = ρ x := ⟨_, rfl⟩
    rw [← hv'] at hv
    unfold unP at ho
    split at ho
    · rename_i b hx
      rw [hx] at hv
      cases hv
      exact OpOk.pure hh hf (by simp [execOp, ← hv', Op.unary] <;> rfl) (.bool _) ho
    · rename_i k m hx
      rw [hx] at hv
      cases hv
      exact OpOk.pure hh hf (v := .int k (k.wrap (0 - m))) (by simp [execOp, ← hv', Op.unary, Op.intArith]) (.int _ _) ho
    · exact ho.elim
  case convert s d x =>
    split at ho
    · rename_i k k0 m hd hx
      obtain ⟨⟨k', hs⟩, hK⟩ := ho
      have hv := hρ x
      obtain ⟨v, hv'⟩ : ∃ v, v = ρ x := ⟨_, rfl⟩
      rw [← hv', hx] at hv
      cases hv
      refine OpOk.pure hh hf (v := .int k (k.wrap m)) ?_ (.int _ _) hK
      simp [execOp, convert, run_underlying (hT.tint s k' hs), run_underlying (hT.tint d k hd), ← hv', Conv.intToInt]
    · rename_i hd
      obtain ⟨e, ns, hs, he, hr, hK⟩ := ho
      have hv := hρ x
      obtain ⟨v, hv'⟩ : ∃ v, v = ρ x := ⟨_, rfl⟩
      rw [← hv'] at hv
      refine OpOk.pure hh hf (v := .string (bytesStr ns)) ?_ (.str _) hK
      rcases rd_slice hh hv hr with ⟨rfl, h0⟩ | ⟨ad, cap, rfl, _, _, _, _, h5, _, _⟩
      · obtain rfl : ns = [] := by simpa using h0
        simp only [execOp, ← hv', Sem.run_bind]
        rw [run_convert_bytes_string c.w s d e none 0 0 (hT.tslice s e hs) (hT.tint e .u8 he) (hT.tstr d hd)]
        simp [Conv.bytesToString, bytesStr]
      · simp only [execOp, ← hv', Sem.run_bind]
        rw [run_convert_bytes_string c.w s d e (some ad) _ cap (hT.tslice s e hs) (hT.tint e .u8 he) (hT.tstr d hd)]
        suffices hq : Sem.run P (Conv.bytesToString (.slice (some ad) (ns.map (AV.int .u8)).length cap)) c.w = .ok (.string (bytesStr ns)) c.w by
          rw [hq]; rfl
        refine run_bytesToString c.w ad _ cap ns ?_
        have := run_loadCells_list (P := P) c.w ad (ns.map (Value.int .u8)) (fun i w hi => by
          rw [List.getElem?_map] at hi
          obtain ⟨m, hm, rfl⟩ := Option.map_eq_some_iff.1 hi
          have hi' : (ns.map (AV.int .u8))[i]? = some (AV.int .u8 m) := by
            rw [List.getElem?_map, hm]; rfl
          obtain ⟨y, q1, q2⟩ := h5 i _ 0 _ hi' rfl
          cases q2
          simpa using q1)
        simpa using this
    · exact ho.elim
  case makeFunc f first cap =>
    cases f <;> simp only at ho
    case func f =>
      obtain ⟨hfst, hK⟩ := ho
      subst hfst
      refine OpOk.pure hh hf (v := .func (.func f) #[] (cap.map ρ)) (by simp [execOp, Instr.makeFunc]) (.fn _ _ _ (by simp) fun i u v hu hv => ?_) hK
      rw [List.getElem?_map] at hu
      rw [Array.getElem?_map] at hv
      cases hc : cap[i]? with
      | none => rw [hc] at hv; cases hv
      | some y =>
        have hc' : cap.toList[i]? = some y := by simpa using hc
        rw [hc] at hv
        rw [hc'] at hu
        obtain rfl := Option.some.inj hv
        obtain rfl := Option.some.inj hu
        exact hρ y
    all_goals exact ho.elim
  case makeSlice t l cp =>
    obtain ⟨e, k1, k2, a, b, ht, hpos, hl, hc, ha, hab, hby, hb, hK⟩ := ho
    have hv := hρ l
    have hu := hρ cp
    rw [hl] at hv
    rw [hc] at hu
    obtain ⟨v, hv'⟩ : ∃ v, v = ρ l := ⟨_, rfl⟩
    obtain ⟨u, hu'⟩ : ∃ u, u = ρ cp := ⟨_, rfl⟩
    rw [← hv'] at hv
    rw [← hu'] at hu
    cases hv; cases hu
    exact makeSlice_ok (k1 := k1) (k2 := k2) hT hh hf ht hpos ha hab hby hb hK (fun v w' hr => by simp [execOp, ← hv', ← hu', hr])
  case slice t x lo hi mx =>
    have hv := hρ x
    split at ho
    · rename_i s hx
      obtain ⟨ht, rfl, hs⟩ := ho
      obtain ⟨v, hv'⟩ : ∃ v, v = ρ x := ⟨_, rfl⟩
      rw [← hv', hx] at hv
      cases hv
      obtain ⟨r, u, q1, q2, q3⟩ := strSlice_ok (P := P) hT ht hρ hs
      exact OpOk.pure hh hf (by simp [execOp, ← hv', q1]) q2 q3
    · obtain ⟨e, ht, hpos, hmx, hs⟩ := ho
      obtain ⟨r, u, q1, q2, q3⟩ := slice_ok (P := P) hT ht hpos hρ hv hmx hs
      exact OpOk.pure hh hf (by simp [execOp, q1]) q2 q3
  case fieldAddr s x f =>
    obtain ⟨sz, b, i, off, fs, p, hx, ht, hf', hpos, hK⟩ := ho
    have hv := hρ x
    rw [hx] at hv
    obtain ⟨ad, hp⟩ := ep_ptr hv
    rw [hp] at hv
    obtain ⟨F, hF, hfs⟩ := hT.tstruct s fs ht
    subst hfs
    rw [List.getElem?_map] at hf'
    cases hFf : F.toList[f]? with
    | none => rw [hFf] at hf'; cases hf'
    | some g =>
      rw [hFf] at hf'
      obtain rfl := Option.some.inj hf'
      have hFf' : F[f]? = some g := by simpa using hFf
      refine OpOk.pure hh hf ?_ (ep_add hv) hK
      simp [execOp, Instr.fieldAt, run_underlying hF, hFf', Instr.sureAddr, hp, fieldPlace_run hT ad g hpos]
  case field t x f =>
    obtain ⟨fs, p, cs, v, ht, hf', hx, hp, hst, hK⟩ := ho
    have hv := hρ x
    obtain ⟨u, hu⟩ : ∃ u, u = ρ x := ⟨_, rfl⟩
    rw [← hu, hx] at hv
    obtain ⟨F, hF, hfs⟩ := hT.tstruct t fs ht
    subst hfs
    rw [List.getElem?_map] at hf'
    cases hFf : F.toList[f]? with
    | none => rw [hFf] at hf'; cases hf'
    | some g =>
      rw [hFf] at hf'
      obtain rfl := Option.some.inj hf'
      have hFf' : F[f]? = some g := by simpa using hFf
      have hv2 := hv
      cases hv
      obtain ⟨y, q1, q2⟩ := part_run (P := P) hT hv2 hp hst
      refine OpOk.pure hh hf ?_ q2 hK
      simp [execOp, Instr.field, run_underlying hF, hFf', ← hu, asAgg, q1]
  case indexAddr t x ix =>
    obtain ⟨e, l, k, i, ht, hpos, hr, hi, h0, hlt, hK⟩ := ho
    have hu := hρ ix
    rw [hi] at hu
    obtain ⟨u, hu'⟩ : ∃ u, u = ρ ix := ⟨_, rfl⟩
    rw [← hu'] at hu
    cases hu
    rcases rd_slice hh (hρ x) hr with ⟨_, rfl⟩ | ⟨ad, cap, hx, _, _, _, _, _, hep, _⟩
    · simp at hlt; omega
    · have := hep i.toNat 0 (by omega)
      refine OpOk.pure hh hf ?_ this hK
      have hsz := sizeOf_run (P := P) hT hpos c.w
      simp [execOp, Instr.indexAt, asIntOf, ← hu', hx, run_underlying (hT.tslice t e ht), h0, hlt, hsz]
  case index t x ix =>
    obtain ⟨s, k, i, ht, hx, hi, h0, hlt, hK⟩ := ho
    have hu := hρ ix
    rw [hi] at hu
    obtain ⟨u, hu'⟩ : ∃ u, u = ρ ix := ⟨_, rfl⟩
    rw [← hu'] at hu
    cases hu
    have hv := hρ x
    rw [hx] at hv
    obtain ⟨v, hv'⟩ : ∃ v, v = ρ x := ⟨_, rfl⟩
    rw [← hv'] at hv
    cases hv
    refine OpOk.pure hh hf ?_ (.int _ _) hK
    simp [execOp, Instr.index, asIntOf, ← hu', ← hv', run_underlying (hT.tstr t ht), h0, hlt]
  case extract t ix =>
    obtain ⟨vs, r, ht, hr, hK⟩ := ho
    have hv := hρ t
    rw [ht] at hv
    obtain ⟨v, hv'⟩ : ∃ v, v = ρ t := ⟨_, rfl⟩
    rw [← hv'] at hv
    cases hv with
    | tup _ xs hs hcv =>
      have hlt : ix < vs.length := (List.getElem?_eq_some_iff.1 hr).1
      have hx : xs[ix]? = some (xs[ix]'(by omega)) := Array.getElem?_eq_getElem (by omega)
      refine OpOk.pure hh hf (v := xs[ix]'(by omega)) ?_ (hcv ix r _ hr hx) hK
      simp [execOp, Instr.extract, ← hv', hx]
  case call cl =>
    split at ho
    · rename_i b hc
      simp only [execOp, resolve, hc, invoke, pure_bind]
      exact builtin_ok hT hh hf hρ ho
    · exact ho.elim
end
end Go.Proofs.Ytcngfjmfgeckmaa
namespace Go.Proofs.Ytcngfjmfgeckmaa
open Go
abbrev Env := Nat → AV
def Env.get (E : Env) (t : Nat) : AV := E t
def Env.put (E : Env) (d : Option Tmp) (v : AV) : Env :=
  match d with
  | some d => fun t => if d = t then v else E t
  | none => E
def ev (E : Env) : Operand → AV
  | .tmp t => E.get t
  | .const v => ofVal v
  | .func f => .fn f []
  | .global _ => .undef
def Fresh (c : Cfg) (n : Nat) : Prop := ∀ id, n ≤ id → c.ι id = none
def PostR (c : Cfg) (h : Heap) (n : Nat) (v : Value) (w' : World) (r : AV) (h' : Heap) (n' : Nat) : Prop :=
  ∃ c', c'.w = w' ∧ Ext c h (fun id => n ≤ id ∧ id < n') c' h' ∧ HR c' h' ∧ Fresh c' n' ∧ VR c' r v ∧ n ≤ n'
def Goes (P : Program) (f : FuncId) : Prop := ∀ (args : Array Value) (w : World), (callFunc f args).run P w = .ok (.enter f args) w
def CA (P : Program) (f : FuncId) (args : List AV) (h : Heap) (n : Nat) (K : AV → Heap → Nat → Prop) : Prop :=
  Goes P f ∧ ∀ (c : Cfg) (vals : Array Value), HR c h → Fresh c n → vals.size = args.length → (∀ (i : Nat) (u : AV) (v : Value), args[i]? = some u → vals[i]? = some v → VR c u v) →
    Calls P f vals c.w (fun e w' => ∃ v r h' n', e = .returned v ∧ PostR c h n v w' r h' n' ∧ K r h' n')
def callA (P : Program) (T : TE) (o : Oper) (E : Env) (h : Heap) (n : Nat) (K : AV → Heap → Nat → Prop) : Prop :=
  match o.op with
  | .call c => match c.callee with
    | .value f => match ev E f with
      | .fn g cap => CA P g (c.args.toList.map (ev E) ++ cap) h n K
      | _ => False
    | _ => opP T o.op (ev E) h n K
  | op => opP T op (ev E) h n K
def yieldA (ops : List Oper) (E : Env) (j : Nat) : Option (Option Bool) :=
  match (ops[j]?).bind (·.dst) with
  | none => some none
  | some d => match E.get d with
    | .bool b => some (some b)
    | .undef => none
    | .fn .. => none
    | _ => some none
def stepA (P : Program) (T : TE) (ops : List Oper) (o : Oper) (E : Env) (h : Heap) (n : Nat) (K : Env → Heap → Nat → Prop) : Prop :=
  match o.guard with
  | none => callA P T o E h n (fun r h' n' => K (E.put o.dst r) h' n')
  | some (j, want) => match yieldA ops E j with
    | some y => if y = some want then callA P T o E h n (fun r h' n' => K (E.put o.dst r) h' n') else K (E.put o.dst (.tup [])) h n
    | none => False
def opsA (P : Program) (T : TE) (ops : List Oper) : List Oper → Env → Heap → Nat → (Env → Heap → Nat → Prop) → Prop
  | [], E, h, n, K => K E h n
  | o :: rest, E, h, n, K => stepA P T ops o E h n (fun E' h' n' => opsA P T ops rest E' h' n' K)
structure Base where
  c : Cfg
  h : Heap
  n : Nat
def SR (b : Base) (N : Nat) (E : Env) (h : Heap) (n : Nat) (a : Act) (w : World) : Prop :=
  ∃ c, c.w = w ∧ Ext b.c b.h (fun id => b.n ≤ id ∧ id < n) c h ∧ HR c h ∧ Fresh c n ∧ b.n ≤ n ∧ HR b.c b.h ∧ a.defers = [] ∧ a.tmps.size = N ∧ ∀ t, VR c (E.get t) (a.tmps.getD t undef)
def WP (P : Program) (N : Nat) (code : Code) (Q : Exit → Env → Heap → Nat → Prop) (E : Env) (h : Heap) (n : Nat) : Prop :=
  ∀ b a w, SR b N E h n a w → code.wp P (fun e a' w' => ∃ E' h' n', SR b N E' h' n' a' w' ∧ Q e E' h' n') a w
def dstIn (N : Nat) (o : Oper) : Bool := match o.dst with | some d => decide (d < N) | none => true
section
variable {P : Program} {T : TE} {c : Cfg} {h : Heap} {n : Nat}
theorem ofVal_ok (c : Cfg) (v : Value) : VR c (ofVal v) v := by
  unfold ofVal
  split
  · exact .bool _
  · exact .int _ _
  · exact .str _
  · exact .nils
  · exact .nilp
  · exact .nilf
  · exact .fn _ _ _ rfl (fun i u v h => by simp at h)
  · exact .undef _
theorem Env.get_put (E : Env) (d : Option Tmp) (v : AV) (t : Nat) : (E.put d v).get t = if d = some t then v else E.get t := by
  cases d with
  | none => simp [Env.put]
  | some d => simp [Env.put, Env.get]
theorem SR.fill {N : Nat} {E : Env} {a : Act} {c c' : Cfg} {h : Heap} {fr : Nat → Prop} {h' : Heap} (e1 : Ext c h fr c' h') (hh : HR c h) (hN : a.tmps.size = N) (ht : ∀ t, VR c (E.get t) (a.tmps.getD t undef)) {v : Value} {r : AV} {d : Option Tmp}
    (hd : ∀ t, d = some t → t < N) (hv : VR c' r v) : ∀ t, VR c' ((E.put d r).get t) ((a.put d v).tmps.getD t undef) := fun t => by
  rw [Env.get_put]
  split
  · rename_i hdt
    have htN := hd t hdt
    subst hdt
    simp only [Act.put, Array.getD_eq_getD_getElem?, Array.getElem?_setIfInBounds, if_true, hN, htN]
    exact hv
  · rename_i hdt
    have hE : (a.put d v).tmps.getD t undef = a.tmps.getD t undef := by
      cases d with
      | none => rfl
      | some d =>
        have hne : d ≠ t := fun hq => hdt (by rw [hq])
        simp [Act.put, Array.getElem?_setIfInBounds_ne hne]
    rw [hE]
    exact (ht t).mono e1 hh
theorem SR.put {b : Base} {N : Nat} {E : Env} {h : Heap} {n : Nat} {a : Act} {w : World} {c c' : Cfg} {h' : Heap} {n' : Nat} {v : Value} {r : AV} {d : Option Tmp}
    (e0 : Ext b.c b.h (fun id => b.n ≤ id ∧ id < n) c h) (hh : HR c h) (hb : HR b.c b.h) (hn : b.n ≤ n) (hd : a.defers = []) (hN : a.tmps.size = N) (ht : ∀ t, VR c (E.get t) (a.tmps.getD t undef)) (hdN : ∀ t, d = some t → t < N)
    (e1 : Ext c h (fun id => n ≤ id ∧ id < n') c' h') (hh' : HR c' h') (hf' : Fresh c' n') (hv : VR c' r v) (hn' : n ≤ n') (hw : c'.w = w) : SR b N (E.put d r) h' n' (a.put d v) w := by
  refine ⟨c', hw, e0.trans e1 (fun i hi => ⟨hi.1, by omega⟩) (fun i hi => ⟨by omega, hi.2⟩), hh', hf', by omega, hb, ?_, ?_, SR.fill e1 hh hN ht hdN hv⟩
  · cases d <;> exact hd
  · cases d <;> simp [Act.put, hN]
theorem SR.eval {E : Env} {a : Act} {c : Cfg} (ht : ∀ t, VR c (E.get t) (a.tmps.getD t undef)) (x : Operand) : VR c (ev E x) (a.eval x) := by
  cases x with
  | tmp t => exact ht t
  | const v => exact ofVal_ok c v
  | func f => exact .fn _ _ _ rfl (fun i u v h => by simp at h)
  | global g => exact .undef _
theorem callA_sound (hT : TEOk P T) {o : Oper} {b : Base} {N : Nat} {E : Env} {a : Act} {w : World} {K : Env → Heap → Nat → Prop} {next : Act → World → Prop} {Q : Exit → Act → World → Prop} (hdN : ∀ t, o.dst = some t → t < N)
    (hs : SR b N E h n a w) (hc : callA P T o E h n (fun r h' n' => K (E.put o.dst r) h' n')) (hK : ∀ E' h' n' a' w', SR b N E' h' n' a' w' → K E' h' n' → next a' w') : o.wp P a w next Q := by
  obtain ⟨c, rfl, e0, hh, hf, hn, hb, hd, hN, ht⟩ := hs
  have base : opP T o.op (ev E) h n (fun r h' n' => K (E.put o.dst r) h' n') → o.wp P a c.w next Q := fun ho => by
    obtain ⟨nx, c', r, h', n', v, q1, q2, q3, q4, q5, q6, q7, q8⟩ := opP_sound hT hh hf (fun x => SR.eval ht x) o ho
    have hfin := hK _ _ _ _ _ (SR.put (d := o.dst) e0 hh hb hn hd hN ht hdN q3 q4 q5 q6 q7 rfl) q8
    unfold Oper.wp
    rw [q1]
    rcases q2 with rfl | ⟨rfl, rfl⟩
    · exact hfin
    · exact hfin
  unfold callA at hc
  split at hc
  · rename_i cl hop
    split at hc
    · rename_i f hcal
      split at hc
      · rename_i g cap hg
        have hv := SR.eval ht f
        rw [hg] at hv
        obtain ⟨vf, hvf⟩ : ∃ v, v = a.eval f := ⟨_, rfl⟩
        rw [← hvf] at hv
        cases hv with
        | fn _ _ vs hsz hvs =>
          obtain ⟨hgo, hcall⟩ := hc
          have hrun : (execOp a.eval o).run P c.w = .ok (.enter g (cl.args.map a.eval ++ vs)) c.w := by
            simp [execOp, hop, resolve, hcal, ← hvf, Deferred.ofValue, invoke, hgo _ _]
          unfold Oper.wp
          rw [hrun]
          refine Calls.mono (hcall c _ hh hf (by simp [hsz]) (fun i u v hu hv => ?_)) (fun e w'' he => ?_)
          · rcases Nat.lt_or_ge i cl.args.size with hlt | hge
            · rw [List.getElem?_append_left (by simpa using hlt), List.getElem?_map] at hu
              rw [Array.getElem?_append_left (by simpa using hlt), Array.getElem?_map] at hv
              rw [Array.getElem?_eq_getElem hlt] at hv
              rw [Array.getElem?_toList, Array.getElem?_eq_getElem hlt] at hu
              obtain rfl := Option.some.inj hv
              obtain rfl := Option.some.inj hu
              exact SR.eval ht _
            · rw [List.getElem?_append_right (by simpa using hge)] at hu
              rw [Array.getElem?_append_right (by simpa using hge)] at hv
              refine hvs _ u v (by simpa using hu) (by simpa using hv)
          · obtain ⟨v, r, h', n', rfl, ⟨c', hw, q3, q4, q5, q6, q7⟩, q8⟩ := he
            exact hK _ _ _ _ _ (SR.put (d := o.dst) e0 hh hb hn hd hN ht hdN q3 q4 q5 q6 q7 hw) q8
      · exact hc.elim
    · exact base hc
  · exact base hc
end
end Go.Proofs.Ytcngfjmfgeckmaa
namespace Go.Proofs.Ytcngfjmfgeckmaa
open Go
section
variable {P : Program} {T : TE} {N : Nat} {E : Env} {h : Heap} {n : Nat}
theorem getD_get {a : Act} {d : Tmp} {v : Value} (hv : a.tmps.getD d undef = v) : a.tmps[d]? = some v ∨ (a.tmps[d]? = none ∧ v = .tuple #[]) := by
  rw [Array.getD_eq_getD_getElem?] at hv
  cases hx : a.tmps[d]? with
  | none => rw [hx] at hv; exact .inr ⟨rfl, hv.symm⟩
  | some u => rw [hx] at hv; exact .inl (by rw [show u = v from hv])
theorem yieldA_ok {ops : Array Oper} {c : Cfg} {a : Act} (ht : ∀ t, VR c (E.get t) (a.tmps.getD t undef)) {j : Nat} {y : Option Bool} (hy : yieldA ops.toList E j = some y) : yielded ops a.tmps j = y := by
  unfold yieldA at hy
  unfold yielded
  rw [Array.getElem?_toList] at hy
  cases hd : (ops[j]?).bind (·.dst) with
  | none => rw [hd] at hy; simp at hy; subst hy; rfl
  | some d =>
    rw [hd] at hy
    simp only [Option.bind_some]
    have hv := ht d
    obtain ⟨v, hv'⟩ : ∃ v, a.tmps.getD d undef = v := ⟨_, rfl⟩
    rw [hv'] at hv
    have hg := getD_get hv'
    simp only at hy
    generalize E.get d = x at hy hv
    cases hv <;> simp only [Option.some.injEq, reduceCtorEq] at hy <;> subst hy <;> rcases hg with hg | ⟨hg, hu⟩ <;> first | (rw [hg]; done) | (simp only [hg]; done) | cases hu
theorem stepA_sound (hT : TEOk P T) {ops : Array Oper} {o : Oper} {b : Base} {a : Act} {w : World} {K : Env → Heap → Nat → Prop} {next : Act → World → Prop} {Q : Exit → Act → World → Prop} (hdN : dstIn N o = true)
    (hs : SR b N E h n a w) (hc : stepA P T ops.toList o E h n K) (hK : ∀ E' h' n' a' w', SR b N E' h' n' a' w' → K E' h' n' → next a' w') :
    if Region.wanted o (yielded ops a.tmps) then o.wp P a w next Q else next (a.put o.dst undef) w := by
  have hd : ∀ t, o.dst = some t → t < N := fun t ht => by unfold dstIn at hdN; rw [ht] at hdN; simpa using hdN
  have hs0 := hs
  obtain ⟨c, rfl, e0, hh, hf, hn, hb, hdf, hN, ht⟩ := hs
  unfold stepA at hc
  unfold Region.wanted
  cases hg : o.guard with
  | none =>
    rw [hg] at hc
    simp only [if_true]
    exact callA_sound hT hd hs0 hc hK
  | some g =>
    obtain ⟨j, want⟩ := g
    rw [hg] at hc
    simp only at hc ⊢
    split at hc
    · rename_i y hy
      have hyd := yieldA_ok ht hy
      split at hc
      · rename_i hyw
        rw [if_pos (by simp [hyd, hyw])]
        exact callA_sound hT hd hs0 hc hK
      · rename_i hyw
        rw [if_neg (by simpa [hyd] using hyw)]
        exact hK _ _ _ _ _ (SR.put (d := o.dst) (v := undef) (r := .tup []) e0 hh hb hn hdf hN ht hd (Ext.refl c h _) hh hf (.tup _ _ rfl (fun i u v h => by simp at h)) (Nat.le_refl _) rfl) hc
    · exact hc.elim
theorem opsA_sound (hT : TEOk P T) {ops : Array Oper} {b : Base} {K : Env → Heap → Nat → Prop} {Q : Exit → Act → World → Prop} (hK : ∀ E' h' n' a' w', SR b N E' h' n' a' w' → K E' h' n' → Q .normal a' w') :
    ∀ (l : List Oper) {E : Env} {h : Heap} {n : Nat} {a : Act} {w : World}, l.all (dstIn N) = true → SR b N E h n a w → opsA P T ops.toList l E h n K → wpList P ops Q l a w
  | [], _, _, _, _, _, _, hs, hc => hK _ _ _ _ _ hs hc
  | o :: l, E, h, n, a, w, hd, hs, hc => by
    simp only [List.all_cons, Bool.and_eq_true] at hd
    refine wpList_step fun K' hK' => ?_
    exact stepA_sound hT hd.1 hs hc (fun E' h' n' a' w' hs' hc' => hK' _ _ (opsA_sound hT hK l hd.2 hs' hc'))
def thenA (next : Env → Heap → Nat → Prop) (Q : Exit → Env → Heap → Nat → Prop) : Exit → Env → Heap → Nat → Prop
  | .normal => next
  | e => Q e
def blockA (id : Nat) (Q : Exit → Env → Heap → Nat → Prop) : Exit → Env → Heap → Nat → Prop
  | .exit id' => if id' = id then Q .normal else Q (.exit id')
  | e => Q e
variable {Q : Exit → Env → Heap → Nat → Prop}
theorem WP.mono {c : Code} {Q' : Exit → Env → Heap → Nat → Prop} (hw : WP P N c Q E h n) (hq : ∀ e E h n, Q e E h n → Q' e E h n) : WP P N c Q' E h n := fun b a w hs =>
  wp_mono (hw b a w hs) fun _ _ _ ⟨E', h', n', q1, q2⟩ => ⟨E', h', n', q1, hq _ _ _ _ q2⟩
theorem WP.region (hT : TEOk P T) {id : Nat} {l : List Oper} (hd : l.all (dstIn N) = true) (hc : opsA P T l l E h n (Q .normal)) : WP P N (.region id l.toArray false) Q E h n := fun _ _ _ hs =>
  wp_region_lit (opsA_sound (ops := l.toArray) hT (fun E' h' n' _ _ q1 q2 => ⟨E', h', n', q1, q2⟩) l hd hs hc)
theorem WP.skip (hq : Q .normal E h n) : WP P N .skip Q E h n := fun _ _ _ hs => wp_skip ⟨_, _, _, hs, hq⟩
theorem WP.ret (hq : Q .ret E h n) : WP P N .ret Q E h n := fun _ _ _ hs => wp_ret ⟨_, _, _, hs, hq⟩
theorem WP.exit {id : Nat} (hq : Q (.exit id) E h n) : WP P N (.exit id) Q E h n := fun _ _ _ hs => wp_exit ⟨_, _, _, hs, hq⟩
theorem WP.seq {x y : Code} (hx : WP P N x (thenA (WP P N y Q) Q) E h n) : WP P N (.seq x y) Q E h n := fun b a w hs =>
  wp_seq (wp_mono (hx b a w hs) fun e a' w' ⟨E', h', n', q1, q2⟩ => by
    cases e with
    | normal => exact q2 b a' w' q1
    | _ => exact ⟨E', h', n', q1, q2⟩)
theorem WP.cond {c : Operand} {x y : Code} {t : Bool} (hc : ev E c = .bool t) (ht : t = true → WP P N x Q E h n) (hf : t = false → WP P N y Q E h n) : WP P N (.cond c x y) Q E h n := fun b a w hs => by
  have hs0 := hs
  obtain ⟨cf, rfl, e0, hh, hfr, hn, hb, hdf, hN, hv⟩ := hs
  have hv := SR.eval hv c
  rw [hc] at hv
  obtain ⟨v, hv'⟩ : ∃ v, a.eval c = v := ⟨_, rfl⟩
  rw [hv'] at hv
  cases hv
  exact wp_cond_split hv' (fun q => ht q b a _ hs0) (fun q => hf q b a _ hs0)
theorem WP.block {id : Nat} {c : Code} (hc : WP P N c (blockA id Q) E h n) : WP P N (.block id c) Q E h n := fun b a w hs =>
  wp_block (wp_mono (hc b a w hs) fun e a' w' ⟨E', h', n', q1, q2⟩ => by
    cases e with
    | exit id' =>
      simp only [blockA] at q2
      simp only [Exit.inBlock]
      split
      · rename_i hid; rw [if_pos hid] at q2; exact ⟨E', h', n', q1, q2⟩
      · rename_i hid; rw [if_neg hid] at q2; exact ⟨E', h', n', q1, q2⟩
    | _ => exact ⟨E', h', n', q1, q2⟩)
theorem WP.loop {c : Code} (I : Nat → Env → Heap → Nat → Prop) (m : Nat) (h0 : I m E h n) (round : ∀ m E h n, I m E h n → WP P N c (thenA (fun E' h' n' => ∃ m', m' < m ∧ I m' E' h' n') Q) E h n) : WP P N (.loop c) Q E h n := fun b a w hs => by
  intro fb k cs
  have key : ∀ m E h n a w, SR b N E h n a w → I m E h n →
      ∃ e a' w', (∃ E' h' n', SR b N E' h' n' a' w' ∧ Q e E' h' n') ∧ Arrives P (lone (fb.at a (.code c :: .inLoop c :: k)) cs w) fb k cs e a' w' := by
    intro m
    induction m using Nat.strongRecOn with
    | _ m ih =>
      intro E h n a w hs hI
      obtain ⟨e, a₁, w₁, ⟨E1, h1, n1, hq1, hq⟩, harr⟩ := round m E h n hI b a w hs fb (.inLoop c :: k) cs
      cases e with
      | normal =>
        obtain ⟨m', hlt, hI₁⟩ := hq
        obtain ⟨e₂, a₂, w₂, hq₂, harr₂⟩ := ih m' hlt E1 h1 n1 a₁ w₁ hq1 hI₁
        exact ⟨e₂, a₂, w₂, hq₂, .of_steps (Steps.trans harr (.one step_inLoop)) harr₂⟩
      | exit id => exact ⟨_, a₁, w₁, ⟨E1, h1, n1, hq1, hq⟩, .pass (x := .inLoop c) rfl (fun _ _ => .inl (by simp)) harr⟩
      | goto l => exact ⟨_, a₁, w₁, ⟨E1, h1, n1, hq1, hq⟩, .pass (x := .inLoop c) rfl (fun _ _ => .inl (by simp)) harr⟩
      | ret => exact ⟨_, a₁, w₁, ⟨E1, h1, n1, hq1, hq⟩, .pass (x := .inLoop c) rfl (fun _ _ => .inl (by simp)) harr⟩
      | panic ch => exact ⟨_, a₁, w₁, ⟨E1, h1, n1, hq1, hq⟩, .pass (x := .inLoop c) rfl (fun _ _ => .inl (by simp)) harr⟩
      | outgrown => exact ⟨_, a₁, w₁, ⟨E1, h1, n1, hq1, hq⟩, .pass (x := .inLoop c) rfl (fun _ _ => .inl (by simp)) harr⟩
  obtain ⟨e, a', w', hq, harr⟩ := key m E h n a w hs h0
  exact ⟨e, a', w', hq, .of_steps (.one step_loop) harr⟩
def cellOk (T : TE) (t : TypeId) : Bool := match (T t).ty with | .struct _ => decide (0 < (T t).sz) | _ => true
def cellA (T : TE) (E : Env) (h : Heap) (a : Tmp) (t : TypeId) : Option AV :=
  match E.get a with
  | .ep sz s i off => (rdSl h sz s).bind fun l => (l[i]?).bind fun e => part T t off e
  | _ => none
def resA (T : TE) (E : Env) (h : Heap) : List ResultVar → Option (List AV)
  | [] => some []
  | .tmp t :: l => (resA T E h l).map (E.get t :: ·)
  | .cell a t :: l => if cellOk T t then (cellA T E h a t).bind fun v => (resA T E h l).map (v :: ·) else none
def resV : List AV → AV
  | [v] => v
  | l => .tup l
def retA (T : TE) (rs : List ResultVar) (K : AV → Heap → Nat → Prop) : Exit → Env → Heap → Nat → Prop
  | .normal | .ret => fun E h n => ∃ l, resA T E h rs = some l ∧ K (resV l) h n
  | _ => fun _ _ _ => False
def resM (a : Act) : ResultVar → Sem Value
  | .tmp t => pure (a.tmps.getD t undef)
  | .cell x t => do loadVar t (← asAddr (a.tmps.getD x undef))
theorem resA_ok (hT : TEOk P T) {c : Cfg} (hh : HR c h) {a : Act} (ht : ∀ t, VR c (E.get t) (a.tmps.getD t undef)) : ∀ (rs : List ResultVar) (l : List AV), resA T E h rs = some l →
    ∃ vs : List Value, (rs.mapM (resM a)).run P c.w = .ok vs c.w ∧ vs.length = l.length ∧ ∀ (i : Nat) (u : AV) (v : Value), l[i]? = some u → vs[i]? = some v → VR c u v
  | [], l, hr => by
    simp [resA] at hr; subst hr
    exact ⟨[], by simp, rfl, by simp⟩
  | .tmp t :: rs, l, hr => by
    simp only [resA, Option.map_eq_some_iff] at hr
    obtain ⟨l', hr', rfl⟩ := hr
    obtain ⟨vs, q1, q2, q3⟩ := resA_ok hT hh ht rs l' hr'
    refine ⟨a.tmps.getD t undef :: vs, ?_, by simp [q2], fun i u v hu hv => ?_⟩
    · simp only [List.mapM_cons, Sem.run_bind, resM, Sem.run_pure, Result.andThen_ok, q1]
    · cases i with
      | zero => simp only [List.getElem?_cons_zero, Option.some.injEq] at hu hv; subst hu; subst hv; exact ht t
      | succ i => exact q3 i u v (by simpa using hu) (by simpa using hv)
  | .cell x t :: rs, l, hr => by
    simp only [resA] at hr
    split at hr
    · rename_i hst
      obtain ⟨v, hv, hr⟩ := Option.bind_eq_some_iff.1 hr
      simp only [Option.map_eq_some_iff] at hr
      obtain ⟨l', hr', rfl⟩ := hr
      obtain ⟨vs, q1, q2, q3⟩ := resA_ok hT hh ht rs l' hr'
      unfold cellA at hv
      split at hv
      · rename_i sz s i off hx
        obtain ⟨l0, hl0, hv⟩ := Option.bind_eq_some_iff.1 hv
        obtain ⟨e, he, hv⟩ := Option.bind_eq_some_iff.1 hv
        have hp := ht x
        rw [hx] at hp
        obtain ⟨ad, hpv, hlen, hone, hc⟩ := rd_ep hh hp hl0 he
        obtain ⟨u, g1, g2⟩ := load_run (P := P) hT hv (fun fs hfs => by unfold cellOk at hst; rw [hfs] at hst; simpa using hst) hone hc
        refine ⟨u :: vs, ?_, by simp [q2], fun i u v hu hv => ?_⟩
        · simp only [List.mapM_cons, Sem.run_bind, resM, hpv, asAddr, Sem.run_pure, Result.andThen_ok, g1, q1]
        · cases i with
          | zero => simp only [List.getElem?_cons_zero, Option.some.injEq] at hu hv; subst hu; subst hv; exact g2
          | succ i => exact q3 i u v (by simpa using hu) (by simpa using hv)
      · cases hv
    · cases hr
theorem results_ok (hT : TEOk P T) {c : Cfg} (hh : HR c h) {a : Act} (ht : ∀ t, VR c (E.get t) (a.tmps.getD t undef)) {fn : Func} {l : List AV} (hr : resA T E h fn.results.toList = some l) :
    ∃ v, (results fn a.tmps).run P c.w = .ok v c.w ∧ VR c (resV l) v := by
  obtain ⟨vs, q1, q2, q3⟩ := resA_ok (P := P) hT hh ht _ l hr
  have hm : (fn.results.mapM (resM a)).run P c.w = .ok vs.toArray c.w := by
    rw [← Array.toArray_toList (xs := fn.results), List.mapM_toArray]
    simp [q1]
  refine ⟨if hs : vs.toArray.size = 1 then vs.toArray[0] else .tuple vs.toArray, ?_, ?_⟩
  · have he : results fn a.tmps = (do let vs ← fn.results.mapM (resM a); pure (if hs : vs.size = 1 then vs[0] else .tuple vs)) := by
      unfold results
      congr 1
    rw [he]
    simp only [Sem.run_bind, hm, Result.andThen_ok, Sem.run_pure]
  · match l, vs, q2 with
    | [u], [v], _ => exact q3 0 u v rfl rfl
    | [], [], _ => exact .tup _ _ rfl (fun i u v h => by simp at h)
    | u1 :: u2 :: l, v1 :: v2 :: vs, q2 =>
      refine .tup _ _ (by simpa using q2) fun i u v hu hv => q3 i u v hu (by simpa using hv)
def envOf (args : List AV) : Env := fun t => (args[t]?).getD .undef
theorem CA.enter (hT : TEOk P T) {f : FuncId} {fn : Func} {code : Code} {args : List AV} {K : AV → Heap → Nat → Prop} (hg : Goes P f) (hf : P.funcs[f]? = some fn) (hb : fn.body = some code) (hN : fn.ntmps = N) (hl : args.length ≤ N) {rs : List ResultVar} (hrs : fn.results.toList = rs)
    (hw : (∀ id b, h id = some b → id < n) → WP P N code (retA T rs K) (envOf args) h n) : CA P f args h n K := by
  refine ⟨hg, fun c vals hh hfr hs hv => calls_of_wp hf hb ?_⟩
  have hlt : ∀ id b, h id = some b → id < n := fun id b hid => by
    obtain ⟨b', base, sz, arr, E, hB⟩ := hh.blk id b hid
    rcases Nat.lt_or_ge id n with h1 | h1
    · exact h1
    · have := hB.ι; rw [hfr id h1] at this; cases this
  have hsr : SR ⟨c, h, n⟩ N (envOf args) h n { tmps := vals ++ Array.replicate (fn.ntmps - vals.size) undef, defers := [] } c.w := by
    refine ⟨c, rfl, Ext.refl _ _ _, hh, hfr, Nat.le_refl _, hh, rfl, by simp; omega, fun t => ?_⟩
    show VR c ((args[t]?).getD .undef) _
    by_cases ht : t < args.length
    · have h1 : args[t]? = some args[t] := List.getElem?_eq_getElem ht
      have h2 : vals[t]? = some (vals[t]'(by omega)) := Array.getElem?_eq_getElem (by omega)
      rw [Array.getD_eq_getD_getElem?, Array.getElem?_append_left (by omega), h2, h1]
      exact hv t _ _ h1 h2
    · rw [List.getElem?_eq_none (by omega)]
      exact .undef _
  refine wp_mono (hw hlt _ _ _ hsr) fun e a w ⟨E', h', n', q1, q2⟩ => ?_
  obtain ⟨c', rfl, e0, hh', hf', hn', _, hd, hN', ht'⟩ := q1
  have fin : ∀ l, resA T E' h' rs = some l → K (resV l) h' n' → a.defers = [] ∧ ∃ v, (results fn a.tmps).run P c'.w = .ok v c'.w ∧ ∃ v_1 r h'_1 n'_1, Ending.returned v = .returned v_1 ∧ PostR c h n v_1 c'.w r h'_1 n'_1 ∧ K r h'_1 n'_1 := fun l h1 h2 => by
    subst hrs
    obtain ⟨v, g1, g2⟩ := results_ok (P := P) hT hh' ht' h1
    exact ⟨hd, v, g1, v, _, _, _, rfl, ⟨c', rfl, e0, hh', hf', g2, hn'⟩, h2⟩
  cases e with
  | normal => obtain ⟨l, h1, h2⟩ := q2; exact fin l h1 h2
  | ret => obtain ⟨l, h1, h2⟩ := q2; exact fin l h1 h2
  | _ => exact q2.elim
end
end Go.Proofs.Ytcngfjmfgeckmaa
namespace Go.Proofs.Ytcngfjmfgeckmaa
open Go
inductive AV.Lt (n : Nat) : AV → Prop
  | bool (b) : Lt n (.bool b)
  | int (k m) : Lt n (.int k m)
  | str (s) : Lt n (.str s)
  | nils : Lt n .nils
  | ro (sz ex l) (hl : ∀ (i : Nat) (e : AV) (j : Nat) (u : AV), l[i]? = some e → e.cells[j]? = some u → Lt n u) : Lt n (.ro sz ex l)
  | sl (sz id off len lo ex) (hid : id < n) : Lt n (.sl sz id off len lo ex)
  | ep (sz a i off) (ha : Lt n a) : Lt n (.ep sz a i off)
  | nilp : Lt n .nilp
  | nilf : Lt n .nilf
  | fn (f cap) (hl : ∀ (i : Nat) (u : AV), cap[i]? = some u → Lt n u) : Lt n (.fn f cap)
  | agg (cs) (hl : ∀ (i : Nat) (u : AV), cs[i]? = some u → Lt n u) : Lt n (.agg cs)
  | tup (cs) (hl : ∀ (i : Nat) (u : AV), cs[i]? = some u → Lt n u) : Lt n (.tup cs)
  | undef : Lt n .undef
inductive Frz (n : Nat) (h : Heap) : AV → AV → Prop
  | keep (u) (hu : u.Lt n) : Frz n h u u
  | sl (sz id off len lo ex) (b l' : List AV) (hid : n ≤ id) (hb : h id = some b) (hle : off + len ≤ b.length) (hl : l'.length = len) (he : ∀ (i : Nat) (e e' : AV), b[off + i]? = some e → l'[i]? = some e' → Frz n h e e') :
      Frz n h (.sl sz id off len lo ex) (.ro sz (ex && decide (lo = len)) l')
  | agg (cs cs' : List AV) (hl : cs'.length = cs.length) (he : ∀ (i : Nat) (u u' : AV), cs[i]? = some u → cs'[i]? = some u' → Frz n h u u') : Frz n h (.agg cs) (.agg cs')
  | tup (cs cs' : List AV) (hl : cs'.length = cs.length) (he : ∀ (i : Nat) (u u' : AV), cs[i]? = some u → cs'[i]? = some u' → Frz n h u u') : Frz n h (.tup cs) (.tup cs')
section
variable {c c' : Cfg} {h h' h'' : Heap} {n n' : Nat} {u u' : AV} {v : Value}
theorem VR.relabel (hu : VR c u v) (hl : u.Lt n) (hw : c'.w = c.w) (hz : ∀ b, c.Fz b → c'.Fz b) (hi : ∀ id x, id < n → c.ι id = some x → c'.ι id = some x) : VR c' u v := by
  induction hu with
  | bool b => exact .bool b
  | int k n => exact .int k n
  | str s => exact .str s
  | nils => exact .nils
  | ro sz ex l a cap f hcap hmax hex hfz hsz hone hc hv ih =>
    cases hl with
    | ro _ _ _ hl => exact .ro sz ex l a cap f hcap hmax hex (fun q => hz _ (hfz q)) hsz hone (fun i e j u h1 h2 => by rw [hw]; exact hc i e j u h1 h2) (fun i e j u h1 h2 => ih i e j u h1 h2 (hl i e j u h1 h2))
  | sl sz id off len lo ex b base cap hι hlen hlo hex hmax hroom a ha =>
    cases hl with
    | sl _ _ _ _ _ _ hid => exact .sl sz id off len lo ex b base cap (hi _ _ hid hι) hlen hlo hex hmax (by rw [hw]; exact hroom) a ha
  | ep_ro sz ex l i off a cap ha hi' ih =>
    cases hl with
    | ep _ _ _ _ hl => exact .ep_ro sz ex l i off a cap (ih hl) hi'
  | ep_sl sz id o len lo ex i off b base hι =>
    cases hl with
    | ep _ _ _ _ hl => cases hl with
      | sl _ _ _ _ _ _ hid => exact .ep_sl sz id o len lo ex i off b base (hi _ _ hid hι)
  | nilp => exact .nilp
  | nilf => exact .nilf
  | fn f cap vs hs hv ih =>
    cases hl with
    | fn _ _ hl => exact .fn f cap vs hs (fun i u v h1 h2 => ih i u v h1 h2 (hl i u h1))
  | agg cs vs hs hone hv ih =>
    cases hl with
    | agg _ hl => exact .agg cs vs hs hone (fun i u v h1 h2 => ih i u v h1 h2 (hl i u h1))
  | tup cs vs hs hv ih =>
    cases hl with
    | tup _ hl => exact .tup cs vs hs (fun i u v h1 h2 => ih i u v h1 h2 (hl i u h1))
  | undef v => exact .undef v
theorem VR.lt (hf : Fresh c n) (hu : VR c u v) : u.Lt n := by
  have key : ∀ id x, c.ι id = some x → id < n := fun id x hx => by
    rcases Nat.lt_or_ge id n with h1 | h1
    · exact h1
    · rw [hf id h1] at hx; cases hx
  induction hu with
  | bool b => exact .bool b
  | int k n => exact .int k n
  | str s => exact .str s
  | nils => exact .nils
  | ro sz ex l a cap f hcap hmax hex hfz hsz hone hc hv ih => exact .ro _ _ _ ih
  | sl sz id off len lo ex b base cap hι hlen hlo hex hmax hroom a ha => exact .sl _ _ _ _ _ _ (key _ _ hι)
  | ep_ro sz ex l i off a cap ha hi' ih => exact .ep _ _ _ _ ih
  | ep_sl sz id o len lo ex i off b base hι => exact .ep _ _ _ _ (.sl _ _ _ _ _ _ (key _ _ hι))
  | nilp => exact .nilp
  | nilf => exact .nilf
  | fn f cap vs hs hv ih =>
    refine .fn _ _ (fun i u hi => ?_)
    have hlt := (List.getElem?_eq_some_iff.1 hi).1
    exact ih i u _ hi (Array.getElem?_eq_getElem (by omega))
  | agg cs vs hs hone hv ih =>
    refine .agg _ (fun i u hi => ?_)
    have hlt := (List.getElem?_eq_some_iff.1 hi).1
    exact ih i u _ hi (Array.getElem?_eq_getElem (by omega))
  | tup cs vs hs hv ih =>
    refine .tup _ (fun i u hi => ?_)
    have hlt := (List.getElem?_eq_some_iff.1 hi).1
    exact ih i u _ hi (Array.getElem?_eq_getElem (by omega))
  | undef v => exact .undef
theorem Frz.one (hz : Frz n h u u') (hu : u.one = true) : u'.one = true := by
  cases hz with
  | keep => exact hu
  | sl => rfl
  | agg => simp [AV.one] at hu
  | tup => simp [AV.one] at hu
theorem Frz.cells (hz : Frz n h u u') : u'.cells.length = u.cells.length ∧ ∀ (j : Nat) (x x' : AV), u.cells[j]? = some x → u'.cells[j]? = some x' → Frz n h x x' := by
  cases hz with
  | keep _ hu =>
    refine ⟨rfl, fun j x x' h1 h2 => ?_⟩
    rw [h1] at h2
    obtain rfl := Option.some.inj h2
    refine .keep _ ?_
    cases hu with
    | agg cs hl => exact hl j _ h1
    | _ => cases j <;> simp [AV.cells] at h1; subst h1; constructor <;> assumption
  | sl sz id off len lo ex b l' hid hb hle hl he =>
    refine ⟨rfl, fun j x x' h1 h2 => ?_⟩
    cases j with
    | zero => simp at h1 h2; subst h1; subst h2; exact .sl sz id off len lo ex b l' hid hb hle hl he
    | succ j => simp at h1
  | agg cs cs' hl he => exact ⟨hl, he⟩
  | tup cs cs' hl he =>
    refine ⟨rfl, fun j x x' h1 h2 => ?_⟩
    cases j with
    | zero => simp [AV.cells] at h1 h2; subst h1; subst h2; exact .tup cs cs' hl he
    | succ j => simp [AV.cells] at h1
theorem Frz.rel (hz : Frz n h u u') (hh : HR c h) (hw : c'.w = c.w) (hfz : ∀ b, c.Fz b → c'.Fz b) (hi : ∀ id x, id < n → c.ι id = some x → c'.ι id = some x)
    (hfr : ∀ id blk x, n ≤ id → h id = some blk → c.ι id = some x → c'.Fz x.1) : ∀ {v : Value}, VR c u v → VR c' u' v := by
  induction hz with
  | keep u hu => exact fun hv => hv.relabel hu hw hfz hi
  | sl sz id off len lo ex b l' hid hb hle hl he ih =>
    intro v hv
    cases hv with
    | sl _ _ _ _ _ _ bb base cap hι hlen hlo hex hmax hroom a ha =>
      obtain ⟨bb', base', sz', arr, E, hB⟩ := hh.blk id b hb
      have hi' := hB.ι
      rw [hι] at hi'
      obtain ⟨rfl, rfl, rfl⟩ : bb = bb' ∧ base = base' ∧ sz = sz' := by simpa using hi'
      have at_ : ∀ (i : Nat) (e' : AV), l'[i]? = some e' → ∃ e, b[off + i]? = some e ∧ Frz n h e e' ∧ i < len := fun i e' hi => by
        have hlt := (List.getElem?_eq_some_iff.1 hi).1
        have hx : b[off + i]? = some (b[off + i]'(by omega)) := List.getElem?_eq_getElem (by omega)
        exact ⟨_, hx, he i _ _ hx hi, by omega⟩
      have cell : ∀ (i : Nat) (e' : AV) (j : Nat) (x' : AV), l'[i]? = some e' → e'.cells[j]? = some x' → ∃ e x y, b[off + i]? = some e ∧ e.cells[j]? = some x ∧ c.w.cell? (a.add (i * sz + j)) = some y ∧ VR c x y := fun i e' j x' hi hj => by
        obtain ⟨e, q1, q2, q3⟩ := at_ i e' hi
        have hjl : j < e.cells.length := by rw [← q2.cells.1]; exact (List.getElem?_eq_some_iff.1 hj).1
        obtain ⟨y, g1, g2⟩ := hB.cell _ _ _ _ q1 (List.getElem?_eq_getElem hjl)
        refine ⟨e, _, y, q1, List.getElem?_eq_getElem hjl, ?_, g2⟩
        have hc0 : cap ≠ 0 := by omega
        rw [ha hc0, add_off _ _ rfl]
        simp only [World.cell?, hB.heap]
        simp only [Option.isSome_none, Bool.false_eq_true, if_false]
        rw [← g1]
        congr 1
        rw [Nat.add_mul]; omega
      subst hl
      refine .ro sz _ l' a cap (fun i j => (c.w.cell? (a.add (i * sz + j))).getD Go.undef) (by omega) hmax (fun hq => ?_) (fun hne => ?_) (fun i e' hi => ?_) (fun i e' j x' hi hj => ?_) (fun i e' j x' hi hj => ?_) (fun i e' j x' hi hj => ?_)
      · simp only [Bool.and_eq_true, decide_eq_true_eq] at hq
        rw [hex hq.1, hq.2]
      · have : 0 < l'.length := by cases l' with | nil => exact absurd rfl hne | cons => simp
        rw [ha (by omega)]
        exact hfr id b _ hid hb hι
      · obtain ⟨e, q1, q2, _⟩ := at_ i e' hi
        rw [q2.cells.1]; exact hB.size _ _ q1
      · obtain ⟨e, q1, q2, _⟩ := at_ i e' hi
        obtain ⟨e2, x, y, g1, g2, _⟩ := cell i e' j x' hi hj
        rw [q1] at g1
        obtain rfl := Option.some.inj g1
        exact (q2.cells.2 j x x' g2 hj).one (hB.one _ _ _ _ q1 g2)
      · obtain ⟨e, x, y, g1, g2, g3, g4⟩ := cell i e' j x' hi hj
        rw [hw, g3]; rfl
      · obtain ⟨e, x, y, g1, g2, g3, g4⟩ := cell i e' j x' hi hj
        simp only [g3, Option.getD_some]
        have hE : ∀ {v : Value}, VR c e v → VR c' e' v := fun hv => ih i e e' g1 hi hv
        have q2 := he i e e' g1 hi
        have single : e.cells = [e] → e'.cells = [e'] → VR c' x' y := fun s1 s2 => by
          rw [s1] at g2
          rw [s2] at hj
          cases j with
          | zero =>
            simp only [List.getElem?_cons_zero, Option.some.injEq] at g2 hj
            subst g2; subst hj
            exact hE g4
          | succ j => simp at g2
        have many : ∀ cs, e = .agg cs → VR c' x' y := fun cs hcs => by
          have hall : ∀ (j : Nat) (u : AV), cs[j]? = some u → ∃ x, c.w.cell? (a.add (i * sz + j)) = some x ∧ VR c u x := fun j u hu => by
            have hl1 : j < e'.cells.length := by rw [q2.cells.1, hcs]; exact (List.getElem?_eq_some_iff.1 hu).1
            obtain ⟨e2, x2, y2, k1, k2, k3, k4⟩ := cell i e' j _ hi (List.getElem?_eq_getElem hl1)
            rw [g1] at k1
            obtain rfl := Option.some.inj k1
            rw [hcs] at k2
            have k2' : cs[j]? = some x2 := k2
            rw [hu] at k2'
            obtain rfl := Option.some.inj k2'
            exact ⟨y2, k3, k4⟩
          obtain ⟨vs, v1, v2, v3⟩ := vals_of (c := c) (us := cs) (q := fun j x => c.w.cell? (a.add (i * sz + j)) = some x) hall
          subst hcs
          have hvc : VR c (.agg cs) (.agg vs.toArray) := .agg _ _ (by simpa using v1) (fun x hx => by
            obtain ⟨j, hj, rfl⟩ := List.mem_iff_getElem.1 hx
            exact hB.one _ _ j _ g1 (List.getElem?_eq_getElem hj)) (fun j x y h1 h2 => v3 j x y h1 (by simpa using h2))
          have hfin := hE hvc
          obtain ⟨cs', rfl⟩ : ∃ cs', e' = .agg cs' := by cases q2 <;> exact ⟨_, rfl⟩
          cases hfin with
          | agg _ _ _ _ hv' =>
            have hjl : j < vs.length := by rw [v1]; exact (List.getElem?_eq_some_iff.1 g2).1
            have hvj := List.getElem?_eq_getElem hjl
            have hq := v2 j _ hvj
            rw [g3] at hq
            have hy : vs[j] = y := (Option.some.inj hq).symm
            exact hv' j x' y hj (by rw [List.getElem?_toArray, hvj, hy])
        cases e with
        | agg cs => exact many cs rfl
        | _ =>
          refine single rfl ?_
          cases q2 <;> rfl
  | agg cs cs' hl he ih =>
    intro v hv
    cases hv with
    | agg _ vs hs hone hv =>
      refine .agg _ vs (by omega) (fun x hx => ?_) (fun i x y hx hy => ?_)
      · obtain ⟨i, hi, rfl⟩ := List.mem_iff_getElem.1 hx
        have h1 : cs[i]? = some (cs[i]'(by omega)) := List.getElem?_eq_getElem (by omega)
        exact (he i _ _ h1 (List.getElem?_eq_getElem hi)).one (hone _ (List.getElem_mem _))
      · have hlt := (List.getElem?_eq_some_iff.1 hx).1
        have h1 : cs[i]? = some (cs[i]'(by omega)) := List.getElem?_eq_getElem (by omega)
        exact ih i _ _ h1 hx (hv i _ _ h1 hy)
  | tup cs cs' hl he ih =>
    intro v hv
    cases hv with
    | tup _ vs hs hv =>
      refine .tup _ vs (by omega) (fun i x y hx hy => ?_)
      have hlt := (List.getElem?_eq_some_iff.1 hx).1
      have h1 : cs[i]? = some (cs[i]'(by omega)) := List.getElem?_eq_getElem (by omega)
      exact ih i _ _ h1 hx (hv i _ _ h1 hy)
structure Left (n : Nat) (h h' h'' : Heap) : Prop where
  sub : ∀ id b, h'' id = some b → id < n ∧ h' id = some b
  lt : ∀ id b, h'' id = some b → h id = some b ∨ ∀ e, e ∈ b → ∀ u, u ∈ e.cells → u.Lt n
theorem left_blk (hc : HR c h) (hfc : Fresh c n) (hh : HR c' h') {f : Nat → Option (Nat × Nat × Nat)} (hl : Left n h h' h'') {Z : Nat → Prop} (hz : ∀ b, c'.Fz b → Z b) (hi : ∀ id x, id < n → c'.ι id = some x → f id = some x)
    (hnz : ∀ id b bb base sz arr E, h'' id = some b → BlkR c' id b bb base sz arr E → ¬ Z bb) (id : Nat) (b : List AV) (hb : h'' id = some b) : ∃ bb base sz arr E, BlkR ⟨f, Z, c'.w⟩ id b bb base sz arr E := by
  obtain ⟨h1, h2⟩ := hl.sub id b hb
  obtain ⟨bb, base, sz, arr, E, hB⟩ := hh.blk id b h2
  refine ⟨bb, base, sz, arr, E, hi _ _ h1 hB.ι, hB.heap, hnz _ _ _ _ _ _ _ hb hB, hB.size, hB.one, fun i e j u a1 a2 => ?_⟩
  obtain ⟨v, q1, q2⟩ := hB.cell i e j u a1 a2
  have hlt : u.Lt n := by
    rcases hl.lt id b hb with hq | hq
    · obtain ⟨_, _, _, _, _, hB0⟩ := hc.blk id b hq
      obtain ⟨v0, _, q0⟩ := hB0.cell i e j u a1 a2
      exact q0.lt hfc
    · exact hq e (List.mem_of_getElem? a1) u (List.mem_of_getElem? a2)
  exact ⟨v, q1, q2.relabel hlt rfl hz hi⟩
theorem PostR.freeze {w' : World} {r r' : AV} (hp : PostR c h n v w' r h' n') (hc : HR c h) (hfc : Fresh c n) (hf : Frz n h' r r') (hl : Left n h h' h'') : PostR c h n v w' r' h'' n := by
  obtain ⟨c', rfl, e, hh, hfr, hv, hn⟩ := hp
  let Z : Nat → Prop := fun b => c'.Fz b ∨ ∃ id blk x, n ≤ id ∧ h' id = some blk ∧ c'.ι id = some x ∧ x.1 = b
  let f : Nat → Option (Nat × Nat × Nat) := fun id => if id < n then c'.ι id else none
  have hi : ∀ id x, id < n → c'.ι id = some x → f id = some x := fun id x h1 h2 => by simp only [f]; rw [if_pos h1]; exact h2
  have fi : ∀ id x, f id = some x → id < n ∧ c'.ι id = some x := fun id x hx => by
    simp only [f] at hx
    split at hx
    · exact ⟨by assumption, hx⟩
    · cases hx
  have hz : ∀ b, c'.Fz b → Z b := fun b hb => .inl hb
  refine ⟨⟨f, Z, c'.w⟩, rfl, ⟨e.os, e.tape, e.output, e.size, fun id x hx => ?_, fun id x hx => ?_, fun b hb => .inl (e.fz b hb), e.shape, e.frame, fun id blk x h1 h2 => ?_, fun b hb => ?_⟩, ⟨fun id blk hb => ?_, fun i j bi bj x y h1 h2 h3 h4 h5 => ?_, fun b hb => ?_⟩, fun id hid => ?_, ?_, Nat.le_refl _⟩
  · refine hi id x ?_ (e.ι id x hx)
    rcases Nat.lt_or_ge id n with h1 | h1
    · exact h1
    · rw [hfc id h1] at hx; cases hx
  · obtain ⟨h1, h2⟩ := fi id x hx
    rcases e.dom id x h2 with h3 | h3
    · exact .inl h3
    · omega
  · exact e.own id blk x (hl.sub id blk h1).2 (fi id x h2).2
  · rcases hb with hb | ⟨id, blk, x, h1, h2, h3, rfl⟩
    · exact e.fzb b hb
    · exact .inr (e.own id blk x h2 h3)
  · refine left_blk hc hfc hh hl hz hi (fun id b bb base sz arr E h1 hB => ?_) id blk hb
    obtain ⟨g1, g2⟩ := hl.sub id b h1
    rintro (hq | ⟨id2, blk2, x2, k1, k2, k3, k4⟩)
    · exact hB.nfz hq
    · have := hh.inj id id2 b blk2 _ _ g2 k2 hB.ι k3 k4.symm
      omega
  · exact hh.inj i j bi bj x y (hl.sub i bi h1).2 (hl.sub j bj h2).2 (fi i x h3).2 (fi j y h4).2 h5
  · rcases hb with hb | ⟨id, blk, x, h1, h2, h3, rfl⟩
    · exact hh.fzlt b hb
    · obtain ⟨bb, base, sz, arr, E, hB⟩ := hh.blk id blk h2
      rw [hB.ι] at h3
      obtain rfl := Option.some.inj h3
      exact heap_lt hB.heap
  · show f id = none
    simp only [f]
    rw [if_neg (by omega)]
  · exact Frz.rel (c := c') (c' := ⟨f, Z, c'.w⟩) hf hh rfl hz hi (fun id blk x h1 h2 h3 => .inr ⟨id, blk, x, h1, h2, h3, rfl⟩) hv
theorem PostR.keep {w' : World} {r : AV} (hp : PostR c h n v w' r h' n') (hs : ∀ id b, h'' id = some b → h' id = some b) : PostR c h n v w' r h'' n' := by
  obtain ⟨c', rfl, e, hh, hfr, hv, hn⟩ := hp
  exact ⟨c', rfl, e.sub hs, hh.sub hs, hfr, hv, hn⟩
theorem PostR.own {w' : World} {sz k off len lo : Nat} {ex : Bool} (hp : PostR c h n v w' (.sl sz k off len lo ex) h' n') (hc : HR c h) (hfc : Fresh c n) (hk : n ≤ k) {b b' : List AV} (hb : h' k = some b) (hbl : b'.length = b.length)
    (hf : ∀ (i : Nat) (e e' : AV), b[i]? = some e → b'[i]? = some e' → Frz n (h'.del k) e e') (hl : Left n h h' h'') : PostR c h n v w' (.sl sz n off len lo ex) (h''.upd n b') (n + 1) := by
  obtain ⟨c', rfl, e, hh, hfr, hv, hn⟩ := hp
  let Z : Nat → Prop := fun b => c'.Fz b ∨ ∃ id blk x, n ≤ id ∧ id ≠ k ∧ h' id = some blk ∧ c'.ι id = some x ∧ x.1 = b
  let f : Nat → Option (Nat × Nat × Nat) := fun id => if id < n then c'.ι id else if id = n then c'.ι k else none
  have hi : ∀ id x, id < n → c'.ι id = some x → f id = some x := fun id x h1 h2 => by simp only [f]; rw [if_pos h1]; exact h2
  have fn' : f n = c'.ι k := by simp [f]
  have fi : ∀ id x, f id = some x → (id < n ∧ c'.ι id = some x) ∨ (id = n ∧ c'.ι k = some x) := fun id x hx => by
    simp only [f] at hx
    split at hx
    · exact .inl ⟨by assumption, hx⟩
    · split at hx
      · exact .inr ⟨by assumption, hx⟩
      · cases hx
  have hz : ∀ b, c'.Fz b → Z b := fun b hb => .inl hb
  have lt_ne : ∀ id b, h'' id = some b → id ≠ n := fun id b hb => by have := (hl.sub id b hb).1; omega
  have get : ∀ id b2, (h''.upd n b') id = some b2 → (id = n ∧ b2 = b') ∨ (id < n ∧ h'' id = some b2 ∧ h' id = some b2) := fun id b2 hb2 => by
    by_cases hid : id = n
    · subst hid; rw [Heap.upd_same] at hb2; exact .inl ⟨rfl, (Option.some.inj hb2).symm⟩
    · rw [Heap.upd_ne _ _ hid] at hb2; exact .inr ⟨(hl.sub id b2 hb2).1, hb2, (hl.sub id b2 hb2).2⟩
  obtain ⟨bb, base, sz0, arr, E, hB⟩ := hh.blk k b hb
  have hdel : HR c' (h'.del k) := hh.sub fun id b2 hb2 => by
    unfold Heap.del at hb2
    split at hb2
    · cases hb2
    · exact hb2
  have dele : ∀ id blk, (h'.del k) id = some blk → id ≠ k ∧ h' id = some blk := fun id blk hb2 => by
    unfold Heap.del at hb2
    split at hb2
    · cases hb2
    · exact ⟨by assumption, hb2⟩
  refine ⟨⟨f, Z, c'.w⟩, rfl, ⟨e.os, e.tape, e.output, e.size, fun id x hx => ?_, fun id x hx => ?_, fun b hb => .inl (e.fz b hb), e.shape, e.frame, fun id blk x h1 h2 => ?_, fun b hb => ?_⟩, ⟨fun id blk hb2 => ?_, fun i j bi bj x y h1 h2 h3 h4 h5 => ?_, fun b hb => ?_⟩, fun id hid => ?_, ?_, by omega⟩
  · refine hi id x ?_ (e.ι id x hx)
    rcases Nat.lt_or_ge id n with h1 | h1
    · exact h1
    · rw [hfc id h1] at hx; cases hx
  · rcases fi id x hx with ⟨h1, h2⟩ | ⟨rfl, h2⟩
    · rcases e.dom id x h2 with h3 | h3
      · exact .inl h3
      · omega
    · exact .inr ⟨by omega, by omega⟩
  · rcases get id blk h1 with ⟨rfl, rfl⟩ | ⟨g1, g2, g3⟩
    · have h2' : f id = some x := h2
      rw [fn'] at h2'
      exact e.own k b x hb h2'
    · rcases fi id x h2 with ⟨_, k2⟩ | ⟨k1, _⟩
      · exact e.own id blk x g3 k2
      · omega
  · rcases hb with hb | ⟨id, blk, x, h1, _, h2, h3, rfl⟩
    · exact e.fzb b hb
    · exact .inr (e.own id blk x h2 h3)
  · rcases get id blk hb2 with ⟨rfl, rfl⟩ | ⟨g1, g2, g3⟩
    · refine ⟨bb, base, sz0, arr, E, (show f id = _ by rw [fn']; exact hB.ι), hB.heap, ?_, fun i x hx => ?_, fun i x j u hx hu => ?_, fun i x j u hx hu => ?_⟩
      · rintro (hq | ⟨id2, blk2, x2, k1, k2, k3, k4, k5⟩)
        · exact hB.nfz hq
        · exact k2 (hh.inj id2 k blk2 b _ _ k3 hb k4 hB.ι k5)
      all_goals
        have hlt := (List.getElem?_eq_some_iff.1 hx).1
        have hx0 : b[i]? = some (b[i]'(by omega)) := List.getElem?_eq_getElem (by omega)
        have hfe := hf i _ _ hx0 hx
        have hcl := hfe.cells
      · rw [hcl.1]; exact hB.size _ _ hx0
      · have hjl : j < (b[i]'(by omega)).cells.length := by rw [← hcl.1]; exact (List.getElem?_eq_some_iff.1 hu).1
        exact (hcl.2 j _ _ (List.getElem?_eq_getElem hjl) hu).one (hB.one _ _ _ _ hx0 (List.getElem?_eq_getElem hjl))
      · have hjl : j < (b[i]'(by omega)).cells.length := by rw [← hcl.1]; exact (List.getElem?_eq_some_iff.1 hu).1
        obtain ⟨v, q1, q2⟩ := hB.cell _ _ _ _ hx0 (List.getElem?_eq_getElem hjl)
        exact ⟨v, q1, Frz.rel (c := c') (c' := ⟨f, Z, c'.w⟩) (hcl.2 j _ _ (List.getElem?_eq_getElem hjl) hu) hdel rfl hz hi (fun id blk x h1 h2 h3 => .inr ⟨id, blk, x, h1, (dele id blk h2).1, (dele id blk h2).2, h3, rfl⟩) q2⟩
    · refine left_blk hc hfc hh hl hz hi (fun id b2 bb base sz arr E h1 hB2 => ?_) id blk g2
      obtain ⟨k1, k2⟩ := hl.sub id b2 h1
      rintro (hq | ⟨id2, blk2, x2, k1, k2', k3, k4, k5⟩)
      · exact hB2.nfz hq
      · have := hh.inj id id2 b2 blk2 _ _ k2 k3 hB2.ι k4 k5.symm
        omega
  · have key : ∀ id b2 x, (h''.upd n b') id = some b2 → f id = some x → ∃ id0 b0, h' id0 = some b0 ∧ c'.ι id0 = some x ∧ ((id = n ∧ id0 = k) ∨ (id < n ∧ id0 = id)) := fun id b2 x g0 k0 => by
      rcases get id b2 g0 with ⟨rfl, rfl⟩ | ⟨g1, g2, g3⟩
      · rw [fn'] at k0; exact ⟨k, b, hb, k0, .inl ⟨rfl, rfl⟩⟩
      · rcases fi id x k0 with ⟨_, k2⟩ | ⟨k1, _⟩
        · exact ⟨id, b2, g3, k2, .inr ⟨g1, rfl⟩⟩
        · omega
    obtain ⟨i0, b0, p1, p2, p3⟩ := key i bi x h1 h3
    obtain ⟨j0, b1, r1, r2, r3⟩ := key j bj y h2 h4
    have := hh.inj i0 j0 b0 b1 x y p1 r1 p2 r2 h5
    omega
  · rcases hb with hb | ⟨id, blk, x, h1, _, h2, h3, rfl⟩
    · exact hh.fzlt b hb
    · obtain ⟨bb, base, sz, arr, E, hB⟩ := hh.blk id blk h2
      rw [hB.ι] at h3
      obtain rfl := Option.some.inj h3
      exact heap_lt hB.heap
  · show f id = none
    simp only [f]
    rw [if_neg (by omega), if_neg (by omega)]
  · cases hv with
    | sl _ _ _ _ _ _ b1 base1 cap hι hlen hlo hex hmax hroom a ha => exact VR.sl (c := ⟨f, Z, c'.w⟩) sz n off len lo ex b1 base1 cap (fn'.trans hι) hlen hlo hex hmax hroom a ha
inductive Conv (n : Nat) (h : Heap) : AV → Heap → Nat → AV → Heap → Nat → Prop
  | keep (r h' n' h'') (hs : ∀ id b, h'' id = some b → h' id = some b) : Conv n h r h' n' r h'' n'
  | freeze (r h' n' r' h'') (hf : Frz n h' r r') (hl : Left n h h' h'') : Conv n h r h' n' r' h'' n
  | own (sz k off len lo ex h' n' b b' h'') (hk : n ≤ k) (hb : h' k = some b) (hbl : b'.length = b.length) (hf : ∀ (i : Nat) (e e' : AV), b[i]? = some e → b'[i]? = some e' → Frz n (h'.del k) e e') (hl : Left n h h' h'') :
      Conv n h (.sl sz k off len lo ex) h' n' (.sl sz n off len lo ex) (h''.upd n b') (n + 1)
theorem CA.conv {P : Program} {f : FuncId} {args : List AV} {K : AV → Heap → Nat → Prop} (hc : CA P f args h n fun r h' n' => ∃ r2 h2 n2, Conv n h r h' n' r2 h2 n2 ∧ K r2 h2 n2) : CA P f args h n K := by
  refine ⟨hc.1, fun c vals hh hf hs hv => Calls.mono (hc.2 c vals hh hf hs hv) fun e w' he => ?_⟩
  obtain ⟨v, r, h', n', rfl, hp, r2, h2, n2, hcv, hK⟩ := he
  refine ⟨v, r2, h2, n2, rfl, ?_, hK⟩
  cases hcv with
  | keep _ _ _ _ hs => exact hp.keep hs
  | freeze _ _ _ _ _ hf2 hl => exact hp.freeze hh hf hf2 hl
  | own _ _ _ _ _ _ _ _ _ _ _ hk hb hbl hf2 hl => exact hp.own hh hf hk hb hbl hf2 hl
theorem CA.mono {P : Program} {f : FuncId} {args : List AV} {K K' : AV → Heap → Nat → Prop} (hc : CA P f args h n K) (hk : ∀ r h' n', K r h' n' → K' r h' n') : CA P f args h n K' :=
  ⟨hc.1, fun c vals hh hf hs hv => Calls.mono (hc.2 c vals hh hf hs hv) fun _ _ ⟨v, r, h', n', q1, q2, q3⟩ => ⟨v, r, h', n', q1, q2, hk _ _ _ q3⟩⟩
end
end Go.Proofs.Ytcngfjmfgeckmaa
namespace Go.Proofs.Ytcngfjmfgeckmaa
open Go
section
variable {P : Program} {T : TE} {h : Heap} {n : Nat} {K K' : AV → Heap → Nat → Prop}
theorem binP_mono {op : BinOp} {t : TypeId} {x y : AV} {R R' : AV → Prop} (hk : ∀ r, R r → R' r) (hb : binP T op t x y R) : binP T op t x y R' := by
  unfold binP at hb ⊢
  split at hb
  all_goals first | exact hb.elim | exact hk _ hb | exact ⟨hb.1, hk _ hb.2⟩ | exact ⟨hb.1, hb.2.1, hk _ hb.2.2⟩ | (obtain ⟨fs, a1, a2, a3, r, a4, a5⟩ := hb; exact ⟨fs, a1, a2, a3, r, a4, hk _ a5⟩)
theorem unP_mono {op : UnOp} {x : AV} {R R' : AV → Prop} (hk : ∀ r, R r → R' r) (hb : unP op x R) : unP op x R' := by
  unfold unP at hb ⊢
  split at hb
  all_goals first | exact hb.elim | exact hk _ hb
theorem sliceP_mono {sz : Nat} {x : AV} {lo hi mx : Option AV} {R R' : AV → Prop} (hk : ∀ r, R r → R' r) (hb : sliceP sz x lo hi mx R) : sliceP sz x lo hi mx R' := by
  unfold sliceP at hb ⊢
  split at hb
  · exact ⟨hb.1, hb.2.1, hb.2.2.1, hk _ hb.2.2.2⟩
  · obtain ⟨a, i, j, m, b1, b2, b3, b4, b5, b6, b7⟩ := hb; exact ⟨a, i, j, m, b1, b2, b3, b4, b5, b6, hk _ b7⟩
  · obtain ⟨a, i, j, m, b1, b2, b3, b4, b5, b6, b7⟩ := hb; exact ⟨a, i, j, m, b1, b2, b3, b4, b5, b6, hk _ b7⟩
  · exact hb.elim
theorem buildP_mono {fs : List (Nat × TypeId)} {e : Operand → AV} : ∀ (ps : List (Nat × Operand)) (cells : List AV) {R R' : List AV → Prop}, (∀ r, R r → R' r) → buildP T fs cells e ps R → buildP T fs cells e ps R'
  | [], _, _, _, hk, hb => hk _ hb
  | (_, _) :: rest, _, _, _, hk, hb => by
    obtain ⟨p, a1, a2, a3, a4, a5, a6⟩ := hb
    exact ⟨p, a1, a2, a3, a4, a5, buildP_mono rest _ hk a6⟩
theorem ite_mono {c : Prop} [Decidable c] {A B A' B' : Prop} (ha : A → A') (hb : B → B') (h : if c then A else B) : if c then A' else B' := by
  split
  · rename_i hc; rw [if_pos hc] at h; exact ha h
  · rename_i hc; rw [if_neg hc] at h; exact hb h
theorem appendP_mono {e : TypeId} {x y : AV} (hk : ∀ r h' n', K r h' n' → K' r h' n') (hb : appendP T e x y h n K) : appendP T e x y h n K' := by
  obtain ⟨ys, a1, a2, hb⟩ := hb
  refine ⟨ys, a1, a2, ?_⟩
  split at hb
  · obtain ⟨b1, b2, b3⟩ := hb
    exact ⟨b1, b2, ite_mono (hk _ _ _) (hk _ _ _) b3⟩
  · obtain ⟨b0, b1, b2, b3⟩ := hb
    exact ⟨b0, b1, b2, ite_mono (hk _ _ _) (fun q => ⟨q.1, hk _ _ _ q.2⟩) b3⟩
  · obtain ⟨b0, b1, b2, b, b3, b4, b5⟩ := hb
    exact ⟨b0, b1, b2, b, b3, b4, ite_mono (hk _ _ _) (ite_mono (hk _ _ _) (hk _ _ _)) b5⟩
  · exact hb.elim
theorem builtinP_mono {b : Builtin} {ts : List TypeId} {xs : List AV} (hk : ∀ r h' n', K r h' n' → K' r h' n') (hb : builtinP T b ts xs h n K) : builtinP T b ts xs h n K' := by
  unfold builtinP at hb ⊢
  split at hb
  · exact ⟨hb.1, hk _ _ _ hb.2⟩
  · obtain ⟨e, l, a1, a2, a3⟩ := hb; exact ⟨e, l, a1, a2, hk _ _ _ a3⟩
  · obtain ⟨e, a1, a2, a3⟩ := hb; exact ⟨e, a1, a2, hk _ _ _ a3⟩
  · exact ⟨hb.1, hk _ _ _ hb.2⟩
  · exact ⟨hb.1, hk _ _ _ hb.2⟩
  · obtain ⟨a1, e, a2, a3⟩ := hb; exact ⟨a1, e, a2, appendP_mono hk a3⟩
  · rcases hb with ⟨e, a2, ys, a3, a4, a5⟩ | hb
    · refine .inl ⟨e, a2, ys, a3, a4, ?_⟩
      split at a5
      · exact hk _ _ _ a5
      · obtain ⟨b0, b, b1, b2, b3⟩ := a5; exact ⟨b0, b, b1, b2, hk _ _ _ b3⟩
      · exact a5.elim
    · obtain ⟨e, id, off, len, lo, ex, id2, off2, len2, lo2, ex2, b, b2, c1, c2, c3, c4, c5, c6, c7, c8, c9⟩ := hb
      exact .inr ⟨e, id, off, len, lo, ex, id2, off2, len2, lo2, ex2, b, b2, c1, c2, c3, c4, c5, c6, c7, c8, hk _ _ _ c9⟩
  · obtain ⟨e, a2, a4, a5⟩ := hb
    refine ⟨e, a2, a4, ?_⟩
    split at a5
    · exact hk _ _ _ a5
    · obtain ⟨b0, b, b1, b2, b3⟩ := a5; exact ⟨b0, b, b1, b2, hk _ _ _ b3⟩
    · exact a5.elim
  · exact hb.elim
theorem opP_mono {op : Op} {e : Operand → AV} (hk : ∀ r h' n', K r h' n' → K' r h' n') (ho : opP T op e h n K) : opP T op e h n K' := by
  cases op <;> simp only [opP] at ho ⊢
  all_goals first | exact ho.elim | exact hk _ _ _ ho | skip
  case pick => obtain ⟨t, a1, a2⟩ := ho; exact ⟨t, a1, hk _ _ _ a2⟩
  case alloc => exact ⟨ho.1, hk _ _ _ ho.2⟩
  case box => obtain ⟨a1, a2, a3, a4⟩ := ho; exact ⟨a1, a2, a3, hk _ _ _ a4⟩
  case build => obtain ⟨fs, a1, a2, a3, a4⟩ := ho; exact ⟨fs, a1, a2, a3, buildP_mono _ _ (fun r => hk _ _ _) a4⟩
  case buildSlice => obtain ⟨e, a1, a2, a3, a4, a5, a6⟩ := ho; exact ⟨e, a1, a2, a3, a4, a5, hk _ _ _ a6⟩
  case load => obtain ⟨sz, s, i, off, l, e, v, a1, a2, a3, a4, a5, a6⟩ := ho; exact ⟨sz, s, i, off, l, e, v, a1, a2, a3, a4, a5, hk _ _ _ a6⟩
  case store => obtain ⟨sz, id, o, len, lo, ex, i, off, b, e, a1, a2, a3, a4, a5, a6, a7, a8⟩ := ho; exact ⟨sz, id, o, len, lo, ex, i, off, b, e, a1, a2, a3, a4, a5, a6, a7, hk _ _ _ a8⟩
  case nilCheck =>
    split at ho
    · exact hk _ _ _ ho
    · exact hk _ _ _ ho
    · exact ho.elim
  case binOp => exact binP_mono (fun r => hk _ _ _) ho
  case unOp => exact unP_mono (fun r => hk _ _ _) ho
  case convert =>
    split at ho
    · exact ⟨ho.1, hk _ _ _ ho.2⟩
    · obtain ⟨e, ns, a1, a2, a3, a4⟩ := ho; exact ⟨e, ns, a1, a2, a3, hk _ _ _ a4⟩
    · exact ho.elim
  case makeFunc f first cap =>
    cases f <;> simp only at ho ⊢
    case func => exact ⟨ho.1, hk _ _ _ ho.2⟩
    all_goals exact ho.elim
  case makeSlice => obtain ⟨e, k1, k2, a, b, a1, a2, a3, a4, a5, a6, a7, a8, a9⟩ := ho; exact ⟨e, k1, k2, a, b, a1, a2, a3, a4, a5, a6, a7, a8, hk _ _ _ a9⟩
  case slice =>
    split at ho
    · obtain ⟨a1, a2, i, j, a3, a4, a5, a6, a7⟩ := ho; exact ⟨a1, a2, i, j, a3, a4, a5, a6, hk _ _ _ a7⟩
    · obtain ⟨e, a1, a2, a3, a4⟩ := ho; exact ⟨e, a1, a2, a3, sliceP_mono (fun r => hk _ _ _) a4⟩
  case fieldAddr => obtain ⟨sz, b, i, off, fs, p, a1, a2, a3, a4, a5⟩ := ho; exact ⟨sz, b, i, off, fs, p, a1, a2, a3, a4, hk _ _ _ a5⟩
  case field => obtain ⟨fs, p, cs, v, a1, a2, a3, a4, a5, a6⟩ := ho; exact ⟨fs, p, cs, v, a1, a2, a3, a4, a5, hk _ _ _ a6⟩
  case indexAddr => obtain ⟨e, l, k, i, a1, a2, a3, a4, a5, a6, a7⟩ := ho; exact ⟨e, l, k, i, a1, a2, a3, a4, a5, a6, hk _ _ _ a7⟩
  case index => obtain ⟨s, k, i, a1, a2, a3, a4, a5, a6⟩ := ho; exact ⟨s, k, i, a1, a2, a3, a4, a5, hk _ _ _ a6⟩
  case extract => obtain ⟨vs, r, a1, a2, a3⟩ := ho; exact ⟨vs, r, a1, a2, hk _ _ _ a3⟩
  case call =>
    split at ho
    · exact builtinP_mono hk ho
    · exact ho.elim
def quietOp : Op → Bool
  | .move _ | .assign _ | .pick _ _ _ | .build _ _ | .load _ _ | .nilCheck _ | .binOp _ _ _ _ _ | .unOp _ _ _ | .convert _ _ _ | .makeFunc _ _ _ | .slice _ _ _ _ _ | .fieldAddr _ _ _ | .field _ _ _ | .indexAddr _ _ _ | .index _ _ _ | .extract _ _ => true
  | .call c => match c.callee with
    | .builtin .len | .builtin .cap | .builtin .min | .builtin .max => true
    | _ => false
  | _ => false
def Heap.Sub (a b : Heap) : Prop := ∀ id x, a id = some x → b id = some x
theorem Heap.Sub.refl (a : Heap) : a.Sub a := fun _ _ h => h
theorem Heap.Sub.emp (a : Heap) : Heap.emp.Sub a := fun _ _ h => by cases h
theorem rdSl_sub {a b : Heap} (hs : a.Sub b) {sz : Nat} {x : AV} {l : List AV} (hr : rdSl a sz x = some l) : rdSl b sz x = some l := by
  unfold rdSl at hr ⊢
  split at hr
  · exact hr
  · exact hr
  · split at hr
    · split at hr
      · rename_i hb; rw [hs _ _ hb]; simp only; rw [if_pos (by assumption)]; exact hr
      · cases hr
    · cases hr
  · cases hr
theorem binP_det {op : BinOp} {t : TypeId} {x y : AV} {R : AV → Prop} (hb : binP T op t x y R) : ∃ v, R v ∧ ∀ R' : AV → Prop, R' v → binP T op t x y R' := by
  unfold binP at hb ⊢
  split at hb
  all_goals first | exact hb.elim | exact ⟨_, hb, fun R' hq => hq⟩ | exact ⟨_, hb.2, fun R' hq => ⟨hb.1, hq⟩⟩ | exact ⟨_, hb.2.2, fun R' hq => ⟨hb.1, hb.2.1, hq⟩⟩ | (obtain ⟨fs, a1, a2, a3, r, a4, a5⟩ := hb; exact ⟨_, a5, fun R' hq => ⟨fs, a1, a2, a3, r, a4, hq⟩⟩)
theorem unP_det {op : UnOp} {x : AV} {R : AV → Prop} (hb : unP op x R) : ∃ v, R v ∧ ∀ R' : AV → Prop, R' v → unP op x R' := by
  unfold unP at hb ⊢
  split at hb
  all_goals first | exact hb.elim | exact ⟨_, hb, fun R' hq => hq⟩
theorem sliceP_det {sz : Nat} {x : AV} {lo hi mx : Option AV} {R : AV → Prop} (hb : sliceP sz x lo hi mx R) : ∃ v, R v ∧ ∀ R' : AV → Prop, R' v → sliceP sz x lo hi mx R' := by
  unfold sliceP at hb ⊢
  split at hb
  · exact ⟨_, hb.2.2.2, fun R' hq => ⟨hb.1, hb.2.1, hb.2.2.1, hq⟩⟩
  · obtain ⟨a, i, j, m, b1, b2, b3, b4, b5, b6, b7⟩ := hb; exact ⟨_, b7, fun R' hq => ⟨a, i, j, m, b1, b2, b3, b4, b5, b6, hq⟩⟩
  · obtain ⟨a, i, j, m, b1, b2, b3, b4, b5, b6, b7⟩ := hb; exact ⟨_, b7, fun R' hq => ⟨a, i, j, m, b1, b2, b3, b4, b5, b6, hq⟩⟩
  · exact hb.elim
theorem buildP_det {fs : List (Nat × TypeId)} {e : Operand → AV} : ∀ (ps : List (Nat × Operand)) (cells : List AV) {R : List AV → Prop}, buildP T fs cells e ps R → ∃ v, R v ∧ ∀ R' : List AV → Prop, R' v → buildP T fs cells e ps R'
  | [], _, _, hb => ⟨_, hb, fun R' hq => hq⟩
  | (_, _) :: rest, _, _, hb => by
    obtain ⟨p, a1, a2, a3, a4, a5, a6⟩ := hb
    obtain ⟨v, q1, q2⟩ := buildP_det rest _ a6
    exact ⟨v, q1, fun R' hq => ⟨p, a1, a2, a3, a4, a5, q2 R' hq⟩⟩
theorem quiet_det {op : Op} {e : Operand → AV} {hS : Heap} {Φ : AV → Prop} (hq : quietOp op = true) (ho : opP T op e hS n (fun r _ _ => Φ r)) :
    ∃ v, Φ v ∧ ∀ (h' : Heap) (n' : Nat) (K : AV → Heap → Nat → Prop), hS.Sub h' → K v h' n' → opP T op e h' n' K := by
  cases op <;> simp only [quietOp, Bool.false_eq_true] at hq <;> simp only [opP] at ho ⊢
  case move => exact ⟨_, ho, fun h' n' K hs hk => hk⟩
  case assign => exact ⟨_, ho, fun h' n' K hs hk => hk⟩
  case pick => obtain ⟨t, a1, a2⟩ := ho; exact ⟨_, a2, fun h' n' K hs hk => ⟨t, a1, hk⟩⟩
  case build =>
    obtain ⟨fs, a1, a2, a3, a4⟩ := ho
    obtain ⟨v, q1, q2⟩ := buildP_det _ _ a4
    exact ⟨_, q1, fun h' n' K hs hk => ⟨fs, a1, a2, a3, q2 _ hk⟩⟩
  case load => obtain ⟨sz, s, i, off, l, e, v, a1, a2, a3, a4, a5, a6⟩ := ho; exact ⟨_, a6, fun h' n' K hs hk => ⟨sz, s, i, off, l, e, v, a1, rdSl_sub hs a2, a3, a4, a5, hk⟩⟩
  case nilCheck =>
    split at ho
    · exact ⟨_, ho, fun h' n' K hs hk => hk⟩
    · exact ⟨_, ho, fun h' n' K hs hk => hk⟩
    · exact ho.elim
  case binOp => obtain ⟨v, q1, q2⟩ := binP_det ho; exact ⟨v, q1, fun h' n' K hs hk => q2 _ hk⟩
  case unOp => obtain ⟨v, q1, q2⟩ := unP_det ho; exact ⟨v, q1, fun h' n' K hs hk => q2 _ hk⟩
  case convert =>
    split at ho
    · exact ⟨_, ho.2, fun _ _ _ _ hk => ⟨ho.1, hk⟩⟩
    · obtain ⟨e, ns, a1, a2, a3, a4⟩ := ho; exact ⟨_, a4, fun _ _ _ hs hk => ⟨e, ns, a1, a2, rdSl_sub hs a3, hk⟩⟩
    · exact ho.elim
  case makeFunc f first cap =>
    cases f <;> simp only at ho ⊢
    case func => exact ⟨_, ho.2, fun h' n' K hs hk => ⟨ho.1, hk⟩⟩
    all_goals exact ho.elim
  case slice =>
    split at ho
    · obtain ⟨a1, a2, i, j, a3, a4, a5, a6, a7⟩ := ho; exact ⟨_, a7, fun h' n' K hs hk => ⟨a1, a2, i, j, a3, a4, a5, a6, hk⟩⟩
    · obtain ⟨e, a1, a2, a3, a4⟩ := ho
      obtain ⟨v, q1, q2⟩ := sliceP_det a4
      exact ⟨v, q1, fun h' n' K hs hk => ⟨e, a1, a2, a3, q2 _ hk⟩⟩
  case fieldAddr => obtain ⟨sz, b, i, off, fs, p, a1, a2, a3, a4, a5⟩ := ho; exact ⟨_, a5, fun h' n' K hs hk => ⟨sz, b, i, off, fs, p, a1, a2, a3, a4, hk⟩⟩
  case field => obtain ⟨fs, p, cs, v, a1, a2, a3, a4, a5, a6⟩ := ho; exact ⟨_, a6, fun h' n' K hs hk => ⟨fs, p, cs, v, a1, a2, a3, a4, a5, hk⟩⟩
  case indexAddr => obtain ⟨e, l, k, i, a1, a2, a3, a4, a5, a6, a7⟩ := ho; exact ⟨_, a7, fun h' n' K hs hk => ⟨e, l, k, i, a1, a2, rdSl_sub hs a3, a4, a5, a6, hk⟩⟩
  case index => obtain ⟨s, k, i, a1, a2, a3, a4, a5, a6⟩ := ho; exact ⟨_, a6, fun h' n' K hs hk => ⟨s, k, i, a1, a2, a3, a4, a5, hk⟩⟩
  case extract => obtain ⟨vs, r, a1, a2, a3⟩ := ho; exact ⟨_, a3, fun h' n' K hs hk => ⟨vs, r, a1, a2, hk⟩⟩
  case call c =>
    split at ho
    · rename_i b hc
      rw [hc] at hq
      cases b <;> simp only [Bool.false_eq_true] at hq <;> unfold builtinP at ho ⊢ <;> split at ho
      all_goals first | exact ho.elim | cases hq | skip
      all_goals first
        | exact ⟨_, ho.2, fun h' n' K hs hk => ⟨ho.1, hk⟩⟩
        | (obtain ⟨e, l, a1, a2, a3⟩ := ho; exact ⟨_, a3, fun h' n' K hs hk => ⟨e, l, a1, rdSl_sub hs a2, hk⟩⟩)
        | (obtain ⟨e, a1, a2, a3⟩ := ho; exact ⟨_, a3, fun h' n' K hs hk => ⟨e, a1, a2, hk⟩⟩)
        | simp_all
    · exact ho.elim
end
end Go.Proofs.Ytcngfjmfgeckmaa
namespace Go.Proofs.Ytcngfjmfgeckmaa
open Go
section
variable {P : Program} {T : TE} {N : Nat} {h : Heap} {n : Nat}
theorem buildP_congr {fs : List (Nat × TypeId)} {e e' : Operand → AV} : ∀ (ps : List (Nat × Operand)) (cells : List AV) {R : List AV → Prop}, (∀ p, p ∈ ps → e p.2 = e' p.2) → buildP T fs cells e ps R = buildP T fs cells e' ps R
  | [], _, _, _ => rfl
  | (i, x) :: rest, cells, R, hp => by
    simp only [buildP]
    rw [show e x = e' x from hp (i, x) (by simp)]
    congr 1; funext p
    rw [buildP_congr rest _ (fun p hpm => hp p (by simp [hpm]))]
theorem opP_congr {op : Op} {e e' : Operand → AV} {K : AV → Heap → Nat → Prop} (he : ∀ x, x ∈ op.operands → e x = e' x) : opP T op e h n K = opP T op e' h n K := by
  cases op <;> simp only [Op.operands] at he <;> simp only [opP]
  case build t ps =>
    have hp : ∀ p, p ∈ ps.toList → e p.2 = e' p.2 := fun p hp => he p.2 (by simp; exact ⟨p.1, by simpa using hp⟩)
    have hb : ∀ fs cells (R : List AV → Prop), buildP T fs cells e ps.toList R = buildP T fs cells e' ps.toList R := fun fs cells R => buildP_congr _ _ hp
    simp only [hb]
  case buildSlice t m ps =>
    have hp : ∀ p, p ∈ ps.toList → e p.2 = e' p.2 := fun p hp => he p.2 (by simp; exact ⟨p.1, by simpa using hp⟩)
    have hmap : (ps.toList.map fun p => e p.2) = (ps.toList.map fun p => e' p.2) := List.map_congr_left hp
    have hall : (∀ p, p ∈ ps.toList → (e p.2).cells.length = (T t).sz ∧ (e p.2).good = true) ↔ (∀ p, p ∈ ps.toList → (e' p.2).cells.length = (T t).sz ∧ (e' p.2).good = true) :=
      ⟨fun q p hpm => by rw [← hp p hpm]; exact q p hpm, fun q p hpm => by rw [hp p hpm]; exact q p hpm⟩
    congr 1; funext el
    have hall' : (∀ p, p ∈ ps.toList → (e p.2).cells.length = (T el).sz ∧ (e p.2).good = true) = (∀ p, p ∈ ps.toList → (e' p.2).cells.length = (T el).sz ∧ (e' p.2).good = true) :=
      propext ⟨fun q p hpm => by rw [← hp p hpm]; exact q p hpm, fun q p hpm => by rw [hp p hpm]; exact q p hpm⟩
    rw [hmap, hall']
  case makeFunc f first cap =>
    cases f <;> simp only
    case func =>
      have hmap : cap.toList.map e = cap.toList.map e' := List.map_congr_left fun x hx => he x (by simp at hx ⊢; exact .inr hx)
      rw [hmap]
  case slice t x lo hi mx =>
    have hx : e x = e' x := he x (by simp)
    have hl : lo.map e = lo.map e' := by cases lo with
      | none => rfl
      | some y => simp [he y (by simp)]
    have hh : hi.map e = hi.map e' := by cases hi with
      | none => rfl
      | some y => simp [he y (by simp)]
    have hm : mx.map e = mx.map e' := by cases mx with
      | none => rfl
      | some y => simp [he y (by simp)]
    rw [hx, hl, hh, hm]
  case call c =>
    cases hc : c.callee <;> simp only
    case builtin b =>
      have hmap : c.args.toList.map e = c.args.toList.map e' := List.map_congr_left fun x hx => he x (by simp at hx; simp [Call.operands, hx])
      rw [hmap]
  all_goals first
    | rfl
    | (rw [he _ (by simp)]; done)
    | (rw [he _ (by simp), he _ (by simp)]; done)
    | simp_all
theorem callA_congr {o : Oper} {E E' : Env} {K : AV → Heap → Nat → Prop} (he : ∀ x, x ∈ o.op.operands → ev E x = ev E' x) : callA P T o E h n K = callA P T o E' h n K := by
  have hop := opP_congr (T := T) (h := h) (n := n) (K := K) he
  unfold callA
  split
  · rename_i c hc
    split
    · rename_i f hf
      rw [hc] at he
      have h1 : ev E f = ev E' f := he f (by simp [Op.operands, Call.operands, hf])
      have hmap : c.args.toList.map (ev E) = c.args.toList.map (ev E') := List.map_congr_left fun x hx => he x (by simp at hx; simp [Op.operands, Call.operands, hx])
      rw [h1, hmap]
    · exact hop
  · exact hop
theorem callA_mono {o : Oper} {E : Env} {K K' : AV → Heap → Nat → Prop} (hk : ∀ r h' n', K r h' n' → K' r h' n') (hc : callA P T o E h n K) : callA P T o E h n K' := by
  obtain ⟨dst, op, type, pos, after, guard⟩ := o
  cases op
  case call c =>
    unfold callA at hc ⊢
    simp only at hc ⊢
    cases hf : c.callee with
    | value f =>
      rw [hf] at hc
      simp only at hc ⊢
      cases hg : ev E f
      case fn g cap => rw [hg] at hc; exact hc.mono hk
      all_goals rw [hg] at hc; exact hc.elim
    | builtin b => rw [hf] at hc; exact opP_mono hk hc
    | invoke r m => rw [hf] at hc; exact opP_mono hk hc
  all_goals
    unfold callA at hc ⊢
    exact opP_mono hk hc
def Same (ops : Array Oper) (o : Oper) (E E' : Env) : Prop := ∀ t, t ∈ o.looksAt ops → E t = E' t
theorem Same.ev {ops : Array Oper} {o : Oper} {E E' : Env} (hs : Same ops o E E') : ∀ x, x ∈ o.op.operands → ev E x = ev E' x := fun x hx => by
  cases x with
  | tmp t => exact hs t (by
      unfold Oper.looksAt
      exact List.mem_append_left _ (List.mem_filterMap.2 ⟨.tmp t, by simpa using hx, rfl⟩))
  | _ => rfl
theorem Same.yield {ops : Array Oper} {o : Oper} {E E' : Env} (hs : Same ops o E E') {j : Nat} {want : Bool} (hg : o.guard = some (j, want)) : yieldA ops.toList E j = yieldA ops.toList E' j := by
  unfold yieldA
  rw [Array.getElem?_toList]
  cases hd : (ops[j]?).bind (·.dst) with
  | none => rfl
  | some d =>
    have h1 : E.get d = E'.get d := hs d (by
      unfold Oper.looksAt
      refine List.mem_append_right _ ?_
      rw [hg]
      simp only
      rw [hd]; simp)
    simp only [h1]
theorem stepA_mono {ops : List Oper} {o : Oper} {E : Env} {K K' : Env → Heap → Nat → Prop} (hk : ∀ r h' n', K (E.put o.dst r) h' n' → K' (E.put o.dst r) h' n') (hc : stepA P T ops o E h n K) : stepA P T ops o E h n K' := by
  unfold stepA at hc ⊢
  cases hg : o.guard with
  | none => rw [hg] at hc; exact callA_mono (fun r h' n' => hk r h' n') hc
  | some g =>
    obtain ⟨j, want⟩ := g
    rw [hg] at hc
    simp only at hc ⊢
    cases hy : yieldA ops E j with
    | none => rw [hy] at hc; exact hc.elim
    | some y => rw [hy] at hc; exact ite_mono (callA_mono fun r h' n' => hk r h' n') (hk _ _ _) hc
theorem stepA_same {ops : Array Oper} {o : Oper} {E E' : Env} (hs : Same ops o E E') {K K' : Env → Heap → Nat → Prop} (hk : ∀ r h' n', K (E.put o.dst r) h' n' → K' (E'.put o.dst r) h' n') (hc : stepA P T ops.toList o E h n K) : stepA P T ops.toList o E' h n K' := by
  unfold stepA at hc ⊢
  cases hg : o.guard with
  | none =>
    rw [hg] at hc
    simp only at hc ⊢
    rw [← callA_congr hs.ev]
    exact callA_mono (fun r h' n' => hk r h' n') hc
  | some g =>
    obtain ⟨j, want⟩ := g
    rw [hg] at hc
    simp only at hc ⊢
    rw [← hs.yield hg]
    cases hy : yieldA ops.toList E j with
    | none => rw [hy] at hc; exact hc.elim
    | some y =>
      rw [hy] at hc
      simp only at hc ⊢
      rw [← callA_congr hs.ev]
      exact ite_mono (callA_mono fun r h' n' => hk r h' n') (hk _ _ _) hc
theorem callA_quiet {o : Oper} {E : Env} {K : AV → Heap → Nat → Prop} (hq : quietOp o.op = true) : callA P T o E h n K = opP T o.op (ev E) h n K := by
  unfold callA
  split
  · rename_i c hc
    split
    · rename_i f hf
      rw [hc] at hq
      simp [quietOp, hf] at hq
    · rfl
  · rfl
theorem stepA_quiet {ops : Array Oper} {o : Oper} {E : Env} {hS : Heap} (hq : quietOp o.op = true) {Φ : Env → Prop} (hc : stepA P T ops.toList o E hS n (fun E' _ _ => Φ E')) :
    ∃ v, Φ (E.put o.dst v) ∧ ∀ (E2 : Env) (h' : Heap) (n' : Nat) (K : Env → Heap → Nat → Prop), Same ops o E E2 → hS.Sub h' → K (E2.put o.dst v) h' n' → stepA P T ops.toList o E2 h' n' K := by
  unfold stepA at hc
  cases hg : o.guard with
  | none =>
    rw [hg] at hc
    simp only at hc
    rw [callA_quiet hq] at hc
    obtain ⟨v, q1, q2⟩ := quiet_det (Φ := fun r => Φ (E.put o.dst r)) hq hc
    refine ⟨v, q1, fun E2 h' n' K hs hsub hk => ?_⟩
    unfold stepA
    rw [hg]
    simp only
    rw [callA_quiet hq, ← opP_congr hs.ev]
    exact q2 h' n' _ hsub hk
  | some g =>
    obtain ⟨j, want⟩ := g
    rw [hg] at hc
    simp only at hc
    cases hy : yieldA ops.toList E j with
    | none => rw [hy] at hc; exact hc.elim
    | some y =>
      rw [hy] at hc
      simp only at hc
      by_cases hyw : y = some want
      · rw [if_pos hyw, callA_quiet hq] at hc
        obtain ⟨v, q1, q2⟩ := quiet_det (Φ := fun r => Φ (E.put o.dst r)) hq hc
        refine ⟨v, q1, fun E2 h' n' K hs hsub hk => ?_⟩
        unfold stepA
        rw [hg]
        simp only
        rw [← hs.yield hg, hy]
        simp only
        rw [if_pos hyw, callA_quiet hq, ← opP_congr hs.ev]
        exact q2 h' n' _ hsub hk
      · rw [if_neg hyw] at hc
        refine ⟨_, hc, fun E2 h' n' K hs hsub hk => ?_⟩
        unfold stepA
        rw [hg]
        simp only
        rw [← hs.yield hg, hy]
        simp only
        rw [if_neg hyw]
        exact hk
theorem put_comm (E : Env) {x y : Option Tmp} (v u : AV) (hxy : ∀ d, x = some d → y ≠ some d) : (E.put x v).put y u = (E.put y u).put x v := by
  cases x with
  | none => rfl
  | some d =>
    cases y with
    | none => rfl
    | some e =>
      have hne : d ≠ e := fun he => hxy d rfl (he ▸ rfl)
      funext t
      simp only [Env.put]
      by_cases h1 : e = t
      · subst h1; simp [hne]
      · simp [h1]
def anyA (P : Program) (T : TE) (ops : Array Oper) (S : Array Bool → Heap → Prop) (K : Env → Heap → Nat → Prop) : Nat → Array Bool → Env → Heap → Nat → Prop
  | 0, listed, E, h, n => Region.ready .any ops listed = [] ∧ K E h n
  | fuel + 1, listed, E, h, n => (Region.ready .any ops listed = [] → K E h n) ∧
    ∀ i, i ∈ Region.ready .any ops listed → ∀ o, ops[i]? = some o → stepA P T ops.toList o E h n (fun E' h' n' => S (listed.setIfInBounds i true) h' ∧ anyA P T ops S K fuel (listed.setIfInBounds i true) E' h' n')
theorem anyA_sound (hT : TEOk P T) {ops : Array Oper} {S : Array Bool → Heap → Prop} {b : Base} {K : Env → Heap → Nat → Prop} {Q : Exit → Act → World → Prop} (hd : ∀ (i : Nat) o, ops[i]? = some o → dstIn N o = true) (hK : ∀ E' h' n' a' w', SR b N E' h' n' a' w' → K E' h' n' → Q .normal a' w') :
    ∀ (fuel : Nat) (listed : Array Bool) {E : Env} {h : Heap} {n : Nat} {a : Act} {w : World}, SR b N E h n a w → anyA P T ops S K fuel listed E h n → wpAny P .any ops Q fuel listed a w
  | 0, _, _, _, _, _, _, hs, hc => ⟨hc.1, hK _ _ _ _ _ hs hc.2⟩
  | fuel + 1, listed, E, h, n, a, w, hs, hc => ⟨fun hr => hK _ _ _ _ _ hs (hc.1 hr), fun i hi => by
      obtain ⟨_, o, ho, _⟩ := mem_ready.1 hi
      have hst := stepA_sound (next := wpAny P .any ops Q fuel (listed.setIfInBounds i true)) (Q := Q) hT (hd i o ho) hs (hc.2 i hi o ho) (fun E' h' n' a' w' q1 q2 => anyA_sound hT hd hK fuel _ q1 q2.2)
      unfold wpOp
      rw [ho]
      simp only
      split at hst
      · rename_i hw; rw [if_pos hw]; exact .inl hst
      · rename_i hw; rw [if_neg hw]; exact hst⟩
def Closed (ops : Array Oper) (listed : Array Bool) : Prop := ∀ (j : Nat) (o : Oper), ops[j]? = some o → listed.getD j true = true → ∀ e, e ∈ o.after → Region.binds .any e = true → listed.getD e.on false = true
def StandsBy (D : List Nat) (hS : Heap) (listed : Array Bool) (h : Heap) : Prop := (∀ j, j ∈ D → listed.getD j true = false) → hS.Sub h
theorem closed_set {ops : Array Oper} {listed : Array Bool} (hc : Closed ops listed) {i : Nat} (hi : i ∈ Region.ready .any ops listed) : Closed ops (listed.setIfInBounds i true) := fun j o hj hl e he hb => by
  obtain ⟨h0, oi, hoi, hall⟩ := mem_ready.1 hi
  by_cases hji : j = i
  · subst hji
    rw [hoi] at hj
    obtain rfl := Option.some.inj hj
    exact getD_set_true (hall e he hb)
  · rw [getD_set_ne true (Ne.symm hji)] at hl
    exact getD_set_true (hc j o hj hl e he hb)
theorem takeA {ops : Array Oper} {D : List Nat} {hS : Heap} {K : Env → Heap → Nat → Prop} {i : Nat} {oi : Oper} (hi : ops[i]? = some oi) (hiD : i ∉ D) {v : AV} {h1 : Heap}
    (hsub : ∀ listed h', Closed ops listed → listed.getD i true = false → StandsBy D hS listed h' → h1.Sub h') :
    ∀ (fuel : Nat) (listed : Array Bool) (E : Env) (h : Heap) (n : Nat), Closed ops listed →
      (∀ j oj, ops[j]? = some oj → j ≠ i → listed.getD j true = false → (∀ e, e ∈ oj.after → Region.binds .any e = true → e.on ≠ i) → oi.apart ops oj = true) →
      i ∈ Region.ready .any ops listed →
      (∀ (E2 : Env) (h' : Heap) (n' : Nat) (K : Env → Heap → Nat → Prop), Same ops oi E E2 → h1.Sub h' → K (E2.put oi.dst v) h' n' → stepA P T ops.toList oi E2 h' n' K) →
      StandsBy D hS listed h → anyA P T ops (StandsBy D hS) K fuel (listed.setIfInBounds i true) (E.put oi.dst v) h n → anyA P T ops (StandsBy D hS) K (fuel + 1) listed E h n := by
  have more : ∀ (listed : Array Bool) h', StandsBy D hS listed h' → StandsBy D hS (listed.setIfInBounds i true) h' := fun listed h' hs hD => hs fun j hj => by
    have := hD j hj
    have hne : i ≠ j := fun he => hiD (by rw [he]; exact hj)
    rwa [getD_set_ne true hne] at this
  intro fuel
  induction fuel with
  | zero =>
    intro listed E h n hcl _ hr hy hSb H
    refine ⟨fun h => (by rw [h] at hr; cases hr), fun j hj o ho => ?_⟩
    by_cases hji : j = i
    · subst hji
      rw [hi] at ho
      obtain rfl := Option.some.inj ho
      exact hy E h n _ (fun _ _ => rfl) (hsub listed h hcl (mem_ready.1 hr).1 hSb) ⟨more _ _ hSb, H⟩
    · have := ready_mono hj hji
      rw [H.1] at this
      cases this
  | succ fuel ih =>
    intro listed E h n hcl hfree hr hy hSb H
    refine ⟨fun h => (by rw [h] at hr; cases hr), fun j hj oj hoj => ?_⟩
    by_cases hji : j = i
    · subst hji
      rw [hi] at hoj
      obtain rfl := Option.some.inj hoj
      exact hy E h n _ (fun _ _ => rfl) (hsub listed h hcl (mem_ready.1 hr).1 hSb) ⟨more _ _ hSb, H⟩
    · have h2 := H.2 j (ready_mono hj hji) oj hoj
      obtain ⟨hjun, oj', hoj', hall⟩ := mem_ready.1 hj
      rw [hoj] at hoj'
      obtain rfl := Option.some.inj hoj'
      have hnot : ∀ e, e ∈ oj.after → Region.binds .any e = true → e.on ≠ i := fun e he hb heq => by
        have h1 := hall e he hb
        have h0 := (mem_ready.1 hr).1
        rw [heq] at h1
        rcases Nat.lt_or_ge i listed.size with h' | h'
        · simp [h'] at h0 h1; rw [h0] at h1; cases h1
        · simp [Array.getElem?_eq_none h'] at h1
      obtain ⟨a1, a2, a3⟩ := Oper.apart_spec (hfree j oj hoj hji hjun hnot)
      have same : Same ops oj (E.put oi.dst v) E := fun t ht => by
        cases hd : oi.dst with
        | none => rfl
        | some d =>
          have hne : d ≠ t := fun hq => a1 d hd (hq ▸ ht)
          simp [Env.put, hne]
      refine stepA_same same (fun r h' n' hk => ?_) h2
      obtain ⟨k1, k2⟩ := hk
      have hSj : StandsBy D hS (listed.setIfInBounds j true) h' := fun hD => k1 fun k hk => by
        have := hD k hk
        have hne : i ≠ k := fun he => hiD (by rw [he]; exact hk)
        by_cases hjk : j = k
        · subst hjk
          by_cases hs : j < listed.size
          · simp [hs] at this
          · simp [hs] at this
        · rw [getD_set_ne true hjk, getD_set_ne true hne]
          rwa [getD_set_ne true hjk] at this
      refine ⟨hSj, ?_⟩
      have keep : Same ops oi E (E.put oj.dst r) := fun t ht => by
        cases hd : oj.dst with
        | none => rfl
        | some d =>
          have hne : d ≠ t := fun hq => a3 d hd (hq ▸ ht)
          simp [Env.put, hne]
      refine ih (listed.setIfInBounds j true) (E.put oj.dst r) h' n' (closed_set hcl hj) (fun k ok hk hki hun hno => ?_) (ready_mono hr (Ne.symm hji)) (fun E2 h3 n3 K3 hs3 hsub3 hk3 => hy E2 h3 n3 K3 (fun t ht => (keep t ht).trans (hs3 t ht)) hsub3 hk3) hSj ?_
      · refine hfree k ok hk hki ?_ hno
        by_cases hjk : j = k
        · subst hjk; exact hjun
        · rw [getD_set_ne true hjk] at hun; exact hun
      · rw [put_comm _ _ _ (fun d hd => fun hq => a2 d hq hd)]
        rw [Array.setIfInBounds_comm _ _ hji]
        exact k2
end
end Go.Proofs.Ytcngfjmfgeckmaa
namespace Go.Proofs.Ytcngfjmfgeckmaa
open Go
section
variable {P : Program} {T : TE} {N : Nat} {h : Heap} {n : Nat}
def waitsFor (o : Oper) (i : Nat) : Bool := o.after.any fun e => Region.binds .any e && e.on == i
def planOk (ops : Array Oper) (D : List Nat) : List (Nat × Nat) → Array Bool → Bool
  | [], listed => (Region.ready .any ops listed).isEmpty
  | (i, k) :: rest, listed => (match ops[i]? with
    | none => false
    | some oi => if k = 2 then (Region.ready .any ops listed) == [i] else
        (Region.ready .any ops listed).contains i && quietOp oi.op && !D.contains i && (k == 0 || (k == 1 && D.all fun j => match ops[j]? with | none => false | some oj => waitsFor oj i)) &&
        (List.range ops.size).all fun j => j == i || listed.getD j true || (match ops[j]? with | none => true | some oj => waitsFor oj i || oi.apart ops oj)) &&
    planOk ops D rest (listed.setIfInBounds i true)
def planA (P : Program) (T : TE) (ops : Array Oper) (D : List Nat) (hS : Heap) (K : Env → Heap → Nat → Prop) : List (Nat × Nat) → Bool → Env → Heap → Nat → Prop
  | [], _, E, h, n => K E h n
  | (i, 0) :: rest, dirty, E, h, n => match ops[i]? with
    | some o => stepA P T ops.toList o E Heap.emp n (fun E' _ _ => planA P T ops D hS K rest dirty E' h n)
    | none => False
  | (i, 1) :: rest, dirty, E, h, n => match ops[i]? with
    | some o => stepA P T ops.toList o E hS n (fun E' _ _ => planA P T ops D hS K rest dirty E' h n)
    | none => False
  | (i, _) :: rest, dirty, E, h, n => match ops[i]? with
    | some o => if (dirty || D.contains i) = true then stepA P T ops.toList o E h n (fun E' h' n' => planA P T ops D hS K rest true E' h' n')
        else stepA P T ops.toList o E h n (fun E' h' n' => hS.Sub h' ∧ planA P T ops D hS K rest false E' h' n')
    | none => False
theorem planA_sound {ops : Array Oper} {D : List Nat} {hS : Heap} {K : Env → Heap → Nat → Prop} : ∀ (plan : List (Nat × Nat)) (listed : Array Bool) (dirty : Bool) (E : Env) (h : Heap) (n : Nat), planOk ops D plan listed = true → Closed ops listed → listed.size = ops.size →
    (dirty = true → ∃ j, j ∈ D ∧ listed.getD j true = true) → StandsBy D hS listed h → planA P T ops D hS K plan dirty E h n → anyA P T ops (StandsBy D hS) K plan.length listed E h n
  | [], listed, dirty, E, h, n, hp, hcl, hsz, hd, hS, hc => ⟨by simpa [planOk] using hp, hc⟩
  | (i, k) :: rest, listed, dirty, E, h, n, hp, hcl, hsz, hd, hSb, hc => by
    simp only [planOk, Bool.and_eq_true] at hp
    obtain ⟨hp1, hp2⟩ := hp
    cases hi : ops[i]? with
    | none => rw [hi] at hp1; cases hp1
    | some oi =>
      rw [hi] at hp1
      simp only at hp1
      have dirty' : dirty = true → ∃ j, j ∈ D ∧ (listed.setIfInBounds i true).getD j true = true := fun hq => by
        obtain ⟨j, hj, hl⟩ := hd hq
        refine ⟨j, hj, ?_⟩
        by_cases hij : i = j
        · subst hij
          by_cases hs : i < listed.size
          · simp [hs]
          · simp [hs]
        · rw [getD_set_ne true hij]; exact hl
      by_cases hk : k = 2
      · subst hk
        rw [if_pos rfl] at hp1
        have hr : Region.ready .any ops listed = [i] := by simpa using hp1
        have hir : i ∈ Region.ready .any ops listed := by rw [hr]; simp
        simp only [planA, hi] at hc
        refine ⟨fun h0 => (by rw [hr] at h0; cases h0), fun j hj o ho => ?_⟩
        rw [hr] at hj
        obtain rfl := List.mem_singleton.1 hj
        rw [hi] at ho
        obtain rfl := Option.some.inj ho
        have hjs : j < listed.size := by rw [hsz]; exact (Array.getElem?_eq_some_iff.1 hi).1
        split at hc
        · rename_i hdd
          have hdir : ∃ k, k ∈ D ∧ (listed.setIfInBounds j true).getD k true = true := by
            simp only [Bool.or_eq_true, List.contains_iff_mem] at hdd
            rcases hdd with hq | hq
            · exact dirty' hq
            · exact ⟨j, hq, by simp [hjs]⟩
          have hst : ∀ h', StandsBy D hS (listed.setIfInBounds j true) h' := fun h' hD => by
            obtain ⟨k, k1, k2⟩ := hdir
            rw [hD k k1] at k2; cases k2
          exact stepA_mono (fun r h' n' hk => ⟨hst h', planA_sound rest _ true _ h' n' hp2 (closed_set hcl hir) (by simpa using hsz) (fun _ => hdir) (hst h') hk⟩) hc
        · rename_i hdd
          have hdf : dirty = false := by cases dirty <;> simp_all
          exact stepA_mono (fun r h' n' hk => ⟨fun _ => hk.1, planA_sound rest _ false _ h' n' hp2 (closed_set hcl hir) (by simpa using hsz) (fun hq => by cases hq) (fun _ => hk.1) hk.2⟩) hc
      · rw [if_neg hk] at hp1
        simp only [Bool.and_eq_true, Bool.or_eq_true, List.all_eq_true, List.contains_iff_mem, Bool.not_eq_true', List.mem_range, beq_iff_eq] at hp1
        obtain ⟨⟨⟨⟨q1, q2⟩, q3⟩, q4⟩, q5⟩ := hp1
        have hiD : i ∉ D := by intro hq; simp [hq] at q3
        have wf : ∀ o j, waitsFor o j = true → ∃ e, e ∈ o.after ∧ Region.binds .any e = true ∧ e.on = j := fun o j hw => by
          unfold waitsFor at hw
          rw [Array.any_eq_true'] at hw
          obtain ⟨e, he, hb⟩ := hw
          simp only [Bool.and_eq_true, beq_iff_eq] at hb
          exact ⟨e, he, hb.1, hb.2⟩
        have hfree : ∀ j oj, ops[j]? = some oj → j ≠ i → listed.getD j true = false → (∀ e, e ∈ oj.after → Region.binds .any e = true → e.on ≠ i) → oi.apart ops oj = true := fun j oj hj hne hl hno => by
          have := q5 j (Array.getElem?_eq_some_iff.1 hj).1
          rw [hj] at this
          rcases this with (h1 | h1) | h1
          · exact absurd h1 hne
          · rw [hl] at h1; cases h1
          · simp only [Bool.or_eq_true] at h1
            rcases h1 with h1 | h1
            · obtain ⟨e, e1, e2, e3⟩ := wf _ _ h1
              exact absurd e3 (hno e e1 e2)
            · exact h1
        have more : StandsBy D hS (listed.setIfInBounds i true) h := fun hD => hSb fun j hj => by
          have := hD j hj
          have hne : i ≠ j := fun he => hiD (by rw [he]; exact hj)
          rwa [getD_set_ne true hne] at this
        have hk01 : ∃ h1 : Heap, (∀ listed h', Closed ops listed → listed.getD i true = false → StandsBy D hS listed h' → h1.Sub h') ∧ stepA P T ops.toList oi E h1 n (fun E' _ _ => planA P T ops D hS K rest dirty E' h n) := by
          match k, hk with
          | 0, _ => simp only [planA, hi] at hc; exact ⟨Heap.emp, fun _ h' _ _ _ => Heap.Sub.emp h', hc⟩
          | 1, _ =>
            simp only [planA, hi] at hc
            refine ⟨hS, fun listed' h' hcl' hl' hs => hs fun j hj => ?_, hc⟩
            rcases q4 with h0 | h0
            · cases h0
            · have := h0.2 j hj
              split at this
              · cases this
              · rename_i oj hoj
                obtain ⟨e, e1, e2, e3⟩ := wf _ _ this
                cases hlj : listed'.getD j true with
                | false => rfl
                | true =>
                  have h5 := hcl' j oj hoj hlj e e1 e2
                  rw [e3] at h5
                  rcases Nat.lt_or_ge i listed'.size with h' | h'
                  · simp [h'] at h5 hl'; rw [h5] at hl'; cases hl'
                  · simp [Array.getElem?_eq_none h'] at h5
          | k + 2, _ =>
            exfalso
            rcases q4 with h0 | h0
            · omega
            · have := h0.1
              omega
        obtain ⟨h1, hsub, hc1⟩ := hk01
        obtain ⟨v, v1, v2⟩ := stepA_quiet q2 hc1
        exact takeA hi hiD hsub rest.length listed E h n hcl hfree q1 v2 hSb (planA_sound rest _ dirty _ h n hp2 (closed_set hcl q1) (by simpa using hsz) dirty' more v1)
theorem WP.draw {Q : Exit → Env → Heap → Nat → Prop} {E : Env} (hT : TEOk P T) (hm : P.follows .mixedOrders = true) {id : Nat} {l : List Oper} (plan : List (Nat × Nat)) (D : List Nat) (hS : Heap) (hp : (plan.length == l.length && planOk l.toArray D plan (Array.replicate l.toArray.size false)) = true) (hd : l.all (dstIn N) = true)
    (hsub : hS.Sub h) (hc : (∀ id b, h id = some b → id < n) → planA P T l.toArray D hS (Q .normal) plan false E h n) : WP P N (.region id l.toArray true) Q E h n := fun b a w hs => by
  simp only [Bool.and_eq_true, beq_iff_eq] at hp
  obtain ⟨hp1, hp2⟩ := hp
  refine wp_region_any hm ?_
  have hlt : ∀ id b, h id = some b → id < n := fun id b hid => by
    obtain ⟨c, rfl, e0, hh, hf, _⟩ := hs
    obtain ⟨b', base, sz, arr, E, hB⟩ := hh.blk id b hid
    rcases Nat.lt_or_ge id n with h1 | h1
    · exact h1
    · have := hB.ι; rw [hf id h1] at this; cases this
  have hs' : SR b N E h n a { w with drawn := w.drawn + 1 } := by
    obtain ⟨c, rfl, e0, hh, hf, hn, hb, hdf, hN, ht⟩ := hs
    have hmv : ∀ {u v}, VR c u v → VR ⟨c.ι, c.Fz, { c.w with drawn := c.w.drawn + 1 }⟩ u v := fun k => by
      have e1 : Ext c h (fun _ => False) ⟨c.ι, c.Fz, { c.w with drawn := c.w.drawn + 1 }⟩ h :=
        ⟨rfl, rfl, rfl, Nat.le_refl _, fun _ _ h => h, fun _ _ h => .inl h, fun _ h => h, fun _ arr _ _ h => ⟨arr, h, rfl⟩, fun _ _ _ => rfl, fun id blk x hh hx => .inr ⟨id, blk, x, hh, hx, rfl⟩, fun _ h => .inl h⟩
      exact k.mono e1 hh
    have e1 : Ext c h (fun _ => False) ⟨c.ι, c.Fz, { c.w with drawn := c.w.drawn + 1 }⟩ h :=
      ⟨rfl, rfl, rfl, Nat.le_refl _, fun _ _ h => h, fun _ _ h => .inl h, fun _ h => h, fun _ arr _ _ h => ⟨arr, h, rfl⟩, fun _ _ _ => rfl, fun id blk x hh hx => .inr ⟨id, blk, x, hh, hx, rfl⟩, fun _ h => .inl h⟩
    refine ⟨⟨c.ι, c.Fz, { c.w with drawn := c.w.drawn + 1 }⟩, rfl, e0.trans e1 (fun i hi => hi) (fun i hi => hi.elim), ⟨fun id blk hb => ?_, hh.inj, hh.fzlt⟩, hf, hn, hb, hdf, hN, fun t => hmv (ht t)⟩
    obtain ⟨bb, base, sz, arr, E, hB⟩ := hh.blk id blk hb
    exact ⟨bb, base, sz, arr, E, hB.ι, hB.heap, hB.nfz, hB.size, hB.one, fun i e j u a1 a2 => by
      obtain ⟨v, q1, q2⟩ := hB.cell i e j u a1 a2
      exact ⟨v, q1, hmv q2⟩⟩
  have hany := planA_sound plan (Array.replicate l.toArray.size false) false E h n hp2 (fun j o hj hl => by
    have hlt : j < l.toArray.size := (Array.getElem?_eq_some_iff.1 hj).1
    simp at hlt
    simp [hlt] at hl) (by simp) (fun hq => by cases hq) (fun _ => hsub) (hc hlt)
  rw [hp1] at hany
  refine anyA_sound (N := N) (b := b) hT (fun i o ho => ?_) (fun E' h' n' a' w' q1 q2 => ⟨E', h', n', q1, q2⟩) _ _ hs' (by simpa using hany)
  exact List.all_eq_true.1 hd o (by simpa using Array.mem_of_getElem? ho)
end
end Go.Proofs.Ytcngfjmfgeckmaa
namespace Go.Proofs.Ytcngfjmfgeckmaa
open Go
structure TIOk (P : Program) (t : TypeId) (ti : TI) : Prop where
  tbool : ti.ty = .bool → P.underlying t = some .bool
  tint : ∀ k, ti.ty = .int k → P.underlying t = some (.int k)
  tstr : ti.ty = .str → P.underlying t = some .string
  tslice : ∀ e, ti.ty = .slice e → P.underlying t = some (.slice e)
  tstruct : ∀ fs, ti.ty = .struct fs → ∃ F : Array Field, P.underlying t = some (.struct F) ∧ F.toList.map (fun f => (f.offset, f.type)) = fs
  tptr : ti.ty = .ptr → ∃ e, P.underlying t = some (.pointer e)
  tfunc : ti.ty = .func → ∃ a b c, P.underlying t = some (.func a b c)
  info : 0 < ti.sz → ∃ i z, P.info? t = some i ∧ i.size = ti.sz ∧ i.bytes = ti.bytes ∧ i.zero = some z ∧ (∀ c, VR c ti.zero z) ∧ ti.zero.cells.length = ti.sz ∧ (∀ u, u ∈ ti.zero.cells → u.one = true)
  cmp : ∀ fs, ti.ty = .struct fs → ti.cmp = true → P.stoodInHeld t = false ∧ P.eqGuardType P.depth t = false ∧
    ∃ F : Array Field, P.underlying t = some (.struct F) ∧ F.toList.map (fun f => (f.offset, f.type)) = fs ∧ (∀ f, f ∈ F.toList → f.name ≠ "_") ∧ (∀ (i : Nat) (p : Nat × TypeId), fs[i]? = some p → p.1 = i)
def lookT : List (Nat × TI) → Nat → TI
  | [], _ => {}
  | (k, ti) :: r, t => if k = t then ti else lookT r t
section
variable {P : Program}
theorem TIOk.none (t : TypeId) : TIOk P t {} where
  tbool h := by cases h
  tint _ h := by cases h
  tstr h := by cases h
  tslice _ h := by cases h
  tstruct _ h := by cases h
  tptr h := by cases h
  tfunc h := by cases h
  info h := absurd h (Nat.lt_irrefl 0)
  cmp _ h := by cases h
theorem lookT_ok : ∀ (tab : List (Nat × TI)), (∀ p, p ∈ tab → TIOk P p.1 p.2) → ∀ t, TIOk P t (lookT tab t)
  | [], _, t => TIOk.none t
  | (k, ti) :: r, h, t => by
    unfold lookT
    split
    · rename_i hk; subst hk; exact h (k, ti) (by simp)
    · exact lookT_ok r (fun p hp => h p (by simp [hp])) t
theorem TEOk.of_tab (tab : List (Nat × TI)) (h : ∀ p, p ∈ tab → TIOk P p.1 p.2) : TEOk P (lookT tab) where
  tbool t := (lookT_ok tab h t).tbool
  tint t := (lookT_ok tab h t).tint
  tstr t := (lookT_ok tab h t).tstr
  tslice t := (lookT_ok tab h t).tslice
  tstruct t := (lookT_ok tab h t).tstruct
  tptr t := (lookT_ok tab h t).tptr
  tfunc t := (lookT_ok tab h t).tfunc
  info t := (lookT_ok tab h t).info
  cmp t := (lookT_ok tab h t).cmp
variable {t : TypeId} {i : TypeInfo} {b : Nat}
theorem info_one {z : Value} {u : AV} {ti : TI} (hi : P.info? t = some i) (h1 : i.size = 1) (hb : i.bytes = ti.bytes) (hz : i.zero = some z) (hv : ∀ c, VR c ti.zero z) (ho : ti.zero.one = true) (hs : ti.sz = 1) :
    ∃ i z, P.info? t = some i ∧ i.size = ti.sz ∧ i.bytes = ti.bytes ∧ i.zero = some z ∧ (∀ c, VR c ti.zero z) ∧ ti.zero.cells.length = ti.sz ∧ (∀ u, u ∈ ti.zero.cells → u.one = true) := by
  have hc : ti.zero.cells = [ti.zero] := by
    cases hq : ti.zero <;> first | rfl | (rw [hq] at ho; cases ho)
  exact ⟨i, z, hi, by rw [h1, hs], hb, hz, hv, by rw [hc, hs]; rfl, fun u hu => by rw [hc] at hu; rw [List.mem_singleton.1 hu]; exact ho⟩
theorem TIOk.bool (hu : P.underlying t = some .bool) (hi : P.info? t = some i) (h1 : i.size = 1) (hb : i.bytes = b) (hz : i.zero = some (.bool false)) : TIOk P t ⟨.bool, 1, b, .bool false, false⟩ where
  tbool _ := hu
  tint _ h := by cases h
  tstr h := by cases h
  tslice _ h := by cases h
  tstruct _ h := by cases h
  tptr h := by cases h
  tfunc h := by cases h
  info _ := info_one (u := .bool false) hi h1 hb hz (fun c => .bool _) rfl rfl
  cmp _ h := by cases h
theorem TIOk.int {k : IntKind} (hu : P.underlying t = some (.int k)) (hi : P.info? t = some i) (h1 : i.size = 1) (hb : i.bytes = b) (hz : i.zero = some (.int k 0)) : TIOk P t ⟨.int k, 1, b, .int k 0, false⟩ where
  tbool h := by cases h
  tint _ h := by cases h; exact hu
  tstr h := by cases h
  tslice _ h := by cases h
  tstruct _ h := by cases h
  tptr h := by cases h
  tfunc h := by cases h
  info _ := info_one (u := .int k 0) hi h1 hb hz (fun c => .int _ _) rfl rfl
  cmp _ h := by cases h
theorem TIOk.str {s : ByteArray} (hu : P.underlying t = some .string) (hi : P.info? t = some i) (h1 : i.size = 1) (hb : i.bytes = b) (hz : i.zero = some (.string s)) : TIOk P t ⟨.str, 1, b, .str s, false⟩ where
  tbool h := by cases h
  tint _ h := by cases h
  tstr _ := hu
  tslice _ h := by cases h
  tstruct _ h := by cases h
  tptr h := by cases h
  tfunc h := by cases h
  info _ := info_one (u := .str s) hi h1 hb hz (fun c => .str _) rfl rfl
  cmp _ h := by cases h
theorem TIOk.slice {e : TypeId} (hu : P.underlying t = some (.slice e)) (hi : P.info? t = some i) (h1 : i.size = 1) (hb : i.bytes = b) (hz : i.zero = some (.slice .none 0 0)) : TIOk P t ⟨.slice e, 1, b, .nils, false⟩ where
  tbool h := by cases h
  tint _ h := by cases h
  tstr h := by cases h
  tslice _ h := by cases h; exact hu
  tstruct _ h := by cases h
  tptr h := by cases h
  tfunc h := by cases h
  info _ := info_one (u := .nils) hi h1 hb hz (fun c => .nils) rfl rfl
  cmp _ h := by cases h
theorem TIOk.func {x : Array TypeId} {y : Array TypeId} {v : Bool} (hu : P.underlying t = some (.func x y v)) (hi : P.info? t = some i) (h1 : i.size = 1) (hb : i.bytes = b) (hz : i.zero = some .nilFunc) : TIOk P t ⟨.func, 1, b, .nilf, false⟩ where
  tbool h := by cases h
  tint _ h := by cases h
  tstr h := by cases h
  tslice _ h := by cases h
  tstruct _ h := by cases h
  tptr h := by cases h
  tfunc _ := ⟨x, y, v, hu⟩
  info _ := info_one (u := .nilf) hi h1 hb hz (fun c => .nilf) rfl rfl
  cmp _ h := by cases h
theorem TIOk.struct {F : Array Field} {fs : List (Nat × TypeId)} {vs : Array Value} {cs : List AV} {n : Nat} {cm : Bool} (hu : P.underlying t = some (.struct F)) (hF : F.toList.map (fun f => (f.offset, f.type)) = fs) (hi : P.info? t = some i) (h1 : i.size = n) (hb : i.bytes = b)
    (hz : i.zero = some (.agg vs)) (hcs : vs.toList.map ofVal = cs) (hone : cs.all AV.one = true) (hn : cs.length = n)
    (hcm : cm = true → P.stoodInHeld t = false ∧ P.eqGuardType P.depth t = false ∧ F.toList.all (fun f => decide (f.name ≠ "_")) = true ∧ (fs.zipIdx.all fun p => decide (p.1.1 = p.2)) = true) : TIOk P t ⟨.struct fs, n, b, .agg cs, cm⟩ where
  tbool h := by cases h
  tint _ h := by cases h
  tstr h := by cases h
  tslice _ h := by cases h
  tstruct _ h := by cases h; exact ⟨F, hu, hF⟩
  tptr h := by cases h
  tfunc h := by cases h
  info _ := by
    subst hcs
    refine ⟨i, _, hi, h1, hb, hz, fun c => ?_, hn, fun u hu => List.all_eq_true.1 hone u hu⟩
    refine .agg _ _ (by simp) (fun u hu => List.all_eq_true.1 hone u hu) (fun j u v hj hv => ?_)
    have hv' : vs.toList[j]? = some v := by simpa using hv
    rw [List.getElem?_map, hv'] at hj
    obtain rfl := Option.some.inj hj
    exact ofVal_ok c v
  cmp fs' h hc := by
    cases h
    obtain ⟨a1, a2, a3, a4⟩ := hcm hc
    refine ⟨a1, a2, F, hu, hF, fun f hf => by simpa using List.all_eq_true.1 a3 f hf, fun j p hj => ?_⟩
    have := List.all_eq_true.1 a4 (p, j) (by rw [List.mem_zipIdx_iff_getElem?]; simpa using hj)
    simpa using this
end
end Go.Proofs.Ytcngfjmfgeckmaa
