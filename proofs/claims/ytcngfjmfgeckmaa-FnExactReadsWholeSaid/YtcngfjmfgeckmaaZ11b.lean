import Derived.Laws.BytesString
import Derived.Orders
import Derived.Tactics
import Derived.Test.YtcngfjmfgeckmaaZ11a
set_option linter.unusedSimpArgs false
set_option linter.unusedVariables false
set_option linter.unusedSectionVars false
namespace Go.Proofs.Ytcngfjmfgeckmaa
open Go
section
variable {P : Program} {T : TE} {c : Cfg} {h : Heap} {n : Nat} {K : AV → Heap → Nat → Prop}
theorem splice_ok (hh : HR c h) {id : Nat} {b ys : List AV} (hb : h id = some b) {bb bs sz p : Nat} {arr : Array Value} {E : TypeId} (hB : BlkR c id b bb bs sz arr E) (hpos : 0 < sz) (hle : p + ys.length ≤ b.length)
    {news : List Value} (ln : news.length = ys.length * sz) (n1 : ∀ x ∈ news, x.oneCell' = true)
    (rn : ∀ (i : Nat) (e : AV) (j : Nat) (u : AV), ys[i]? = some e → e.cells[j]? = some u → ∃ x, news[i * sz + j]? = some x ∧ VR c u x)
    (sy : ∀ (i : Nat) (e : AV), ys[i]? = some e → e.cells.length = sz) (oy : ∀ (i : Nat) (e : AV) (j : Nat) (u : AV), ys[i]? = some e → e.cells[j]? = some u → u.one = true) :
    ∃ w', (storeCells ⟨bb, bs + p * sz, none⟩ news).run P c.w = .ok () w' ∧ Ext c h (fun _ => False) ⟨c.ι, c.Fz, w'⟩ (h.upd id (b.take p ++ ys ++ b.drop (p + ys.length))) ∧
      HR ⟨c.ι, c.Fz, w'⟩ (h.upd id (b.take p ++ ys ++ b.drop (p + ys.length))) := by
  by_cases hy : ys = []
  · subst hy
    have hnil : news = [] := List.eq_nil_of_length_eq_zero (by simpa using ln)
    subst hnil
    have hsame : h.upd id (b.take p ++ [] ++ b.drop (p + ([] : List AV).length)) = h := by
      funext q
      unfold Heap.upd
      split
      · rename_i hq; subst hq; simp [hb]
      · rfl
    rw [hsame]
    exact ⟨c.w, by simp [storeCells], Ext.refl _ _ _, hh⟩
  have hl : 0 < ys.length := by cases ys with | nil => exact absurd rfl hy | cons => simp
  have hfit : bs + p * sz + news.length ≤ arr.size := by
    have hlt : p + ys.length - 1 < b.length := by omega
    have he := List.getElem?_eq_getElem hlt
    have hc := hB.size _ _ he
    have hj : sz - 1 < (b[p + ys.length - 1]).cells.length := by omega
    obtain ⟨v, q1, _⟩ := hB.cell _ _ _ _ he (List.getElem?_eq_getElem hj)
    have := (Array.getElem?_eq_some_iff.1 q1).1
    have e1 : (p + ys.length - 1) * sz + sz = p * sz + ys.length * sz := by rw [← Nat.add_mul, ← Nat.succ_mul]; congr 1; omega
    omega
  have hst := run_storeCells_at P bb (bs + p * sz) E news 0 arr c.w hB.heap (by simpa using hfit) n1
  simp only [Nat.add_zero] at hst
  refine ⟨_, hst, ?_⟩
  have spl : ∀ k, ((arr.toList.take (bs + p * sz) ++ news ++ arr.toList.drop (bs + p * sz + news.length)).toArray)[k]? =
      if bs + p * sz ≤ k ∧ k < bs + p * sz + news.length then news[k - (bs + p * sz)]? else arr[k]? := fun k => by
    rw [List.getElem?_toArray, getElem?_splice _ _ _ _ (by simp; omega)]
    simp
  refine write_ok hh hb hB (w' := c.w.setRow bb _) (arr' := (arr.toList.take (bs + p * sz) ++ news ++ arr.toList.drop (bs + p * sz + news.length)).toArray) (setRow_heap_eq hB.heap) rfl rfl rfl (by simp; omega) _
    (fun i x hi => ?_) (fun i x j u hi hj => ?_) (fun i x j u hi hj => ?_)
  · rw [getElem?_splice _ _ _ _ hle] at hi
    split at hi
    · exact sy _ _ hi
    · exact hB.size _ _ hi
  · rw [getElem?_splice _ _ _ _ hle] at hi
    split at hi
    · exact oy _ _ _ _ hi hj
    · exact hB.one _ _ _ _ hi hj
  · rw [spl]
    rw [getElem?_splice _ _ _ _ hle] at hi
    split at hi
    · rename_i hir
      have hjl : j < sz := by have := (List.getElem?_eq_some_iff.1 hj).1; rw [sy _ _ hi] at this; exact this
      obtain ⟨v, g1, g2⟩ := rn _ _ _ _ hi hj
      have e1 : i * sz = p * sz + (i - p) * sz := by rw [← Nat.add_mul]; congr 1; omega
      have e2 : (i - p) * sz + sz ≤ news.length := by
        rw [ln]
        have := Nat.mul_le_mul_right sz (show (i - p) + 1 ≤ ys.length by omega)
        rw [Nat.add_mul] at this; omega
      rw [if_pos (by omega)]
      refine ⟨v, ?_, g2⟩
      rw [← g1]; congr 1; omega
    · rename_i hir
      have hjl : j < sz := by have := (List.getElem?_eq_some_iff.1 hj).1; rw [hB.size _ _ hi] at this; exact this
      rw [if_neg (by
        rintro ⟨g1, g2⟩
        apply hir
        rw [ln] at g2
        refine ⟨?_, ?_⟩
        · rcases Nat.lt_or_ge i p with hlt | hge
          · have := Nat.mul_le_mul_right sz (show i + 1 ≤ p from hlt)
            simp only [Nat.add_mul] at this
            omega
          · exact hge
        · rcases Nat.lt_or_ge i (p + ys.length) with hlt | hge
          · exact hlt
          · have := Nat.mul_le_mul_right sz hge
            simp only [Nat.add_mul] at this
            omega)]
      exact hB.cell _ _ _ _ hi hj
theorem splice_op (hh : HR c h) (hf : ∀ id, n ≤ id → c.ι id = none) {sz id off len lo : Nat} {ex : Bool} {v : Value} (hv : VR c (.sl sz id off len lo ex) v) {b ys : List AV} (hb : h id = some b) (hpos : 0 < sz) (hle : off + ys.length ≤ b.length) (hyl : ys.length ≤ len)
    {news : List Value} (ln : news.length = ys.length * sz) (n1 : ∀ x ∈ news, x.oneCell' = true)
    (rn : ∀ (i : Nat) (e : AV) (j : Nat) (u : AV), ys[i]? = some e → e.cells[j]? = some u → ∃ x, news[i * sz + j]? = some x ∧ VR c u x)
    (sy : ∀ (i : Nat) (e : AV), ys[i]? = some e → e.cells.length = sz) (oy : ∀ (i : Nat) (e : AV) (j : Nat) (u : AV), ys[i]? = some e → e.cells[j]? = some u → u.one = true)
    {s : Sem Next} {r : AV} {vr : Value} (hr : ∀ c' : Cfg, VR c' r vr) (hs : ∀ a cap w', v = .slice (some a) len cap → (storeCells a news).run P c.w = .ok () w' → s.run P c.w = .ok (.value vr) w') (hK : K r (h.upd id (b.take off ++ ys ++ b.drop (off + ys.length))) n) : OpOk P c h n s K := by
  obtain ⟨bb, bs, sz', arr, E, hB⟩ := hh.blk id b hb
  cases hv with
  | sl _ _ _ _ _ _ bb' bs' cap' hι hlen hlo hex hmax' hroom ad had =>
    have hi := hB.ι
    rw [hι] at hi
    obtain ⟨rfl, rfl, rfl⟩ : bb' = bb ∧ bs' = bs ∧ sz = sz' := by simpa using hi
    obtain ⟨w', q1, q2, q3⟩ := splice_ok (P := P) hh hb hB hpos hle ln n1 rn sy oy
    have hst : (storeCells ad news).run P c.w = .ok () w' := by
      by_cases hc : cap' = 0
      · have hy : ys = [] := List.eq_nil_of_length_eq_zero (by omega)
        subst hy
        have hnil : news = [] := List.eq_nil_of_length_eq_zero (by simpa using ln)
        subst hnil
        simpa [storeCells] using q1
      · rw [had hc]; exact q1
    exact ⟨_, ⟨c.ι, c.Fz, w'⟩, r, _, n, vr, hs _ _ _ rfl hst, .inl rfl, q2.more (fun _ hq => hq.elim), q3, hf, hr _, Nat.le_refl _, hK⟩
theorem copy_ok (hT : TEOk P T) (hh : HR c h) (hf : ∀ id, n ≤ id → c.ι id = none) {t t' e ty : TypeId} (ht : (T t).ty = .slice e) {x y : AV} {vx vy : Value} (hx : VR c x vx) (hy : VR c y vy) (ha : copyP T e x y h n K)
    {s : Sem Next} (hs : ∀ v w', (Builtin.copy_ #[t, t'] ty #[vx, vy]).run P c.w = .ok v w' → s.run P c.w = .ok (.value v) w') : OpOk P c h n s K := by
  obtain ⟨ys, hry, hpos, ha⟩ := ha
  obtain ⟨i, z, hi, i1, i2, i3, i4, i5, i6⟩ := hT.info e hpos
  split at ha
  · cases hx
    obtain ⟨news, by_, capy, rfl, _, _, ln, n1, hn, rn, sy, oy, hk⟩ := rd_cellsX (P := P) hh hy hpos hry
    have h2 := hk 0 (Nat.zero_le _)
    refine OpOk.pure hh hf (hs (goInt 0) c.w ?_) (.int _ _) ha
    simp [Builtin.copy_, run_underlying (hT.tslice t e ht), sizeOf, typeInfo, hi, i1, Builtin.lenOf, goInt, h2]
  · rename_i sz id off len lo ex
    obtain ⟨rfl, b, hb, hle, ha⟩ := ha
    obtain ⟨news, by_, capy, rfl, _, _, ln, n1, hn, rn, sy, oy, hk⟩ := rd_cellsX (P := P) hh hy hpos hry
    have hlt : (ys.take len).length = min ys.length len := by simp [Nat.min_comm]
    have hmul := Nat.mul_le_mul_right (T e).sz (show min ys.length len ≤ ys.length from Nat.min_le_left _ _)
    have ln' : (news.take (min ys.length len * (T e).sz)).length = min ys.length len * (T e).sz := by rw [List.length_take]; omega
    refine splice_op (P := P) (K := K) (ys := ys.take len) (news := news.take (min ys.length len * (T e).sz)) hh hf hx hb hpos (by omega) (by omega) (by rw [hlt]; exact ln') (fun x hx => n1 x (List.mem_of_mem_take hx))
      (fun i e' j u hi hj => ?_) (fun i e' hi => ?_) (fun i e' j u hi hj => ?_) (r := .int .i64 (min ys.length len : Nat)) (vr := .int .i64 (min ys.length len : Nat)) (fun c' => .int _ _) (fun a cap w' hv hst => ?_) ha
    · rw [List.getElem?_take] at hi
      split at hi
      · rename_i hil
        obtain ⟨x, q1, q2⟩ := rn _ _ _ _ hi hj
        have hjl : j < (T e).sz := by have := (List.getElem?_eq_some_iff.1 hj).1; rw [sy _ _ hi] at this; exact this
        have hyl := (List.getElem?_eq_some_iff.1 hi).1
        have := Nat.mul_le_mul_right (T e).sz (show i + 1 ≤ min ys.length len by omega)
        rw [Nat.add_mul] at this
        exact ⟨x, by rw [List.getElem?_take, if_pos (by omega)]; exact q1, q2⟩
      · cases hi
    · rw [List.getElem?_take] at hi
      split at hi
      · exact sy _ _ hi
      · cases hi
    · rw [List.getElem?_take] at hi
      split at hi
      · exact oy _ _ _ _ hi hj
      · cases hi
    · refine hs _ _ ?_
      subst hv
      have h2 := hk (min ys.length len) (Nat.min_le_left _ _)
      simp [Builtin.copy_, run_underlying (hT.tslice t e ht), sizeOf, typeInfo, hi, i1, Builtin.lenOf, goInt, Nat.min_def] at h2 hst ⊢
      simp [h2, hst]
  · obtain ⟨news, by_, capy, rfl, _, _, ln, n1, hn, rn, sy, oy, hk⟩ := rd_cellsX (P := P) hh hy hpos hry
    have h2 := hk 0 (Nat.zero_le _)
    cases hx
    refine OpOk.pure hh hf (hs (goInt 0) c.w ?_) (.int _ _) ha
    simp [Builtin.copy_, run_underlying (hT.tslice t e ht), sizeOf, typeInfo, hi, i1, Builtin.lenOf, goInt, h2, storeCells]
  · exact ha.elim
theorem getElem?_spliceX {α : Type} (l m : List α) (off k : Nat) (hle : off ≤ l.length) :
    (l.take off ++ m ++ l.drop (off + m.length))[k]? = if off ≤ k ∧ k < off + m.length then m[k - off]? else l[k]? := by
  simp only [List.getElem?_append, List.length_append, List.length_take, List.getElem?_take, List.getElem?_drop]
  have h1 : min off l.length = off := by omega
  rw [h1]
  by_cases hk : k < off
  · rw [if_pos (by omega), if_pos hk, if_pos hk, if_neg (by omega)]
  · by_cases hk2 : k < off + m.length
    · rw [if_pos hk2, if_neg hk, if_pos (by omega)]
    · rw [if_neg hk2, if_neg (by omega)]
      congr 1
      omega
theorem spliceX_ok (hh : HR c h) {id : Nat} {b ys : List AV} (hb : h id = some b) {bb bs sz p : Nat} {arr : Array Value} {E : TypeId} (hB : BlkR c id b bb bs sz arr E) (hpos : 0 < sz) (hle : p ≤ b.length) (hfit0 : bs + (p + ys.length) * sz ≤ arr.size)
    {news : List Value} (ln : news.length = ys.length * sz) (n1 : ∀ x ∈ news, x.oneCell' = true)
    (rn : ∀ (i : Nat) (e : AV) (j : Nat) (u : AV), ys[i]? = some e → e.cells[j]? = some u → ∃ x, news[i * sz + j]? = some x ∧ VR c u x)
    (sy : ∀ (i : Nat) (e : AV), ys[i]? = some e → e.cells.length = sz) (oy : ∀ (i : Nat) (e : AV) (j : Nat) (u : AV), ys[i]? = some e → e.cells[j]? = some u → u.one = true) :
    ∃ w', (storeCells ⟨bb, bs + p * sz, none⟩ news).run P c.w = .ok () w' ∧ Ext c h (fun _ => False) ⟨c.ι, c.Fz, w'⟩ (h.upd id (b.take p ++ ys ++ b.drop (p + ys.length))) ∧
      HR ⟨c.ι, c.Fz, w'⟩ (h.upd id (b.take p ++ ys ++ b.drop (p + ys.length))) := by
  by_cases hy : ys = []
  · subst hy
    have hnil : news = [] := List.eq_nil_of_length_eq_zero (by simpa using ln)
    subst hnil
    have hsame : h.upd id (b.take p ++ [] ++ b.drop (p + ([] : List AV).length)) = h := by
      funext q
      unfold Heap.upd
      split
      · rename_i hq; subst hq; simp [hb]
      · rfl
    rw [hsame]
    exact ⟨c.w, by simp [storeCells], Ext.refl _ _ _, hh⟩
  have hl : 0 < ys.length := by cases ys with | nil => exact absurd rfl hy | cons => simp
  have hfit : bs + p * sz + news.length ≤ arr.size := by
    rw [ln, Nat.add_assoc, ← Nat.add_mul]; exact hfit0
  have hst := run_storeCells_at P bb (bs + p * sz) E news 0 arr c.w hB.heap (by simpa using hfit) n1
  simp only [Nat.add_zero] at hst
  refine ⟨_, hst, ?_⟩
  have spl : ∀ k, ((arr.toList.take (bs + p * sz) ++ news ++ arr.toList.drop (bs + p * sz + news.length)).toArray)[k]? =
      if bs + p * sz ≤ k ∧ k < bs + p * sz + news.length then news[k - (bs + p * sz)]? else arr[k]? := fun k => by
    rw [List.getElem?_toArray, getElem?_spliceX _ _ _ _ (by simp; omega)]
    simp
  refine write_ok hh hb hB (w' := c.w.setRow bb _) (arr' := (arr.toList.take (bs + p * sz) ++ news ++ arr.toList.drop (bs + p * sz + news.length)).toArray) (setRow_heap_eq hB.heap) rfl rfl rfl (by simp; omega) _
    (fun i x hi => ?_) (fun i x j u hi hj => ?_) (fun i x j u hi hj => ?_)
  · rw [getElem?_spliceX _ _ _ _ hle] at hi
    split at hi
    · exact sy _ _ hi
    · exact hB.size _ _ hi
  · rw [getElem?_spliceX _ _ _ _ hle] at hi
    split at hi
    · exact oy _ _ _ _ hi hj
    · exact hB.one _ _ _ _ hi hj
  · rw [spl]
    rw [getElem?_spliceX _ _ _ _ hle] at hi
    split at hi
    · rename_i hir
      have hjl : j < sz := by have := (List.getElem?_eq_some_iff.1 hj).1; rw [sy _ _ hi] at this; exact this
      obtain ⟨v, g1, g2⟩ := rn _ _ _ _ hi hj
      have e1 : i * sz = p * sz + (i - p) * sz := by rw [← Nat.add_mul]; congr 1; omega
      have e2 : (i - p) * sz + sz ≤ news.length := by
        rw [ln]
        have := Nat.mul_le_mul_right sz (show (i - p) + 1 ≤ ys.length by omega)
        rw [Nat.add_mul] at this; omega
      rw [if_pos (by omega)]
      refine ⟨v, ?_, g2⟩
      rw [← g1]; congr 1; omega
    · rename_i hir
      have hjl : j < sz := by have := (List.getElem?_eq_some_iff.1 hj).1; rw [hB.size _ _ hi] at this; exact this
      rw [if_neg (by
        rintro ⟨g1, g2⟩
        apply hir
        rw [ln] at g2
        refine ⟨?_, ?_⟩
        · rcases Nat.lt_or_ge i p with hlt | hge
          · have := Nat.mul_le_mul_right sz (show i + 1 ≤ p from hlt)
            simp only [Nat.add_mul] at this
            omega
          · exact hge
        · rcases Nat.lt_or_ge i (p + ys.length) with hlt | hge
          · exact hlt
          · have := Nat.mul_le_mul_right sz hge
            simp only [Nat.add_mul] at this
            omega)]
      exact hB.cell _ _ _ _ hi hj
theorem spliceX_op (hh : HR c h) (hf : ∀ id, n ≤ id → c.ι id = none) {sz id off len lo : Nat} {ex : Bool} {v : Value} (hv : VR c (.sl sz id off len lo ex) v) {b ys : List AV} (hb : h id = some b) (hpos : 0 < sz) (hle : off ≤ b.length) (hyl : ys.length ≤ len)
    {news : List Value} (ln : news.length = ys.length * sz) (n1 : ∀ x ∈ news, x.oneCell' = true)
    (rn : ∀ (i : Nat) (e : AV) (j : Nat) (u : AV), ys[i]? = some e → e.cells[j]? = some u → ∃ x, news[i * sz + j]? = some x ∧ VR c u x)
    (sy : ∀ (i : Nat) (e : AV), ys[i]? = some e → e.cells.length = sz) (oy : ∀ (i : Nat) (e : AV) (j : Nat) (u : AV), ys[i]? = some e → e.cells[j]? = some u → u.one = true)
    {s : Sem Next} {r : AV} {vr : Value} (hr : ∀ c' : Cfg, VR c' r vr) (hs : ∀ a cap w', v = .slice (some a) len cap → (storeCells a news).run P c.w = .ok () w' → s.run P c.w = .ok (.value vr) w') (hK : K r (h.upd id (b.take off ++ ys ++ b.drop (off + ys.length))) n) : OpOk P c h n s K := by
  obtain ⟨bb, bs, sz', arr, E, hB⟩ := hh.blk id b hb
  cases hv with
  | sl _ _ _ _ _ _ bb' bs' cap' hι hlen hlo hex hmax' hroom ad had =>
    have hi := hB.ι
    rw [hι] at hi
    obtain ⟨rfl, rfl, rfl⟩ : bb' = bb ∧ bs' = bs ∧ sz = sz' := by simpa using hi
    obtain ⟨w', q1, q2, q3⟩ := spliceX_ok (P := P) hh hb hB hpos hle (by
      obtain ⟨arr2, E2, fr2, q1, q2⟩ := hroom
      rw [hB.heap] at q1
      obtain ⟨rfl, rfl, rfl⟩ := Obj.cells.inj (Option.some.inj q1)
      have := Nat.mul_le_mul_right sz (show off + ys.length ≤ off + cap' by omega)
      omega) ln n1 rn sy oy
    have hst : (storeCells ad news).run P c.w = .ok () w' := by
      by_cases hc : cap' = 0
      · have hy : ys = [] := List.eq_nil_of_length_eq_zero (by omega)
        subst hy
        have hnil : news = [] := List.eq_nil_of_length_eq_zero (by simpa using ln)
        subst hnil
        simpa [storeCells] using q1
      · rw [had hc]; exact q1
    exact ⟨_, ⟨c.ι, c.Fz, w'⟩, r, _, n, vr, hs _ _ _ rfl hst, .inl rfl, q2.more (fun _ hq => hq.elim), q3, hf, hr _, Nat.le_refl _, hK⟩
theorem copyX_ok (hT : TEOk P T) (hh : HR c h) (hf : ∀ id, n ≤ id → c.ι id = none) {t t' ty : TypeId} {x y : AV} {vx vy : Value} (hx : VR c x vx) (hy : VR c y vy) (ha : copyX T t x y h n K)
    {s : Sem Next} (hs : ∀ v w', (Builtin.copy_ #[t, t'] ty #[vx, vy]).run P c.w = .ok v w' → s.run P c.w = .ok (.value v) w') : OpOk P c h n s K := by
  obtain ⟨e, id, off, len, lo, ex, id2, off2, len2, lo2, ex2, b, b2, ht, hpos, rfl, rfl, hb, hle, hb2, hle2, ha⟩ := ha
  obtain ⟨i, z, hi, i1, i2, i3, i4, i5, i6⟩ := hT.info e hpos
  obtain ⟨k, hk0⟩ : ∃ k, k = min len2 len := ⟨_, rfl⟩
  rw [← hk0] at ha hle2
  obtain ⟨ys, hys⟩ : ∃ ys, ys = (b2.drop off2).take k := ⟨_, rfl⟩
  have hyl : ys.length = k := by rw [hys, List.length_take, List.length_drop]; omega
  rw [← hys] at ha
  cases hy with
  | sl _ _ _ _ _ _ b2' base2 cap2 hι2 hlen2 hlo2 hex2 hmax2 hroom2 ad2 had2 =>
    have hy' : VR c (.sl (T e).sz id2 off2 k lo2 ex2) (.slice (some ad2) k cap2) := .sl _ _ _ _ _ _ b2' base2 cap2 hι2 (by omega) hlo2 hex2 hmax2 hroom2 ad2 had2
    have hry : rdSl h (T e).sz (.sl (T e).sz id2 off2 k lo2 ex2) = some ys := by
      simp only [rdSl, if_true, hb2, hys]
      exact if_pos hle2
    obtain ⟨news, by_, capy, hv0, _, _, ln, n1, hn, rn, sy, oy, hk⟩ := rd_cellsX (P := P) hh hy' hpos hry
    rw [hyl] at hv0 ln hk
    obtain ⟨rfl, rfl⟩ : some ad2 = by_ ∧ cap2 = capy := by simpa using hv0
    refine spliceX_op (P := P) (K := K) (ys := ys) (news := news) hh hf hx hb hpos hle (by omega) (by rw [hyl]; exact ln) n1 rn sy oy (r := .int .i64 (k : Nat)) (vr := .int .i64 (k : Nat)) (fun c' => .int _ _) (fun a cap w' hv hst => ?_) (by rw [hyl]; exact ha)
    refine hs _ _ ?_
    subst hv
    have h2 := hk k (Nat.le_refl _)
    have h3 : (Builtin.firstCells (T e).sz k (.slice (some ad2) len2 cap2)).run P c.w = .ok news.toArray c.w := by
      rw [List.take_of_length_le (by omega)] at h2
      exact h2
    have hkl : (if len2 ≤ len then len2 else len) = k := by rw [hk0, Nat.min_def]
    have hkl' : min len len2 = k := by rw [hk0, Nat.min_comm]
    simp [Builtin.copy_, run_underlying (hT.tslice t e ht), sizeOf, typeInfo, hi, i1, Builtin.lenOf, goInt, hkl'] at h3 hst ⊢
    have hkm : len2.min len = k := hk0.symm
    simp [hkm, h3, hst]
theorem clear_ok (hT : TEOk P T) (hh : HR c h) (hf : ∀ id, n ≤ id → c.ι id = none) {t e ty : TypeId} (ht : (T t).ty = .slice e) {x : AV} {vx : Value} (hx : VR c x vx) (ha : clearP T e x h n K)
    {s : Sem Next} (hs : ∀ v w', (Builtin.clear_ #[t] ty #[vx]).run P c.w = .ok v w' → s.run P c.w = .ok (.value v) w') : OpOk P c h n s K := by
  obtain ⟨hpos, ha⟩ := ha
  obtain ⟨i, z, hi, i1, i2, i3, i4, i5, i6⟩ := hT.info e hpos
  have htup : ∀ c' : Cfg, VR c' (.tup []) (.tuple #[]) := fun c' => .tup _ _ rfl (fun i u v h => by simp at h)
  split at ha
  · cases hx
    exact OpOk.pure hh hf (hs (.tuple #[]) c.w (by simp [Builtin.clear_, run_underlying (hT.tslice t e ht)])) (htup _) ha
  · rename_i sz id off len lo ex
    obtain ⟨rfl, b, hb, hle, ha⟩ := ha
    obtain ⟨r1, r2, r3⟩ := zero_cells_rel (c := c) (m := len) (i4 c) i6 i5 hpos
    have hz : z.cells.size = (T e).sz := by rw [(VR.cells (i4 c) i6).1, i5]
    have hmz : Builtin.zeroCells z.cells len = madeCells z.cells (len * (T e).sz) := by simp [Builtin.zeroCells, madeCells, hz]
    refine splice_op (P := P) (K := K) (ys := List.replicate len (T e).zero) (news := (Builtin.zeroCells z.cells len).toList) hh hf hx hb hpos (by simpa using hle) (by simp) (by rw [hmz]; simp [size_madeCells]) (fun x hx => ?_)
      (fun i e' j u hi hj => ?_) r1 r2 htup (fun a cap w' hv hst => hs _ _ ?_) (by simpa using ha)
    · rw [hmz] at hx
      obtain ⟨k, hk, rfl⟩ := List.mem_iff_getElem.1 hx
      have hkl : k < len * (T e).sz := by simpa [size_madeCells] using hk
      have hm := Nat.mod_lt k hpos
      have hmz' : k % (T e).sz < (T e).zero.cells.length := by omega
      have hq := (VR.cells (i4 c) i6).2 (k % (T e).sz) _ (z.cells[k % (T e).sz]'(by omega)) (List.getElem?_eq_getElem hmz') (Array.getElem?_eq_getElem (by omega))
      have h1 := VR.one hq (i6 _ (List.getElem_mem hmz'))
      simpa [madeCells, hz, hm] using h1
    · obtain ⟨x, q1, q2⟩ := r3 i e' j u hi hj
      exact ⟨x, by rw [hmz]; simpa using q1, q2⟩
    · subst hv
      cases hl : len with
      | zero =>
        subst hl
        have : w' = c.w := by simpa [Builtin.zeroCells, storeCells] using hst.symm
        subst this
        simp [Builtin.clear_, run_underlying (hT.tslice t e ht)]
      | succ m =>
        subst hl
        simp [Builtin.clear_, run_underlying (hT.tslice t e ht), zeroValue, typeInfo, hi, i3, hst]
  · exact ha.elim
end
end Go.Proofs.Ytcngfjmfgeckmaa
namespace Go.Proofs.Ytcngfjmfgeckmaa
open Go
section
variable {P : Program} {T : TE} {c : Cfg} {h : Heap} {n : Nat} {K : AV → Heap → Nat → Prop}
theorem list1 {α : Type} {a : Array α} {x : α} (h : a.toList = [x]) : a = #[x] := by rw [← Array.toArray_toList (xs := a), h]
theorem list2 {α : Type} {a : Array α} {x y : α} (h : a.toList = [x, y]) : a = #[x, y] := by rw [← Array.toArray_toList (xs := a), h]
theorem map1 {α β : Type} {f : α → β} {l : List α} {b : β} (h : l.map f = [b]) : ∃ x, l = [x] ∧ f x = b := by
  cases l with
  | nil => cases h
  | cons x t => cases t with
    | nil => exact ⟨x, rfl, by simpa using h⟩
    | cons => simp at h
theorem map2 {α β : Type} {f : α → β} {l : List α} {b b' : β} (h : l.map f = [b, b']) : ∃ x y, l = [x, y] ∧ f x = b ∧ f y = b' := by
  cases l with
  | nil => cases h
  | cons x t => cases t with
    | nil => simp at h
    | cons y t => cases t with
      | nil => exact ⟨x, y, rfl, by simpa using h⟩
      | cons => simp at h
theorem len_sl (hh : HR c h) {a : AV} {v : Value} (hv : VR c a v) {sz : Nat} {l : List AV} (hr : rdSl h sz a = some l) : ∃ b k, v = .slice b l.length k := by
  rcases rd_slice hh hv hr with ⟨rfl, rfl⟩ | ⟨ad, cap, rfl, _⟩
  · exact ⟨none, 0, rfl⟩
  · exact ⟨_, _, rfl⟩
theorem good_of {z : AV} (h : ∀ u, u ∈ z.cells → u.one = true) : z.good = true := by
  cases z <;> first | rfl | simp [AV.cells, AV.one] at h
theorem builtin_ok (hT : TEOk P T) (hh : HR c h) (hf : ∀ id, n ≤ id → c.ι id = none) {ev : Operand → AV} {ρ : Operand → Value} (hρ : ∀ x, VR c (ev x) (ρ x)) {b : Builtin} {ts : Array TypeId} {args : Array Operand} {ty : TypeId} {cs : Array Bool}
    (ha : builtinP T b ts.toList (args.toList.map ev) h n K) : OpOk P c h n (builtin b ts ty cs (args.map ρ)) K := by
  unfold builtinP at ha
  split at ha
  · rename_i t s q1 q2
    obtain rfl := list1 q1
    obtain ⟨x, q3, hx⟩ := map1 q2
    obtain rfl := list1 q3
    obtain ⟨ht, hK⟩ := ha
    have hv := hρ x
    rw [hx] at hv
    obtain ⟨v, hv'⟩ : ∃ v, v = ρ x := ⟨_, rfl⟩
    rw [← hv'] at hv
    cases hv
    refine OpOk.pure hh hf (v := goInt s.size) ?_ (.int _ _) hK
    simp [builtin, Builtin.len_, ← hv', run_underlying (hT.tstr t ht)]
  · rename_i t x0 _ q1 q2
    obtain rfl := list1 q1
    obtain ⟨x, q3, hx⟩ := map1 q2
    obtain rfl := list1 q3
    obtain ⟨e, l, ht, hr, hK⟩ := ha
    rw [← hx] at hr
    obtain ⟨bb, k, hv⟩ := len_sl hh (hρ x) hr
    refine OpOk.pure hh hf (v := goInt l.length) ?_ (.int _ _) hK
    simp [builtin, Builtin.len_, hv, run_underlying (hT.tslice t e ht)]
  · rename_i t sz id off len lo ex q1 q2
    obtain rfl := list1 q1
    obtain ⟨x, q3, hx⟩ := map1 q2
    obtain rfl := list1 q3
    obtain ⟨e, ht, hex, hK⟩ := ha
    have hv := hρ x
    rw [hx] at hv
    obtain ⟨v, hv'⟩ : ∃ v, v = ρ x := ⟨_, rfl⟩
    rw [← hv'] at hv
    cases hv with
    | sl _ _ _ _ _ _ b base cap hι hlen hlo hexc hmax hroom a ha =>
      have := hexc hex
      subst this
      refine OpOk.pure hh hf (v := goInt cap) ?_ (.int _ _) hK
      simp [builtin, Builtin.cap_, ← hv', run_underlying (hT.tslice t e ht)]
  · rename_i k a k' b q2
    obtain ⟨x, y, q3, hx, hy⟩ := map2 q2
    obtain rfl := list2 q3
    obtain ⟨rfl, hK⟩ := ha
    have hv := hρ x
    rw [hx] at hv
    have hu := hρ y
    rw [hy] at hu
    obtain ⟨v, hv'⟩ : ∃ v, v = ρ x := ⟨_, rfl⟩
    obtain ⟨u, hu'⟩ : ∃ u, u = ρ y := ⟨_, rfl⟩
    rw [← hv'] at hv
    rw [← hu'] at hu
    cases hv; cases hu
    refine OpOk.pure hh hf (v := .int k (if b < a then b else a)) ?_ (.int _ _) hK
    simp [builtin, Builtin.min_, Builtin.min2, ← hv', ← hu']
  · rename_i k a k' b q2
    obtain ⟨x, y, q3, hx, hy⟩ := map2 q2
    obtain rfl := list2 q3
    obtain ⟨rfl, hK⟩ := ha
    have hv := hρ x
    rw [hx] at hv
    have hu := hρ y
    rw [hy] at hu
    obtain ⟨v, hv'⟩ : ∃ v, v = ρ x := ⟨_, rfl⟩
    obtain ⟨u, hu'⟩ : ∃ u, u = ρ y := ⟨_, rfl⟩
    rw [← hv'] at hv
    rw [← hu'] at hu
    cases hv; cases hu
    refine OpOk.pure hh hf (v := .int k (if a < b then b else a)) ?_ (.int _ _) hK
    simp [builtin, Builtin.max_, Builtin.max2, ← hv', ← hu']
  · rename_i t t' x0 y0 q1 q2
    obtain rfl := list2 q1
    obtain ⟨x, y, q3, hx, hy⟩ := map2 q2
    obtain rfl := list2 q3
    obtain ⟨rfl, e, ht, ha⟩ := ha
    rw [← hx, ← hy] at ha
    refine append_ok (ty := ty) hT hh hf ht (hρ x) (hρ y) ha (fun v w' hr => ?_)
    simp [builtin, hr]
  · rename_i t t' x0 y0 q1 q2
    obtain rfl := list2 q1
    obtain ⟨x, y, q3, hx, hy⟩ := map2 q2
    obtain rfl := list2 q3
    rcases ha with ⟨e, ht, ha⟩ | ha
    · rw [← hx, ← hy] at ha
      refine copy_ok (ty := ty) (t' := t') hT hh hf ht (hρ x) (hρ y) ha (fun v w' hr => ?_)
      simp [builtin, hr]
    · rw [← hx, ← hy] at ha
      refine copyX_ok (ty := ty) (t' := t') hT hh hf (hρ x) (hρ y) ha (fun v w' hr => ?_)
      simp [builtin, hr]
  · rename_i t x0 q1 q2
    obtain rfl := list1 q1
    obtain ⟨x, q3, hx⟩ := map1 q2
    obtain rfl := list1 q3
    obtain ⟨e, ht, ha⟩ := ha
    rw [← hx] at ha
    refine clear_ok (ty := ty) hT hh hf ht (hρ x) ha (fun v w' hr => ?_)
    simp [builtin, hr]
  · exact ha.elim
theorem opP_sound (hT : TEOk P T) (hh : HR c h) (hf : ∀ id, n ≤ id → c.ι id = none) {ev : Operand → AV} {ρ : Operand → Value} (hρ : ∀ x, VR c (ev x) (ρ x)) (o : Oper) (ho : opP T o.op ev h n K) : OpOk P c h n (execOp ρ o) K := by
  obtain ⟨dst, op, type, pos, after, guard⟩ := o
  simp only at ho
  cases op <;> simp only [opP] at ho
  all_goals first | exact ho.elim | skip
  case move x => exact OpOk.pure hh hf (by simp [execOp]) (hρ x) ho
  case assign x => exact OpOk.pure hh hf (by simp [execOp]) (hρ x) ho
  case pick cc a b =>
    obtain ⟨t, ht, hK⟩ := ho
    have hv := hρ cc
    rw [ht] at hv
    obtain ⟨v, hv'⟩ : ∃ v, v = ρ cc := ⟨_, rfl⟩
    rw [← hv'] at hv
    cases hv
    refine OpOk.pure hh hf (v := if t then ρ a else ρ b) (by simp [execOp, ← hv', asBool]) ?_ hK
    cases t
    · exact hρ b
    · exact hρ a
  case alloc e =>
    obtain ⟨hpos, hK⟩ := ho
    obtain ⟨i, z, hi, i1, i2, i3, i4, i5, i6⟩ := hT.info e hpos
    refine box_ok hh hf (i4 c) (good_of i6) i5 e ?_ hK
    simp [execOp, Instr.alloc, zeroValue, typeInfo, hi, i3, newVar, newRow]
  case box e x =>
    obtain ⟨hg, hl, hpos, hK⟩ := ho
    obtain ⟨i, z, hi, i1, i2, i3, i4, i5, i6⟩ := hT.info e hpos
    refine box_ok hh hf (hρ x) hg hl e ?_ hK
    simp [execOp, Instr.box, newVar, newRow]
  case build t parts =>
    obtain ⟨fs, ht, hpos, hfs, hb⟩ := ho
    exact build_ok hT hh hf hρ ht hpos hfs hb (fun v hr => by simp [execOp, hr])
  case buildSlice t len parts =>
    obtain ⟨e, ht, hpos, hlen, hp, hg, hK⟩ := ho
    exact buildSlice_ok hT hh hf hρ ht hpos hlen hp hg hK (fun v w' hr => by simp [execOp, hr])
  case load t a =>
    obtain ⟨sz, s, i, off, l, e, v, ha, hr, hi, hp, hst, hK⟩ := ho
    have hv := hρ a
    rw [ha] at hv
    obtain ⟨ad, hpv, hlen, hone, hc⟩ := rd_ep hh hv hr hi
    obtain ⟨u, q1, q2⟩ := load_run hT hp hst hone hc
    refine OpOk.pure hh hf ?_ q2 hK
    simp [execOp, Instr.loadAt, Instr.sureAddr, hpv, q1]
  case store t a x =>
    obtain ⟨sz, id, o, len, lo, ex, i, off, b, e, ha, hb, he, hg, hl, hpos, hle, hK⟩ := ho
    have hv := hρ a
    rw [ha] at hv
    exact store_ok hT hh hf hv (hρ x) hb he hg hl hpos hle hK (fun w' hr => by simp [execOp, hr])
  case nilCheck x =>
    split at ho
    · rename_i sz a i off hx
      have hv := hρ x
      rw [hx] at hv
      obtain ⟨ad, hp⟩ := ep_ptr hv
      rw [hp] at hv
      exact OpOk.pure hh hf (by simp [execOp, hp]) hv ho
    · rename_i f cp hx
      have hv := hρ x
      rw [hx] at hv
      obtain ⟨v, hv'⟩ : ∃ v, v = ρ x := ⟨_, rfl⟩
      rw [← hv'] at hv
      have hv2 := hv
      cases hv
      exact OpOk.pure hh hf (by simp [execOp, ← hv']) hv2 ho
    · exact ho.elim
  case binOp op t x y fl =>
    obtain ⟨r, v, q1, q2, q3⟩ := bin_ok hT (hρ x) (hρ y) ho x y
    refine OpOk.pure hh hf ?_ q2 q3
    simp only [Sem.run_bind] at q1
    simp only [execOp, Sem.run_bind, q1, Result.andThen_ok, Sem.run_pure]
  case unOp op fl x =>
    have hv := hρ x
    obtain ⟨v, hv'⟩ : ∃ v, v = ρ x := ⟨_, rfl⟩
    rw [← hv'] at hv
    unfold unP at ho
    split at ho
    · rename_i b hx
      rw [hx] at hv
      cases hv
      exact OpOk.pure hh hf (by simp [execOp, ← hv', Op.unary] <;> rfl) (.bool _) ho
    · rename_i k m hx
      rw [hx] at hv
      cases hv
      exact OpOk.pure hh hf (v := .int k (k.wrap (0 - m))) (by simp [execOp, ← hv', Op.unary, Op.intArith]) (.int _ _) ho
    · exact ho.elim
  case convert s d x =>
    split at ho
    · rename_i k k0 m hd hx
      obtain ⟨⟨k', hs⟩, hK⟩ := ho
      have hv := hρ x
      obtain ⟨v, hv'⟩ : ∃ v, v = ρ x := ⟨_, rfl⟩
      rw [← hv', hx] at hv
      cases hv
      refine OpOk.pure hh hf (v := .int k (k.wrap m)) ?_ (.int _ _) hK
      simp [execOp, convert, run_underlying (hT.tint s k' hs), run_underlying (hT.tint d k hd), ← hv', Conv.intToInt]
    · rename_i hd
      obtain ⟨e, ns, hs, he, hr, hK⟩ := ho
      have hv := hρ x
      obtain ⟨v, hv'⟩ : ∃ v, v = ρ x := ⟨_, rfl⟩
      rw [← hv'] at hv
      refine OpOk.pure hh hf (v := .string (bytesStr ns)) ?_ (.str _) hK
      rcases rd_slice hh hv hr with ⟨rfl, h0⟩ | ⟨ad, cap, rfl, _, _, _, _, h5, _, _⟩
      · obtain rfl : ns = [] := by simpa using h0
        simp only [execOp, ← hv', Sem.run_bind]
        rw [run_convert_bytes_string c.w s d e none 0 0 (hT.tslice s e hs) (hT.tint e .u8 he) (hT.tstr d hd)]
        simp [Conv.bytesToString, bytesStr]
      · simp only [execOp, ← hv', Sem.run_bind]
        rw [run_convert_bytes_string c.w s d e (some ad) _ cap (hT.tslice s e hs) (hT.tint e .u8 he) (hT.tstr d hd)]
        suffices hq : Sem.run P (Conv.bytesToString (.slice (some ad) (ns.map (AV.int .u8)).length cap)) c.w = .ok (.string (bytesStr ns)) c.w by
          rw [hq]; rfl
        refine run_bytesToString c.w ad _ cap ns ?_
        have := run_loadCells_list (P := P) c.w ad (ns.map (Value.int .u8)) (fun i w hi => by
          rw [List.getElem?_map] at hi
          obtain ⟨m, hm, rfl⟩ := Option.map_eq_some_iff.1 hi
          have hi' : (ns.map (AV.int .u8))[i]? = some (AV.int .u8 m) := by
            rw [List.getElem?_map, hm]; rfl
          obtain ⟨y, q1, q2⟩ := h5 i _ 0 _ hi' rfl
          cases q2
          simpa using q1)
        simpa using this
    · exact ho.elim
  case makeFunc f first cap =>
    cases f <;> simp only at ho
    case func f =>
      obtain ⟨hfst, hK⟩ := ho
      subst hfst
      refine OpOk.pure hh hf (v := .func (.func f) #[] (cap.map ρ)) (by simp [execOp, Instr.makeFunc]) (.fn _ _ _ (by simp) fun i u v hu hv => ?_) hK
      rw [List.getElem?_map] at hu
      rw [Array.getElem?_map] at hv
      cases hc : cap[i]? with
      | none => rw [hc] at hv; cases hv
      | some y =>
        have hc' : cap.toList[i]? = some y := by simpa using hc
        rw [hc] at hv
        rw [hc'] at hu
        obtain rfl := Option.some.inj hv
        obtain rfl := Option.some.inj hu
        exact hρ y
    all_goals exact ho.elim
  case makeSlice t l cp =>
    obtain ⟨e, k1, k2, a, b, ht, hpos, hl, hc, ha, hab, hby, hb, hK⟩ := ho
    have hv := hρ l
    have hu := hρ cp
    rw [hl] at hv
    rw [hc] at hu
    obtain ⟨v, hv'⟩ : ∃ v, v = ρ l := ⟨_, rfl⟩
    obtain ⟨u, hu'⟩ : ∃ u, u = ρ cp := ⟨_, rfl⟩
    rw [← hv'] at hv
    rw [← hu'] at hu
    cases hv; cases hu
    exact makeSlice_ok (k1 := k1) (k2 := k2) hT hh hf ht hpos ha hab hby hb hK (fun v w' hr => by simp [execOp, ← hv', ← hu', hr])
  case slice t x lo hi mx =>
    have hv := hρ x
    split at ho
    · rename_i s hx
      obtain ⟨ht, rfl, hs⟩ := ho
      obtain ⟨v, hv'⟩ : ∃ v, v = ρ x := ⟨_, rfl⟩
      rw [← hv', hx] at hv
      cases hv
      obtain ⟨r, u, q1, q2, q3⟩ := strSlice_ok (P := P) hT ht hρ hs
      exact OpOk.pure hh hf (by simp [execOp, ← hv', q1]) q2 q3
    · obtain ⟨e, ht, hpos, hmx, hs⟩ := ho
      obtain ⟨r, u, q1, q2, q3⟩ := slice_ok (P := P) hT ht hpos hρ hv hmx hs
      exact OpOk.pure hh hf (by simp [execOp, q1]) q2 q3
  case fieldAddr s x f =>
    obtain ⟨sz, b, i, off, fs, p, hx, ht, hf', hpos, hK⟩ := ho
    have hv := hρ x
    rw [hx] at hv
    obtain ⟨ad, hp⟩ := ep_ptr hv
    rw [hp] at hv
    obtain ⟨F, hF, hfs⟩ := hT.tstruct s fs ht
    subst hfs
    rw [List.getElem?_map] at hf'
    cases hFf : F.toList[f]? with
    | none => rw [hFf] at hf'; cases hf'
    | some g =>
      rw [hFf] at hf'
      obtain rfl := Option.some.inj hf'
      have hFf' : F[f]? = some g := by simpa using hFf
      refine OpOk.pure hh hf ?_ (ep_add hv) hK
      simp [execOp, Instr.fieldAt, run_underlying hF, hFf', Instr.sureAddr, hp, fieldPlace_run hT ad g hpos]
  case field t x f =>
    obtain ⟨fs, p, cs, v, ht, hf', hx, hp, hst, hK⟩ := ho
    have hv := hρ x
    obtain ⟨u, hu⟩ : ∃ u, u = ρ x := ⟨_, rfl⟩
    rw [← hu, hx] at hv
    obtain ⟨F, hF, hfs⟩ := hT.tstruct t fs ht
    subst hfs
    rw [List.getElem?_map] at hf'
    cases hFf : F.toList[f]? with
    | none => rw [hFf] at hf'; cases hf'
    | some g =>
      rw [hFf] at hf'
      obtain rfl := Option.some.inj hf'
      have hFf' : F[f]? = some g := by simpa using hFf
      have hv2 := hv
      cases hv
      obtain ⟨y, q1, q2⟩ := part_run (P := P) hT hv2 hp hst
      refine OpOk.pure hh hf ?_ q2 hK
      simp [execOp, Instr.field, run_underlying hF, hFf', ← hu, asAgg, q1]
  case indexAddr t x ix =>
    obtain ⟨e, l, k, i, ht, hpos, hr, hi, h0, hlt, hK⟩ := ho
    have hu := hρ ix
    rw [hi] at hu
    obtain ⟨u, hu'⟩ : ∃ u, u = ρ ix := ⟨_, rfl⟩
    rw [← hu'] at hu
    cases hu
    rcases rd_slice hh (hρ x) hr with ⟨_, rfl⟩ | ⟨ad, cap, hx, _, _, _, _, _, hep, _⟩
    · simp at hlt; omega
    · have := hep i.toNat 0 (by omega)
      refine OpOk.pure hh hf ?_ this hK
      have hsz := sizeOf_run (P := P) hT hpos c.w
      simp [execOp, Instr.indexAt, asIntOf, ← hu', hx, run_underlying (hT.tslice t e ht), h0, hlt, hsz]
  case index t x ix =>
    obtain ⟨s, k, i, ht, hx, hi, h0, hlt, hK⟩ := ho
    have hu := hρ ix
    rw [hi] at hu
    obtain ⟨u, hu'⟩ : ∃ u, u = ρ ix := ⟨_, rfl⟩
    rw [← hu'] at hu
    cases hu
    have hv := hρ x
    rw [hx] at hv
    obtain ⟨v, hv'⟩ : ∃ v, v = ρ x := ⟨_, rfl⟩
    rw [← hv'] at hv
    cases hv
    refine OpOk.pure hh hf ?_ (.int _ _) hK
    simp [execOp, Instr.index, asIntOf, ← hu', ← hv', run_underlying (hT.tstr t ht), h0, hlt]
  case extract t ix =>
    obtain ⟨vs, r, ht, hr, hK⟩ := ho
    have hv := hρ t
    rw [ht] at hv
    obtain ⟨v, hv'⟩ : ∃ v, v = ρ t := ⟨_, rfl⟩
    rw [← hv'] at hv
    cases hv with
    | tup _ xs hs hcv =>
      have hlt : ix < vs.length := (List.getElem?_eq_some_iff.1 hr).1
      have hx : xs[ix]? = some (xs[ix]'(by omega)) := Array.getElem?_eq_getElem (by omega)
      refine OpOk.pure hh hf (v := xs[ix]'(by omega)) ?_ (hcv ix r _ hr hx) hK
      simp [execOp, Instr.extract, ← hv', hx]
  case call cl =>
    split at ho
    · rename_i b hc
      simp only [execOp, resolve, hc, invoke, pure_bind]
      exact builtin_ok hT hh hf hρ ho
    · exact ho.elim
end
end Go.Proofs.Ytcngfjmfgeckmaa
namespace Go.Proofs.Ytcngfjmfgeckmaa
open Go
abbrev Env := Nat → AV
def Env.get (E : Env) (t : Nat) : AV := E t
def Env.put (E : Env) (d : Option Tmp) (v : AV) : Env :=
  match d with
  | some d => fun t => if d = t then v else E t
  | none => E
def ev (E : Env) : Operand → AV
  | .tmp t => E.get t
  | .const v => ofVal v
  | .func f => .fn f []
  | .global _ => .undef
def Fresh (c : Cfg) (n : Nat) : Prop := ∀ id, n ≤ id → c.ι id = none
def PostR (c : Cfg) (h : Heap) (n : Nat) (v : Value) (w' : World) (r : AV) (h' : Heap) (n' : Nat) : Prop :=
  ∃ c', c'.w = w' ∧ Ext c h (fun id => n ≤ id ∧ id < n') c' h' ∧ HR c' h' ∧ Fresh c' n' ∧ VR c' r v ∧ n ≤ n'
def Goes (P : Program) (f : FuncId) : Prop := ∀ (args : Array Value) (w : World), (callFunc f args).run P w = .ok (.enter f args) w
def CA (P : Program) (f : FuncId) (args : List AV) (h : Heap) (n : Nat) (K : AV → Heap → Nat → Prop) : Prop :=
  Goes P f ∧ ∀ (c : Cfg) (vals : Array Value), HR c h → Fresh c n → vals.size = args.length → (∀ (i : Nat) (u : AV) (v : Value), args[i]? = some u → vals[i]? = some v → VR c u v) →
    Calls P f vals c.w (fun e w' => ∃ v r h' n', e = .returned v ∧ PostR c h n v w' r h' n' ∧ K r h' n')
def callA (P : Program) (T : TE) (o : Oper) (E : Env) (h : Heap) (n : Nat) (K : AV → Heap → Nat → Prop) : Prop :=
  match o.op with
  | .call c => match c.callee with
    | .value f => match ev E f with
      | .fn g cap => CA P g (c.args.toList.map (ev E) ++ cap) h n K
      | _ => False
    | _ => opP T o.op (ev E) h n K
  | op => opP T op (ev E) h n K
def yieldA (ops : List Oper) (E : Env) (j : Nat) : Option (Option Bool) :=
  match (ops[j]?).bind (·.dst) with
  | none => some none
  | some d => match E.get d with
    | .bool b => some (some b)
    | .undef => none
    | .fn .. => none
    | _ => some none
def stepA (P : Program) (T : TE) (ops : List Oper) (o : Oper) (E : Env) (h : Heap) (n : Nat) (K : Env → Heap → Nat → Prop) : Prop :=
  match o.guard with
  | none => callA P T o E h n (fun r h' n' => K (E.put o.dst r) h' n')
  | some (j, want) => match yieldA ops E j with
    | some y => if y = some want then callA P T o E h n (fun r h' n' => K (E.put o.dst r) h' n') else K (E.put o.dst (.tup [])) h n
    | none => False
def opsA (P : Program) (T : TE) (ops : List Oper) : List Oper → Env → Heap → Nat → (Env → Heap → Nat → Prop) → Prop
  | [], E, h, n, K => K E h n
  | o :: rest, E, h, n, K => stepA P T ops o E h n (fun E' h' n' => opsA P T ops rest E' h' n' K)
structure Base where
  c : Cfg
  h : Heap
  n : Nat
def SR (b : Base) (N : Nat) (E : Env) (h : Heap) (n : Nat) (a : Act) (w : World) : Prop :=
  ∃ c, c.w = w ∧ Ext b.c b.h (fun id => b.n ≤ id ∧ id < n) c h ∧ HR c h ∧ Fresh c n ∧ b.n ≤ n ∧ HR b.c b.h ∧ a.defers = [] ∧ a.tmps.size = N ∧ ∀ t, VR c (E.get t) (a.tmps.getD t undef)
def WP (P : Program) (N : Nat) (code : Code) (Q : Exit → Env → Heap → Nat → Prop) (E : Env) (h : Heap) (n : Nat) : Prop :=
  ∀ b a w, SR b N E h n a w → code.wp P (fun e a' w' => ∃ E' h' n', SR b N E' h' n' a' w' ∧ Q e E' h' n') a w
def dstIn (N : Nat) (o : Oper) : Bool := match o.dst with | some d => decide (d < N) | none => true
section
variable {P : Program} {T : TE} {c : Cfg} {h : Heap} {n : Nat}
theorem ofVal_ok (c : Cfg) (v : Value) : VR c (ofVal v) v := by
  unfold ofVal
  split
  · exact .bool _
  · exact .int _ _
  · exact .str _
  · exact .nils
  · exact .nilp
  · exact .nilf
  · exact .fn _ _ _ rfl (fun i u v h => by simp at h)
  · exact .undef _
theorem Env.get_put (E : Env) (d : Option Tmp) (v : AV) (t : Nat) : (E.put d v).get t = if d = some t then v else E.get t := by
  cases d with
  | none => simp [Env.put]
  | some d => simp [Env.put, Env.get]
theorem SR.fill {N : Nat} {E : Env} {a : Act} {c c' : Cfg} {h : Heap} {fr : Nat → Prop} {h' : Heap} (e1 : Ext c h fr c' h') (hh : HR c h) (hN : a.tmps.size = N) (ht : ∀ t, VR c (E.get t) (a.tmps.getD t undef)) {v : Value} {r : AV} {d : Option Tmp}
    (hd : ∀ t, d = some t → t < N) (hv : VR c' r v) : ∀ t, VR c' ((E.put d r).get t) ((a.put d v).tmps.getD t undef) := fun t => by
  rw [Env.get_put]
  split
  · rename_i hdt
    have htN := hd t hdt
    subst hdt
    simp only [Act.put, Array.getD_eq_getD_getElem?, Array.getElem?_setIfInBounds, if_true, hN, htN]
    exact hv
  · rename_i hdt
    have hE : (a.put d v).tmps.getD t undef = a.tmps.getD t undef := by
      cases d with
      | none => rfl
      | some d =>
        have hne : d ≠ t := fun hq => hdt (by rw [hq])
        simp [Act.put, Array.getElem?_setIfInBounds_ne hne]
    rw [hE]
    exact (ht t).mono e1 hh
theorem SR.put {b : Base} {N : Nat} {E : Env} {h : Heap} {n : Nat} {a : Act} {w : World} {c c' : Cfg} {h' : Heap} {n' : Nat} {v : Value} {r : AV} {d : Option Tmp}
    (e0 : Ext b.c b.h (fun id => b.n ≤ id ∧ id < n) c h) (hh : HR c h) (hb : HR b.c b.h) (hn : b.n ≤ n) (hd : a.defers = []) (hN : a.tmps.size = N) (ht : ∀ t, VR c (E.get t) (a.tmps.getD t undef)) (hdN : ∀ t, d = some t → t < N)
    (e1 : Ext c h (fun id => n ≤ id ∧ id < n') c' h') (hh' : HR c' h') (hf' : Fresh c' n') (hv : VR c' r v) (hn' : n ≤ n') (hw : c'.w = w) : SR b N (E.put d r) h' n' (a.put d v) w := by
  refine ⟨c', hw, e0.trans e1 (fun i hi => ⟨hi.1, by omega⟩) (fun i hi => ⟨by omega, hi.2⟩), hh', hf', by omega, hb, ?_, ?_, SR.fill e1 hh hN ht hdN hv⟩
  · cases d <;> exact hd
  · cases d <;> simp [Act.put, hN]
theorem SR.eval {E : Env} {a : Act} {c : Cfg} (ht : ∀ t, VR c (E.get t) (a.tmps.getD t undef)) (x : Operand) : VR c (ev E x) (a.eval x) := by
  cases x with
  | tmp t => exact ht t
  | const v => exact ofVal_ok c v
  | func f => exact .fn _ _ _ rfl (fun i u v h => by simp at h)
  | global g => exact .undef _
theorem callA_sound (hT : TEOk P T) {o : Oper} {b : Base} {N : Nat} {E : Env} {a : Act} {w : World} {K : Env → Heap → Nat → Prop} {next : Act → World → Prop} {Q : Exit → Act → World → Prop} (hdN : ∀ t, o.dst = some t → t < N)
    (hs : SR b N E h n a w) (hc : callA P T o E h n (fun r h' n' => K (E.put o.dst r) h' n')) (hK : ∀ E' h' n' a' w', SR b N E' h' n' a' w' → K E' h' n' → next a' w') : o.wp P a w next Q := by
  obtain ⟨c, rfl, e0, hh, hf, hn, hb, hd, hN, ht⟩ := hs
  have base : opP T o.op (ev E) h n (fun r h' n' => K (E.put o.dst r) h' n') → o.wp P a c.w next Q := fun ho => by
    obtain ⟨nx, c', r, h', n', v, q1, q2, q3, q4, q5, q6, q7, q8⟩ := opP_sound hT hh hf (fun x => SR.eval ht x) o ho
    have hfin := hK _ _ _ _ _ (SR.put (d := o.dst) e0 hh hb hn hd hN ht hdN q3 q4 q5 q6 q7 rfl) q8
    unfold Oper.wp
    rw [q1]
    rcases q2 with rfl | ⟨rfl, rfl⟩
    · exact hfin
    · exact hfin
  unfold callA at hc
  split at hc
  · rename_i cl hop
    split at hc
    · rename_i f hcal
      split at hc
      · rename_i g cap hg
        have hv := SR.eval ht f
        rw [hg] at hv
        obtain ⟨vf, hvf⟩ : ∃ v, v = a.eval f := ⟨_, rfl⟩
        rw [← hvf] at hv
        cases hv with
        | fn _ _ vs hsz hvs =>
          obtain ⟨hgo, hcall⟩ := hc
          have hrun : (execOp a.eval o).run P c.w = .ok (.enter g (cl.args.map a.eval ++ vs)) c.w := by
            simp [execOp, hop, resolve, hcal, ← hvf, Deferred.ofValue, invoke, hgo _ _]
          unfold Oper.wp
          rw [hrun]
          refine Calls.mono (hcall c _ hh hf (by simp [hsz]) (fun i u v hu hv => ?_)) (fun e w'' he => ?_)
          · rcases Nat.lt_or_ge i cl.args.size with hlt | hge
            · rw [List.getElem?_append_left (by simpa using hlt), List.getElem?_map] at hu
              rw [Array.getElem?_append_left (by simpa using hlt), Array.getElem?_map] at hv
              rw [Array.getElem?_eq_getElem hlt] at hv
              rw [Array.getElem?_toList, Array.getElem?_eq_getElem hlt] at hu
              obtain rfl := Option.some.inj hv
              obtain rfl := Option.some.inj hu
              exact SR.eval ht _
            · rw [List.getElem?_append_right (by simpa using hge)] at hu
              rw [Array.getElem?_append_right (by simpa using hge)] at hv
              refine hvs _ u v (by simpa using hu) (by simpa using hv)
          · obtain ⟨v, r, h', n', rfl, ⟨c', hw, q3, q4, q5, q6, q7⟩, q8⟩ := he
            exact hK _ _ _ _ _ (SR.put (d := o.dst) e0 hh hb hn hd hN ht hdN q3 q4 q5 q6 q7 hw) q8
      · exact hc.elim
    · exact base hc
  · exact base hc
end
end Go.Proofs.Ytcngfjmfgeckmaa
namespace Go.Proofs.Ytcngfjmfgeckmaa
open Go
section
variable {P : Program} {T : TE} {N : Nat} {E : Env} {h : Heap} {n : Nat}
theorem getD_get {a : Act} {d : Tmp} {v : Value} (hv : a.tmps.getD d undef = v) : a.tmps[d]? = some v ∨ (a.tmps[d]? = none ∧ v = .tuple #[]) := by
  rw [Array.getD_eq_getD_getElem?] at hv
  cases hx : a.tmps[d]? with
  | none => rw [hx] at hv; exact .inr ⟨rfl, hv.symm⟩
  | some u => rw [hx] at hv; exact .inl (by rw [show u = v from hv])
theorem yieldA_ok {ops : Array Oper} {c : Cfg} {a : Act} (ht : ∀ t, VR c (E.get t) (a.tmps.getD t undef)) {j : Nat} {y : Option Bool} (hy : yieldA ops.toList E j = some y) : yielded ops a.tmps j = y := by
  unfold yieldA at hy
  unfold yielded
  rw [Array.getElem?_toList] at hy
  cases hd : (ops[j]?).bind (·.dst) with
  | none => rw [hd] at hy; simp at hy; subst hy; rfl
  | some d =>
    rw [hd] at hy
    simp only [Option.bind_some]
    have hv := ht d
    obtain ⟨v, hv'⟩ : ∃ v, a.tmps.getD d undef = v := ⟨_, rfl⟩
    rw [hv'] at hv
    have hg := getD_get hv'
    simp only at hy
    generalize E.get d = x at hy hv
    cases hv <;> simp only [Option.some.injEq, reduceCtorEq] at hy <;> subst hy <;> rcases hg with hg | ⟨hg, hu⟩ <;> first | (rw [hg]; done) | (simp only [hg]; done) | cases hu
theorem stepA_sound (hT : TEOk P T) {ops : Array Oper} {o : Oper} {b : Base} {a : Act} {w : World} {K : Env → Heap → Nat → Prop} {next : Act → World → Prop} {Q : Exit → Act → World → Prop} (hdN : dstIn N o = true)
    (hs : SR b N E h n a w) (hc : stepA P T ops.toList o E h n K) (hK : ∀ E' h' n' a' w', SR b N E' h' n' a' w' → K E' h' n' → next a' w') :
    if Region.wanted o (yielded ops a.tmps) then o.wp P a w next Q else next (a.put o.dst undef) w := by
  have hd : ∀ t, o.dst = some t → t < N := fun t ht => by unfold dstIn at hdN; rw [ht] at hdN; simpa using hdN
  have hs0 := hs
  obtain ⟨c, rfl, e0, hh, hf, hn, hb, hdf, hN, ht⟩ := hs
  unfold stepA at hc
  unfold Region.wanted
  cases hg : o.guard with
  | none =>
    rw [hg] at hc
    simp only [if_true]
    exact callA_sound hT hd hs0 hc hK
  | some g =>
    obtain ⟨j, want⟩ := g
    rw [hg] at hc
    simp only at hc ⊢
    split at hc
    · rename_i y hy
      have hyd := yieldA_ok ht hy
      split at hc
      · rename_i hyw
        rw [if_pos (by simp [hyd, hyw])]
        exact callA_sound hT hd hs0 hc hK
      · rename_i hyw
        rw [if_neg (by simpa [hyd] using hyw)]
        exact hK _ _ _ _ _ (SR.put (d := o.dst) (v := undef) (r := .tup []) e0 hh hb hn hdf hN ht hd (Ext.refl c h _) hh hf (.tup _ _ rfl (fun i u v h => by simp at h)) (Nat.le_refl _) rfl) hc
    · exact hc.elim
theorem opsA_sound (hT : TEOk P T) {ops : Array Oper} {b : Base} {K : Env → Heap → Nat → Prop} {Q : Exit → Act → World → Prop} (hK : ∀ E' h' n' a' w', SR b N E' h' n' a' w' → K E' h' n' → Q .normal a' w') :
    ∀ (l : List Oper) {E : Env} {h : Heap} {n : Nat} {a : Act} {w : World}, l.all (dstIn N) = true → SR b N E h n a w → opsA P T ops.toList l E h n K → wpList P ops Q l a w
  | [], _, _, _, _, _, _, hs, hc => hK _ _ _ _ _ hs hc
  | o :: l, E, h, n, a, w, hd, hs, hc => by
    simp only [List.all_cons, Bool.and_eq_true] at hd
    refine wpList_step fun K' hK' => ?_
    exact stepA_sound hT hd.1 hs hc (fun E' h' n' a' w' hs' hc' => hK' _ _ (opsA_sound hT hK l hd.2 hs' hc'))
def thenA (next : Env → Heap → Nat → Prop) (Q : Exit → Env → Heap → Nat → Prop) : Exit → Env → Heap → Nat → Prop
  | .normal => next
  | e => Q e
def blockA (id : Nat) (Q : Exit → Env → Heap → Nat → Prop) : Exit → Env → Heap → Nat → Prop
  | .exit id' => if id' = id then Q .normal else Q (.exit id')
  | e => Q e
variable {Q : Exit → Env → Heap → Nat → Prop}
theorem WP.mono {c : Code} {Q' : Exit → Env → Heap → Nat → Prop} (hw : WP P N c Q E h n) (hq : ∀ e E h n, Q e E h n → Q' e E h n) : WP P N c Q' E h n := fun b a w hs =>
  wp_mono (hw b a w hs) fun _ _ _ ⟨E', h', n', q1, q2⟩ => ⟨E', h', n', q1, hq _ _ _ _ q2⟩
theorem WP.region (hT : TEOk P T) {id : Nat} {l : List Oper} (hd : l.all (dstIn N) = true) (hc : opsA P T l l E h n (Q .normal)) : WP P N (.region id l.toArray false) Q E h n := fun _ _ _ hs =>
  wp_region_lit (opsA_sound (ops := l.toArray) hT (fun E' h' n' _ _ q1 q2 => ⟨E', h', n', q1, q2⟩) l hd hs hc)
theorem WP.skip (hq : Q .normal E h n) : WP P N .skip Q E h n := fun _ _ _ hs => wp_skip ⟨_, _, _, hs, hq⟩
theorem WP.ret (hq : Q .ret E h n) : WP P N .ret Q E h n := fun _ _ _ hs => wp_ret ⟨_, _, _, hs, hq⟩
theorem WP.exit {id : Nat} (hq : Q (.exit id) E h n) : WP P N (.exit id) Q E h n := fun _ _ _ hs => wp_exit ⟨_, _, _, hs, hq⟩
theorem WP.label {l : Nat} (hq : Q .normal E h n) : WP P N (.label l) Q E h n := fun _ _ _ hs => wp_label ⟨_, _, _, hs, hq⟩
theorem WP.seq {x y : Code} (hx : WP P N x (thenA (WP P N y Q) Q) E h n) : WP P N (.seq x y) Q E h n := fun b a w hs =>
  wp_seq (wp_mono (hx b a w hs) fun e a' w' ⟨E', h', n', q1, q2⟩ => by
    cases e with
    | normal => exact q2 b a' w' q1
    | _ => exact ⟨E', h', n', q1, q2⟩)
theorem WP.cond {c : Operand} {x y : Code} {t : Bool} (hc : ev E c = .bool t) (ht : t = true → WP P N x Q E h n) (hf : t = false → WP P N y Q E h n) : WP P N (.cond c x y) Q E h n := fun b a w hs => by
  have hs0 := hs
  obtain ⟨cf, rfl, e0, hh, hfr, hn, hb, hdf, hN, hv⟩ := hs
  have hv := SR.eval hv c
  rw [hc] at hv
  obtain ⟨v, hv'⟩ : ∃ v, a.eval c = v := ⟨_, rfl⟩
  rw [hv'] at hv
  cases hv
  exact wp_cond_split hv' (fun q => ht q b a _ hs0) (fun q => hf q b a _ hs0)
theorem WP.block {id : Nat} {c : Code} (hc : WP P N c (blockA id Q) E h n) : WP P N (.block id c) Q E h n := fun b a w hs =>
  wp_block (wp_mono (hc b a w hs) fun e a' w' ⟨E', h', n', q1, q2⟩ => by
    cases e with
    | exit id' =>
      simp only [blockA] at q2
      simp only [Exit.inBlock]
      split
      · rename_i hid; rw [if_pos hid] at q2; exact ⟨E', h', n', q1, q2⟩
      · rename_i hid; rw [if_neg hid] at q2; exact ⟨E', h', n', q1, q2⟩
    | _ => exact ⟨E', h', n', q1, q2⟩)
theorem WP.loop {c : Code} (I : Nat → Env → Heap → Nat → Prop) (m : Nat) (h0 : I m E h n) (round : ∀ m E h n, I m E h n → WP P N c (thenA (fun E' h' n' => ∃ m', m' < m ∧ I m' E' h' n') Q) E h n) : WP P N (.loop c) Q E h n := fun b a w hs => by
  intro fb k cs
  have key : ∀ m E h n a w, SR b N E h n a w → I m E h n →
      ∃ e a' w', (∃ E' h' n', SR b N E' h' n' a' w' ∧ Q e E' h' n') ∧ Arrives P (lone (fb.at a (.code c :: .inLoop c :: k)) cs w) fb k cs e a' w' := by
    intro m
    induction m using Nat.strongRecOn with
    | _ m ih =>
      intro E h n a w hs hI
      obtain ⟨e, a₁, w₁, ⟨E1, h1, n1, hq1, hq⟩, harr⟩ := round m E h n hI b a w hs fb (.inLoop c :: k) cs
      cases e with
      | normal =>
        obtain ⟨m', hlt, hI₁⟩ := hq
        obtain ⟨e₂, a₂, w₂, hq₂, harr₂⟩ := ih m' hlt E1 h1 n1 a₁ w₁ hq1 hI₁
        exact ⟨e₂, a₂, w₂, hq₂, .of_steps (Steps.trans harr (.one step_inLoop)) harr₂⟩
      | exit id => exact ⟨_, a₁, w₁, ⟨E1, h1, n1, hq1, hq⟩, .pass (x := .inLoop c) rfl (fun _ _ => .inl (by simp)) harr⟩
      | goto l => exact ⟨_, a₁, w₁, ⟨E1, h1, n1, hq1, hq⟩, .pass (x := .inLoop c) rfl (fun _ _ => .inl (by simp)) harr⟩
      | ret => exact ⟨_, a₁, w₁, ⟨E1, h1, n1, hq1, hq⟩, .pass (x := .inLoop c) rfl (fun _ _ => .inl (by simp)) harr⟩
      | panic ch => exact ⟨_, a₁, w₁, ⟨E1, h1, n1, hq1, hq⟩, .pass (x := .inLoop c) rfl (fun _ _ => .inl (by simp)) harr⟩
      | outgrown => exact ⟨_, a₁, w₁, ⟨E1, h1, n1, hq1, hq⟩, .pass (x := .inLoop c) rfl (fun _ _ => .inl (by simp)) harr⟩
  obtain ⟨e, a', w', hq, harr⟩ := key m E h n a w hs h0
  exact ⟨e, a', w', hq, .of_steps (.one step_loop) harr⟩
def cellOk (T : TE) (t : TypeId) : Bool := match (T t).ty with | .struct _ => decide (0 < (T t).sz) | _ => true
def cellA (T : TE) (E : Env) (h : Heap) (a : Tmp) (t : TypeId) : Option AV :=
  match E.get a with
  | .ep sz s i off => (rdSl h sz s).bind fun l => (l[i]?).bind fun e => part T t off e
  | _ => none
def resA (T : TE) (E : Env) (h : Heap) : List ResultVar → Option (List AV)
  | [] => some []
  | .tmp t :: l => (resA T E h l).map (E.get t :: ·)
  | .cell a t :: l => if cellOk T t then (cellA T E h a t).bind fun v => (resA T E h l).map (v :: ·) else none
def resV : List AV → AV
  | [v] => v
  | l => .tup l
def retA (T : TE) (rs : List ResultVar) (K : AV → Heap → Nat → Prop) : Exit → Env → Heap → Nat → Prop
  | .normal | .ret => fun E h n => ∃ l, resA T E h rs = some l ∧ K (resV l) h n
  | _ => fun _ _ _ => False
def resM (a : Act) : ResultVar → Sem Value
  | .tmp t => pure (a.tmps.getD t undef)
  | .cell x t => do loadVar t (← asAddr (a.tmps.getD x undef))
theorem resA_ok (hT : TEOk P T) {c : Cfg} (hh : HR c h) {a : Act} (ht : ∀ t, VR c (E.get t) (a.tmps.getD t undef)) : ∀ (rs : List ResultVar) (l : List AV), resA T E h rs = some l →
    ∃ vs : List Value, (rs.mapM (resM a)).run P c.w = .ok vs c.w ∧ vs.length = l.length ∧ ∀ (i : Nat) (u : AV) (v : Value), l[i]? = some u → vs[i]? = some v → VR c u v
  | [], l, hr => by
    simp [resA] at hr; subst hr
    exact ⟨[], by simp, rfl, by simp⟩
  | .tmp t :: rs, l, hr => by
    simp only [resA, Option.map_eq_some_iff] at hr
    obtain ⟨l', hr', rfl⟩ := hr
    obtain ⟨vs, q1, q2, q3⟩ := resA_ok hT hh ht rs l' hr'
    refine ⟨a.tmps.getD t undef :: vs, ?_, by simp [q2], fun i u v hu hv => ?_⟩
    · simp only [List.mapM_cons, Sem.run_bind, resM, Sem.run_pure, Result.andThen_ok, q1]
    · cases i with
      | zero => simp only [List.getElem?_cons_zero, Option.some.injEq] at hu hv; subst hu; subst hv; exact ht t
      | succ i => exact q3 i u v (by simpa using hu) (by simpa using hv)
  | .cell x t :: rs, l, hr => by
    simp only [resA] at hr
    split at hr
    · rename_i hst
      obtain ⟨v, hv, hr⟩ := Option.bind_eq_some_iff.1 hr
      simp only [Option.map_eq_some_iff] at hr
      obtain ⟨l', hr', rfl⟩ := hr
      obtain ⟨vs, q1, q2, q3⟩ := resA_ok hT hh ht rs l' hr'
      unfold cellA at hv
      split at hv
      · rename_i sz s i off hx
        obtain ⟨l0, hl0, hv⟩ := Option.bind_eq_some_iff.1 hv
        obtain ⟨e, he, hv⟩ := Option.bind_eq_some_iff.1 hv
        have hp := ht x
        rw [hx] at hp
        obtain ⟨ad, hpv, hlen, hone, hc⟩ := rd_ep hh hp hl0 he
        obtain ⟨u, g1, g2⟩ := load_run (P := P) hT hv (fun fs hfs => by unfold cellOk at hst; rw [hfs] at hst; simpa using hst) hone hc
        refine ⟨u :: vs, ?_, by simp [q2], fun i u v hu hv => ?_⟩
        · simp only [List.mapM_cons, Sem.run_bind, resM, hpv, asAddr, Sem.run_pure, Result.andThen_ok, g1, q1]
        · cases i with
          | zero => simp only [List.getElem?_cons_zero, Option.some.injEq] at hu hv; subst hu; subst hv; exact g2
          | succ i => exact q3 i u v (by simpa using hu) (by simpa using hv)
      · cases hv
    · cases hr
theorem results_ok (hT : TEOk P T) {c : Cfg} (hh : HR c h) {a : Act} (ht : ∀ t, VR c (E.get t) (a.tmps.getD t undef)) {fn : Func} {l : List AV} (hr : resA T E h fn.results.toList = some l) :
    ∃ v, (results fn a.tmps).run P c.w = .ok v c.w ∧ VR c (resV l) v := by
  obtain ⟨vs, q1, q2, q3⟩ := resA_ok (P := P) hT hh ht _ l hr
  have hm : (fn.results.mapM (resM a)).run P c.w = .ok vs.toArray c.w := by
    rw [← Array.toArray_toList (xs := fn.results), List.mapM_toArray]
    simp [q1]
  refine ⟨if hs : vs.toArray.size = 1 then vs.toArray[0] else .tuple vs.toArray, ?_, ?_⟩
  · have he : results fn a.tmps = (do let vs ← fn.results.mapM (resM a); pure (if hs : vs.size = 1 then vs[0] else .tuple vs)) := by
      unfold results
      congr 1
    rw [he]
    simp only [Sem.run_bind, hm, Result.andThen_ok, Sem.run_pure]
  · match l, vs, q2 with
    | [u], [v], _ => exact q3 0 u v rfl rfl
    | [], [], _ => exact .tup _ _ rfl (fun i u v h => by simp at h)
    | u1 :: u2 :: l, v1 :: v2 :: vs, q2 =>
      refine .tup _ _ (by simpa using q2) fun i u v hu hv => q3 i u v hu (by simpa using hv)
def envOf (args : List AV) : Env := fun t => (args[t]?).getD .undef
theorem CA.enter (hT : TEOk P T) {f : FuncId} {fn : Func} {code : Code} {args : List AV} {K : AV → Heap → Nat → Prop} (hg : Goes P f) (hf : P.funcs[f]? = some fn) (hb : fn.body = some code) (hN : fn.ntmps = N) (hl : args.length ≤ N) {rs : List ResultVar} (hrs : fn.results.toList = rs)
    (hw : (∀ id b, h id = some b → id < n) → WP P N code (retA T rs K) (envOf args) h n) : CA P f args h n K := by
  refine ⟨hg, fun c vals hh hfr hs hv => calls_of_wp hf hb ?_⟩
  have hlt : ∀ id b, h id = some b → id < n := fun id b hid => by
    obtain ⟨b', base, sz, arr, E, hB⟩ := hh.blk id b hid
    rcases Nat.lt_or_ge id n with h1 | h1
    · exact h1
    · have := hB.ι; rw [hfr id h1] at this; cases this
  have hsr : SR ⟨c, h, n⟩ N (envOf args) h n { tmps := vals ++ Array.replicate (fn.ntmps - vals.size) undef, defers := [] } c.w := by
    refine ⟨c, rfl, Ext.refl _ _ _, hh, hfr, Nat.le_refl _, hh, rfl, by simp; omega, fun t => ?_⟩
    show VR c ((args[t]?).getD .undef) _
    by_cases ht : t < args.length
    · have h1 : args[t]? = some args[t] := List.getElem?_eq_getElem ht
      have h2 : vals[t]? = some (vals[t]'(by omega)) := Array.getElem?_eq_getElem (by omega)
      rw [Array.getD_eq_getD_getElem?, Array.getElem?_append_left (by omega), h2, h1]
      exact hv t _ _ h1 h2
    · rw [List.getElem?_eq_none (by omega)]
      exact .undef _
  refine wp_mono (hw hlt _ _ _ hsr) fun e a w ⟨E', h', n', q1, q2⟩ => ?_
  obtain ⟨c', rfl, e0, hh', hf', hn', _, hd, hN', ht'⟩ := q1
  have fin : ∀ l, resA T E' h' rs = some l → K (resV l) h' n' → a.defers = [] ∧ ∃ v, (results fn a.tmps).run P c'.w = .ok v c'.w ∧ ∃ v_1 r h'_1 n'_1, Ending.returned v = .returned v_1 ∧ PostR c h n v_1 c'.w r h'_1 n'_1 ∧ K r h'_1 n'_1 := fun l h1 h2 => by
    subst hrs
    obtain ⟨v, g1, g2⟩ := results_ok (P := P) hT hh' ht' h1
    exact ⟨hd, v, g1, v, _, _, _, rfl, ⟨c', rfl, e0, hh', hf', g2, hn'⟩, h2⟩
  cases e with
  | normal => obtain ⟨l, h1, h2⟩ := q2; exact fin l h1 h2
  | ret => obtain ⟨l, h1, h2⟩ := q2; exact fin l h1 h2
  | _ => exact q2.elim
end
end Go.Proofs.Ytcngfjmfgeckmaa
namespace Go.Proofs.Ytcngfjmfgeckmaa
open Go
inductive PT where
  | int (k : IntKind)
  | bool
  | str
  | list (t : PT)
  | rcd (k : RK)
abbrev PT.den : PT → Type
  | .int _ => Int
  | .bool => Bool
  | .str => ByteArray
  | .list t => List t.den
  | .rcd k => k.den
def kindNum : IntKind → Nat
  | .i8 => 0 | .i16 => 1 | .i32 => 2 | .i64 => 3 | .u8 => 4 | .u16 => 5 | .u32 => 6 | .u64 => 7
theorem kindNum_inj {a b : IntKind} : kindNum a = kindNum b → a = b := by
  intro h; cases a <;> cases b <;> first | rfl | exact absurd h (by decide)
def PT.eq? : (a b : PT) → Option (PLift (a = b))
  | .int k, .int k' => match h : Nat.beq (kindNum k) (kindNum k') with
    | true => some ⟨by rw [kindNum_inj (Nat.eq_of_beq_eq_true h)]⟩
    | false => none
  | .bool, .bool => some ⟨rfl⟩
  | .str, .str => some ⟨rfl⟩
  | .list t, .list t' => match PT.eq? t t' with
    | some ⟨h⟩ => some ⟨by rw [h]⟩
    | none => none
  | .rcd k, .rcd k' => match h : Nat.beq k.num k'.num with
    | true => some ⟨by rw [RK.num_inj (Nat.eq_of_beq_eq_true h)]⟩
    | false => none
  | _, _ => none
inductive SV where
  | int (k : IntKind) (x : Int)
  | bool (b : Bool)
  | str (s : ByteArray)
  | nil
  | rd (ex : Bool) (t : PT) (xs : List t.den)
  | vw (ex : Bool) (m : Nat) (t : PT) (xs : List t.den)
  | row (r v : Nat)
  | sub (r v s : Nat) (i j : Int) (ex : Bool) (t : PT) (ys : List t.den)
  | nst (r v w u s : Nat) (i : Int) (off : Nat) (t : PT) (ys : List t.den)
  | nsub (r v w u s : Nat) (i : Int) (off : Nat) (a b : Int) (t : PT) (ys : List t.den)
  | pr (cs : List SV) (off : Nat)
  | pv (m : Nat) (cs : List SV) (off : Nat)
  | cp (c off : Nat)
  | ep (r v u s : Nat) (i : Int) (off : Nat) (cs : List SV)
  | en (r v w u s : Nat) (i : Int) (off : Nat) (j : Int) (off2 : Nat) (cs : List SV)
  | agg (cs : List SV)
  | tup (vs : List SV)
  | fn (f : FuncId) (cap : List SV)
  | nilp
  | nilf
  | undef
  | lk
  deriving Inhabited
namespace SV
def cells : SV → List SV
  | agg cs => cs
  | v => [v]
end SV
inductive Md where
  | own
  | flat
  | fz
def Md.isOwn : Md → Bool
  | .own => true
  | _ => false
def Md.isFz : Md → Bool
  | .fz => true
  | _ => false
def Md.nest : Md → Bool
  | .flat => false
  | _ => true
def Md.of : Bool → Md
  | true => .own
  | false => .flat
inductive Root where
  | cell (cs : List SV)
  | row (v w s : Nat) (md : Md) (hole : Option (Nat × Nat)) (t : PT) (xs : List t.den)
abbrev Roots := List (Nat × Root)
abbrev SEnv := List (Nat × SV)
structure St where
  env : SEnv
  roots : Roots
  nx : Nat
  mc : Nat
structure Cx where
  env0 : SEnv
  roots0 : Roots
  frames : List SEnv
def lkp {α : Type} : List (Nat × α) → Nat → Option α
  | [], _ => none
  | (a, b) :: l, x => bif a.beq x then some b else lkp l x
def updK {α β : Type} : List (Nat × α) → Nat → α → (List (Nat × α) → Option β) → Option β
  | [], _, _, _ => none
  | (a, b) :: l, x, y, k => bif a.beq x then k ((a, y) :: l) else updK l x y fun l' => k ((a, b) :: l')
def delK {α β : Type} : List (Nat × α) → Nat → (List (Nat × α) → Option β) → Option β
  | [], _, _ => none
  | (a, b) :: l, x, k => bif a.beq x then k l else delK l x fun l' => k ((a, b) :: l')
def svOf : AV → SV
  | .bool b => .bool b
  | .int k n => .int k n
  | .str s => .str s
  | .nils => .nil
  | .nilp => .nilp
  | .nilf => .nilf
  | .fn f [] => .fn f []
  | _ => .undef
def getT (cx : Cx) (st : St) (t : Nat) : SV := match lkp st.env t with
  | some v => v
  | none => match lkp cx.env0 t with
    | some v => v
    | none => .undef
def evS (cx : Cx) (st : St) : Operand → SV
  | .tmp t => getT cx st t
  | .const v => svOf (ofVal v)
  | .func f => .fn f []
  | .global _ => .undef
def ovl : List SV → List SV → List SV
  | .lk :: l, v :: r => v :: ovl l r
  | a :: l, _ :: r => a :: ovl l r
  | l, _ => l
def rootOf (cx : Cx) (st : St) (r : Nat) : Option Root := match lkp st.roots r with
  | some (.cell cs) => match lkp cx.roots0 r with
    | some (.cell cs0) => some (.cell (ovl cs cs0))
    | _ => some (.cell cs)
  | some ρ => some ρ
  | none => lkp cx.roots0 r
def putS {α : Type} (cx : Cx) (st : St) (d : Option Tmp) (v : SV) (k : St → Option α) : Option α := match st, d with
  | st, none => k st
  | ⟨env, roots, nx, mc⟩, some d => match lkp cx.env0 d with
    | some _ => none
    | none => k ⟨(d, v) :: env, roots, nx, mc⟩
def atI {α : Type} (l : List α) (i : Int) : Option α := if 0 ≤ i then l[i.toNat]? else none
def setI {α : Type} (l : List α) (i : Int) (a : α) : List α := l.set i.toNat a
def slcI {α : Type} (l : List α) (i j : Int) : Option (List α) := if 0 ≤ i ∧ i ≤ j ∧ j ≤ (l.length : Int) then some ((l.drop i.toNat).take (j - i).toNat) else none
def roomI (bytes len : Nat) : Bool := decide (len * bytes ≤ 140737488355328) && decide (len ≤ 140737488355328)
def appI {α : Type} (bytes : Nat) (l l2 : List α) : Option (List α) := if roomI bytes (l.length + l2.length) = true then some (l ++ l2) else none
def mkI {α : Type} (bytes : Nat) (a b : Int) (z : α) : Option (List α) := if 0 ≤ a ∧ a = b ∧ roomI bytes a.toNat = true then some (List.replicate a.toNat z) else none
def appZ {α : Type} (bytes : Nat) (l : List α) (n : Int) (z : α) : Option (List α) := if 0 ≤ n ∧ roomI bytes (l.length + n.toNat) = true then some (l ++ List.replicate n.toNat z) else none
def cloneI {α : Type} (bytes _fu : Nat) (l : List α) : Option (List α) := if roomI bytes l.length = true then some l else none
def delI {α : Type} (l : List α) (i j : Int) : Option (List α) := if 0 ≤ i ∧ i ≤ j ∧ j ≤ (l.length : Int) then some (l.take i.toNat ++ l.drop j.toNat) else none
def insI {α : Type} (bytes : Nat) (l : List α) (i : Int) (m : List α) : Option (List α) := if 0 ≤ i ∧ i ≤ (l.length : Int) ∧ roomI bytes (l.length + m.length) = true then some (l.take i.toNat ++ m ++ l.drop i.toNat) else none
def delF {α : Type} (f : α → Option Bool) : List α → Option (List α)
  | [] => some []
  | a :: l => Option.bind (f a) fun b => Option.bind (delF f l) fun l => some (if b = true then l else a :: l)
def cpyI {α : Type} (l : List α) (i j : Int) (l2 : List α) : List α := l.take i.toNat ++ l2.take (j - i).toNat ++ l.drop (i.toNat + (l2.take (j - i).toNat).length)
end Go.Proofs.Ytcngfjmfgeckmaa
namespace Go.Proofs.Ytcngfjmfgeckmaa
open Go
section
variable {α : Type}
def tI (k : IntKind) (f : Int → List SV → Option α) : List SV → Option α
  | .int k' v :: r => bif Nat.beq (kindNum k') (kindNum k) then f v r else none
  | _ => none
def tB (f : Bool → List SV → Option α) : List SV → Option α
  | .bool v :: r => f v r
  | _ => none
def tS (f : ByteArray → List SV → Option α) : List SV → Option α
  | .str v :: r => f v r
  | _ => none
def castL (t' t : PT) (xs : List t'.den) : Option (List t.den) := match PT.eq? t' t with
  | some ⟨h⟩ => some (h ▸ xs)
  | none => none
def tL (t : PT) (f : List t.den → List SV → Option α) : List SV → Option α
  | .rd _ t' xs :: r => match castL t' t xs with
    | some ys => f ys r
    | none => none
  | .nil :: r => f [] r
  | _ => none
def tE (a : α) : List SV → Option α
  | [] => some a
  | _ => none
end
def explodeR : (k : RK) → k.den → List SV
  | .cell, x => [.int .i64 x.key, .int .i64 x.value]
  | .page, x => [.int .i64 x.id, .int .i64 x.lsn, .rd false (.rcd .cell) x.cells]
  | .pageResult, x => [.int .i64 x.code, .int .i64 x.page.id, .int .i64 x.page.lsn, .rd false (.rcd .cell) x.page.cells]
  | .bytesResult, x => [.int .i64 x.code, .rd false (.int .u8) x.bytes]
  | .intResult, x => [.int .i64 x.code, .int .i64 x.value]
  | .intsResult, x => [.int .i64 x.code, .rd false (.int .i64) x.list]
  | .textResult, x => [.int .i64 x.code, .str x.text]
  | .loose, x => [.int .i64 x.page, .int .i64 x.part, .rd false (.int .u8) x.data]
  | .disk, x => [.rd false (.list (.int .u8)) x.pages, .rd false (.rcd .loose) x.loose]
  | .diskResult, x => [.int .i64 x.code, .rd false (.list (.int .u8)) x.disk.pages, .rd false (.rcd .loose) x.disk.loose]
  | .rcrd, x => [.int .i64 x.kind, .int .i64 x.txn, .int .i64 x.key, .bool x.had, .int .i64 x.old, .bool x.has, .int .i64 x.new, .int .i64 x.back]
  | .log, x => [.rd false (.int .u8) x.sure, .rd false (.int .u8) x.loose]
  | .logResult, x => [.int .i64 x.code, .int .i64 x.lsn, .rd false (.int .u8) x.log.sure, .rd false (.int .u8) x.log.loose]
  | .recsResult, x => [.int .i64 x.code, .int .i64 x.used, .rd false (.rcd .rcrd) x.recs]
  | .node, x => [.bool x.leaf, .rd false (.int .i64) x.keys, .rd false (.int .i64) x.kids]
  | .tree, x => [.int .i64 x.root, .rd false (.rcd .node) x.nodes]
  | .treeResult, x => [.int .i64 x.code, .int .i64 x.tree.root, .rd false (.rcd .node) x.tree.nodes]
  | .treeWalk, x => [.int .i64 x.t.root, .rd false (.rcd .node) x.t.nodes, .rd false (.bool) x.seen, .int .i64 x.depth, .bool x.bad]
  | .version, x => [.int .i64 x.txn, .int .i64 x.at_, .bool x.gone, .int .i64 x.value]
  | .view, x => [.int .i64 x.at_, .int .i64 x.own]
  | .chainResult, x => [.int .i64 x.code, .rd false (.rcd .version) x.chain]
  | .undo, x => [.int .i64 x.key, .bool x.had, .bool x.gone, .int .i64 x.value]
  | .txn, x => [.int .i64 x.id, .int .i64 x.at_, .int .i64 x.state, .int .i64 x.done, .rd false (.rcd .undo) x.undos]
  | .row, x => [.int .i64 x.key, .rd false (.rcd .version) x.chain]
  | .engine, x => [.int .i64 x.next, .int .i64 x.clock, .rd false (.rcd .txn) x.txns, .rd false (.rcd .row) x.rows]
  | .engineResult, x => [.int .i64 x.code, .int .i64 x.value, .int .i64 x.engine.next, .int .i64 x.engine.clock, .rd false (.rcd .txn) x.engine.txns, .rd false (.rcd .row) x.engine.rows]
  | .cellsResult, x => [.int .i64 x.code, .rd false (.rcd .cell) x.cells]
  | .garbageResult, x => [.int .i64 x.code, .int .i64 x.versions, .int .i64 x.rows, .int .i64 x.txns]
  | .pair, x => [.int .i64 x.value, .int .i64 x.key]
  | .pairsResult, x => [.int .i64 x.code, .rd false (.rcd .pair) x.pairs]
  | .act, x => [.int .i64 x.kind, .int .i64 x.txn, .int .i64 x.key, .int .i64 x.value]
  | .reply, x => [.int .i64 x.code, .int .i64 x.value, .rd false (.rcd .cell) x.cells]
  | .copied, x => [.int .i64 x.id, .int .i64 x.at_, .int .i64 x.state, .rd false (.rcd .cell) x.start, .rd false (.rcd .cell) x.now, .rd false (.int .i64) x.wrote]
  | .copies, x => [.int .i64 x.next, .int .i64 x.clock, .rd false (.rcd .cell) x.now, .rd false (.int .i64) x.last, .rd false (.rcd .copied) x.txns]
  | .copiesResult, x => [.int .i64 x.code, .int .i64 x.value, .rd false (.rcd .cell) x.cells, .int .i64 x.copies.next, .int .i64 x.copies.clock, .rd false (.rcd .cell) x.copies.now, .rd false (.int .i64) x.copies.last, .rd false (.rcd .copied) x.copies.txns]
  | .repliesResult, x => [.int .i64 x.code, .rd false (.rcd .reply) x.replies]
  | .replyResult, x => [.int .i64 x.code, .int .i64 x.reply.code, .int .i64 x.reply.value, .rd false (.rcd .cell) x.reply.cells, .int .i64 x.engine.next, .int .i64 x.engine.clock, .rd false (.rcd .txn) x.engine.txns, .rd false (.rcd .row) x.engine.rows]
  | .hop, x => [.int .i64 x.kind, .int .i64 x.txn, .int .i64 x.key, .int .i64 x.of]
  | .historyResult, x => [.int .i64 x.code, .rd false (.rcd .hop) x.history]
  | .edge, x => [.int .i64 x.frm, .int .i64 x.to, .int .i64 x.kind]
  | .edgesResult, x => [.int .i64 x.code, .rd false (.rcd .edge) x.edges]
  | .held, x => [.int .i64 x.txn, .int .i64 x.key]
  | .store, x => [.int .i64 x.next, .rd false (.rcd .page) x.pages, .rd false (.list (.int .u8)) x.disk.pages, .rd false (.rcd .loose) x.disk.loose, .rd false (.int .u8) x.log.sure, .rd false (.int .u8) x.log.loose, .rd false (.rcd .held) x.held, .rd false (.int .i64) x.opn]
  | .storeResult, x => [.int .i64 x.code, .int .i64 x.value, .int .i64 x.store.next, .rd false (.rcd .page) x.store.pages, .rd false (.list (.int .u8)) x.store.disk.pages, .rd false (.rcd .loose) x.store.disk.loose, .rd false (.int .u8) x.store.log.sure, .rd false (.int .u8) x.store.log.loose, .rd false (.rcd .held) x.store.held, .rd false (.int .i64) x.store.opn]
  | .pagesResult, x => [.int .i64 x.code, .rd false (.rcd .page) x.pages]
  | .crashResult, x => [.int .i64 x.code, .rd false (.list (.int .u8)) x.disk.pages, .rd false (.rcd .loose) x.disk.loose, .rd false (.int .u8) x.log.sure, .rd false (.int .u8) x.log.loose]
  | .partsResult, x => [.int .i64 x.code, .rd false (.list (.int .u8)) x.parts]
  | .scriptResult, x => [.int .i64 x.code, .int .i64 x.engine.next, .int .i64 x.engine.clock, .rd false (.rcd .txn) x.engine.txns, .rd false (.rcd .row) x.engine.rows, .str x.said]
  | .actResult, x => [.int .i64 x.code, .int .i64 x.act.kind, .int .i64 x.act.txn, .int .i64 x.act.key, .int .i64 x.act.value]
  | .mergeResult, x => [.int .i64 x.code, .rd false (.rcd .act) x.acts, .rd false (.int .i64) x.who]
  | .talksResult, x => [.int .i64 x.code, .rd false (.list (.rcd .reply)) x.talks]
  | .l4Go, x => [.rd false (.int .i64) x.seen, .int .i64 x.depth, .bool x.bad]
  | .l13Sim, x => [.rd false (.rcd .cell) x.cells, .rd false (.int .i64) x.begun, .rd false (.int .i64) x.ended, .rd false (.int .i64) x.undid, .rd false (.rcd .held) x.held]
def implodeR : (k : RK) → List SV → Option k.den
  | .cell => tI .i64 fun v0 => tI .i64 fun v1 => tE ⟨v0, v1⟩
  | .page => tI .i64 fun v0 => tI .i64 fun v1 => tL (.rcd .cell) fun v2 => tE ⟨v0, v1, v2⟩
  | .pageResult => tI .i64 fun v0 => tI .i64 fun v1 => tI .i64 fun v2 => tL (.rcd .cell) fun v3 => tE ⟨v0, ⟨v1, v2, v3⟩⟩
  | .bytesResult => tI .i64 fun v0 => tL (.int .u8) fun v1 => tE ⟨v0, v1⟩
  | .intResult => tI .i64 fun v0 => tI .i64 fun v1 => tE ⟨v0, v1⟩
  | .intsResult => tI .i64 fun v0 => tL (.int .i64) fun v1 => tE ⟨v0, v1⟩
  | .textResult => tI .i64 fun v0 => tS fun v1 => tE ⟨v0, v1⟩
  | .loose => tI .i64 fun v0 => tI .i64 fun v1 => tL (.int .u8) fun v2 => tE ⟨v0, v1, v2⟩
  | .disk => tL (.list (.int .u8)) fun v0 => tL (.rcd .loose) fun v1 => tE ⟨v0, v1⟩
  | .diskResult => tI .i64 fun v0 => tL (.list (.int .u8)) fun v1 => tL (.rcd .loose) fun v2 => tE ⟨v0, ⟨v1, v2⟩⟩
  | .rcrd => tI .i64 fun v0 => tI .i64 fun v1 => tI .i64 fun v2 => tB fun v3 => tI .i64 fun v4 => tB fun v5 => tI .i64 fun v6 => tI .i64 fun v7 => tE ⟨v0, v1, v2, v3, v4, v5, v6, v7⟩
  | .log => tL (.int .u8) fun v0 => tL (.int .u8) fun v1 => tE ⟨v0, v1⟩
  | .logResult => tI .i64 fun v0 => tI .i64 fun v1 => tL (.int .u8) fun v2 => tL (.int .u8) fun v3 => tE ⟨v0, v1, ⟨v2, v3⟩⟩
  | .recsResult => tI .i64 fun v0 => tI .i64 fun v1 => tL (.rcd .rcrd) fun v2 => tE ⟨v0, v1, v2⟩
  | .node => tB fun v0 => tL (.int .i64) fun v1 => tL (.int .i64) fun v2 => tE ⟨v0, v1, v2⟩
  | .tree => tI .i64 fun v0 => tL (.rcd .node) fun v1 => tE ⟨v0, v1⟩
  | .treeResult => tI .i64 fun v0 => tI .i64 fun v1 => tL (.rcd .node) fun v2 => tE ⟨v0, ⟨v1, v2⟩⟩
  | .treeWalk => tI .i64 fun v0 => tL (.rcd .node) fun v1 => tL (.bool) fun v2 => tI .i64 fun v3 => tB fun v4 => tE ⟨⟨v0, v1⟩, v2, v3, v4⟩
  | .version => tI .i64 fun v0 => tI .i64 fun v1 => tB fun v2 => tI .i64 fun v3 => tE ⟨v0, v1, v2, v3⟩
  | .view => tI .i64 fun v0 => tI .i64 fun v1 => tE ⟨v0, v1⟩
  | .chainResult => tI .i64 fun v0 => tL (.rcd .version) fun v1 => tE ⟨v0, v1⟩
  | .undo => tI .i64 fun v0 => tB fun v1 => tB fun v2 => tI .i64 fun v3 => tE ⟨v0, v1, v2, v3⟩
  | .txn => tI .i64 fun v0 => tI .i64 fun v1 => tI .i64 fun v2 => tI .i64 fun v3 => tL (.rcd .undo) fun v4 => tE ⟨v0, v1, v2, v3, v4⟩
  | .row => tI .i64 fun v0 => tL (.rcd .version) fun v1 => tE ⟨v0, v1⟩
  | .engine => tI .i64 fun v0 => tI .i64 fun v1 => tL (.rcd .txn) fun v2 => tL (.rcd .row) fun v3 => tE ⟨v0, v1, v2, v3⟩
  | .engineResult => tI .i64 fun v0 => tI .i64 fun v1 => tI .i64 fun v2 => tI .i64 fun v3 => tL (.rcd .txn) fun v4 => tL (.rcd .row) fun v5 => tE ⟨v0, v1, ⟨v2, v3, v4, v5⟩⟩
  | .cellsResult => tI .i64 fun v0 => tL (.rcd .cell) fun v1 => tE ⟨v0, v1⟩
  | .garbageResult => tI .i64 fun v0 => tI .i64 fun v1 => tI .i64 fun v2 => tI .i64 fun v3 => tE ⟨v0, v1, v2, v3⟩
  | .pair => tI .i64 fun v0 => tI .i64 fun v1 => tE ⟨v0, v1⟩
  | .pairsResult => tI .i64 fun v0 => tL (.rcd .pair) fun v1 => tE ⟨v0, v1⟩
  | .act => tI .i64 fun v0 => tI .i64 fun v1 => tI .i64 fun v2 => tI .i64 fun v3 => tE ⟨v0, v1, v2, v3⟩
  | .reply => tI .i64 fun v0 => tI .i64 fun v1 => tL (.rcd .cell) fun v2 => tE ⟨v0, v1, v2⟩
  | .copied => tI .i64 fun v0 => tI .i64 fun v1 => tI .i64 fun v2 => tL (.rcd .cell) fun v3 => tL (.rcd .cell) fun v4 => tL (.int .i64) fun v5 => tE ⟨v0, v1, v2, v3, v4, v5⟩
  | .copies => tI .i64 fun v0 => tI .i64 fun v1 => tL (.rcd .cell) fun v2 => tL (.int .i64) fun v3 => tL (.rcd .copied) fun v4 => tE ⟨v0, v1, v2, v3, v4⟩
  | .copiesResult => tI .i64 fun v0 => tI .i64 fun v1 => tL (.rcd .cell) fun v2 => tI .i64 fun v3 => tI .i64 fun v4 => tL (.rcd .cell) fun v5 => tL (.int .i64) fun v6 => tL (.rcd .copied) fun v7 => tE ⟨v0, v1, v2, ⟨v3, v4, v5, v6, v7⟩⟩
  | .repliesResult => tI .i64 fun v0 => tL (.rcd .reply) fun v1 => tE ⟨v0, v1⟩
  | .replyResult => tI .i64 fun v0 => tI .i64 fun v1 => tI .i64 fun v2 => tL (.rcd .cell) fun v3 => tI .i64 fun v4 => tI .i64 fun v5 => tL (.rcd .txn) fun v6 => tL (.rcd .row) fun v7 => tE ⟨v0, ⟨v1, v2, v3⟩, ⟨v4, v5, v6, v7⟩⟩
  | .hop => tI .i64 fun v0 => tI .i64 fun v1 => tI .i64 fun v2 => tI .i64 fun v3 => tE ⟨v0, v1, v2, v3⟩
  | .historyResult => tI .i64 fun v0 => tL (.rcd .hop) fun v1 => tE ⟨v0, v1⟩
  | .edge => tI .i64 fun v0 => tI .i64 fun v1 => tI .i64 fun v2 => tE ⟨v0, v1, v2⟩
  | .edgesResult => tI .i64 fun v0 => tL (.rcd .edge) fun v1 => tE ⟨v0, v1⟩
  | .held => tI .i64 fun v0 => tI .i64 fun v1 => tE ⟨v0, v1⟩
  | .store => tI .i64 fun v0 => tL (.rcd .page) fun v1 => tL (.list (.int .u8)) fun v2 => tL (.rcd .loose) fun v3 => tL (.int .u8) fun v4 => tL (.int .u8) fun v5 => tL (.rcd .held) fun v6 => tL (.int .i64) fun v7 => tE ⟨v0, v1, ⟨v2, v3⟩, ⟨v4, v5⟩, v6, v7⟩
  | .storeResult => tI .i64 fun v0 => tI .i64 fun v1 => tI .i64 fun v2 => tL (.rcd .page) fun v3 => tL (.list (.int .u8)) fun v4 => tL (.rcd .loose) fun v5 => tL (.int .u8) fun v6 => tL (.int .u8) fun v7 => tL (.rcd .held) fun v8 => tL (.int .i64) fun v9 => tE ⟨v0, v1, ⟨v2, v3, ⟨v4, v5⟩, ⟨v6, v7⟩, v8, v9⟩⟩
  | .pagesResult => tI .i64 fun v0 => tL (.rcd .page) fun v1 => tE ⟨v0, v1⟩
  | .crashResult => tI .i64 fun v0 => tL (.list (.int .u8)) fun v1 => tL (.rcd .loose) fun v2 => tL (.int .u8) fun v3 => tL (.int .u8) fun v4 => tE ⟨v0, ⟨v1, v2⟩, ⟨v3, v4⟩⟩
  | .partsResult => tI .i64 fun v0 => tL (.list (.int .u8)) fun v1 => tE ⟨v0, v1⟩
  | .scriptResult => tI .i64 fun v0 => tI .i64 fun v1 => tI .i64 fun v2 => tL (.rcd .txn) fun v3 => tL (.rcd .row) fun v4 => tS fun v5 => tE ⟨v0, ⟨v1, v2, v3, v4⟩, v5⟩
  | .actResult => tI .i64 fun v0 => tI .i64 fun v1 => tI .i64 fun v2 => tI .i64 fun v3 => tI .i64 fun v4 => tE ⟨v0, ⟨v1, v2, v3, v4⟩⟩
  | .mergeResult => tI .i64 fun v0 => tL (.rcd .act) fun v1 => tL (.int .i64) fun v2 => tE ⟨v0, v1, v2⟩
  | .talksResult => tI .i64 fun v0 => tL (.list (.rcd .reply)) fun v1 => tE ⟨v0, v1⟩
  | .l4Go => tL (.int .i64) fun v0 => tI .i64 fun v1 => tB fun v2 => tE ⟨v0, v1, v2⟩
  | .l13Sim => tL (.rcd .cell) fun v0 => tL (.int .i64) fun v1 => tL (.int .i64) fun v2 => tL (.int .i64) fun v3 => tL (.rcd .held) fun v4 => tE ⟨v0, v1, v2, v3, v4⟩
def PT.w : PT → Nat
  | .rcd k => k.w
  | _ => 1
def PT.scal : PT → Bool
  | .rcd _ => false
  | _ => true
def PT.flat : PT → Bool
  | .list _ => false
  | .rcd k => k.flat
  | _ => true
def explode : (t : PT) → t.den → List SV
  | .int k, x => [.int k x]
  | .bool, x => [.bool x]
  | .str, x => [.str x]
  | .list t, x => [.rd false t x]
  | .rcd k, x => explodeR k x
def implode : (t : PT) → List SV → Option t.den
  | .int k => tI k fun v => tE v
  | .bool => tB fun v => tE v
  | .str => tS fun v => tE v
  | .list t => tL t fun v => tE v
  | .rcd k => implodeR k
end Go.Proofs.Ytcngfjmfgeckmaa
namespace Go.Proofs.Ytcngfjmfgeckmaa
open Go
def strAt (s : ByteArray) (i : Int) : Option Int := if h : 0 ≤ i ∧ i.toNat < s.size then some ((s[i.toNat]'h.2).toNat : Int) else none
def strSlc (s : ByteArray) (i j : Int) : Option ByteArray := if 0 ≤ i ∧ i ≤ j ∧ j ≤ (s.size : Int) then some (s.extract i.toNat j.toNat) else none
structure Pg where
  P : Program
  T : TE
  tp : Nat → Option PT
def SV.oneV : SV → Bool
  | .agg _ => false
  | .tup _ => false
  | .undef => false
  | .lk => false
  | _ => true
def okC : List SV → Bool
  | [] => true
  | v :: l => v.oneV && okC l
section
variable {α : Type} (g : Pg) (cx : Cx) (st : St)
def nthS : List SV → Nat → Option SV
  | [], _ => none
  | a :: _, 0 => some a
  | _ :: l, n + 1 => nthS l n
def splK : List SV → Nat → List SV → (List SV → Option α) → Option α
  | l, 0, [], k => k l
  | .lk :: _, 0, _ :: _, _ => none
  | _ :: l, 0, b :: bs, k => splK l 0 bs fun l' => k (b :: l')
  | [], 0, _ :: _, _ => none
  | a :: l, n + 1, bs, k => splK l n bs fun l' => k (a :: l')
  | [], _ + 1, _, _ => none
def dropK : List SV → Nat → (List SV → Option α) → Option α
  | l, 0, k => k l
  | _ :: l, n + 1, k => dropK l n k
  | [], _ + 1, _ => none
def takeK : List SV → Nat → (List SV → Option α) → Option α
  | _, 0, k => k []
  | a :: l, n + 1, k => takeK l n fun l' => k (a :: l')
  | [], _ + 1, _ => none
def partK (t : TypeId) (off : Nat) (cs : List SV) (k : SV → Option α) : Option α := match (g.T t).ty with
  | .struct _ => dropK cs off fun l => takeK l (g.T t).sz fun l => k (.agg l)
  | .other => none
  | _ => match nthS cs off with
    | some v => k v
    | none => none
def nestE (r v w u s : Nat) (i : Int) : Nat → List SV → List SV
  | _, [] => []
  | o, .rd _ t ys :: l => .nst r v w u s i o t ys :: nestE r v w u s i (o + 1) l
  | o, c :: l => c :: nestE r v w u s i (o + 1) l
def nestIf (md : Md) (r v w u s : Nat) (i : Int) (cs : List SV) : List SV := match md with
  | .own => nestE r v w u s i 0 cs
  | _ => cs
inductive Src where
  | fr
  | live
  | own (r : Nat)
def srcOf (md : Md) (r : Nat) : Src := match md with
  | .fz => .fr
  | _ => .own r
def asL (v : SV) (k : Src → (t : PT) → List t.den → Option α) : Option α := match v with
  | .rd _ t xs => k .fr t xs
  | .vw _ m t xs => bif m.beq st.mc then k .live t xs else none
  | .row r v => match rootOf cx st r with
    | some (.row v' _ _ md none t xs) => bif v.beq v' then k (srcOf md r) t xs else none
    | _ => none
  | .sub r v s i j _ t ys => match rootOf cx st r with
    | some (.row v' _ s' md none t' xs) => bif v.beq v' then (bif s.beq s' then k (srcOf md r) t ys else Option.bind (slcI xs i j) fun zs => k (srcOf md r) t' zs) else none
    | _ => none
  | .nst r v w _ s i off t ys => match rootOf cx st r with
    | some (.row v' w' s' md none t' xs) => bif v.beq v' && w.beq w' && md.nest then (bif s.beq s' then k (srcOf md r) t ys else Option.bind (atI xs i) fun x => match nthS (explode t' x) off with
        | some (.rd _ t2 zs) => k (srcOf md r) t2 zs
        | _ => none) else none
    | _ => none
  | .nsub r v w _ s i off a b t ys => match rootOf cx st r with
    | some (.row v' w' s' md none t' xs) => bif v.beq v' && w.beq w' && md.nest then (bif s.beq s' then k (srcOf md r) t ys else Option.bind (atI xs i) fun x => match nthS (explode t' x) off with
        | some (.rd _ t2 zs) => Option.bind (slcI zs a b) fun zs => k (srcOf md r) t2 zs
        | _ => none) else none
    | _ => none
  | _ => none
def plainK : List SV → (List Src → List SV → Option α) → Option α
  | [], k => k [] []
  | .int i x :: l, k => plainK l fun q l => k q (.int i x :: l)
  | .bool x :: l, k => plainK l fun q l => k q (.bool x :: l)
  | .str x :: l, k => plainK l fun q l => k q (.str x :: l)
  | .nil :: l, k => plainK l fun q l => k q (.nil :: l)
  | v :: l, k => asL cx st v fun c t xs => plainK l fun q l => k (c :: q) (.rd false t xs :: l)
def intK (v : SV) (k : Int → Option α) : Option α := match v with
  | .int _ x => k x
  | _ => none
def anyL : List SV → Bool
  | [] => false
  | .rd _ _ _ :: _ => true
  | .nil :: _ => true
  | _ :: l => anyL l
def vwC (m : Nat) : List SV → List SV
  | [] => []
  | .rd e t xs :: l => .vw e m t xs :: vwC m l
  | v :: l => v :: vwC m l
def derefK (a : SV) (k : List SV → Nat → Option α) : Option α := match a with
  | .cp c off => match rootOf cx st c with
    | some (.cell cs) => k cs off
    | _ => none
  | .pr cs off => k cs off
  | .pv m cs off => bif m.beq st.mc then k cs off else none
  | .ep r v u s i off cs => match rootOf cx st r with
    | some (.row v' w s' md none t xs) => bif v.beq v' then (bif s.beq s' then k (nestIf md r v w u s' i cs) off else Option.bind (atI xs i) fun x => k (nestIf md r v w u s' i (explode t x)) off) else none
    | _ => none
  | .en r v w _ s i off j off2 cs => match rootOf cx st r with
    | some (.row v' w' s' md none t xs) => bif v.beq v' && w.beq w' && md.nest then (bif s.beq s' then (bif anyL cs then none else k cs off2) else Option.bind (atI xs i) fun x => match nthS (explode t x) off with
        | some (.rd _ t2 ys) => Option.bind (atI ys j) fun y => bif anyL (explode t2 y) then none else k (explode t2 y) off2
        | _ => none) else none
    | _ => none
  | _ => none
def absorbK (r u : Nat) : (own flat : Bool) → (off : Nat) → (old new : List SV) → Roots → (Bool → List SV → Roots → Option α) → Option α
  | own, _, _, _, [], ρ, k => k own [] ρ
  | own, fl, o, c :: old, .int i x :: l, ρ, k => absorbK r u own fl (o + 1) old l ρ fun own l ρ => k own (.int i x :: l) ρ
  | own, fl, o, c :: old, .bool x :: l, ρ, k => absorbK r u own fl (o + 1) old l ρ fun own l ρ => k own (.bool x :: l) ρ
  | own, fl, o, c :: old, .str x :: l, ρ, k => absorbK r u own fl (o + 1) old l ρ fun own l ρ => k own (.str x :: l) ρ
  | own, fl, o, c :: old, .nil :: l, ρ, k => absorbK r u own fl (o + 1) old l ρ fun own l ρ => k own (.nil :: l) ρ
  | own, fl, o, c :: old, .row q v :: l, ρ, k => match lkp ρ q with
    | some (.row v' _ _ .fz none t xs) => bif v.beq v' then absorbK r u false fl (o + 1) old l ρ fun own l ρ => k own (.rd false t xs :: l) ρ else none
    | some (.row v' _ _ md none t xs) => bif v.beq v' then delK ρ q fun ρ => absorbK r u (own && md.isOwn) fl (o + 1) old l ρ fun own l ρ => k own (.rd false t xs :: l) ρ else none
    | _ => none
  | own, fl, o, c :: old, .sub q v s i j _ t ys :: l, ρ, k => match lkp ρ q with
    | some (.row v' _ s' .fz none _ _) => bif v.beq v' && s.beq s' then absorbK r u false fl (o + 1) old l ρ fun own l ρ => k own (.rd false t ys :: l) ρ else none
    | some (.row v' _ s' md none _ _) => bif v.beq v' && s.beq s' then delK ρ q fun ρ => absorbK r u (own && md.isOwn) fl (o + 1) old l ρ fun own l ρ => k own (.rd false t ys :: l) ρ else none
    | _ => none
  | own, fl, o, c :: old, .nsub q v w u' s i o' a b t ys :: l, ρ, k => match lkp ρ q with
    | some (.row v' w' s' md none t' xs) => bif v.beq v' && w.beq w' && s.beq s' then (bif q.beq r && u.beq u' && o.beq o' && own then absorbK r u own fl (o + 1) old l ρ fun own l ρ => k own (.rd false t ys :: l) ρ
      else bif q.beq r then none else updK ρ q (.row v' w' s' .fz none t' xs) fun ρ => absorbK r u false fl (o + 1) old l ρ fun own l ρ => k own (.rd false t ys :: l) ρ) else none
    | _ => none
  | own, fl, o, c :: old, .nst q v w u' s i o' t ys :: l, ρ, k => match lkp ρ q with
    | some (.row v' w' s' md none t' xs) => bif v.beq v' && w.beq w' && s.beq s' then (bif q.beq r && u.beq u' && o.beq o' && own then absorbK r u own fl (o + 1) old l ρ fun own l ρ => k own (.rd false t ys :: l) ρ
      else bif q.beq r then none else updK ρ q (.row v' w' s' .fz none t' xs) fun ρ => absorbK r u false fl (o + 1) old l ρ fun own l ρ => k own (.rd false t ys :: l) ρ) else none
    | _ => none
  | own, fl, o, c :: old, .rd e t xs :: l, ρ, k => absorbK r u false fl (o + 1) old l ρ fun own l ρ => k own (.rd e t xs :: l) ρ
  | _, _, _, _, _, _, _ => none
def loadS (t : TypeId) (a : SV) (k : SV → St → Option α) : Option α := derefK cx st a fun cs off => partK g t off cs fun v => k v st
def holeAt (hole : Option (Nat × Nat)) (u off n : Nat) : Bool := match hole with
  | none => true
  | some (u', o) => u.beq u' && o.beq off && n.beq 1
def ownOr (fl own : Bool) : Md := match fl with | true => .own | false => Md.of own
def storeS (t : TypeId) (a x : SV) (k : SV → St → Option α) : Option α :=
  bif Nat.beq (g.T t).sz x.cells.length && okC x.cells && Nat.blt 0 (g.T t).sz then (match st, a with
  | ⟨env, ρ, nx, mc⟩, .cp c off => match lkp ρ c with
    | some (.cell cs) => splK cs off x.cells fun cs => updK ρ c (.cell cs) fun ρ => k .undef ⟨env, ρ, nx, mc⟩
    | _ => none
  | ⟨env, ρ, nx, mc⟩, .ep r v u s i off cs => match lkp ρ r with
    | some (.row v' w s' md hole t' xs) => bif v.beq v' && holeAt hole u off x.cells.length && !md.isFz && (!t'.scal || x.oneV) then (
        let go := fun (cs : List SV) => dropK cs off fun old => absorbK r u md.isOwn t'.flat off old x.cells ρ fun own' new ρ => splK cs off new fun cs' =>
          match implode t' cs' with
          | some x' => updK ρ r (.row v (bif anyL new then nx else w) nx (ownOr t'.flat own') none t' (setI xs i x')) fun ρ => k .undef ⟨env, ρ, nx + 1, nx⟩
          | none => none
        bif s.beq s' then go cs else Option.bind (atI xs i) fun x => go (explode t' x)) else none
    | _ => none
  | ⟨env, ρ, nx, mc⟩, .en r v w u s i off j off2 cs => match lkp ρ r with
    | some (.row v' w' s' .own none t' xs) => bif v.beq v' && w.beq w' then Option.bind (atI xs i) fun y => (match nthS (explode t' y) off with
        | some (.rd _ t2 ys) => Option.bind (atI ys j) fun z => plainK cx ⟨env, ρ, nx, mc⟩ x.cells fun _ new => bif anyL new || t2.scal && !x.oneV then none else splK (explode t2 z) off2 new fun cs2 => match implode t2 cs2 with
          | some z' => splK (explode t' y) off [.rd false t2 (setI ys j z')] fun cs' => match implode t' cs' with
            | some y' => updK ρ r (.row v w nx .own none t' (setI xs i y')) fun ρ => k .undef ⟨env, ρ, nx + 1, nx⟩
            | none => none
          | none => none
        | _ => none) else none
    | _ => none
  | _, _ => none) else none
def optI (o : Option SV) (d : Int) : Option Int := match o with
  | none => some d
  | some (.int _ x) => some x
  | some _ => none
def sameX : Option Operand → Option Operand → Bool
  | some (.tmp a), some (.tmp b) => a.beq b
  | some (.const (.int _ 0)), some (.const (.int _ 0)) => true
  | _, _ => false
def mxOf (hi mx : Option Operand) : Option Bool := match mx with
  | none => none
  | some m => some (sameX hi (some m))
def sliceS (sz : Nat) (x : SV) (lo hi : Option SV) (mx : Option Bool) (k : SV → St → Option α) : Option α :=
  match optI lo 0 with
  | none => none
  | some i => match mx with
    | some false => none
    | _ => let ex := mx.isSome
      let fin := fun (n : Int) => optI hi n
      match x with
      | .str s => bif mx.isSome || !Nat.beq sz 0 then none else match fin (s.size : Int) with
        | none => none
        | some j => Option.bind (strSlc s i j) fun x => k (.str x) st
      | .nil => match fin 0 with
        | none => none
        | some j => if i = 0 ∧ j = 0 then k .nil st else none
      | .rd _ t xs => match fin xs.length with
        | none => none
        | some j => bif !Nat.beq sz t.w then none else Option.bind (slcI xs i j) fun ys => k (.rd ex t ys) st
      | .vw _ m t xs => match fin xs.length with
        | none => none
        | some j => bif !(Nat.beq sz t.w && m.beq st.mc) then none else Option.bind (slcI xs i j) fun ys => k (.vw ex m t ys) st
      | .row r v => match rootOf cx st r with
        | some (.row v' _ s _ none t xs) => bif v.beq v' && Nat.beq sz t.w then (match fin xs.length with
          | none => none
          | some j => Option.bind (slcI xs i j) fun ys => k (.sub r v s i j ex t ys) st) else none
        | _ => none
      | .sub r v s a b e t ys => match rootOf cx st r with
        | some (.row v' _ s' _ none _ _) => bif v.beq v' && s.beq s' && Nat.beq sz t.w && (ex || !e) then (match fin ys.length with
          | none => none
          | some j => Option.bind (slcI ys i j) fun zs => k (.sub r v s (a + i) (a + j) ex t zs) st) else none
        | _ => none
      | .nst r v w u s i' off t ys => match rootOf cx st r with
        | some (.row v' w' s' md none _ _) => bif v.beq v' && w.beq w' && s.beq s' && md.nest && Nat.beq sz t.w && !ex then (match fin ys.length with
          | none => none
          | some j => Option.bind (slcI ys i j) fun zs => k (.nsub r v w u s i' off i j t zs) st) else none
        | _ => none
      | _ => none
def indexAddrS (t : TypeId) (x : SV) (ix : SV) (k : SV → St → Option α) : Option α := match (g.T t).ty with
  | .slice e => intK ix fun i => match st with
    | ⟨env, ρ, nx, mc⟩ => match x with
      | .rd _ t xs => bif Nat.beq (g.T e).sz t.w then Option.bind (atI xs i) fun x => k (.pr (explode t x) 0) ⟨env, ρ, nx, mc⟩ else none
      | .vw _ m t xs => bif Nat.beq (g.T e).sz t.w && m.beq mc then Option.bind (atI xs i) fun x => k (.pv m (vwC m (explode t x)) 0) ⟨env, ρ, nx, mc⟩ else none
      | .row r v => match rootOf cx ⟨env, ρ, nx, mc⟩ r with
        | some (.row v' _ s _ none t xs) => bif Nat.beq (g.T e).sz t.w && v.beq v' then Option.bind (atI xs i) fun x => k (.ep r v nx s i 0 (explode t x)) ⟨env, ρ, nx + 1, mc⟩ else none
        | _ => none
      | .sub r v s a _ _ t ys => match rootOf cx ⟨env, ρ, nx, mc⟩ r with
        | some (.row v' _ s' _ none _ _) => bif Nat.beq (g.T e).sz t.w && v.beq v' && s.beq s' then Option.bind (atI ys i) fun x => k (.ep r v nx s (a + i) 0 (explode t x)) ⟨env, ρ, nx + 1, mc⟩ else none
        | _ => none
      | .nst r v w u s i' off t ys => match rootOf cx ⟨env, ρ, nx, mc⟩ r with
        | some (.row v' w' s' md none t' xs) => bif Nat.beq (g.T e).sz t.w && v.beq v' && w.beq w' && md.nest then (bif s.beq s' then Option.bind (atI ys i) fun x => k (.en r v w u s i' off i 0 (explode t x)) ⟨env, ρ, nx, mc⟩
            else Option.bind (atI xs i') fun x => match nthS (explode t' x) off with
              | some (.rd _ t2 zs) => bif Nat.beq (g.T e).sz t2.w then Option.bind (atI zs i) fun x => k (.en r v w u s' i' off i 0 (explode t2 x)) ⟨env, ρ, nx, mc⟩ else none
              | _ => none) else none
        | _ => none
      | .nsub r v w u s i' off a _ t ys => match rootOf cx ⟨env, ρ, nx, mc⟩ r with
        | some (.row v' w' s' md none _ _) => bif Nat.beq (g.T e).sz t.w && v.beq v' && w.beq w' && s.beq s' && md.nest then Option.bind (atI ys i) fun x => k (.en r v w u s i' off (a + i) 0 (explode t x)) ⟨env, ρ, nx, mc⟩ else none
        | _ => none
      | _ => none
  | _ => none
def addOff (v : SV) (o : Nat) : Option SV := match v with
  | .cp c off => some (.cp c (off + o))
  | .pr cs off => some (.pr cs (off + o))
  | .pv m cs off => some (.pv m cs (off + o))
  | .ep r v u s i off cs => some (.ep r v u s i (off + o) cs)
  | .en r v w u s i off j off2 cs => some (.en r v w u s i off j (off2 + o) cs)
  | _ => none
def eqS : SV → SV → Option Bool
  | .int k a, .int k' b => bif Nat.beq (kindNum k) (kindNum k') then some (a == b) else none
  | .bool a, .bool b => some (a == b)
  | .str a, .str b => some (a.toList == b.toList)
  | _, _ => none
def eqSs : List SV → List SV → Option Bool
  | [], [] => some true
  | [x], [y] => eqS x y
  | x :: xs, y :: ys => match eqS x y with
    | some a => match eqSs xs ys with
      | some b => some (a && b)
      | none => none
    | none => none
  | _, _ => none
def fitS (g : Pg) (t : TypeId) (x : SV) : Bool := match (g.T t).ty, x with
  | .int _, .int _ _ => true
  | .bool, .bool _ => true
  | .str, .str _ => true
  | _, _ => false
def fitsS (g : Pg) : List (Nat × TypeId) → List SV → Bool
  | [], [] => true
  | p :: fs, x :: xs => fitS g p.2 x && fitsS g fs xs
  | _, _ => false
def binS (op : BinOp) (t : TypeId) (x y : SV) (k : SV → Option α) : Option α := match op, x, y with
  | .shl, .int i a, .int _ b => if 0 ≤ b then k (.int i (i.wrap (a * 2 ^ (min b.toNat i.bits)))) else none
  | .shr, .int i a, .int _ b => if 0 ≤ b then k (.int i (a.fdiv (2 ^ (min b.toNat i.bits)))) else none
  | .add, .str a, .str b => if a.size + b.size ≤ maxLen then k (.str (a ++ b)) else none
  | .eql, .str a, .str b => k (.bool (decide (a = b)))
  | .neq, .str a, .str b => k (.bool (decide (a ≠ b)))
  | .eql, .bool a, .bool b => match (g.T t).ty with | .bool => k (.bool (a == b)) | _ => none
  | .neq, .bool a, .bool b => match (g.T t).ty with | .bool => k (.bool (!(a == b))) | _ => none
  | .eql, .agg a, .agg b => match (g.T t).ty with | .struct fs => bif (g.T t).cmp && fitsS g fs a then (match eqSs a b with | some r => k (.bool r) | none => none) else none | _ => none
  | .neq, .agg a, .agg b => match (g.T t).ty with | .struct fs => bif (g.T t).cmp && fitsS g fs a then (match eqSs a b with | some r => k (.bool (!r)) | none => none) else none | _ => none
  | op, .int i a, .int j b => bif Nat.beq (kindNum i) (kindNum j) then (match op with
    | .add => k (.int i (i.wrap (a + b)))
    | .sub => k (.int i (i.wrap (a - b)))
    | .mul => k (.int i (i.wrap (a * b)))
    | .quo => if b ≠ 0 then k (.int i (i.wrap (a.tdiv b))) else none
    | .rem => if b ≠ 0 then k (.int i (a.tmod b)) else none
    | .and => k (.int i (bitA .and i a b))
    | .or => k (.int i (bitA .or i a b))
    | .eql => k (.bool (decide (a = b)))
    | .neq => k (.bool (decide (a ≠ b)))
    | .lss => k (.bool (decide (a < b)))
    | .leq => k (.bool (decide (a ≤ b)))
    | .gtr => k (.bool (decide (b < a)))
    | .geq => k (.bool (decide (b ≤ a)))
    | _ => none) else none
  | _, _, _ => none
def buildS (fs : List (Nat × TypeId)) : List (Nat × Operand) → List SV → (List SV → Option α) → Option α
  | [], cs, k => k cs
  | (i, x) :: rest, cs, k => match fs[i]? with
    | some p => bif Nat.beq (evS cx st x).cells.length (g.T p.2).sz && okC (evS cx st x).cells then splK cs p.1 (evS cx st x).cells fun cs => buildS fs rest cs k else none
    | none => none
def elemsK (t : PT) : Nat → List (Nat × Operand) → Bool → Roots → (Bool → List t.den → Roots → Option α) → Option α
  | _, [], own, ρ, k => k own [] ρ
  | n, (i, x) :: l, own, ρ, k => bif Nat.beq i n && Nat.beq (evS cx st x).cells.length t.w && (!t.scal || (evS cx st x).oneV) then
      absorbK st.nx st.nx own t.flat 0 (evS cx st x).cells (evS cx st x).cells ρ fun own cs ρ => (match implode t cs with
        | some y => elemsK t (n + 1) l own ρ fun own ys ρ => k own (y :: ys) ρ
        | none => none) else none
def svsOf (l : List AV) : List SV := match l with
  | [] => []
  | a :: l => svOf a :: svsOf l
def opS (op : Op) (k : SV → St → Option α) : Option α := match op with
  | .move x => k (evS cx st x) st
  | .assign x => k (evS cx st x) st
  | .pick c a b => match evS cx st c with
    | .bool c => match evS cx st a, evS cx st b with
      | .int i x, .int j y => bif Nat.beq (kindNum i) (kindNum j) then k (.int i (if c = true then x else y)) st else none
      | .bool x, .bool y => k (.bool (if c = true then x else y)) st
      | .str x, .str y => k (.str (if c = true then x else y)) st
      | v, w => if c = true then k v st else k w st
    | _ => none
  | .alloc e => match st with
    | ⟨env, ρ, nx, mc⟩ => bif Nat.blt 0 (g.T e).sz then k (.cp nx 0) ⟨env, (nx, .cell (svsOf (g.T e).zero.cells)) :: ρ, nx + 1, mc⟩ else none
  | .box e x => match st, evS cx st x with
    | ⟨env, ρ, nx, mc⟩, v => bif Nat.blt 0 (g.T e).sz && Nat.beq v.cells.length (g.T e).sz && okC v.cells then k (.cp nx 0) ⟨env, (nx, .cell v.cells) :: ρ, nx + 1, mc⟩ else none
  | .build t parts => match (g.T t).ty with
    | .struct fs => buildS g cx st fs parts.toList (svsOf (g.T t).zero.cells) fun cs => k (.agg cs) st
    | _ => none
  | .buildSlice t len parts => match (g.T t).ty with
    | .slice e => match g.tp e with
      | some pt => bif Nat.beq (g.T e).sz pt.w && Nat.beq len parts.toList.length && Nat.ble (len * pt.w) 16777216 then (match st with
        | ⟨env, ρ, nx, mc⟩ => elemsK cx ⟨env, ρ, nx, mc⟩ pt 0 parts.toList true ρ fun own xs ρ => k (.row nx nx) ⟨env, (nx, .row nx nx nx (ownOr pt.flat own) none pt xs) :: ρ, nx + 1, mc⟩) else none
      | none => none
    | _ => none
  | .load t a => loadS g cx st t (evS cx st a) k
  | .store t a x => storeS g cx st t (evS cx st a) (evS cx st x) k
  | .nilCheck x => match evS cx st x with
    | .cp c o => k (.cp c o) st
    | .pr cs o => k (.pr cs o) st
    | .pv m cs o => k (.pv m cs o) st
    | .ep r v u s i o cs => k (.ep r v u s i o cs) st
    | .en r v w u s i o j o2 cs => k (.en r v w u s i o j o2 cs) st
    | .fn f c => k (.fn f c) st
    | _ => none
  | .binOp op t x y _ => binS g op t (evS cx st x) (evS cx st y) fun r => k r st
  | .unOp op _ x => match op, evS cx st x with
    | .not, .bool b => k (.bool (!b)) st
    | .neg, .int i n => k (.int i (i.wrap (0 - n))) st
    | _, _ => none
  | .convert s d x => match (g.T d).ty, evS cx st x with
    | .int i, .int _ m => match (g.T s).ty with | .int _ => k (.int i (i.wrap m)) st | _ => none
    | .str, v => match (g.T s).ty with
      | .slice e => match (g.T e).ty with
        | .int .u8 => match v with
          | .nil => k (.str (bytesStr [])) st
          | v => asL cx st v fun _ t xs => match castL t (.int .u8) xs with
            | some ys => k (.str (bytesStr ys)) st
            | none => none
        | _ => none
      | _ => none
    | _, _ => none
  | .makeFunc (.func f) first cap => bif first.isEmpty then k (.fn f (cap.toList.map (evS cx st))) st else none
  | .makeSlice t l c => match (g.T t).ty, evS cx st l, evS cx st c with
    | .slice e, .int _ a, .int _ b => match g.tp e with
      | some pt => bif Nat.beq (g.T e).sz pt.w && (!pt.scal || (g.T e).zero.one) then (match implode pt (svsOf (g.T e).zero.cells), st with
        | some z, ⟨env, ρ, nx, mc⟩ => Option.bind (mkI (g.T e).bytes a b z) fun xs => k (.row nx nx) ⟨env, (nx, .row nx nx nx .own none pt xs) :: ρ, nx + 1, mc⟩
        | none, _ => none) else none
      | none => none
    | _, _, _ => none
  | .slice t x lo hi mx => match (g.T t).ty, evS cx st x with
    | .str, .str s => bif mx.isNone then sliceS cx st 0 (.str s) (lo.map (evS cx st)) (hi.map (evS cx st)) none k else none
    | .slice e, v => bif Nat.blt 0 (g.T e).sz then sliceS cx st (g.T e).sz v (lo.map (evS cx st)) (hi.map (evS cx st)) (mxOf hi mx) k else none
    | _, _ => none
  | .fieldAddr s x f => match (g.T s).ty with
    | .struct fs => match fs[f]? with
      | some p => bif Nat.blt 0 (g.T p.2).sz then (match addOff (evS cx st x) p.1 with
        | some v => k v st
        | none => none) else none
      | none => none
    | _ => none
  | .field t x f => match (g.T t).ty, evS cx st x with
    | .struct fs, .agg cs => match fs[f]? with
      | some p => partK g p.2 p.1 cs fun v => k v st
      | none => none
    | _, _ => none
  | .indexAddr t x ix => indexAddrS g cx st t (evS cx st x) (evS cx st ix) k
  | .index t x ix => match (g.T t).ty, evS cx st x, evS cx st ix with
    | .str, .str s, .int _ i => Option.bind (strAt s i) fun x => k (.int .u8 x) st
    | _, _, _ => none
  | .extract t ix => match evS cx st t with
    | .tup vs => match nthS vs ix with
      | some r => k r st
      | none => none
    | _ => none
  | _ => none
end
end Go.Proofs.Ytcngfjmfgeckmaa
namespace Go.Proofs.Ytcngfjmfgeckmaa
open Go
inductive AV.Lt (n : Nat) : AV → Prop
  | bool (b) : Lt n (.bool b)
  | int (k m) : Lt n (.int k m)
  | str (s) : Lt n (.str s)
  | nils : Lt n .nils
  | ro (sz ex l) (hl : ∀ (i : Nat) (e : AV) (j : Nat) (u : AV), l[i]? = some e → e.cells[j]? = some u → Lt n u) : Lt n (.ro sz ex l)
  | sl (sz id off len lo ex) (hid : id < n) : Lt n (.sl sz id off len lo ex)
  | ep (sz a i off) (ha : Lt n a) : Lt n (.ep sz a i off)
  | nilp : Lt n .nilp
  | nilf : Lt n .nilf
  | fn (f cap) (hl : ∀ (i : Nat) (u : AV), cap[i]? = some u → Lt n u) : Lt n (.fn f cap)
  | agg (cs) (hl : ∀ (i : Nat) (u : AV), cs[i]? = some u → Lt n u) : Lt n (.agg cs)
  | tup (cs) (hl : ∀ (i : Nat) (u : AV), cs[i]? = some u → Lt n u) : Lt n (.tup cs)
  | undef : Lt n .undef
inductive Frz (n : Nat) (h : Heap) : AV → AV → Prop
  | keep (u) (hu : u.Lt n) : Frz n h u u
  | sl (sz id off len lo ex) (b l' : List AV) (hid : n ≤ id) (hb : h id = some b) (hle : off + len ≤ b.length) (hl : l'.length = len) (he : ∀ (i : Nat) (e e' : AV), b[off + i]? = some e → l'[i]? = some e' → Frz n h e e') :
      Frz n h (.sl sz id off len lo ex) (.ro sz (ex && decide (lo = len)) l')
  | agg (cs cs' : List AV) (hl : cs'.length = cs.length) (he : ∀ (i : Nat) (u u' : AV), cs[i]? = some u → cs'[i]? = some u' → Frz n h u u') : Frz n h (.agg cs) (.agg cs')
  | tup (cs cs' : List AV) (hl : cs'.length = cs.length) (he : ∀ (i : Nat) (u u' : AV), cs[i]? = some u → cs'[i]? = some u' → Frz n h u u') : Frz n h (.tup cs) (.tup cs')
section
variable {c c' : Cfg} {h h' h'' : Heap} {n n' : Nat} {u u' : AV} {v : Value}
theorem VR.relabel (hu : VR c u v) (hl : u.Lt n) (hw : c'.w = c.w) (hz : ∀ b, c.Fz b → c'.Fz b) (hi : ∀ id x, id < n → c.ι id = some x → c'.ι id = some x) : VR c' u v := by
  induction hu with
  | bool b => exact .bool b
  | int k n => exact .int k n
  | str s => exact .str s
  | nils => exact .nils
  | ro sz ex l a cap f hcap hmax hex hfz hsz hone hc hv ih =>
    cases hl with
    | ro _ _ _ hl => exact .ro sz ex l a cap f hcap hmax hex (fun q => hz _ (hfz q)) hsz hone (fun i e j u h1 h2 => by rw [hw]; exact hc i e j u h1 h2) (fun i e j u h1 h2 => ih i e j u h1 h2 (hl i e j u h1 h2))
  | sl sz id off len lo ex b base cap hι hlen hlo hex hmax hroom a ha =>
    cases hl with
    | sl _ _ _ _ _ _ hid => exact .sl sz id off len lo ex b base cap (hi _ _ hid hι) hlen hlo hex hmax (by rw [hw]; exact hroom) a ha
  | ep_ro sz ex l i off a cap ha hi' ih =>
    cases hl with
    | ep _ _ _ _ hl => exact .ep_ro sz ex l i off a cap (ih hl) hi'
  | ep_sl sz id o len lo ex i off b base hι =>
    cases hl with
    | ep _ _ _ _ hl => cases hl with
      | sl _ _ _ _ _ _ hid => exact .ep_sl sz id o len lo ex i off b base (hi _ _ hid hι)
  | nilp => exact .nilp
  | nilf => exact .nilf
  | fn f cap vs hs hv ih =>
    cases hl with
    | fn _ _ hl => exact .fn f cap vs hs (fun i u v h1 h2 => ih i u v h1 h2 (hl i u h1))
  | agg cs vs hs hone hv ih =>
    cases hl with
    | agg _ hl => exact .agg cs vs hs hone (fun i u v h1 h2 => ih i u v h1 h2 (hl i u h1))
  | tup cs vs hs hv ih =>
    cases hl with
    | tup _ hl => exact .tup cs vs hs (fun i u v h1 h2 => ih i u v h1 h2 (hl i u h1))
  | undef v => exact .undef v
theorem VR.lt (hf : Fresh c n) (hu : VR c u v) : u.Lt n := by
  have key : ∀ id x, c.ι id = some x → id < n := fun id x hx => by
    rcases Nat.lt_or_ge id n with h1 | h1
    · exact h1
    · rw [hf id h1] at hx; cases hx
  induction hu with
  | bool b => exact .bool b
  | int k n => exact .int k n
  | str s => exact .str s
  | nils => exact .nils
  | ro sz ex l a cap f hcap hmax hex hfz hsz hone hc hv ih => exact .ro _ _ _ ih
  | sl sz id off len lo ex b base cap hι hlen hlo hex hmax hroom a ha => exact .sl _ _ _ _ _ _ (key _ _ hι)
  | ep_ro sz ex l i off a cap ha hi' ih => exact .ep _ _ _ _ ih
  | ep_sl sz id o len lo ex i off b base hι => exact .ep _ _ _ _ (.sl _ _ _ _ _ _ (key _ _ hι))
  | nilp => exact .nilp
  | nilf => exact .nilf
  | fn f cap vs hs hv ih =>
    refine .fn _ _ (fun i u hi => ?_)
    have hlt := (List.getElem?_eq_some_iff.1 hi).1
    exact ih i u _ hi (Array.getElem?_eq_getElem (by omega))
  | agg cs vs hs hone hv ih =>
    refine .agg _ (fun i u hi => ?_)
    have hlt := (List.getElem?_eq_some_iff.1 hi).1
    exact ih i u _ hi (Array.getElem?_eq_getElem (by omega))
  | tup cs vs hs hv ih =>
    refine .tup _ (fun i u hi => ?_)
    have hlt := (List.getElem?_eq_some_iff.1 hi).1
    exact ih i u _ hi (Array.getElem?_eq_getElem (by omega))
  | undef v => exact .undef
theorem Frz.one (hz : Frz n h u u') (hu : u.one = true) : u'.one = true := by
  cases hz with
  | keep => exact hu
  | sl => rfl
  | agg => simp [AV.one] at hu
  | tup => simp [AV.one] at hu
theorem Frz.cells (hz : Frz n h u u') : u'.cells.length = u.cells.length ∧ ∀ (j : Nat) (x x' : AV), u.cells[j]? = some x → u'.cells[j]? = some x' → Frz n h x x' := by
  cases hz with
  | keep _ hu =>
    refine ⟨rfl, fun j x x' h1 h2 => ?_⟩
    rw [h1] at h2
    obtain rfl := Option.some.inj h2
    refine .keep _ ?_
    cases hu with
    | agg cs hl => exact hl j _ h1
    | _ => cases j <;> simp [AV.cells] at h1; subst h1; constructor <;> assumption
  | sl sz id off len lo ex b l' hid hb hle hl he =>
    refine ⟨rfl, fun j x x' h1 h2 => ?_⟩
    cases j with
    | zero => simp at h1 h2; subst h1; subst h2; exact .sl sz id off len lo ex b l' hid hb hle hl he
    | succ j => simp at h1
  | agg cs cs' hl he => exact ⟨hl, he⟩
  | tup cs cs' hl he =>
    refine ⟨rfl, fun j x x' h1 h2 => ?_⟩
    cases j with
    | zero => simp [AV.cells] at h1 h2; subst h1; subst h2; exact .tup cs cs' hl he
    | succ j => simp [AV.cells] at h1
theorem Frz.rel (hz : Frz n h u u') (hh : HR c h) (hw : c'.w = c.w) (hfz : ∀ b, c.Fz b → c'.Fz b) (hi : ∀ id x, id < n → c.ι id = some x → c'.ι id = some x)
    (hfr : ∀ id blk x, n ≤ id → h id = some blk → c.ι id = some x → c'.Fz x.1) : ∀ {v : Value}, VR c u v → VR c' u' v := by
  induction hz with
  | keep u hu => exact fun hv => hv.relabel hu hw hfz hi
  | sl sz id off len lo ex b l' hid hb hle hl he ih =>
    intro v hv
    cases hv with
    | sl _ _ _ _ _ _ bb base cap hι hlen hlo hex hmax hroom a ha =>
      obtain ⟨bb', base', sz', arr, E, hB⟩ := hh.blk id b hb
      have hi' := hB.ι
      rw [hι] at hi'
      obtain ⟨rfl, rfl, rfl⟩ : bb = bb' ∧ base = base' ∧ sz = sz' := by simpa using hi'
      have at_ : ∀ (i : Nat) (e' : AV), l'[i]? = some e' → ∃ e, b[off + i]? = some e ∧ Frz n h e e' ∧ i < len := fun i e' hi => by
        have hlt := (List.getElem?_eq_some_iff.1 hi).1
        have hx : b[off + i]? = some (b[off + i]'(by omega)) := List.getElem?_eq_getElem (by omega)
        exact ⟨_, hx, he i _ _ hx hi, by omega⟩
      have cell : ∀ (i : Nat) (e' : AV) (j : Nat) (x' : AV), l'[i]? = some e' → e'.cells[j]? = some x' → ∃ e x y, b[off + i]? = some e ∧ e.cells[j]? = some x ∧ c.w.cell? (a.add (i * sz + j)) = some y ∧ VR c x y := fun i e' j x' hi hj => by
        obtain ⟨e, q1, q2, q3⟩ := at_ i e' hi
        have hjl : j < e.cells.length := by rw [← q2.cells.1]; exact (List.getElem?_eq_some_iff.1 hj).1
        obtain ⟨y, g1, g2⟩ := hB.cell _ _ _ _ q1 (List.getElem?_eq_getElem hjl)
        refine ⟨e, _, y, q1, List.getElem?_eq_getElem hjl, ?_, g2⟩
        have hc0 : cap ≠ 0 := by omega
        rw [ha hc0, add_off _ _ rfl]
        simp only [World.cell?, hB.heap]
        simp only [Option.isSome_none, Bool.false_eq_true, if_false]
        rw [← g1]
        congr 1
        rw [Nat.add_mul]; omega
      subst hl
      refine .ro sz _ l' a cap (fun i j => (c.w.cell? (a.add (i * sz + j))).getD Go.undef) (by omega) hmax (fun hq => ?_) (fun hne => ?_) (fun i e' hi => ?_) (fun i e' j x' hi hj => ?_) (fun i e' j x' hi hj => ?_) (fun i e' j x' hi hj => ?_)
      · simp only [Bool.and_eq_true, decide_eq_true_eq] at hq
        rw [hex hq.1, hq.2]
      · have : 0 < l'.length := by cases l' with | nil => exact absurd rfl hne | cons => simp
        rw [ha (by omega)]
        exact hfr id b _ hid hb hι
      · obtain ⟨e, q1, q2, _⟩ := at_ i e' hi
        rw [q2.cells.1]; exact hB.size _ _ q1
      · obtain ⟨e, q1, q2, _⟩ := at_ i e' hi
        obtain ⟨e2, x, y, g1, g2, _⟩ := cell i e' j x' hi hj
        rw [q1] at g1
        obtain rfl := Option.some.inj g1
        exact (q2.cells.2 j x x' g2 hj).one (hB.one _ _ _ _ q1 g2)
      · obtain ⟨e, x, y, g1, g2, g3, g4⟩ := cell i e' j x' hi hj
        rw [hw, g3]; rfl
      · obtain ⟨e, x, y, g1, g2, g3, g4⟩ := cell i e' j x' hi hj
        simp only [g3, Option.getD_some]
        have hE : ∀ {v : Value}, VR c e v → VR c' e' v := fun hv => ih i e e' g1 hi hv
        have q2 := he i e e' g1 hi
        have single : e.cells = [e] → e'.cells = [e'] → VR c' x' y := fun s1 s2 => by
          rw [s1] at g2
          rw [s2] at hj
          cases j with
          | zero =>
            simp only [List.getElem?_cons_zero, Option.some.injEq] at g2 hj
            subst g2; subst hj
            exact hE g4
          | succ j => simp at g2
        have many : ∀ cs, e = .agg cs → VR c' x' y := fun cs hcs => by
          have hall : ∀ (j : Nat) (u : AV), cs[j]? = some u → ∃ x, c.w.cell? (a.add (i * sz + j)) = some x ∧ VR c u x := fun j u hu => by
            have hl1 : j < e'.cells.length := by rw [q2.cells.1, hcs]; exact (List.getElem?_eq_some_iff.1 hu).1
            obtain ⟨e2, x2, y2, k1, k2, k3, k4⟩ := cell i e' j _ hi (List.getElem?_eq_getElem hl1)
            rw [g1] at k1
            obtain rfl := Option.some.inj k1
            rw [hcs] at k2
            have k2' : cs[j]? = some x2 := k2
            rw [hu] at k2'
            obtain rfl := Option.some.inj k2'
            exact ⟨y2, k3, k4⟩
          obtain ⟨vs, v1, v2, v3⟩ := vals_of (c := c) (us := cs) (q := fun j x => c.w.cell? (a.add (i * sz + j)) = some x) hall
          subst hcs
          have hvc : VR c (.agg cs) (.agg vs.toArray) := .agg _ _ (by simpa using v1) (fun x hx => by
            obtain ⟨j, hj, rfl⟩ := List.mem_iff_getElem.1 hx
            exact hB.one _ _ j _ g1 (List.getElem?_eq_getElem hj)) (fun j x y h1 h2 => v3 j x y h1 (by simpa using h2))
          have hfin := hE hvc
          obtain ⟨cs', rfl⟩ : ∃ cs', e' = .agg cs' := by cases q2 <;> exact ⟨_, rfl⟩
          cases hfin with
          | agg _ _ _ _ hv' =>
            have hjl : j < vs.length := by rw [v1]; exact (List.getElem?_eq_some_iff.1 g2).1
            have hvj := List.getElem?_eq_getElem hjl
            have hq := v2 j _ hvj
            rw [g3] at hq
            have hy : vs[j] = y := (Option.some.inj hq).symm
            exact hv' j x' y hj (by rw [List.getElem?_toArray, hvj, hy])
        cases e with
        | agg cs => exact many cs rfl
        | _ =>
          refine single rfl ?_
          cases q2 <;> rfl
  | agg cs cs' hl he ih =>
    intro v hv
    cases hv with
    | agg _ vs hs hone hv =>
      refine .agg _ vs (by omega) (fun x hx => ?_) (fun i x y hx hy => ?_)
      · obtain ⟨i, hi, rfl⟩ := List.mem_iff_getElem.1 hx
        have h1 : cs[i]? = some (cs[i]'(by omega)) := List.getElem?_eq_getElem (by omega)
        exact (he i _ _ h1 (List.getElem?_eq_getElem hi)).one (hone _ (List.getElem_mem _))
      · have hlt := (List.getElem?_eq_some_iff.1 hx).1
        have h1 : cs[i]? = some (cs[i]'(by omega)) := List.getElem?_eq_getElem (by omega)
        exact ih i _ _ h1 hx (hv i _ _ h1 hy)
  | tup cs cs' hl he ih =>
    intro v hv
    cases hv with
    | tup _ vs hs hv =>
      refine .tup _ vs (by omega) (fun i x y hx hy => ?_)
      have hlt := (List.getElem?_eq_some_iff.1 hx).1
      have h1 : cs[i]? = some (cs[i]'(by omega)) := List.getElem?_eq_getElem (by omega)
      exact ih i _ _ h1 hx (hv i _ _ h1 hy)
structure Left (n : Nat) (h h' h'' : Heap) : Prop where
  sub : ∀ id b, h'' id = some b → id < n ∧ h' id = some b
  lt : ∀ id b, h'' id = some b → h id = some b ∨ ∀ e, e ∈ b → ∀ u, u ∈ e.cells → u.Lt n
theorem left_blk (hc : HR c h) (hfc : Fresh c n) (hh : HR c' h') {f : Nat → Option (Nat × Nat × Nat)} (hl : Left n h h' h'') {Z : Nat → Prop} (hz : ∀ b, c'.Fz b → Z b) (hi : ∀ id x, id < n → c'.ι id = some x → f id = some x)
    (hnz : ∀ id b bb base sz arr E, h'' id = some b → BlkR c' id b bb base sz arr E → ¬ Z bb) (id : Nat) (b : List AV) (hb : h'' id = some b) : ∃ bb base sz arr E, BlkR ⟨f, Z, c'.w⟩ id b bb base sz arr E := by
  obtain ⟨h1, h2⟩ := hl.sub id b hb
  obtain ⟨bb, base, sz, arr, E, hB⟩ := hh.blk id b h2
  refine ⟨bb, base, sz, arr, E, hi _ _ h1 hB.ι, hB.heap, hnz _ _ _ _ _ _ _ hb hB, hB.size, hB.one, fun i e j u a1 a2 => ?_⟩
  obtain ⟨v, q1, q2⟩ := hB.cell i e j u a1 a2
  have hlt : u.Lt n := by
    rcases hl.lt id b hb with hq | hq
    · obtain ⟨_, _, _, _, _, hB0⟩ := hc.blk id b hq
      obtain ⟨v0, _, q0⟩ := hB0.cell i e j u a1 a2
      exact q0.lt hfc
    · exact hq e (List.mem_of_getElem? a1) u (List.mem_of_getElem? a2)
  exact ⟨v, q1, q2.relabel hlt rfl hz hi⟩
theorem PostR.freeze {w' : World} {r r' : AV} (hp : PostR c h n v w' r h' n') (hc : HR c h) (hfc : Fresh c n) (hf : Frz n h' r r') (hl : Left n h h' h'') : PostR c h n v w' r' h'' n := by
  obtain ⟨c', rfl, e, hh, hfr, hv, hn⟩ := hp
  let Z : Nat → Prop := fun b => c'.Fz b ∨ ∃ id blk x, n ≤ id ∧ h' id = some blk ∧ c'.ι id = some x ∧ x.1 = b
  let f : Nat → Option (Nat × Nat × Nat) := fun id => if id < n then c'.ι id else none
  have hi : ∀ id x, id < n → c'.ι id = some x → f id = some x := fun id x h1 h2 => by simp only [f]; rw [if_pos h1]; exact h2
  have fi : ∀ id x, f id = some x → id < n ∧ c'.ι id = some x := fun id x hx => by
    simp only [f] at hx
    split at hx
    · exact ⟨by assumption, hx⟩
    · cases hx
  have hz : ∀ b, c'.Fz b → Z b := fun b hb => .inl hb
  refine ⟨⟨f, Z, c'.w⟩, rfl, ⟨e.os, e.tape, e.output, e.size, fun id x hx => ?_, fun id x hx => ?_, fun b hb => .inl (e.fz b hb), e.shape, e.frame, fun id blk x h1 h2 => ?_, fun b hb => ?_⟩, ⟨fun id blk hb => ?_, fun i j bi bj x y h1 h2 h3 h4 h5 => ?_, fun b hb => ?_, fun b cs hp => ⟨.inl (hh.pin b cs hp).1, (hh.pin b cs hp).2⟩⟩, fun id hid => ?_, ?_, Nat.le_refl _⟩
  · refine hi id x ?_ (e.ι id x hx)
    rcases Nat.lt_or_ge id n with h1 | h1
    · exact h1
    · rw [hfc id h1] at hx; cases hx
  · obtain ⟨h1, h2⟩ := fi id x hx
    rcases e.dom id x h2 with h3 | h3
    · exact .inl h3
    · omega
  · exact e.own id blk x (hl.sub id blk h1).2 (fi id x h2).2
  · rcases hb with hb | ⟨id, blk, x, h1, h2, h3, rfl⟩
    · exact e.fzb b hb
    · exact .inr (e.own id blk x h2 h3)
  · refine left_blk hc hfc hh hl hz hi (fun id b bb base sz arr E h1 hB => ?_) id blk hb
    obtain ⟨g1, g2⟩ := hl.sub id b h1
    rintro (hq | ⟨id2, blk2, x2, k1, k2, k3, k4⟩)
    · exact hB.nfz hq
    · have := hh.inj id id2 b blk2 _ _ g2 k2 hB.ι k3 k4.symm
      omega
  · exact hh.inj i j bi bj x y (hl.sub i bi h1).2 (hl.sub j bj h2).2 (fi i x h3).2 (fi j y h4).2 h5
  · rcases hb with hb | ⟨id, blk, x, h1, h2, h3, rfl⟩
    · exact hh.fzlt b hb
    · obtain ⟨bb, base, sz, arr, E, hB⟩ := hh.blk id blk h2
      rw [hB.ι] at h3
      obtain rfl := Option.some.inj h3
      exact heap_lt hB.heap
  · show f id = none
    simp only [f]
    rw [if_neg (by omega)]
  · exact Frz.rel (c := c') (c' := ⟨f, Z, c'.w⟩) hf hh rfl hz hi (fun id blk x h1 h2 h3 => .inr ⟨id, blk, x, h1, h2, h3, rfl⟩) hv
theorem PostR.keep {w' : World} {r : AV} (hp : PostR c h n v w' r h' n') (hs : ∀ id b, h'' id = some b → h' id = some b) : PostR c h n v w' r h'' n' := by
  obtain ⟨c', rfl, e, hh, hfr, hv, hn⟩ := hp
  exact ⟨c', rfl, e.sub hs, hh.sub hs, hfr, hv, hn⟩
theorem PostR.own {w' : World} {sz k off len lo : Nat} {ex : Bool} (hp : PostR c h n v w' (.sl sz k off len lo ex) h' n') (hc : HR c h) (hfc : Fresh c n) (hk : n ≤ k) {b b' : List AV} (hb : h' k = some b) (hbl : b'.length = b.length)
    (hf : ∀ (i : Nat) (e e' : AV), b[i]? = some e → b'[i]? = some e' → Frz n (h'.del k) e e') (hl : Left n h h' h'') : PostR c h n v w' (.sl sz n off len lo ex) (h''.upd n b') (n + 1) := by
  obtain ⟨c', rfl, e, hh, hfr, hv, hn⟩ := hp
  let Z : Nat → Prop := fun b => c'.Fz b ∨ ∃ id blk x, n ≤ id ∧ id ≠ k ∧ h' id = some blk ∧ c'.ι id = some x ∧ x.1 = b
  let f : Nat → Option (Nat × Nat × Nat) := fun id => if id < n then c'.ι id else if id = n then c'.ι k else none
  have hi : ∀ id x, id < n → c'.ι id = some x → f id = some x := fun id x h1 h2 => by simp only [f]; rw [if_pos h1]; exact h2
  have fn' : f n = c'.ι k := by simp [f]
  have fi : ∀ id x, f id = some x → (id < n ∧ c'.ι id = some x) ∨ (id = n ∧ c'.ι k = some x) := fun id x hx => by
    simp only [f] at hx
    split at hx
    · exact .inl ⟨by assumption, hx⟩
    · split at hx
      · exact .inr ⟨by assumption, hx⟩
      · cases hx
  have hz : ∀ b, c'.Fz b → Z b := fun b hb => .inl hb
  have lt_ne : ∀ id b, h'' id = some b → id ≠ n := fun id b hb => by have := (hl.sub id b hb).1; omega
  have get : ∀ id b2, (h''.upd n b') id = some b2 → (id = n ∧ b2 = b') ∨ (id < n ∧ h'' id = some b2 ∧ h' id = some b2) := fun id b2 hb2 => by
    by_cases hid : id = n
    · subst hid; rw [Heap.upd_same] at hb2; exact .inl ⟨rfl, (Option.some.inj hb2).symm⟩
    · rw [Heap.upd_ne _ _ hid] at hb2; exact .inr ⟨(hl.sub id b2 hb2).1, hb2, (hl.sub id b2 hb2).2⟩
  obtain ⟨bb, base, sz0, arr, E, hB⟩ := hh.blk k b hb
  have hdel : HR c' (h'.del k) := hh.sub fun id b2 hb2 => by
    unfold Heap.del at hb2
    split at hb2
    · cases hb2
    · exact hb2
  have dele : ∀ id blk, (h'.del k) id = some blk → id ≠ k ∧ h' id = some blk := fun id blk hb2 => by
    unfold Heap.del at hb2
    split at hb2
    · cases hb2
    · exact ⟨by assumption, hb2⟩
  refine ⟨⟨f, Z, c'.w⟩, rfl, ⟨e.os, e.tape, e.output, e.size, fun id x hx => ?_, fun id x hx => ?_, fun b hb => .inl (e.fz b hb), e.shape, e.frame, fun id blk x h1 h2 => ?_, fun b hb => ?_⟩, ⟨fun id blk hb2 => ?_, fun i j bi bj x y h1 h2 h3 h4 h5 => ?_, fun b hb => ?_, fun b cs hp => ⟨.inl (hh.pin b cs hp).1, (hh.pin b cs hp).2⟩⟩, fun id hid => ?_, ?_, by omega⟩
  · refine hi id x ?_ (e.ι id x hx)
    rcases Nat.lt_or_ge id n with h1 | h1
    · exact h1
    · rw [hfc id h1] at hx; cases hx
  · rcases fi id x hx with ⟨h1, h2⟩ | ⟨rfl, h2⟩
    · rcases e.dom id x h2 with h3 | h3
      · exact .inl h3
      · omega
    · exact .inr ⟨by omega, by omega⟩
  · rcases get id blk h1 with ⟨rfl, rfl⟩ | ⟨g1, g2, g3⟩
    · have h2' : f id = some x := h2
      rw [fn'] at h2'
      exact e.own k b x hb h2'
    · rcases fi id x h2 with ⟨_, k2⟩ | ⟨k1, _⟩
      · exact e.own id blk x g3 k2
      · omega
  · rcases hb with hb | ⟨id, blk, x, h1, _, h2, h3, rfl⟩
    · exact e.fzb b hb
    · exact .inr (e.own id blk x h2 h3)
  · rcases get id blk hb2 with ⟨rfl, rfl⟩ | ⟨g1, g2, g3⟩
    · refine ⟨bb, base, sz0, arr, E, (show f id = _ by rw [fn']; exact hB.ι), hB.heap, ?_, fun i x hx => ?_, fun i x j u hx hu => ?_, fun i x j u hx hu => ?_⟩
      · rintro (hq | ⟨id2, blk2, x2, k1, k2, k3, k4, k5⟩)
        · exact hB.nfz hq
        · exact k2 (hh.inj id2 k blk2 b _ _ k3 hb k4 hB.ι k5)
      all_goals
        have hlt := (List.getElem?_eq_some_iff.1 hx).1
        have hx0 : b[i]? = some (b[i]'(by omega)) := List.getElem?_eq_getElem (by omega)
        have hfe := hf i _ _ hx0 hx
        have hcl := hfe.cells
      · rw [hcl.1]; exact hB.size _ _ hx0
      · have hjl : j < (b[i]'(by omega)).cells.length := by rw [← hcl.1]; exact (List.getElem?_eq_some_iff.1 hu).1
        exact (hcl.2 j _ _ (List.getElem?_eq_getElem hjl) hu).one (hB.one _ _ _ _ hx0 (List.getElem?_eq_getElem hjl))
      · have hjl : j < (b[i]'(by omega)).cells.length := by rw [← hcl.1]; exact (List.getElem?_eq_some_iff.1 hu).1
        obtain ⟨v, q1, q2⟩ := hB.cell _ _ _ _ hx0 (List.getElem?_eq_getElem hjl)
        exact ⟨v, q1, Frz.rel (c := c') (c' := ⟨f, Z, c'.w⟩) (hcl.2 j _ _ (List.getElem?_eq_getElem hjl) hu) hdel rfl hz hi (fun id blk x h1 h2 h3 => .inr ⟨id, blk, x, h1, (dele id blk h2).1, (dele id blk h2).2, h3, rfl⟩) q2⟩
    · refine left_blk hc hfc hh hl hz hi (fun id b2 bb base sz arr E h1 hB2 => ?_) id blk g2
      obtain ⟨k1, k2⟩ := hl.sub id b2 h1
      rintro (hq | ⟨id2, blk2, x2, k1, k2', k3, k4, k5⟩)
      · exact hB2.nfz hq
      · have := hh.inj id id2 b2 blk2 _ _ k2 k3 hB2.ι k4 k5.symm
        omega
  · have key : ∀ id b2 x, (h''.upd n b') id = some b2 → f id = some x → ∃ id0 b0, h' id0 = some b0 ∧ c'.ι id0 = some x ∧ ((id = n ∧ id0 = k) ∨ (id < n ∧ id0 = id)) := fun id b2 x g0 k0 => by
      rcases get id b2 g0 with ⟨rfl, rfl⟩ | ⟨g1, g2, g3⟩
      · rw [fn'] at k0; exact ⟨k, b, hb, k0, .inl ⟨rfl, rfl⟩⟩
      · rcases fi id x k0 with ⟨_, k2⟩ | ⟨k1, _⟩
        · exact ⟨id, b2, g3, k2, .inr ⟨g1, rfl⟩⟩
        · omega
    obtain ⟨i0, b0, p1, p2, p3⟩ := key i bi x h1 h3
    obtain ⟨j0, b1, r1, r2, r3⟩ := key j bj y h2 h4
    have := hh.inj i0 j0 b0 b1 x y p1 r1 p2 r2 h5
    omega
  · rcases hb with hb | ⟨id, blk, x, h1, _, h2, h3, rfl⟩
    · exact hh.fzlt b hb
    · obtain ⟨bb, base, sz, arr, E, hB⟩ := hh.blk id blk h2
      rw [hB.ι] at h3
      obtain rfl := Option.some.inj h3
      exact heap_lt hB.heap
  · show f id = none
    simp only [f]
    rw [if_neg (by omega), if_neg (by omega)]
  · cases hv with
    | sl _ _ _ _ _ _ b1 base1 cap hι hlen hlo hex hmax hroom a ha => exact VR.sl (c := ⟨f, Z, c'.w⟩) sz n off len lo ex b1 base1 cap (fn'.trans hι) hlen hlo hex hmax hroom a ha
inductive Conv (n : Nat) (h : Heap) : AV → Heap → Nat → AV → Heap → Nat → Prop
  | keep (r h' n' h'') (hs : ∀ id b, h'' id = some b → h' id = some b) : Conv n h r h' n' r h'' n'
  | freeze (r h' n' r' h'') (hf : Frz n h' r r') (hl : Left n h h' h'') : Conv n h r h' n' r' h'' n
  | own (sz k off len lo ex h' n' b b' h'') (hk : n ≤ k) (hb : h' k = some b) (hbl : b'.length = b.length) (hf : ∀ (i : Nat) (e e' : AV), b[i]? = some e → b'[i]? = some e' → Frz n (h'.del k) e e') (hl : Left n h h' h'') :
      Conv n h (.sl sz k off len lo ex) h' n' (.sl sz n off len lo ex) (h''.upd n b') (n + 1)
theorem CA.conv {P : Program} {f : FuncId} {args : List AV} {K : AV → Heap → Nat → Prop} (hc : CA P f args h n fun r h' n' => ∃ r2 h2 n2, Conv n h r h' n' r2 h2 n2 ∧ K r2 h2 n2) : CA P f args h n K := by
  refine ⟨hc.1, fun c vals hh hf hs hv => Calls.mono (hc.2 c vals hh hf hs hv) fun e w' he => ?_⟩
  obtain ⟨v, r, h', n', rfl, hp, r2, h2, n2, hcv, hK⟩ := he
  refine ⟨v, r2, h2, n2, rfl, ?_, hK⟩
  cases hcv with
  | keep _ _ _ _ hs => exact hp.keep hs
  | freeze _ _ _ _ _ hf2 hl => exact hp.freeze hh hf hf2 hl
  | own _ _ _ _ _ _ _ _ _ _ _ hk hb hbl hf2 hl => exact hp.own hh hf hk hb hbl hf2 hl
theorem CA.mono {P : Program} {f : FuncId} {args : List AV} {K K' : AV → Heap → Nat → Prop} (hc : CA P f args h n K) (hk : ∀ r h' n', K r h' n' → K' r h' n') : CA P f args h n K' :=
  ⟨hc.1, fun c vals hh hf hs hv => Calls.mono (hc.2 c vals hh hf hs hv) fun _ _ ⟨v, r, h', n', q1, q2, q3⟩ => ⟨v, r, h', n', q1, q2, hk _ _ _ q3⟩⟩
end
end Go.Proofs.Ytcngfjmfgeckmaa
namespace Go.Proofs.Ytcngfjmfgeckmaa
open Go
section
variable {P : Program} {T : TE} {h : Heap} {n : Nat} {K K' : AV → Heap → Nat → Prop}
theorem binP_mono {op : BinOp} {t : TypeId} {x y : AV} {R R' : AV → Prop} (hk : ∀ r, R r → R' r) (hb : binP T op t x y R) : binP T op t x y R' := by
  unfold binP at hb ⊢
  split at hb
  all_goals first | exact hb.elim | exact hk _ hb | exact ⟨hb.1, hk _ hb.2⟩ | exact ⟨hb.1, hb.2.1, hk _ hb.2.2⟩ | (obtain ⟨fs, a1, a2, a3, r, a4, a5⟩ := hb; exact ⟨fs, a1, a2, a3, r, a4, hk _ a5⟩)
theorem unP_mono {op : UnOp} {x : AV} {R R' : AV → Prop} (hk : ∀ r, R r → R' r) (hb : unP op x R) : unP op x R' := by
  unfold unP at hb ⊢
  split at hb
  all_goals first | exact hb.elim | exact hk _ hb
theorem sliceP_mono {sz : Nat} {x : AV} {lo hi mx : Option AV} {R R' : AV → Prop} (hk : ∀ r, R r → R' r) (hb : sliceP sz x lo hi mx R) : sliceP sz x lo hi mx R' := by
  unfold sliceP at hb ⊢
  split at hb
  · exact ⟨hb.1, hb.2.1, hb.2.2.1, hk _ hb.2.2.2⟩
  · obtain ⟨a, i, j, m, b1, b2, b3, b4, b5, b6, b7⟩ := hb; exact ⟨a, i, j, m, b1, b2, b3, b4, b5, b6, hk _ b7⟩
  · obtain ⟨a, i, j, m, b1, b2, b3, b4, b5, b6, b7⟩ := hb; exact ⟨a, i, j, m, b1, b2, b3, b4, b5, b6, hk _ b7⟩
  · exact hb.elim
theorem buildP_mono {fs : List (Nat × TypeId)} {e : Operand → AV} : ∀ (ps : List (Nat × Operand)) (cells : List AV) {R R' : List AV → Prop}, (∀ r, R r → R' r) → buildP T fs cells e ps R → buildP T fs cells e ps R'
  | [], _, _, _, hk, hb => hk _ hb
  | (_, _) :: rest, _, _, _, hk, hb => by
    obtain ⟨p, a1, a2, a3, a4, a5, a6⟩ := hb
    exact ⟨p, a1, a2, a3, a4, a5, buildP_mono rest _ hk a6⟩
theorem ite_mono {c : Prop} [Decidable c] {A B A' B' : Prop} (ha : A → A') (hb : B → B') (h : if c then A else B) : if c then A' else B' := by
  split
  · rename_i hc; rw [if_pos hc] at h; exact ha h
  · rename_i hc; rw [if_neg hc] at h; exact hb h
theorem appendP_mono {e : TypeId} {x y : AV} (hk : ∀ r h' n', K r h' n' → K' r h' n') (hb : appendP T e x y h n K) : appendP T e x y h n K' := by
  obtain ⟨ys, a1, a2, hb⟩ := hb
  refine ⟨ys, a1, a2, ?_⟩
  split at hb
  · obtain ⟨b1, b2, b3⟩ := hb
    exact ⟨b1, b2, ite_mono (hk _ _ _) (hk _ _ _) b3⟩
  · obtain ⟨b0, b1, b2, b3⟩ := hb
    exact ⟨b0, b1, b2, ite_mono (hk _ _ _) (fun q => ⟨q.1, hk _ _ _ q.2⟩) b3⟩
  · obtain ⟨b0, b1, b2, b, b3, b4, b5⟩ := hb
    exact ⟨b0, b1, b2, b, b3, b4, ite_mono (hk _ _ _) (ite_mono (hk _ _ _) (hk _ _ _)) b5⟩
  · exact hb.elim
theorem builtinP_mono {b : Builtin} {ts : List TypeId} {xs : List AV} (hk : ∀ r h' n', K r h' n' → K' r h' n') (hb : builtinP T b ts xs h n K) : builtinP T b ts xs h n K' := by
  unfold builtinP at hb ⊢
  split at hb
  · exact ⟨hb.1, hk _ _ _ hb.2⟩
  · obtain ⟨e, l, a1, a2, a3⟩ := hb; exact ⟨e, l, a1, a2, hk _ _ _ a3⟩
  · obtain ⟨e, a1, a2, a3⟩ := hb; exact ⟨e, a1, a2, hk _ _ _ a3⟩
  · exact ⟨hb.1, hk _ _ _ hb.2⟩
  · exact ⟨hb.1, hk _ _ _ hb.2⟩
  · obtain ⟨a1, e, a2, a3⟩ := hb; exact ⟨a1, e, a2, appendP_mono hk a3⟩
  · rcases hb with ⟨e, a2, ys, a3, a4, a5⟩ | hb
    · refine .inl ⟨e, a2, ys, a3, a4, ?_⟩
      split at a5
      · exact hk _ _ _ a5
      · obtain ⟨b0, b, b1, b2, b3⟩ := a5; exact ⟨b0, b, b1, b2, hk _ _ _ b3⟩
      · exact hk _ _ _ a5
      · exact a5.elim
    · obtain ⟨e, id, off, len, lo, ex, id2, off2, len2, lo2, ex2, b, b2, c1, c2, c3, c4, c5, c6, c7, c8, c9⟩ := hb
      exact .inr ⟨e, id, off, len, lo, ex, id2, off2, len2, lo2, ex2, b, b2, c1, c2, c3, c4, c5, c6, c7, c8, hk _ _ _ c9⟩
  · obtain ⟨e, a2, a4, a5⟩ := hb
    refine ⟨e, a2, a4, ?_⟩
    split at a5
    · exact hk _ _ _ a5
    · obtain ⟨b0, b, b1, b2, b3⟩ := a5; exact ⟨b0, b, b1, b2, hk _ _ _ b3⟩
    · exact a5.elim
  · exact hb.elim
theorem opP_mono {op : Op} {e : Operand → AV} (hk : ∀ r h' n', K r h' n' → K' r h' n') (ho : opP T op e h n K) : opP T op e h n K' := by
  cases op <;> simp only [opP] at ho ⊢
  all_goals first | exact ho.elim | exact hk _ _ _ ho | skip
  case pick => obtain ⟨t, a1, a2⟩ := ho; exact ⟨t, a1, hk _ _ _ a2⟩
  case alloc => exact ⟨ho.1, hk _ _ _ ho.2⟩
  case box => obtain ⟨a1, a2, a3, a4⟩ := ho; exact ⟨a1, a2, a3, hk _ _ _ a4⟩
  case build => obtain ⟨fs, a1, a2, a3, a4⟩ := ho; exact ⟨fs, a1, a2, a3, buildP_mono _ _ (fun r => hk _ _ _) a4⟩
  case buildSlice => obtain ⟨e, a1, a2, a3, a4, a5, a6⟩ := ho; exact ⟨e, a1, a2, a3, a4, a5, hk _ _ _ a6⟩
  case load => obtain ⟨sz, s, i, off, l, e, v, a1, a2, a3, a4, a5, a6⟩ := ho; exact ⟨sz, s, i, off, l, e, v, a1, a2, a3, a4, a5, hk _ _ _ a6⟩
  case store => obtain ⟨sz, id, o, len, lo, ex, i, off, b, e, a1, a2, a3, a4, a5, a6, a7, a8⟩ := ho; exact ⟨sz, id, o, len, lo, ex, i, off, b, e, a1, a2, a3, a4, a5, a6, a7, hk _ _ _ a8⟩
  case nilCheck =>
    split at ho
    · exact hk _ _ _ ho
    · exact hk _ _ _ ho
    · exact ho.elim
  case binOp => exact binP_mono (fun r => hk _ _ _) ho
  case unOp => exact unP_mono (fun r => hk _ _ _) ho
  case convert =>
    split at ho
    · exact ⟨ho.1, hk _ _ _ ho.2⟩
    · obtain ⟨e, ns, a1, a2, a3, a4⟩ := ho; exact ⟨e, ns, a1, a2, a3, hk _ _ _ a4⟩
    · exact ho.elim
  case makeFunc f first cap =>
    cases f <;> simp only at ho ⊢
    case func => exact ⟨ho.1, hk _ _ _ ho.2⟩
    all_goals exact ho.elim
  case makeSlice => obtain ⟨e, k1, k2, a, b, a1, a2, a3, a4, a5, a6, a7, a8, a9⟩ := ho; exact ⟨e, k1, k2, a, b, a1, a2, a3, a4, a5, a6, a7, a8, hk _ _ _ a9⟩
  case slice =>
    split at ho
    · obtain ⟨a1, a2, i, j, a3, a4, a5, a6, a7⟩ := ho; exact ⟨a1, a2, i, j, a3, a4, a5, a6, hk _ _ _ a7⟩
    · obtain ⟨e, a1, a2, a3, a4⟩ := ho; exact ⟨e, a1, a2, a3, sliceP_mono (fun r => hk _ _ _) a4⟩
  case fieldAddr => obtain ⟨sz, b, i, off, fs, p, a1, a2, a3, a4, a5⟩ := ho; exact ⟨sz, b, i, off, fs, p, a1, a2, a3, a4, hk _ _ _ a5⟩
  case field => obtain ⟨fs, p, cs, v, a1, a2, a3, a4, a5, a6⟩ := ho; exact ⟨fs, p, cs, v, a1, a2, a3, a4, a5, hk _ _ _ a6⟩
  case indexAddr => obtain ⟨e, l, k, i, a1, a2, a3, a4, a5, a6, a7⟩ := ho; exact ⟨e, l, k, i, a1, a2, a3, a4, a5, a6, hk _ _ _ a7⟩
  case index => obtain ⟨s, k, i, a1, a2, a3, a4, a5, a6⟩ := ho; exact ⟨s, k, i, a1, a2, a3, a4, a5, hk _ _ _ a6⟩
  case extract => obtain ⟨vs, r, a1, a2, a3⟩ := ho; exact ⟨vs, r, a1, a2, hk _ _ _ a3⟩
  case call =>
    split at ho
    · exact builtinP_mono hk ho
    · exact ho.elim
def quietOp : Op → Bool
  | .move _ | .assign _ | .pick _ _ _ | .build _ _ | .load _ _ | .nilCheck _ | .binOp _ _ _ _ _ | .unOp _ _ _ | .convert _ _ _ | .makeFunc _ _ _ | .slice _ _ _ _ _ | .fieldAddr _ _ _ | .field _ _ _ | .indexAddr _ _ _ | .index _ _ _ | .extract _ _ => true
  | .call c => match c.callee with
    | .builtin .len | .builtin .cap | .builtin .min | .builtin .max => true
    | _ => false
  | _ => false
def Heap.Sub (a b : Heap) : Prop := ∀ id x, a id = some x → b id = some x
theorem Heap.Sub.refl (a : Heap) : a.Sub a := fun _ _ h => h
theorem Heap.Sub.emp (a : Heap) : Heap.emp.Sub a := fun _ _ h => by cases h
theorem rdSl_sub {a b : Heap} (hs : a.Sub b) {sz : Nat} {x : AV} {l : List AV} (hr : rdSl a sz x = some l) : rdSl b sz x = some l := by
  unfold rdSl at hr ⊢
  split at hr
  · exact hr
  · exact hr
  · split at hr
    · split at hr
      · rename_i hb; rw [hs _ _ hb]; simp only; rw [if_pos (by assumption)]; exact hr
      · cases hr
    · cases hr
  · cases hr
theorem binP_det {op : BinOp} {t : TypeId} {x y : AV} {R : AV → Prop} (hb : binP T op t x y R) : ∃ v, R v ∧ ∀ R' : AV → Prop, R' v → binP T op t x y R' := by
  unfold binP at hb ⊢
  split at hb
  all_goals first | exact hb.elim | exact ⟨_, hb, fun R' hq => hq⟩ | exact ⟨_, hb.2, fun R' hq => ⟨hb.1, hq⟩⟩ | exact ⟨_, hb.2.2, fun R' hq => ⟨hb.1, hb.2.1, hq⟩⟩ | (obtain ⟨fs, a1, a2, a3, r, a4, a5⟩ := hb; exact ⟨_, a5, fun R' hq => ⟨fs, a1, a2, a3, r, a4, hq⟩⟩)
theorem unP_det {op : UnOp} {x : AV} {R : AV → Prop} (hb : unP op x R) : ∃ v, R v ∧ ∀ R' : AV → Prop, R' v → unP op x R' := by
  unfold unP at hb ⊢
  split at hb
  all_goals first | exact hb.elim | exact ⟨_, hb, fun R' hq => hq⟩
theorem sliceP_det {sz : Nat} {x : AV} {lo hi mx : Option AV} {R : AV → Prop} (hb : sliceP sz x lo hi mx R) : ∃ v, R v ∧ ∀ R' : AV → Prop, R' v → sliceP sz x lo hi mx R' := by
  unfold sliceP at hb ⊢
  split at hb
  · exact ⟨_, hb.2.2.2, fun R' hq => ⟨hb.1, hb.2.1, hb.2.2.1, hq⟩⟩
  · obtain ⟨a, i, j, m, b1, b2, b3, b4, b5, b6, b7⟩ := hb; exact ⟨_, b7, fun R' hq => ⟨a, i, j, m, b1, b2, b3, b4, b5, b6, hq⟩⟩
  · obtain ⟨a, i, j, m, b1, b2, b3, b4, b5, b6, b7⟩ := hb; exact ⟨_, b7, fun R' hq => ⟨a, i, j, m, b1, b2, b3, b4, b5, b6, hq⟩⟩
  · exact hb.elim
theorem buildP_det {fs : List (Nat × TypeId)} {e : Operand → AV} : ∀ (ps : List (Nat × Operand)) (cells : List AV) {R : List AV → Prop}, buildP T fs cells e ps R → ∃ v, R v ∧ ∀ R' : List AV → Prop, R' v → buildP T fs cells e ps R'
  | [], _, _, hb => ⟨_, hb, fun R' hq => hq⟩
  | (_, _) :: rest, _, _, hb => by
    obtain ⟨p, a1, a2, a3, a4, a5, a6⟩ := hb
    obtain ⟨v, q1, q2⟩ := buildP_det rest _ a6
    exact ⟨v, q1, fun R' hq => ⟨p, a1, a2, a3, a4, a5, q2 R' hq⟩⟩
theorem quiet_det {op : Op} {e : Operand → AV} {hS : Heap} {Φ : AV → Prop} (hq : quietOp op = true) (ho : opP T op e hS n (fun r _ _ => Φ r)) :
    ∃ v, Φ v ∧ ∀ (h' : Heap) (n' : Nat) (K : AV → Heap → Nat → Prop), hS.Sub h' → K v h' n' → opP T op e h' n' K := by
  cases op <;> simp only [quietOp, Bool.false_eq_true] at hq <;> simp only [opP] at ho ⊢
  case move => exact ⟨_, ho, fun h' n' K hs hk => hk⟩
  case assign => exact ⟨_, ho, fun h' n' K hs hk => hk⟩
  case pick => obtain ⟨t, a1, a2⟩ := ho; exact ⟨_, a2, fun h' n' K hs hk => ⟨t, a1, hk⟩⟩
  case build =>
    obtain ⟨fs, a1, a2, a3, a4⟩ := ho
    obtain ⟨v, q1, q2⟩ := buildP_det _ _ a4
    exact ⟨_, q1, fun h' n' K hs hk => ⟨fs, a1, a2, a3, q2 _ hk⟩⟩
  case load => obtain ⟨sz, s, i, off, l, e, v, a1, a2, a3, a4, a5, a6⟩ := ho; exact ⟨_, a6, fun h' n' K hs hk => ⟨sz, s, i, off, l, e, v, a1, rdSl_sub hs a2, a3, a4, a5, hk⟩⟩
  case nilCheck =>
    split at ho
    · exact ⟨_, ho, fun h' n' K hs hk => hk⟩
    · exact ⟨_, ho, fun h' n' K hs hk => hk⟩
    · exact ho.elim
  case binOp => obtain ⟨v, q1, q2⟩ := binP_det ho; exact ⟨v, q1, fun h' n' K hs hk => q2 _ hk⟩
  case unOp => obtain ⟨v, q1, q2⟩ := unP_det ho; exact ⟨v, q1, fun h' n' K hs hk => q2 _ hk⟩
  case convert =>
    split at ho
    · exact ⟨_, ho.2, fun _ _ _ _ hk => ⟨ho.1, hk⟩⟩
    · obtain ⟨e, ns, a1, a2, a3, a4⟩ := ho; exact ⟨_, a4, fun _ _ _ hs hk => ⟨e, ns, a1, a2, rdSl_sub hs a3, hk⟩⟩
    · exact ho.elim
  case makeFunc f first cap =>
    cases f <;> simp only at ho ⊢
    case func => exact ⟨_, ho.2, fun h' n' K hs hk => ⟨ho.1, hk⟩⟩
    all_goals exact ho.elim
  case slice =>
    split at ho
    · obtain ⟨a1, a2, i, j, a3, a4, a5, a6, a7⟩ := ho; exact ⟨_, a7, fun h' n' K hs hk => ⟨a1, a2, i, j, a3, a4, a5, a6, hk⟩⟩
    · obtain ⟨e, a1, a2, a3, a4⟩ := ho
      obtain ⟨v, q1, q2⟩ := sliceP_det a4
      exact ⟨v, q1, fun h' n' K hs hk => ⟨e, a1, a2, a3, q2 _ hk⟩⟩
  case fieldAddr => obtain ⟨sz, b, i, off, fs, p, a1, a2, a3, a4, a5⟩ := ho; exact ⟨_, a5, fun h' n' K hs hk => ⟨sz, b, i, off, fs, p, a1, a2, a3, a4, hk⟩⟩
  case field => obtain ⟨fs, p, cs, v, a1, a2, a3, a4, a5, a6⟩ := ho; exact ⟨_, a6, fun h' n' K hs hk => ⟨fs, p, cs, v, a1, a2, a3, a4, a5, hk⟩⟩
  case indexAddr => obtain ⟨e, l, k, i, a1, a2, a3, a4, a5, a6, a7⟩ := ho; exact ⟨_, a7, fun h' n' K hs hk => ⟨e, l, k, i, a1, a2, rdSl_sub hs a3, a4, a5, a6, hk⟩⟩
  case index => obtain ⟨s, k, i, a1, a2, a3, a4, a5, a6⟩ := ho; exact ⟨_, a6, fun h' n' K hs hk => ⟨s, k, i, a1, a2, a3, a4, a5, hk⟩⟩
  case extract => obtain ⟨vs, r, a1, a2, a3⟩ := ho; exact ⟨_, a3, fun h' n' K hs hk => ⟨vs, r, a1, a2, hk⟩⟩
  case call c =>
    split at ho
    · rename_i b hc
      rw [hc] at hq
      cases b <;> simp only [Bool.false_eq_true] at hq <;> unfold builtinP at ho ⊢ <;> split at ho
      all_goals first | exact ho.elim | cases hq | skip
      all_goals first
        | exact ⟨_, ho.2, fun h' n' K hs hk => ⟨ho.1, hk⟩⟩
        | (obtain ⟨e, l, a1, a2, a3⟩ := ho; exact ⟨_, a3, fun h' n' K hs hk => ⟨e, l, a1, rdSl_sub hs a2, hk⟩⟩)
        | (obtain ⟨e, a1, a2, a3⟩ := ho; exact ⟨_, a3, fun h' n' K hs hk => ⟨e, a1, a2, hk⟩⟩)
        | simp_all
    · exact ho.elim
end
end Go.Proofs.Ytcngfjmfgeckmaa
