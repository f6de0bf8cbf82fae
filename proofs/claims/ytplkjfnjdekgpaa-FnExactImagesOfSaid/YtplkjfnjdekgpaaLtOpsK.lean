/- The plain operations are sound: copy, clear, indexAddr. Own work. -/
import Derived.Test.YtplkjfnjdekgpaaLtOpsJ
namespace Go.Proofs.Ytplkjfnjdekgpaa
open Go

section
variable {P : Program} {T : TE} {c : Cfg} {h : Heap} {n : Nat} {K : AV → Heap → Nat → Prop}

/-- A run of elements is written into a block. -/
theorem splice_ok (hh : HR c h) {id : Nat} {b ys : List AV} (hb : h id = some b) {bb bs sz p : Nat} {arr : Array Value} {E : TypeId} (hB : BlkR c id b bb bs sz arr E) (hpos : 0 < sz) (hle : p + ys.length ≤ b.length)
    {news : List Value} (ln : news.length = ys.length * sz) (n1 : ∀ x ∈ news, x.oneCell' = true)
    (rn : ∀ (i : Nat) (e : AV) (j : Nat) (u : AV), ys[i]? = some e → e.cells[j]? = some u → ∃ x, news[i * sz + j]? = some x ∧ VR c u x)
    (sy : ∀ (i : Nat) (e : AV), ys[i]? = some e → e.cells.length = sz) (oy : ∀ (i : Nat) (e : AV) (j : Nat) (u : AV), ys[i]? = some e → e.cells[j]? = some u → u.one = true) :
    ∃ w', (storeCells ⟨bb, bs + p * sz, none⟩ news).run P c.w = .ok () w' ∧ Ext c h (fun _ => False) ⟨c.ι, c.Fz, w'⟩ (h.upd id (b.take p ++ ys ++ b.drop (p + ys.length))) ∧
      HR ⟨c.ι, c.Fz, w'⟩ (h.upd id (b.take p ++ ys ++ b.drop (p + ys.length))) := by
  by_cases hy : ys = []
  · subst hy
    have hnil : news = [] := List.eq_nil_of_length_eq_zero (by simpa using ln)
    subst hnil
    have hsame : h.upd id (b.take p ++ [] ++ b.drop (p + ([] : List AV).length)) = h := by
      funext q
      unfold Heap.upd
      split
      · rename_i hq; subst hq; simp [hb]
      · rfl
    rw [hsame]
    exact ⟨c.w, by simp [storeCells], Ext.refl _ _ _, hh⟩
  have hl : 0 < ys.length := by cases ys with | nil => exact absurd rfl hy | cons => simp
  have hfit : bs + p * sz + news.length ≤ arr.size := by
    have hlt : p + ys.length - 1 < b.length := by omega
    have he := List.getElem?_eq_getElem hlt
    have hc := hB.size _ _ he
    have hj : sz - 1 < (b[p + ys.length - 1]).cells.length := by omega
    obtain ⟨v, q1, _⟩ := hB.cell _ _ _ _ he (List.getElem?_eq_getElem hj)
    have := (Array.getElem?_eq_some_iff.1 q1).1
    have e1 : (p + ys.length - 1) * sz + sz = p * sz + ys.length * sz := by rw [← Nat.add_mul, ← Nat.succ_mul]; congr 1; omega
    omega
  have hst := run_storeCells_at P bb (bs + p * sz) E news 0 arr c.w hB.heap (by simpa using hfit) n1
  simp only [Nat.add_zero] at hst
  refine ⟨_, hst, ?_⟩
  have spl : ∀ k, ((arr.toList.take (bs + p * sz) ++ news ++ arr.toList.drop (bs + p * sz + news.length)).toArray)[k]? =
      if bs + p * sz ≤ k ∧ k < bs + p * sz + news.length then news[k - (bs + p * sz)]? else arr[k]? := fun k => by
    rw [List.getElem?_toArray, getElem?_splice _ _ _ _ (by simp; omega)]
    simp
  refine write_ok hh hb hB (w' := c.w.setRow bb _) (arr' := (arr.toList.take (bs + p * sz) ++ news ++ arr.toList.drop (bs + p * sz + news.length)).toArray) (setRow_heap_eq hB.heap) rfl rfl rfl (by simp; omega) _
    (fun i x hi => ?_) (fun i x j u hi hj => ?_) (fun i x j u hi hj => ?_)
  · rw [getElem?_splice _ _ _ _ hle] at hi
    split at hi
    · exact sy _ _ hi
    · exact hB.size _ _ hi
  · rw [getElem?_splice _ _ _ _ hle] at hi
    split at hi
    · exact oy _ _ _ _ hi hj
    · exact hB.one _ _ _ _ hi hj
  · rw [spl]
    rw [getElem?_splice _ _ _ _ hle] at hi
    split at hi
    · rename_i hir
      have hjl : j < sz := by have := (List.getElem?_eq_some_iff.1 hj).1; rw [sy _ _ hi] at this; exact this
      obtain ⟨v, g1, g2⟩ := rn _ _ _ _ hi hj
      have e1 : i * sz = p * sz + (i - p) * sz := by rw [← Nat.add_mul]; congr 1; omega
      have e2 : (i - p) * sz + sz ≤ news.length := by
        rw [ln]
        have := Nat.mul_le_mul_right sz (show (i - p) + 1 ≤ ys.length by omega)
        rw [Nat.add_mul] at this; omega
      rw [if_pos (by omega)]
      refine ⟨v, ?_, g2⟩
      rw [← g1]; congr 1; omega
    · rename_i hir
      have hjl : j < sz := by have := (List.getElem?_eq_some_iff.1 hj).1; rw [hB.size _ _ hi] at this; exact this
      rw [if_neg (by
        rintro ⟨g1, g2⟩
        apply hir
        rw [ln] at g2
        refine ⟨?_, ?_⟩
        · rcases Nat.lt_or_ge i p with hlt | hge
          · have := Nat.mul_le_mul_right sz (show i + 1 ≤ p from hlt)
            simp only [Nat.add_mul] at this
            omega
          · exact hge
        · rcases Nat.lt_or_ge i (p + ys.length) with hlt | hge
          · exact hlt
          · have := Nat.mul_le_mul_right sz hge
            simp only [Nat.add_mul] at this
            omega)]
      exact hB.cell _ _ _ _ hi hj

theorem splice_op (hh : HR c h) (hf : ∀ id, n ≤ id → c.ι id = none) {sz id off len lo : Nat} {ex : Bool} {v : Value} (hv : VR c (.sl sz id off len lo ex) v) {b ys : List AV} (hb : h id = some b) (hpos : 0 < sz) (hle : off + ys.length ≤ b.length) (hyl : ys.length ≤ len)
    {news : List Value} (ln : news.length = ys.length * sz) (n1 : ∀ x ∈ news, x.oneCell' = true)
    (rn : ∀ (i : Nat) (e : AV) (j : Nat) (u : AV), ys[i]? = some e → e.cells[j]? = some u → ∃ x, news[i * sz + j]? = some x ∧ VR c u x)
    (sy : ∀ (i : Nat) (e : AV), ys[i]? = some e → e.cells.length = sz) (oy : ∀ (i : Nat) (e : AV) (j : Nat) (u : AV), ys[i]? = some e → e.cells[j]? = some u → u.one = true)
    {s : Sem Next} {r : AV} {vr : Value} (hr : ∀ c' : Cfg, VR c' r vr) (hs : ∀ a cap w', v = .slice (some a) len cap → (storeCells a news).run P c.w = .ok () w' → s.run P c.w = .ok (.value vr) w') (hK : K r (h.upd id (b.take off ++ ys ++ b.drop (off + ys.length))) n) : OpOk P c h n s K := by
  obtain ⟨bb, bs, sz', arr, E, hB⟩ := hh.blk id b hb
  cases hv with
  | sl _ _ _ _ _ _ bb' bs' cap' hι hlen hlo hex hmax' hroom ad had =>
    have hi := hB.ι
    rw [hι] at hi
    obtain ⟨rfl, rfl, rfl⟩ : bb' = bb ∧ bs' = bs ∧ sz = sz' := by simpa using hi
    obtain ⟨w', q1, q2, q3⟩ := splice_ok (P := P) hh hb hB hpos hle ln n1 rn sy oy
    have hst : (storeCells ad news).run P c.w = .ok () w' := by
      by_cases hc : cap' = 0
      · have hy : ys = [] := List.eq_nil_of_length_eq_zero (by omega)
        subst hy
        have hnil : news = [] := List.eq_nil_of_length_eq_zero (by simpa using ln)
        subst hnil
        simpa [storeCells] using q1
      · rw [had hc]; exact q1
    exact ⟨_, ⟨c.ι, c.Fz, w'⟩, r, _, n, vr, hs _ _ _ rfl hst, .inl rfl, q2.more (fun _ hq => hq.elim), q3, hf, hr _, Nat.le_refl _, hK⟩

theorem copy_ok (hT : TEOk P T) (hh : HR c h) (hf : ∀ id, n ≤ id → c.ι id = none) {t t' e ty : TypeId} (ht : (T t).ty = .slice e) {x y : AV} {vx vy : Value} (hx : VR c x vx) (hy : VR c y vy) (ha : copyP T e x y h n K)
    {s : Sem Next} (hs : ∀ v w', (Builtin.copy_ #[t, t'] ty #[vx, vy]).run P c.w = .ok v w' → s.run P c.w = .ok (.value v) w') : OpOk P c h n s K := by
  obtain ⟨ys, hry, hpos, ha⟩ := ha
  obtain ⟨i, z, hi, i1, i2, i3, i4, i5, i6⟩ := hT.info e hpos
  split at ha
  · cases hx
    obtain ⟨news, by_, capy, rfl, _, _, ln, n1, hn, rn, sy, oy, hk⟩ := rd_cellsX (P := P) hh hy hpos hry
    have h2 := hk 0 (Nat.zero_le _)
    refine OpOk.pure hh hf (hs (goInt 0) c.w ?_) (.int _ _) ha
    simp [Builtin.copy_, run_underlying (hT.tslice t e ht), sizeOf, typeInfo, hi, i1, Builtin.lenOf, goInt, h2]
  · rename_i sz id off len lo ex
    obtain ⟨rfl, b, hb, hle, ha⟩ := ha
    obtain ⟨news, by_, capy, rfl, _, _, ln, n1, hn, rn, sy, oy, hk⟩ := rd_cellsX (P := P) hh hy hpos hry
    have hlt : (ys.take len).length = min ys.length len := by simp [Nat.min_comm]
    have hmul := Nat.mul_le_mul_right (T e).sz (show min ys.length len ≤ ys.length from Nat.min_le_left _ _)
    have ln' : (news.take (min ys.length len * (T e).sz)).length = min ys.length len * (T e).sz := by rw [List.length_take]; omega
    refine splice_op (P := P) (K := K) (ys := ys.take len) (news := news.take (min ys.length len * (T e).sz)) hh hf hx hb hpos (by omega) (by omega) (by rw [hlt]; exact ln') (fun x hx => n1 x (List.mem_of_mem_take hx))
      (fun i e' j u hi hj => ?_) (fun i e' hi => ?_) (fun i e' j u hi hj => ?_) (r := .int .i64 (min ys.length len : Nat)) (vr := .int .i64 (min ys.length len : Nat)) (fun c' => .int _ _) (fun a cap w' hv hst => ?_) ha
    · rw [List.getElem?_take] at hi
      split at hi
      · rename_i hil
        obtain ⟨x, q1, q2⟩ := rn _ _ _ _ hi hj
        have hjl : j < (T e).sz := by have := (List.getElem?_eq_some_iff.1 hj).1; rw [sy _ _ hi] at this; exact this
        have hyl := (List.getElem?_eq_some_iff.1 hi).1
        have := Nat.mul_le_mul_right (T e).sz (show i + 1 ≤ min ys.length len by omega)
        rw [Nat.add_mul] at this
        exact ⟨x, by rw [List.getElem?_take, if_pos (by omega)]; exact q1, q2⟩
      · cases hi
    · rw [List.getElem?_take] at hi
      split at hi
      · exact sy _ _ hi
      · cases hi
    · rw [List.getElem?_take] at hi
      split at hi
      · exact oy _ _ _ _ hi hj
      · cases hi
    · refine hs _ _ ?_
      subst hv
      have h2 := hk (min ys.length len) (Nat.min_le_left _ _)
      simp [Builtin.copy_, run_underlying (hT.tslice t e ht), sizeOf, typeInfo, hi, i1, Builtin.lenOf, goInt, Nat.min_def] at h2 hst ⊢
      simp [h2, hst]
  · exact ha.elim

theorem clear_ok (hT : TEOk P T) (hh : HR c h) (hf : ∀ id, n ≤ id → c.ι id = none) {t e ty : TypeId} (ht : (T t).ty = .slice e) {x : AV} {vx : Value} (hx : VR c x vx) (ha : clearP T e x h n K)
    {s : Sem Next} (hs : ∀ v w', (Builtin.clear_ #[t] ty #[vx]).run P c.w = .ok v w' → s.run P c.w = .ok (.value v) w') : OpOk P c h n s K := by
  obtain ⟨hpos, ha⟩ := ha
  obtain ⟨i, z, hi, i1, i2, i3, i4, i5, i6⟩ := hT.info e hpos
  have htup : ∀ c' : Cfg, VR c' (.tup []) (.tuple #[]) := fun c' => .tup _ _ rfl (fun i u v h => by simp at h)
  split at ha
  · cases hx
    exact OpOk.pure hh hf (hs (.tuple #[]) c.w (by simp [Builtin.clear_, run_underlying (hT.tslice t e ht)])) (htup _) ha
  · rename_i sz id off len lo ex
    obtain ⟨rfl, b, hb, hle, ha⟩ := ha
    obtain ⟨r1, r2, r3⟩ := zero_cells_rel (c := c) (m := len) (i4 c) i6 i5 hpos
    have hz : z.cells.size = (T e).sz := by rw [(VR.cells (i4 c) i6).1, i5]
    have hmz : Builtin.zeroCells z.cells len = madeCells z.cells (len * (T e).sz) := by simp [Builtin.zeroCells, madeCells, hz]
    refine splice_op (P := P) (K := K) (ys := List.replicate len (T e).zero) (news := (Builtin.zeroCells z.cells len).toList) hh hf hx hb hpos (by simpa using hle) (by simp) (by rw [hmz]; simp [size_madeCells]) (fun x hx => ?_)
      (fun i e' j u hi hj => ?_) r1 r2 htup (fun a cap w' hv hst => hs _ _ ?_) (by simpa using ha)
    · rw [hmz] at hx
      obtain ⟨k, hk, rfl⟩ := List.mem_iff_getElem.1 hx
      have hkl : k < len * (T e).sz := by simpa [size_madeCells] using hk
      have hm := Nat.mod_lt k hpos
      have hmz' : k % (T e).sz < (T e).zero.cells.length := by omega
      have hq := (VR.cells (i4 c) i6).2 (k % (T e).sz) _ (z.cells[k % (T e).sz]'(by omega)) (List.getElem?_eq_getElem hmz') (Array.getElem?_eq_getElem (by omega))
      have h1 := VR.one hq (i6 _ (List.getElem_mem hmz'))
      simpa [madeCells, hz, hm] using h1
    · obtain ⟨x, q1, q2⟩ := r3 i e' j u hi hj
      exact ⟨x, by rw [hmz]; simpa using q1, q2⟩
    · subst hv
      cases hl : len with
      | zero => 
        subst hl
        have : w' = c.w := by simpa [Builtin.zeroCells, storeCells] using hst.symm
        subst this
        simp [Builtin.clear_, run_underlying (hT.tslice t e ht)]
      | succ m =>
        subst hl
        simp [Builtin.clear_, run_underlying (hT.tslice t e ht), zeroValue, typeInfo, hi, i3, hst]
  · exact ha.elim

end
end Go.Proofs.Ytplkjfnjdekgpaa
