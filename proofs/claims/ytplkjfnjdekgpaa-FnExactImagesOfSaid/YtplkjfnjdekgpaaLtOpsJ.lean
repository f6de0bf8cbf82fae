/- The plain operations are sound: append whole. Own work. -/
import Derived.Test.YtplkjfnjdekgpaaLtOpsI
namespace Go.Proofs.Ytplkjfnjdekgpaa
open Go

section
variable {P : Program} {T : TE} {c : Cfg} {h : Heap} {n : Nat} {K : AV → Heap → Nat → Prop}

theorem append_new (hT : TEOk P T) (hh : HR c h) (hf : ∀ id, n ≤ id → c.ι id = none) {t e ty : TypeId} (ht : (T t).ty = .slice e) (hpos : 0 < (T e).sz) {vx vy : Value} {base by_ : Option Addr} {sLen sCap capy : Nat} {xs ys : List AV}
    (hx : vx = .slice base sLen sCap) (hy : vy = .slice by_ ys.length capy) {olds news : List Value} {sz : Nat} (hsz : sz = (T e).sz) (hxl : xs.length = sLen)
    (ho : ∀ w', (∀ a, w'.cell? a = c.w.cell? a) → (Builtin.firstCells (T e).sz sLen vx).run P w' = .ok olds.toArray w') (hn : ∀ w', (∀ a, w'.cell? a = c.w.cell? a) → (Builtin.firstCells (T e).sz ys.length vy).run P w' = .ok news.toArray w')
    (lo : olds.length = xs.length * sz) (ln : news.length = ys.length * sz)
    (ro : ∀ (i : Nat) (e : AV) (j : Nat) (u : AV), xs[i]? = some e → e.cells[j]? = some u → ∃ x, olds[i * sz + j]? = some x ∧ VR c u x) (rn : ∀ (i : Nat) (e : AV) (j : Nat) (u : AV), ys[i]? = some e → e.cells[j]? = some u → ∃ x, news[i * sz + j]? = some x ∧ VR c u x)
    (sx : ∀ (i : Nat) (e : AV), xs[i]? = some e → e.cells.length = sz) (sy : ∀ (i : Nat) (e : AV), ys[i]? = some e → e.cells.length = sz)
    (ox : ∀ (i : Nat) (e : AV) (j : Nat) (u : AV), xs[i]? = some e → e.cells[j]? = some u → u.one = true) (oy : ∀ (i : Nat) (e : AV) (j : Nat) (u : AV), ys[i]? = some e → e.cells[j]? = some u → u.one = true)
    (hlt : sCap < sLen + ys.length) (hby : (sLen + ys.length) * (T e).bytes ≤ 140737488355328) (h63 : sLen + ys.length ≤ 140737488355328)
    {s : Sem Next} (hs : ∀ v w', (Builtin.append_ #[t, t] ty #[vx, vy]).run P c.w = .ok v w' → s.run P c.w = .ok (.value v) w')
    (hK : K (.sl sz n 0 (sLen + ys.length) (sLen + ys.length) false) (h.upd n (xs ++ ys)) (n + 1)) : OpOk P c h n s K := by
  subst hsz
  obtain ⟨z, cap, hrun, h1, h2, hz⟩ := app_grow (ty := ty) hT ht hpos hx hy ho hn hlt hby h63
  refine row_ok hh hf (w' := c.w.drew.alloc _) (arr := olds.toArray ++ news.toArray ++ Builtin.zeroCells z.cells (cap - (sLen + ys.length))) (E := e) rfl rfl rfl rfl (two_size sx sy) (two_one ox oy) (grown_rel _ lo ro rn)
    (Nat.le_refl _) h1 (fun hq => by cases hq) h2 ?_ (hs _ _ hrun) hK
  simp only [Array.size_append, List.size_toArray, lo, ln, size_zeroCells, hz, hxl]
  rw [← Nat.add_mul, ← Nat.add_mul]
  exact Nat.mul_le_mul_right _ (by omega)

theorem append_ok (hT : TEOk P T) (hh : HR c h) (hf : ∀ id, n ≤ id → c.ι id = none) {t e ty : TypeId} (ht : (T t).ty = .slice e) {x y : AV} {vx vy : Value} (hx : VR c x vx) (hy : VR c y vy) (ha : appendP T e x y h n K)
    {s : Sem Next} (hs : ∀ v w', (Builtin.append_ #[t, t] ty #[vx, vy]).run P c.w = .ok v w' → s.run P c.w = .ok (.value v) w') : OpOk P c h n s K := by
  obtain ⟨ys, hry, hpos, ha⟩ := ha
  obtain ⟨news, by_, capy, rfl, _, _, ln, n1, hn, rn, sy, oy⟩ := rd_cells (P := P) hh hy hpos hry
  have hn0 : ys = [] → (Builtin.append_ #[t, t] ty #[vx, .slice by_ ys.length capy]).run P c.w = .ok vx c.w ∨ (∀ base sLen sCap, vx = .slice base sLen sCap → ¬ sLen ≤ sCap) := fun hy0 => by
    subst hy0
    have hnil : news = [] := List.eq_nil_of_length_eq_zero (by simpa using ln)
    subst hnil
    by_cases hq : ∃ base sLen sCap, vx = .slice base sLen sCap ∧ sLen ≤ sCap
    · obtain ⟨base, sLen, sCap, e1, e2⟩ := hq
      exact .inl (app_same hT ht hpos e1 rfl hn e2)
    · exact .inr fun base sLen sCap e1 e2 => hq ⟨base, sLen, sCap, e1, e2⟩
  split at ha
  · cases hx
    obtain ⟨a1, a2, a3⟩ := ha
    split at a3
    · rename_i hy0
      rcases hn0 hy0 with hr | hr
      · exact OpOk.pure hh hf (hs _ _ hr) .nils a3
      · exact absurd (Nat.le_refl 0) (hr none 0 0 rfl)
    · rename_i hy0
      have hl : 0 < ys.length := by cases ys with | nil => exact absurd rfl hy0 | cons => simp
      exact append_new (xs := []) (olds := []) hT hh hf ht hpos rfl rfl rfl rfl (fun w' _ => by simp [Builtin.firstCells]) hn (by simp) ln (by simp) rn (by simp) sy (by simp) oy (by omega) (by simpa using a1) (by simpa using a2) hs (by simpa using a3)
  · rename_i sz ex l
    obtain ⟨rfl, a1, a2, a3⟩ := ha
    obtain ⟨olds, base, cap, rfl, hle, hmax, lo, o1, ho, ro, sx, ox⟩ := rd_cells (P := P) hh hx hpos (l := l) (by simp [rdSl])
    split at a3
    · rename_i hy0
      rcases hn0 hy0 with hr | hr
      · exact OpOk.pure hh hf (hs _ _ hr) hx a3
      · exact absurd hle (hr _ _ _ rfl)
    · rename_i hy0
      have hl : 0 < ys.length := by cases ys with | nil => exact absurd rfl hy0 | cons => simp
      obtain ⟨hex, a3⟩ := a3
      have hcap : cap = l.length := by
        cases hx with
        | ro _ _ _ _ _ _ _ _ hexx => exact hexx hex
      exact append_new hT hh hf ht hpos rfl rfl rfl rfl ho hn lo ln ro rn sx sy ox oy (by omega) a1 a2 hs a3
  · rename_i sz id off len lo' ex
    obtain ⟨rfl, a1, a2, b, hb, hbl, a3⟩ := ha
    have hlen : len ≤ lo' := by cases hx; assumption
    have hlx : ((b.drop off).take len).length = len := by simp; omega
    have hrx : rdSl h (T e).sz (.sl (T e).sz id off len lo' ex) = some ((b.drop off).take len) := by simp [rdSl, hb]; omega
    obtain ⟨olds, base, cap, hve, hle, hmax, lo, o1, ho, ro, sx, ox⟩ := rd_cells (P := P) hh hx hpos hrx
    rw [hlx] at hve hle ho lo
    obtain ⟨bb, bs, sz', arr, E, hB⟩ := hh.blk id b hb
    have hx' := hx
    cases hx with
    | sl _ _ _ _ _ _ bb' bs' cap' hι _ hlo hex hmax' hroom ad had =>
      obtain ⟨hbe, _, rfl⟩ : some ad = base ∧ True ∧ cap' = cap := by simpa using hve
      subst hbe
      have hi := hB.ι
      rw [hι] at hi
      obtain ⟨rfl, rfl, rfl⟩ : bb' = bb ∧ bs' = bs ∧ (T e).sz = sz' := by simpa using hi
      obtain ⟨arr0, E0, fr0, r1, r2⟩ := hroom
      rw [hB.heap] at r1
      obtain ⟨rfl, rfl, rfl⟩ := Obj.cells.inj (Option.some.inj r1)
      -- the row after a write behind its end
      have spl : ∀ k, ((arr.toList.take (bs' + off * (T e).sz + len * (T e).sz) ++ news ++ arr.toList.drop (bs' + off * (T e).sz + len * (T e).sz + news.length)).toArray)[k]? =
          if len + ys.length ≤ cap' then (if bs' + off * (T e).sz + len * (T e).sz ≤ k ∧ k < bs' + off * (T e).sz + len * (T e).sz + news.length then news[k - (bs' + off * (T e).sz + len * (T e).sz)]? else arr[k]?)
          else ((arr.toList.take (bs' + off * (T e).sz + len * (T e).sz) ++ news ++ arr.toList.drop (bs' + off * (T e).sz + len * (T e).sz + news.length)).toArray)[k]? := fun k => by
        split
        · rename_i hfits
          have hm := Nat.mul_le_mul_right (T e).sz (show off + (len + ys.length) ≤ off + cap' by omega)
          simp only [Nat.add_mul] at hm r2
          rw [List.getElem?_toArray, getElem?_splice _ _ _ _ (by simp; omega)]
          simp
        · rfl
      by_cases hin : len + ys.length ≤ lo'
      · rw [if_pos hin] at a3
        by_cases hy0 : ys = []
        · rcases hn0 hy0 with hr | hr
          · refine OpOk.pure hh hf (hs _ _ hr) hx' ?_
            subst hy0
            have : h.upd id (b.take (off + len) ++ [] ++ b.drop (off + len + ([] : List AV).length)) = h := by
              funext q
              unfold Heap.upd
              split
              · rename_i hq; subst hq; simp [hb]
              · rfl
            rw [this] at a3
            exact a3
          · exact absurd hle (hr _ _ _ rfl)
        · have hl : 0 < ys.length := by cases ys with | nil => exact absurd rfl hy0 | cons => simp
          have hcap0 : cap' ≠ 0 := by omega
          have hrun := app_room (ty := ty) (vx := .slice (some ad) len cap') (b := bb') (o := bs' + off * (T e).sz) hT ht hpos (by rw [had hcap0]) rfl hn ln n1 hB.heap (by omega : len + ys.length ≤ cap') (by simp only [Nat.add_mul] at r2 ⊢; omega)
          rw [← had hcap0] at hrun
          have hfits : len + ys.length ≤ cap' := by omega
          obtain ⟨q1, q2⟩ := write_ok hh hb hB (w' := c.w.setRow bb' _) (setRow_heap_eq hB.heap) rfl rfl rfl (arr' := (arr.toList.take (bs' + off * (T e).sz + len * (T e).sz) ++ news ++ arr.toList.drop (bs' + off * (T e).sz + len * (T e).sz + news.length)).toArray) (by
              have hm := Nat.mul_le_mul_right (T e).sz (show off + (len + ys.length) ≤ off + cap' by omega)
              simp only [Nat.add_mul] at hm r2
              simp; omega) (b.take (off + len) ++ ys ++ b.drop (off + len + ys.length))
            (fun i x hi => by
              rw [getElem?_splice _ _ _ _ (by omega)] at hi
              split at hi
              · exact sy _ _ hi
              · exact hB.size _ _ hi)
            (fun i x j u hi hj => by
              rw [getElem?_splice _ _ _ _ (by omega)] at hi
              split at hi
              · exact oy _ _ _ _ hi hj
              · exact hB.one _ _ _ _ hi hj)
            (fun i x j u hi hj => by
              rw [spl, if_pos hfits]
              rw [getElem?_splice _ _ _ _ (by omega)] at hi
              split at hi
              · rename_i hir
                have hjl : j < (T e).sz := by have := (List.getElem?_eq_some_iff.1 hj).1; rw [sy _ _ hi] at this; exact this
                obtain ⟨v, g1, g2⟩ := rn _ _ _ _ hi hj
                have e1 : i * (T e).sz = off * (T e).sz + len * (T e).sz + (i - (off + len)) * (T e).sz := by rw [← Nat.add_mul, ← Nat.add_mul]; congr 1; omega
                have e2 : (i - (off + len)) * (T e).sz + (T e).sz ≤ news.length := by
                  rw [ln]
                  have := Nat.mul_le_mul_right (T e).sz (show (i - (off + len)) + 1 ≤ ys.length by omega)
                  rw [Nat.add_mul] at this; omega
                rw [if_pos (by omega)]
                refine ⟨v, ?_, g2⟩
                rw [← g1]; congr 1; omega
              · rename_i hir
                have hjl : j < (T e).sz := by have := (List.getElem?_eq_some_iff.1 hj).1; rw [hB.size _ _ hi] at this; exact this
                rw [if_neg (by
                  rintro ⟨g1, g2⟩
                  apply hir
                  rw [ln] at g2
                  refine ⟨?_, ?_⟩
                  · rcases Nat.lt_or_ge i (off + len) with hlt | hge
                    · have := Nat.mul_le_mul_right (T e).sz (show i + 1 ≤ off + len from hlt)
                      simp only [Nat.add_mul] at this
                      omega
                    · exact hge
                  · rcases Nat.lt_or_ge i (off + len + ys.length) with hlt | hge
                    · exact hlt
                    · have := Nat.mul_le_mul_right (T e).sz hge
                      simp only [Nat.add_mul] at this
                      omega)]
                exact hB.cell _ _ _ _ hi hj)
          have hval : VR c (.sl (T e).sz id off (len + ys.length) lo' ex) (.slice (some ad) (len + ys.length) cap') := .sl _ _ _ _ _ _ bb' bs' cap' hι hin hlo hex hmax' ⟨arr, E, (0, 0), hB.heap, r2⟩ ad had
          exact ⟨_, ⟨c.ι, c.Fz, _⟩, _, _, n, _, hs _ _ hrun, .inl rfl, q1.more (fun _ hq => hq.elim), q2, hf, hval.mono q1 hh, Nat.le_refl _, a3⟩
      · rw [if_neg hin] at a3
        have hl : 0 < ys.length := by omega
        by_cases hexx : ex = true
        · rw [if_pos hexx] at a3
          have hcap := hex hexx
          exact append_new hT hh hf ht hpos rfl rfl rfl hlx ho hn (by rw [lo, hlx]) ln ro rn sx sy ox oy (by omega) a1 a2 hs a3
        · rw [if_neg hexx] at a3
          by_cases hfits : len + ys.length ≤ cap'
          · have hcap0 : cap' ≠ 0 := by omega
            have hrun := app_room (ty := ty) (vx := .slice (some ad) len cap') (b := bb') (o := bs' + off * (T e).sz) hT ht hpos (by rw [had hcap0]) rfl hn ln n1 hB.heap hfits (by simp only [Nat.add_mul] at r2 ⊢; omega)
            rw [← had hcap0] at hrun
            obtain ⟨q1, q2⟩ := turn_ok hh hf hb hB (w' := c.w.setRow bb' _) (setRow_heap_eq hB.heap) rfl rfl rfl (arr' := (arr.toList.take (bs' + off * (T e).sz + len * (T e).sz) ++ news ++ arr.toList.drop (bs' + off * (T e).sz + len * (T e).sz + news.length)).toArray) (by
                have hm := Nat.mul_le_mul_right (T e).sz (show off + (len + ys.length) ≤ off + cap' by omega)
                simp only [Nat.add_mul] at hm r2
                simp; omega) (bs' + off * (T e).sz) ((b.drop off).take len ++ ys) (two_size sx sy) (two_one ox oy)
              (fun i x j u hi hj => by
                rw [spl, if_pos hfits]
                by_cases hlt : i < len
                · rw [List.getElem?_append_left (by omega), List.getElem?_take, if_pos hlt, List.getElem?_drop] at hi
                  have hjl : j < (T e).sz := by have := (List.getElem?_eq_some_iff.1 hj).1; rw [hB.size _ _ hi] at this; exact this
                  have hm := Nat.mul_le_mul_right (T e).sz (show i + 1 ≤ len from hlt)
                  rw [Nat.add_mul] at hm
                  rw [if_neg (by omega)]
                  obtain ⟨v, g1, g2⟩ := hB.cell _ _ _ _ hi hj
                  refine ⟨v, ?_, g2⟩
                  rw [← g1]; congr 1; rw [Nat.add_mul]; omega
                · rw [List.getElem?_append_right (by omega), hlx] at hi
                  have hjl : j < (T e).sz := by have := (List.getElem?_eq_some_iff.1 hj).1; rw [sy _ _ hi] at this; exact this
                  obtain ⟨v, g1, g2⟩ := rn _ _ _ _ hi hj
                  have hil := (List.getElem?_eq_some_iff.1 hi).1
                  have e1 : i * (T e).sz = len * (T e).sz + (i - len) * (T e).sz := by rw [← Nat.add_mul]; congr 1; omega
                  have e2 : (i - len) * (T e).sz + (T e).sz ≤ news.length := by
                    rw [ln]
                    have := Nat.mul_le_mul_right (T e).sz (show (i - len) + 1 ≤ ys.length by omega)
                    rw [Nat.add_mul] at this; omega
                  rw [if_pos (by omega)]
                  refine ⟨v, ?_, g2⟩
                  rw [← g1]; congr 1; omega)
            have hsh : ∃ arr', (c.w.setRow bb' ((arr.toList.take (bs' + off * (T e).sz + len * (T e).sz) ++ news ++ arr.toList.drop (bs' + off * (T e).sz + len * (T e).sz + news.length)).toArray)).heap[bb']? = some (.cells arr' E (0, 0)) ∧ arr'.size = arr.size := q1.shape _ _ _ _ hB.heap
            obtain ⟨arr', s1, s2⟩ := hsh
            have hval : VR (c.wr n (bb', bs' + off * (T e).sz, (T e).sz) (c.w.setRow bb' ((arr.toList.take (bs' + off * (T e).sz + len * (T e).sz) ++ news ++ arr.toList.drop (bs' + off * (T e).sz + len * (T e).sz + news.length)).toArray))) (.sl (T e).sz n 0 (len + ys.length) (len + ys.length) false) (.slice (some ad) (len + ys.length) cap') :=
              .sl _ _ _ _ _ _ bb' (bs' + off * (T e).sz) cap' (if_pos rfl) (Nat.le_refl _) hfits (fun hq => by cases hq) hmax' ⟨arr', E, (0, 0), s1, by rw [s2]; simp only [Nat.add_mul] at r2 ⊢; omega⟩ ad (fun _ => by rw [had hcap0]; simp)
            exact ⟨_, c.wr n _ _, _, _, n + 1, _, hs _ _ hrun, .inl rfl, q1, q2, turn_fresh hf, hval, by omega, a3⟩
          · refine append_new (K := fun r h' n' => K r ((h.del id).upd n ((b.drop off).take len ++ ys)) n' ∧ h' = h.upd n ((b.drop off).take len ++ ys)) hT hh hf ht hpos rfl rfl rfl hlx ho hn (by rw [lo, hlx]) ln ro rn sx sy ox oy (by omega) a1 a2 hs ⟨a3, rfl⟩ |> fun hq => ?_
            obtain ⟨nx, c', r, h', n', v, z1, z2, z3, z4, z5, z6, z7, z8, rfl⟩ := hq
            have sub : ∀ q bq, ((h.del id).upd n ((b.drop off).take len ++ ys)) q = some bq → (h.upd n ((b.drop off).take len ++ ys)) q = some bq := fun q bq hq => by
              unfold Heap.upd Heap.del at hq
              unfold Heap.upd
              split at hq
              · rw [if_pos (by assumption)]; exact hq
              · rw [if_neg (by assumption)]
                split at hq
                · cases hq
                · exact hq
            exact ⟨nx, c', r, _, n', v, z1, z2, z3.sub sub, z4.sub sub, z5, z6, z7, z8⟩
  · exact ha.elim

end
end Go.Proofs.Ytplkjfnjdekgpaa
