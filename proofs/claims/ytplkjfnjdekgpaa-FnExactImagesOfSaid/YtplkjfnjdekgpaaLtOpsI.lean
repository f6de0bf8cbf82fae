/- The plain operations are sound: append. Own work. -/
import Derived.Test.YtplkjfnjdekgpaaLtOpsH
namespace Go.Proofs.Ytplkjfnjdekgpaa
open Go

section
variable {P : Program} {T : TE} {c : Cfg} {h : Heap} {n : Nat} {K : AV → Heap → Nat → Prop}

theorem HR.sub {h' : Heap} (hh : HR c h) (hs : ∀ id b, h' id = some b → h id = some b) : HR c h' :=
  ⟨fun id b hb => hh.blk id b (hs id b hb), fun i j bi bj x y h1 h2 => hh.inj i j bi bj x y (hs i bi h1) (hs j bj h2), hh.fzlt⟩

theorem Ext.sub {c' : Cfg} {h1 h2 : Heap} {fr : Nat → Prop} (e : Ext c h fr c' h1) (hs : ∀ id b, h2 id = some b → h1 id = some b) : Ext c h fr c' h2 :=
  ⟨e.os, e.tape, e.output, e.size, e.ι, e.dom, e.fz, e.shape, e.frame, fun id b x hb hx => e.own id b x (hs id b hb) hx, e.fzb⟩

theorem Ext.more {c' : Cfg} {h1 : Heap} {fr fr' : Nat → Prop} (e : Ext c h fr c' h1) (hs : ∀ id, fr id → fr' id) : Ext c h fr' c' h1 :=
  ⟨e.os, e.tape, e.output, e.size, e.ι, fun id x hx => (e.dom id x hx).imp (fun q => q) (hs id), e.fz, e.shape, e.frame, e.own, e.fzb⟩

/-- The cells of a slice that is read, as a list; and that 'firstCells' gives them. -/
theorem rd_cellsX (hh : HR c h) {a : AV} {v : Value} (hv : VR c a v) {sz : Nat} (hpos : 0 < sz) {l : List AV} (hr : rdSl h sz a = some l) :
    ∃ (news : List Value) (base : Option Addr) (cap : Nat), v = .slice base l.length cap ∧ l.length ≤ cap ∧ cap ≤ maxLen ∧ news.length = l.length * sz ∧ (∀ x ∈ news, x.oneCell' = true) ∧
      (∀ w', (∀ a, w'.cell? a = c.w.cell? a) → (Builtin.firstCells sz l.length v).run P w' = .ok news.toArray w') ∧
      (∀ (i : Nat) (e : AV) (j : Nat) (u : AV), l[i]? = some e → e.cells[j]? = some u → ∃ x, news[i * sz + j]? = some x ∧ VR c u x) ∧
      (∀ (i : Nat) (e : AV), l[i]? = some e → e.cells.length = sz) ∧ (∀ (i : Nat) (e : AV) (j : Nat) (u : AV), l[i]? = some e → e.cells[j]? = some u → u.one = true) ∧
      (∀ k, k ≤ l.length → (Builtin.firstCells sz k v).run P c.w = .ok (news.take (k * sz)).toArray c.w) := by
  rcases rd_slice hh hv hr with ⟨rfl, rfl⟩ | ⟨ad, cap, rfl, h1, h2, h3, h4, h5, _, _⟩
  · exact ⟨[], none, 0, rfl, Nat.le_refl _, Nat.zero_le _, by simp, by simp, fun w' _ => by simp [Builtin.firstCells], by simp, by simp, by simp, fun k hk => by simp [Builtin.firstCells]⟩
  · have split : ∀ k, k < l.length * sz → ∃ (e : AV) (u : AV), l[k / sz]? = some e ∧ e.cells[k % sz]? = some u ∧ k / sz * sz + k % sz = k := fun k hk => by
      have hlt : k / sz < l.length := (Nat.div_lt_iff_lt_mul hpos).2 hk
      have he : l[k / sz]? = some (l[k / sz]'hlt) := List.getElem?_eq_getElem hlt
      have hm := Nat.mod_lt k hpos
      exact ⟨_, _, he, List.getElem?_eq_getElem (by rw [h3 _ _ he]; exact hm), Nat.div_add_mod' k sz⟩
    have hcell : ∀ k, k < l.length * sz → ∃ x, c.w.cell? (ad.add k) = some x ∧ x.oneCell' = true := fun k hk => by
      obtain ⟨e, u, g1, g2, g3⟩ := split k hk
      obtain ⟨x, q1, q2⟩ := h5 _ e _ u g1 g2
      rw [g3] at q1
      exact ⟨x, q1, VR.one q2 (h4 _ _ _ _ g1 g2)⟩
    let news := (List.range (l.length * sz)).map fun k => (c.w.cell? (ad.add k)).getD Go.undef
    have hn : ∀ k x, news[k]? = some x → k < l.length * sz ∧ c.w.cell? (ad.add k) = some x := fun k x hk => by
      have hlt : k < l.length * sz := by have := (List.getElem?_eq_some_iff.1 hk).1; simpa [news] using this
      obtain ⟨y, q1, _⟩ := hcell k hlt
      simp [news, hlt, q1] at hk
      exact ⟨hlt, by rw [q1, hk]⟩
    have hlen : news.length = l.length * sz := by simp [news]
    refine ⟨news, some ad, cap, rfl, h1, h2, hlen, fun x hx => ?_, fun w' hw => ?_, fun i e j u hi hj => ?_, h3, h4, fun k hk => ?_⟩
    · obtain ⟨k, hk, rfl⟩ := List.mem_iff_getElem.1 hx
      obtain ⟨q1, q2⟩ := hn k _ (List.getElem?_eq_getElem hk)
      obtain ⟨y, q3, q4⟩ := hcell k q1
      rw [q3] at q2
      obtain rfl := Option.some.inj q2
      exact q4
    · exact run_firstCells_some w' sz l.length ad l.length cap news hlen (fun j v hj => by rw [hw]; exact (hn j v hj).2)
    · obtain ⟨x, q1, q2⟩ := h5 i e j u hi hj
      refine ⟨x, ?_, q2⟩
      have hil := (List.getElem?_eq_some_iff.1 hi).1
      have hjl := (List.getElem?_eq_some_iff.1 hj).1
      rw [h3 i e hi] at hjl
      have hlt : i * sz + j < l.length * sz := by
        have : (i + 1) * sz ≤ l.length * sz := Nat.mul_le_mul_right _ hil
        rw [Nat.add_mul] at this; omega
      simp [news, hlt, q1]
    · refine run_firstCells_some c.w sz k ad l.length cap (news.take (k * sz)) (by rw [List.length_take, hlen]; exact Nat.min_eq_left (Nat.mul_le_mul_right _ hk)) (fun j v hj => ?_)
      rw [List.getElem?_take] at hj
      split at hj
      · exact (hn j v hj).2
      · cases hj

/-- The cells of a slice that is read, as a list; and that 'firstCells' gives them. -/
theorem rd_cells (hh : HR c h) {a : AV} {v : Value} (hv : VR c a v) {sz : Nat} (hpos : 0 < sz) {l : List AV} (hr : rdSl h sz a = some l) :
    ∃ (news : List Value) (base : Option Addr) (cap : Nat), v = .slice base l.length cap ∧ l.length ≤ cap ∧ cap ≤ maxLen ∧ news.length = l.length * sz ∧ (∀ x ∈ news, x.oneCell' = true) ∧
      (∀ w', (∀ a, w'.cell? a = c.w.cell? a) → (Builtin.firstCells sz l.length v).run P w' = .ok news.toArray w') ∧
      (∀ (i : Nat) (e : AV) (j : Nat) (u : AV), l[i]? = some e → e.cells[j]? = some u → ∃ x, news[i * sz + j]? = some x ∧ VR c u x) ∧
      (∀ (i : Nat) (e : AV), l[i]? = some e → e.cells.length = sz) ∧ (∀ (i : Nat) (e : AV) (j : Nat) (u : AV), l[i]? = some e → e.cells[j]? = some u → u.one = true) := by
  obtain ⟨news, base, cap, a1, a2, a3, a4, a5, a6, a7, a8, a9, _⟩ := rd_cellsX (P := P) hh hv hpos hr
  exact ⟨news, base, cap, a1, a2, a3, a4, a5, a6, a7, a8, a9⟩

theorem app_grow (hT : TEOk P T) {t e ty : TypeId} (ht : (T t).ty = .slice e) (hpos : 0 < (T e).sz) {vx vy : Value} {base by_ : Option Addr} {sLen sCap m capy : Nat} (hx : vx = .slice base sLen sCap) (hy : vy = .slice by_ m capy) {olds news : List Value}
    (ho : ∀ w', (∀ a, w'.cell? a = c.w.cell? a) → (Builtin.firstCells (T e).sz sLen vx).run P w' = .ok olds.toArray w') (hn : ∀ w', (∀ a, w'.cell? a = c.w.cell? a) → (Builtin.firstCells (T e).sz m vy).run P w' = .ok news.toArray w')
    (hlt : sCap < sLen + m) (hby : (sLen + m) * (T e).bytes ≤ 140737488355328) (h63 : sLen + m ≤ 140737488355328) :
    ∃ (z : Value) (cap : Nat), (Builtin.append_ #[t, t] ty #[vx, vy]).run P c.w = .ok (.slice (some ⟨c.w.heap.size, 0, none⟩) (sLen + m) cap) (c.w.drew.alloc (.cells (olds.toArray ++ news.toArray ++ Builtin.zeroCells z.cells (cap - (sLen + m))) e)) ∧
      sLen + m ≤ cap ∧ cap ≤ maxLen ∧ z.cells.size = (T e).sz := by
  obtain ⟨i, z, hi, i1, i2, i3, i4, i5, i6⟩ := hT.info e hpos
  have hzs : z.cells.size = (T e).sz := by rw [(VR.cells (i4 c) i6).1, i5]
  have hml : sLen + m ≤ maxLen := by unfold maxLen; omega
  refine ⟨z, grownCap c.w (sLen + m) sCap e, ?_, grownCap_ge _ _ _ _, grownCap_le_maxLen _ _ _ _ hml, hzs⟩
  have hfit := growslice_fits hlt hby
  have hnn : ¬ (sLen + m ≤ sCap) := by omega
  have h63' : ¬ (9223372036854775807 < ((sLen : Int) + (m : Int))) := by omega
  have h48' : ¬ (281474976710656 < Builtin.nextslicecap (sLen + m) sCap * (T e).bytes) := by omega
  have h1 := ho c.w.drew (fun a => by simp)
  have h2 := hn c.w.drew (fun a => by simp)
  subst hx; subst hy
  simp [Builtin.append_, run_underlying (hT.tslice t e ht), sizeOf, typeInfo, zeroValue, hi, i1, i2, i3, Builtin.lenOf, hnn, h63', h48', Question.forced, h1, h2, newRow, grownCap]
  congr 2
  apply Array.ext'
  simp [List.append_assoc]

theorem app_same (hT : TEOk P T) {t e ty : TypeId} (ht : (T t).ty = .slice e) (hpos : 0 < (T e).sz) {vx vy : Value} {base by_ : Option Addr} {sLen sCap capy : Nat} (hx : vx = .slice base sLen sCap) (hy : vy = .slice by_ 0 capy)
    (hn : ∀ w', (∀ a, w'.cell? a = c.w.cell? a) → (Builtin.firstCells (T e).sz 0 vy).run P w' = .ok #[] w') (hle : sLen ≤ sCap) : (Builtin.append_ #[t, t] ty #[vx, vy]).run P c.w = .ok vx c.w := by
  obtain ⟨i, z, hi, i1, i2, i3, _⟩ := hT.info e hpos
  have h2 := hn c.w (fun a => rfl)
  subst hx; subst hy
  cases base <;> simp [Builtin.append_, run_underlying (hT.tslice t e ht), sizeOf, typeInfo, hi, i1, Builtin.lenOf, hle, h2, storeCells]

theorem app_room (hT : TEOk P T) {t e ty : TypeId} (ht : (T t).ty = .slice e) (hpos : 0 < (T e).sz) {vx vy : Value} {by_ : Option Addr} {b o sLen sCap m capy : Nat} (hx : vx = .slice (some ⟨b, o, none⟩) sLen sCap) (hy : vy = .slice by_ m capy) {news : List Value}
    (hn : ∀ w', (∀ a, w'.cell? a = c.w.cell? a) → (Builtin.firstCells (T e).sz m vy).run P w' = .ok news.toArray w') (hnl : news.length = m * (T e).sz) (h1 : ∀ x ∈ news, x.oneCell' = true) {arr : Array Value} {E : TypeId} (hb : c.w.heap[b]? = some (.cells arr E (0, 0)))
    (hle : sLen + m ≤ sCap) (hroom : o + sCap * (T e).sz ≤ arr.size) :
    (Builtin.append_ #[t, t] ty #[vx, vy]).run P c.w = .ok (.slice (some ⟨b, o, none⟩) (sLen + m) sCap) (c.w.setRow b (arr.toList.take (o + sLen * (T e).sz) ++ news ++ arr.toList.drop (o + sLen * (T e).sz + news.length)).toArray) := by
  obtain ⟨i, z, hi, i1, i2, i3, _⟩ := hT.info e hpos
  have h2 := hn c.w (fun a => rfl)
  have hfit : o + sLen * (T e).sz + news.length ≤ arr.size := by
    have := Nat.mul_le_mul_right (T e).sz hle
    rw [Nat.add_mul] at this
    omega
  have hst := run_storeCells_at P b (o + sLen * (T e).sz) E news 0 arr c.w hb (by simpa using hfit) h1
  simp only [Nat.add_zero] at hst
  subst hx; subst hy
  simp [Builtin.append_, run_underlying (hT.tslice t e ht), sizeOf, typeInfo, hi, i1, Builtin.lenOf, hle, h2, Addr.add_lit, hst]

/-- The cells of a row that has grown. -/
theorem grown_rel {xs ys : List AV} {olds news : List Value} {sz : Nat} (rest : Array Value) (lo : olds.length = xs.length * sz)
    (ro : ∀ (i : Nat) (e : AV) (j : Nat) (u : AV), xs[i]? = some e → e.cells[j]? = some u → ∃ x, olds[i * sz + j]? = some x ∧ VR c u x) (rn : ∀ (i : Nat) (e : AV) (j : Nat) (u : AV), ys[i]? = some e → e.cells[j]? = some u → ∃ x, news[i * sz + j]? = some x ∧ VR c u x) :
    ∀ (i : Nat) (e : AV) (j : Nat) (u : AV), (xs ++ ys)[i]? = some e → e.cells[j]? = some u → ∃ x, (olds.toArray ++ news.toArray ++ rest)[i * sz + j]? = some x ∧ VR c u x := by
  intro i e j u hi hj
  by_cases hlt : i < xs.length
  · rw [List.getElem?_append_left hlt] at hi
    obtain ⟨x, q1, q2⟩ := ro i e j u hi hj
    have hl := (List.getElem?_eq_some_iff.1 q1).1
    refine ⟨x, ?_, q2⟩
    rw [Array.append_assoc, Array.getElem?_append_left (by simpa using hl)]
    simpa using q1
  · rw [List.getElem?_append_right (by omega)] at hi
    obtain ⟨x, q1, q2⟩ := rn _ e j u hi hj
    have hl := (List.getElem?_eq_some_iff.1 q1).1
    refine ⟨x, ?_, q2⟩
    have hge : xs.length ≤ i := by omega
    have e1 : i * sz + j = olds.length + ((i - xs.length) * sz + j) := by
      rw [lo, Nat.sub_mul]
      have := Nat.mul_le_mul_right sz hge
      omega
    rw [e1, Array.getElem?_append_left (by simp; omega), Array.getElem?_append_right (by simp)]
    simpa using q1

theorem two_size {xs ys : List AV} {sz : Nat} (h1 : ∀ (i : Nat) (e : AV), xs[i]? = some e → e.cells.length = sz) (h2 : ∀ (i : Nat) (e : AV), ys[i]? = some e → e.cells.length = sz) : ∀ (i : Nat) (e : AV), (xs ++ ys)[i]? = some e → e.cells.length = sz := by
  intro i e hi
  rcases List.mem_append.1 (List.mem_of_getElem? hi) with hm | hm
  · obtain ⟨k, hk, rfl⟩ := List.mem_iff_getElem.1 hm; exact h1 k _ (List.getElem?_eq_getElem hk)
  · obtain ⟨k, hk, rfl⟩ := List.mem_iff_getElem.1 hm; exact h2 k _ (List.getElem?_eq_getElem hk)

theorem two_one {xs ys : List AV} (h1 : ∀ (i : Nat) (e : AV) (j : Nat) (u : AV), xs[i]? = some e → e.cells[j]? = some u → u.one = true) (h2 : ∀ (i : Nat) (e : AV) (j : Nat) (u : AV), ys[i]? = some e → e.cells[j]? = some u → u.one = true) :
    ∀ (i : Nat) (e : AV) (j : Nat) (u : AV), (xs ++ ys)[i]? = some e → e.cells[j]? = some u → u.one = true := by
  intro i e j u hi hj
  rcases List.mem_append.1 (List.mem_of_getElem? hi) with hm | hm
  · obtain ⟨k, hk, rfl⟩ := List.mem_iff_getElem.1 hm; exact h1 k _ j u (List.getElem?_eq_getElem hk) hj
  · obtain ⟨k, hk, rfl⟩ := List.mem_iff_getElem.1 hm; exact h2 k _ j u (List.getElem?_eq_getElem hk) hj

end
end Go.Proofs.Ytplkjfnjdekgpaa
