/- The plain operations are sound: the steps on the heap. Own work. -/
import Derived.Test.YtplkjfnjdekgpaaLtOpsA
namespace Go.Proofs.Ytplkjfnjdekgpaa
open Go

def OpOk (P : Program) (c : Cfg) (h : Heap) (n : Nat) (s : Sem Next) (K : AV → Heap → Nat → Prop) : Prop :=
  ∃ (nx : Next) (c' : Cfg) (r : AV) (h' : Heap) (n' : Nat) (v : Value), s.run P c.w = .ok nx c'.w ∧ (nx = .value v ∨ (nx = .skip ∧ v = Go.undef)) ∧
    Ext c h (fun id => n ≤ id ∧ id < n') c' h' ∧ HR c' h' ∧ (∀ id, n' ≤ id → c'.ι id = none) ∧ VR c' r v ∧ n ≤ n' ∧ K r h' n'

section
variable {P : Program} {c : Cfg} {h : Heap} {n : Nat} {K : AV → Heap → Nat → Prop}

theorem OpOk.pure (hh : HR c h) (hf : ∀ id, n ≤ id → c.ι id = none) {s : Sem Next} {r : AV} {v : Value} (hrun : s.run P c.w = .ok (.value v) c.w) (hv : VR c r v) (hK : K r h n) : OpOk P c h n s K :=
  ⟨_, c, r, h, n, v, hrun, .inl rfl, Ext.refl _ _ _, hh, hf, hv, Nat.le_refl _, hK⟩

/-- A new block of the world, under a new id. -/
def Cfg.new (c : Cfg) (n sz : Nat) (w' : World) : Cfg := ⟨fun x => if x = n then some (c.w.heap.size, 0, sz) else c.ι x, c.Fz, w'⟩

theorem alloc_ext (_ : HR c h) (hf : ∀ id, n ≤ id → c.ι id = none) {w' : World} {arr : Array Value} {E : TypeId} {sz : Nat} (blk : List AV) (hw : w'.heap = c.w.heap.push (.cells arr E))
    (h1 : w'.os = c.w.os) (h2 : w'.tape = c.w.tape) (h3 : w'.output = c.w.output) : Ext c h (fun id => n ≤ id ∧ id < n + 1) (c.new n sz w') (h.upd n blk) := by
  have hold : ∀ b, b < c.w.heap.size → w'.heap[b]? = c.w.heap[b]? := fun b hb => by rw [hw, Array.getElem?_push, if_neg (by omega)]
  refine ⟨h1, h2, h3, ?_, ?_, ?_, fun b h => h, ?_, fun b hb _ => hold b hb, ?_, fun b h => .inl h⟩
  · show _ ≤ w'.heap.size; rw [hw, Array.size_push]; omega
  · intro id x hx
    show (if id = n then _ else _) = _
    rw [if_neg (by rintro rfl; rw [hf _ (Nat.le_refl _)] at hx; cases hx)]; exact hx
  · intro id x hx
    have hx' : (if id = n then some (c.w.heap.size, 0, sz) else c.ι id) = some x := hx
    split at hx'
    · exact .inr ⟨by omega, by omega⟩
    · exact .inl hx'
  · intro b arr0 E0 f hb
    exact ⟨arr0, (hold b (heap_lt hb)).trans hb, rfl⟩
  · intro id blk0 x hb hx
    have hx' : (if id = n then some (c.w.heap.size, 0, sz) else c.ι id) = some x := hx
    by_cases hid : id = n
    · rw [if_pos hid] at hx'
      obtain rfl := Option.some.inj hx'
      exact .inl (Nat.le_refl _)
    · rw [if_neg hid] at hx'
      rw [Heap.upd_ne _ _ hid] at hb
      exact .inr ⟨id, blk0, x, hb, hx', rfl⟩

theorem alloc_hr (hh : HR c h) (hf : ∀ id, n ≤ id → c.ι id = none) {w' : World} {arr : Array Value} {E : TypeId} {sz : Nat} {blk : List AV} (hw : w'.heap = c.w.heap.push (.cells arr E))
    (h1 : w'.os = c.w.os) (h2 : w'.tape = c.w.tape) (h3 : w'.output = c.w.output)
    (hsz : ∀ (i : Nat) (e : AV), blk[i]? = some e → e.cells.length = sz)
    (hone : ∀ (i : Nat) (e : AV) (j : Nat) (u : AV), blk[i]? = some e → e.cells[j]? = some u → u.one = true)
    (hc : ∀ (i : Nat) (e : AV) (j : Nat) (u : AV), blk[i]? = some e → e.cells[j]? = some u → ∃ v, arr[i * sz + j]? = some v ∧ VR c u v) : HR (c.new n sz w') (h.upd n blk) := by
  have hext : Ext c h (fun id => n ≤ id ∧ id < n + 1) (c.new n sz w') (h.upd n blk) := alloc_ext hh hf blk hw h1 h2 h3
  have hι : ∀ id, id ≠ n → (c.new n sz w').ι id = c.ι id := fun id hid => if_neg hid
  have hιn : (c.new n sz w').ι n = some (c.w.heap.size, 0, sz) := if_pos rfl
  have old : ∀ id blk0, h id = some blk0 → id ≠ n → ∃ b base sz0 arr0 E0, BlkR c id blk0 b base sz0 arr0 E0 ∧ BlkR (c.new n sz w') id blk0 b base sz0 arr0 E0 := by
    intro id blk0 hb hid
    obtain ⟨b, base, sz0, arr0, E0, hB⟩ := hh.blk id blk0 hb
    refine ⟨b, base, sz0, arr0, E0, hB, (hι id hid).trans hB.ι, ?_, hB.nfz, hB.size, hB.one, fun i e j u a1 a2 => ?_⟩
    · show w'.heap[b]? = _
      rw [hw, Array.getElem?_push, if_neg (by have := heap_lt hB.heap; omega)]; exact hB.heap
    · obtain ⟨v, b1, b2⟩ := hB.cell i e j u a1 a2
      exact ⟨v, b1, b2.mono hext hh⟩
  refine ⟨fun id blk0 hb => ?_, fun i j bi bj x y hi hj hx hy hxy => ?_, fun b hb => ?_⟩
  · by_cases hid : id = n
    · subst hid
      rw [Heap.upd_same] at hb
      obtain rfl := Option.some.inj hb
      refine ⟨c.w.heap.size, 0, sz, arr, E, hιn, ?_, fun hfz => ?_, hsz, hone, fun i e j u a1 a2 => ?_⟩
      · show w'.heap[c.w.heap.size]? = _
        rw [hw]; simp
      · exact absurd (hh.fzlt _ hfz) (Nat.lt_irrefl _)
      · obtain ⟨v, b1, b2⟩ := hc i e j u a1 a2
        exact ⟨v, by simpa using b1, b2.mono hext hh⟩
    · rw [Heap.upd_ne _ _ hid] at hb
      obtain ⟨b, base, sz0, arr0, E0, _, hB⟩ := old id blk0 hb hid
      exact ⟨b, base, sz0, arr0, E0, hB⟩
  · have lt : ∀ id blk0 z, h id = some blk0 → id ≠ n → (c.new n sz w').ι id = some z → z.1 < c.w.heap.size := by
      intro id blk0 z hb hid hz
      obtain ⟨b, base, sz0, arr0, E0, hB⟩ := hh.blk id blk0 hb
      rw [hι id hid, hB.ι] at hz
      obtain rfl := Option.some.inj hz
      exact heap_lt hB.heap
    by_cases hin : i = n <;> by_cases hjn : j = n
    · omega
    · subst hin
      rw [Heap.upd_ne _ _ hjn] at hj
      rw [hιn] at hx
      obtain rfl := Option.some.inj hx
      have := lt j bj y hj hjn hy
      have hxy' : c.w.heap.size = y.1 := hxy
      omega
    · subst hjn
      rw [Heap.upd_ne _ _ hin] at hi
      rw [hιn] at hy
      obtain rfl := Option.some.inj hy
      have := lt i bi x hi hin hx
      have hxy' : x.1 = c.w.heap.size := hxy
      omega
    · rw [Heap.upd_ne _ _ hin] at hi
      rw [Heap.upd_ne _ _ hjn] at hj
      rw [hι _ hin] at hx
      rw [hι _ hjn] at hy
      exact hh.inj i j bi bj x y hi hj hx hy hxy
  · have := hh.fzlt b hb
    show b < w'.heap.size
    rw [hw, Array.size_push]; omega

theorem alloc_fresh (hf : ∀ id, n ≤ id → c.ι id = none) {w' : World} {sz : Nat} : ∀ id, n + 1 ≤ id → (c.new n sz w').ι id = none := fun id hid => by
  show (if id = n then _ else _) = _
  rw [if_neg (by omega)]; exact hf id (by omega)

/-- The block of an id is written: the same id, or a new one in its place. -/
def Cfg.wr (c : Cfg) (n : Nat) (x : Nat × Nat × Nat) (w' : World) : Cfg := ⟨fun y => if y = n then some x else c.ι y, c.Fz, w'⟩

theorem write_ok (hh : HR c h) {id : Nat} {b : List AV} (hb : h id = some b) {bb base sz : Nat} {arr arr' : Array Value} {E : TypeId} (hB : BlkR c id b bb base sz arr E) {w' : World}
    (hw : w'.heap = c.w.heap.setIfInBounds bb (.cells arr' E (0, 0))) (h1 : w'.os = c.w.os) (h2 : w'.tape = c.w.tape) (h3 : w'.output = c.w.output) (hs : arr'.size = arr.size)
    (b' : List AV) (hsz : ∀ (i : Nat) (e : AV), b'[i]? = some e → e.cells.length = sz)
    (hone : ∀ (i : Nat) (e : AV) (j : Nat) (u : AV), b'[i]? = some e → e.cells[j]? = some u → u.one = true)
    (hc : ∀ (i : Nat) (e : AV) (j : Nat) (u : AV), b'[i]? = some e → e.cells[j]? = some u → ∃ v, arr'[base + i * sz + j]? = some v ∧ VR c u v) :
    Ext c h (fun _ => False) ⟨c.ι, c.Fz, w'⟩ (h.upd id b') ∧ HR ⟨c.ι, c.Fz, w'⟩ (h.upd id b') := by
  have hbl := heap_lt hB.heap
  have hat : w'.heap[bb]? = some (.cells arr' E (0, 0)) := by rw [hw]; simp [hbl]
  have hne : ∀ k, k ≠ bb → w'.heap[k]? = c.w.heap[k]? := fun k hk => by rw [hw, Array.getElem?_setIfInBounds_ne (Ne.symm hk)]
  have hsize : w'.heap.size = c.w.heap.size := by rw [hw]; simp
  have hext : Ext c h (fun _ => False) ⟨c.ι, c.Fz, w'⟩ (h.upd id b') := by
    refine ⟨h1, h2, h3, by show _ ≤ w'.heap.size; omega, fun _ _ h => h, fun _ _ h => .inl h, fun _ h => h, ?_, ?_, ?_, fun _ h => .inl h⟩
    · intro k a0 E0 f hk
      by_cases hkb : k = bb
      · subst hkb
        rw [hB.heap] at hk
        obtain ⟨rfl, rfl, rfl⟩ := Obj.cells.inj (Option.some.inj hk)
        exact ⟨arr', hat, hs⟩
      · exact ⟨a0, (hne k hkb).trans hk, rfl⟩
    · intro k hk hno
      exact hne k (fun hkb => hno id b _ hb hB.ι (hkb ▸ rfl))
    · intro i bi x hi hx
      by_cases hid : i = id
      · subst hid; exact .inr ⟨i, b, x, hb, hx, rfl⟩
      · rw [Heap.upd_ne _ _ hid] at hi; exact .inr ⟨i, bi, x, hi, hx, rfl⟩
  refine ⟨hext, fun i bi hi => ?_, fun i j bi bj x y hi hj hx hy hxy => ?_, fun k hk => by show k < w'.heap.size; rw [hsize]; exact hh.fzlt k hk⟩
  · by_cases hid : i = id
    · subst hid
      rw [Heap.upd_same] at hi
      obtain rfl := Option.some.inj hi
      refine ⟨bb, base, sz, arr', E, hB.ι, hat, hB.nfz, hsz, hone, fun k e j u a1 a2 => ?_⟩
      obtain ⟨v, q1, q2⟩ := hc k e j u a1 a2
      exact ⟨v, q1, q2.mono hext hh⟩
    · rw [Heap.upd_ne _ _ hid] at hi
      obtain ⟨k, base0, sz0, arr0, E0, hB0⟩ := hh.blk i bi hi
      refine ⟨k, base0, sz0, arr0, E0, hB0.ι, ?_, hB0.nfz, hB0.size, hB0.one, fun k e j u a1 a2 => ?_⟩
      · show w'.heap[k]? = _
        rw [hne k (fun hk => hid (hh.inj i id bi b _ _ hi hb hB0.ι hB.ι hk))]; exact hB0.heap
      · obtain ⟨v, q1, q2⟩ := hB0.cell k e j u a1 a2
        exact ⟨v, q1, q2.mono hext hh⟩
  · have up : ∀ k bk, (h.upd id b') k = some bk → ∃ b0, h k = some b0 := fun k bk hk => by
      by_cases hid : k = id
      · subst hid; exact ⟨b, hb⟩
      · rw [Heap.upd_ne _ _ hid] at hk; exact ⟨bk, hk⟩
    obtain ⟨b1, q1⟩ := up i bi hi
    obtain ⟨b2, q2⟩ := up j bj hj
    exact hh.inj i j b1 b2 x y q1 q2 hx hy hxy

/-- The row of an id, written or not, goes on under a new id; the old one is gone. -/
theorem turn_ok (hh : HR c h) (hf : ∀ id, n ≤ id → c.ι id = none) {id : Nat} {b : List AV} (hb : h id = some b) {bb base sz : Nat} {arr arr' : Array Value} {E : TypeId} (hB : BlkR c id b bb base sz arr E) {w' : World}
    (hw : w'.heap = c.w.heap.setIfInBounds bb (.cells arr' E (0, 0))) (h1 : w'.os = c.w.os) (h2 : w'.tape = c.w.tape) (h3 : w'.output = c.w.output) (hs : arr'.size = arr.size)
    (base' : Nat) (b' : List AV) (hsz : ∀ (i : Nat) (e : AV), b'[i]? = some e → e.cells.length = sz)
    (hone : ∀ (i : Nat) (e : AV) (j : Nat) (u : AV), b'[i]? = some e → e.cells[j]? = some u → u.one = true)
    (hc : ∀ (i : Nat) (e : AV) (j : Nat) (u : AV), b'[i]? = some e → e.cells[j]? = some u → ∃ v, arr'[base' + i * sz + j]? = some v ∧ VR c u v) :
    Ext c h (fun x => n ≤ x ∧ x < n + 1) (c.wr n (bb, base', sz) w') ((h.del id).upd n b') ∧ HR (c.wr n (bb, base', sz) w') ((h.del id).upd n b') := by
  have hbl := heap_lt hB.heap
  have hat : w'.heap[bb]? = some (.cells arr' E (0, 0)) := by rw [hw]; simp [hbl]
  have hne : ∀ k, k ≠ bb → w'.heap[k]? = c.w.heap[k]? := fun k hk => by rw [hw, Array.getElem?_setIfInBounds_ne (Ne.symm hk)]
  have hsize : w'.heap.size = c.w.heap.size := by rw [hw]; simp
  have hι : ∀ k, k ≠ n → (c.wr n (bb, base', sz) w').ι k = c.ι k := fun k hk => if_neg hk
  have hιn : (c.wr n (bb, base', sz) w').ι n = some (bb, base', sz) := if_pos rfl
  have hidn : id ≠ n := fun e => by have := hB.ι; rw [hf id (by omega)] at this; cases this
  have get : ∀ k bk, ((h.del id).upd n b') k = some bk → k ≠ n → k ≠ id ∧ h k = some bk := fun k bk hk hkn => by
    rw [Heap.upd_ne _ _ hkn] at hk
    unfold Heap.del at hk
    split at hk
    · cases hk
    · exact ⟨by assumption, hk⟩
  have hext : Ext c h (fun x => n ≤ x ∧ x < n + 1) (c.wr n (bb, base', sz) w') ((h.del id).upd n b') := by
    refine ⟨h1, h2, h3, by show _ ≤ w'.heap.size; omega, ?_, ?_, fun _ h => h, ?_, ?_, ?_, fun _ h => .inl h⟩
    · intro k x hx
      rw [hι k (fun e => by rw [e, hf n (Nat.le_refl _)] at hx; cases hx)]; exact hx
    · intro k x hx
      by_cases hk : k = n
      · exact .inr ⟨by omega, by omega⟩
      · rw [hι k hk] at hx; exact .inl hx
    · intro k a0 E0 f hk
      by_cases hkb : k = bb
      · subst hkb
        rw [hB.heap] at hk
        obtain ⟨rfl, rfl, rfl⟩ := Obj.cells.inj (Option.some.inj hk)
        exact ⟨arr', hat, hs⟩
      · exact ⟨a0, (hne k hkb).trans hk, rfl⟩
    · intro k hk hno
      exact hne k (fun hkb => hno id b _ hb hB.ι (hkb ▸ rfl))
    · intro k bk x hk hx
      by_cases hkn : k = n
      · subst hkn
        rw [hιn] at hx
        obtain rfl := Option.some.inj hx
        exact .inr ⟨id, b, _, hb, hB.ι, rfl⟩
      · rw [hι k hkn] at hx
        exact .inr ⟨k, bk, x, (get k bk hk hkn).2, hx, rfl⟩
  refine ⟨hext, fun i bi hi => ?_, fun i j bi bj x y hi hj hx hy hxy => ?_, fun k hk => by show k < w'.heap.size; rw [hsize]; exact hh.fzlt k hk⟩
  · by_cases hin : i = n
    · subst hin
      rw [Heap.upd_same] at hi
      obtain rfl := Option.some.inj hi
      refine ⟨bb, base', sz, arr', E, hιn, hat, hB.nfz, hsz, hone, fun k e j u a1 a2 => ?_⟩
      obtain ⟨v, q1, q2⟩ := hc k e j u a1 a2
      exact ⟨v, q1, q2.mono hext hh⟩
    · obtain ⟨hid, hi'⟩ := get i bi hi hin
      obtain ⟨k, base0, sz0, arr0, E0, hB0⟩ := hh.blk i bi hi'
      refine ⟨k, base0, sz0, arr0, E0, (hι i hin).trans hB0.ι, ?_, hB0.nfz, hB0.size, hB0.one, fun k e j u a1 a2 => ?_⟩
      · show w'.heap[k]? = _
        rw [hne k (fun hk => hid (hh.inj i id bi b _ _ hi' hb hB0.ι hB.ι hk))]; exact hB0.heap
      · obtain ⟨v, q1, q2⟩ := hB0.cell k e j u a1 a2
        exact ⟨v, q1, q2.mono hext hh⟩
  · have nb : ∀ k bk z, ((h.del id).upd n b') k = some bk → k ≠ n → (c.wr n (bb, base', sz) w').ι k = some z → z.1 ≠ bb := fun k bk z hk hkn hz he => by
      obtain ⟨hid, hk'⟩ := get k bk hk hkn
      rw [hι k hkn] at hz
      exact hid (hh.inj k id bk b z _ hk' hb hz hB.ι he)
    by_cases hin : i = n <;> by_cases hjn : j = n
    · omega
    · subst hin
      rw [hιn] at hx
      obtain rfl := Option.some.inj hx
      exact absurd hxy.symm (nb j bj y hj hjn hy)
    · subst hjn
      rw [hιn] at hy
      obtain rfl := Option.some.inj hy
      exact absurd hxy (nb i bi x hi hin hx)
    · obtain ⟨_, hi'⟩ := get i bi hi hin
      obtain ⟨_, hj'⟩ := get j bj hj hjn
      rw [hι _ hin] at hx
      rw [hι _ hjn] at hy
      exact hh.inj i j bi bj x y hi' hj' hx hy hxy

theorem turn_fresh (hf : ∀ id, n ≤ id → c.ι id = none) {w' : World} {x : Nat × Nat × Nat} : ∀ id, n + 1 ≤ id → (c.wr n x w').ι id = none := fun id hid => by
  show (if id = n then _ else _) = _
  rw [if_neg (by omega)]; exact hf id (by omega)

end
end Go.Proofs.Ytplkjfnjdekgpaa
