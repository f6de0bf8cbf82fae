/- The plain operations are sound: boxes, stores, literals. Own work. -/
import Derived.Test.YtplkjfnjdekgpaaLtOpsC
import Derived.Great.FillDense
import Derived.Great.BuildSlice
import Derived.Laws.CopyRow
namespace Go.Proofs.Ytplkjfnjdekgpaa
open Go

section
variable {P : Program} {T : TE} {c : Cfg} {h : Heap} {n : Nat} {K : AV → Heap → Nat → Prop}

theorem setRow_heap_eq {w : World} {g : Nat} {cur cs : Array Value} {E : TypeId} (hg : w.heap[g]? = some (.cells cur E (0, 0))) :
    (w.setRow g cs).heap = w.heap.setIfInBounds g (.cells cs E (0, 0)) := by
  have hlt := heap_lt hg
  have hv : w.heap[g] = .cells cur E (0, 0) := (Array.getElem?_eq_some_iff.1 hg).2
  unfold World.setRow
  apply Array.ext
  · simp
  · intro k h1 h2
    dsimp only at h1 ⊢
    rw [Array.getElem_modify, Array.getElem_setIfInBounds]
    split
    · rename_i hk; subst hk; simp [hv]
    · rfl

theorem good_one {u : AV} {v : Value} (hv : VR c u v) (hg : u.good = true) : ∀ x, x ∈ u.cells → x.one = true := by
  cases hv with
  | agg _ _ hs hone hcv => exact hone
  | tup => simp [AV.good, AV.one] at hg
  | undef => simp [AV.good, AV.one] at hg
  | _ => intro x hx; simp [AV.cells] at hx; subst hx; rfl

/-- A new block of one element. -/
theorem new_ok (hh : HR c h) (hf : ∀ id, n ≤ id → c.ι id = none) {u : AV} {v : Value} (hv : VR c u v) (hg : u.good = true) {sz : Nat} (hs : u.cells.length = sz) (E : TypeId) :
    let w' := c.w.alloc (.cells v.cells E)
    Ext c h (fun id => n ≤ id ∧ id < n + 1) (c.new n sz w') (h.upd n [u]) ∧ HR (c.new n sz w') (h.upd n [u]) ∧
      VR (c.new n sz w') (.ep sz (.sl sz n 0 1 1 true) 0 0) (.pointer (some ⟨c.w.heap.size, 0, none⟩)) := by
  have hone := good_one hv hg
  obtain ⟨h1, h2⟩ := VR.cells hv hone
  refine ⟨alloc_ext hh hf _ rfl rfl rfl rfl, alloc_hr hh hf (arr := v.cells) (E := E) rfl rfl rfl rfl ?_ ?_ ?_, ?_⟩
  · intro i e hi
    cases i with
    | zero => simp at hi; subst hi; exact hs
    | succ i => simp at hi
  · intro i e j x hi hj
    cases i with
    | zero => simp at hi; subst hi; exact hone x (List.mem_of_getElem? hj)
    | succ i => simp at hi
  · intro i e j x hi hj
    cases i with
    | zero =>
      simp at hi; subst hi
      have hlt : j < u.cells.length := (List.getElem?_eq_some_iff.1 hj).1
      have hx : v.cells[j]? = some (v.cells[j]'(by omega)) := Array.getElem?_eq_getElem (by omega)
      exact ⟨_, by simp, h2 j x _ hj hx⟩
    | succ i => simp at hi
  · have := VR.ep_sl (c := c.new n sz (c.w.alloc (.cells v.cells E))) sz n 0 1 1 true 0 0 c.w.heap.size 0 (if_pos rfl)
    simp at this
    exact this

theorem box_ok (hh : HR c h) (hf : ∀ id, n ≤ id → c.ι id = none) {u : AV} {v : Value} (hv : VR c u v) (hg : u.good = true) {sz : Nat} (hs : u.cells.length = sz) (E : TypeId) {s : Sem Next}
    (hrun : s.run P c.w = .ok (.value (.pointer (some ⟨c.w.heap.size, 0, none⟩))) (c.w.alloc (.cells v.cells E)))
    (hK : K (.ep sz (.sl sz n 0 1 1 true) 0 0) (h.upd n [u]) (n + 1)) : OpOk P c h n s K := by
  obtain ⟨q1, q2, q3⟩ := new_ok hh hf hv hg hs E
  exact ⟨_, c.new n sz _, _, _, n + 1, _, hrun, .inl rfl, q1, q2, alloc_fresh hf, q3, by omega, hK⟩

theorem setPart_cells {e u : AV} {off : Nat} (hle : off + u.cells.length ≤ e.cells.length) (he : ∀ x, x ∈ e.cells → x.one = true) (hpos : 0 < u.cells.length) :
    (setPart e off u).cells = e.cells.take off ++ u.cells ++ e.cells.drop (off + u.cells.length) := by
  cases e with
  | agg cs => rfl
  | tup => simp [AV.cells, AV.one] at he
  | undef => simp [AV.cells, AV.one] at he
  | _ =>
    simp only [setPart, AV.cells_bool, AV.cells_int, AV.cells_str, AV.cells_nils, AV.cells_ro, AV.cells_sl, AV.cells_ep, AV.cells_nilp, AV.cells_nilf, AV.cells_fn, List.length_cons, List.length_nil] at hle ⊢
    have h1 : off = 0 := by omega
    have h2 : u.cells.length = 1 := by omega
    subst h1
    simp [h2]

theorem getElem?_splice {α : Type} (l m : List α) (off k : Nat) (hle : off + m.length ≤ l.length) :
    (l.take off ++ m ++ l.drop (off + m.length))[k]? = if off ≤ k ∧ k < off + m.length then m[k - off]? else l[k]? := by
  simp only [List.getElem?_append, List.length_append, List.length_take, List.getElem?_take, List.getElem?_drop]
  have h1 : min off l.length = off := by omega
  rw [h1]
  by_cases hk : k < off
  · rw [if_pos (by omega), if_pos hk, if_pos hk, if_neg (by omega)]
  · by_cases hk2 : k < off + m.length
    · rw [if_pos hk2, if_neg hk, if_pos (by omega)]
    · rw [if_neg hk2, if_neg (by omega)]
      congr 1
      omega

theorem store_ok (hT : TEOk P T) (hh : HR c h) (hf : ∀ id, n ≤ id → c.ι id = none) {t : TypeId} {sz id o len lo i off : Nat} {ex : Bool} {b : List AV} {e u : AV} {p v : Value}
    (hp : VR c (.ep sz (.sl sz id o len lo ex) i off) p) (hv : VR c u v) (hb : h id = some b) (he : b[o + i]? = some e) (hg : u.good = true) (hl : u.cells.length = (T t).sz) (hpos : 0 < (T t).sz)
    (hle : off + (T t).sz ≤ e.cells.length) (hK : K .undef (h.upd id (b.set (o + i) (setPart e off u))) n) {s : Sem Next}
    (hs : ∀ w' : World, (Instr.storeAt t p v).run P c.w = .ok () w' → s.run P c.w = .ok .skip w') : OpOk P c h n s K := by
  obtain ⟨bb, base, sz', arr, E, hB⟩ := hh.blk id b hb
  cases hp with
  | ep_sl _ _ _ _ _ _ _ _ bb' base' hι =>
    have hi := hB.ι
    rw [hι] at hi
    obtain ⟨rfl, rfl, rfl⟩ : bb' = bb ∧ base' = base ∧ sz = sz' := by simpa using hi
    have hone := good_one hv hg
    obtain ⟨c1, c2⟩ := VR.cells hv hone
    have hesz := hB.size _ _ he
    have heone : ∀ x, x ∈ e.cells → x.one = true := fun x hx => by
      obtain ⟨j, hj, rfl⟩ := List.mem_iff_getElem.1 hx
      exact hB.one _ _ j _ he (List.getElem?_eq_getElem hj)
    have hlast : base' + (o + i) * sz + sz ≤ arr.size := by
      have hl1 : e.cells[sz - 1]? = some (e.cells[sz - 1]'(by omega)) := List.getElem?_eq_getElem (by omega)
      obtain ⟨x, q1, _⟩ := hB.cell _ _ _ _ he hl1
      have := (Array.getElem?_eq_some_iff.1 q1).1
      omega
    have hvl : v.cells.toList.length = (T t).sz := by rw [Array.length_toList, c1, hl]
    have hv1 : ∀ x ∈ v.cells.toList, x.oneCell' = true := fun x hx => by
      obtain ⟨j, hj, rfl⟩ := List.mem_iff_getElem.1 hx
      have hj' : j < u.cells.length := by simp at hj; omega
      have a1 : u.cells[j]? = some (u.cells[j]'hj') := List.getElem?_eq_getElem hj'
      have a2 : v.cells[j]? = some (v.cells.toList[j]'hj) := by simp at hj ⊢
      exact VR.one (c2 j _ _ a1 a2) (hone _ (List.getElem_mem hj'))
    have hrun := run_storeCells_at P bb' (base' + (o + i) * sz + off) E v.cells.toList 0 arr c.w hB.heap (by rw [hvl]; omega) hv1
    rw [Nat.add_zero, hvl] at hrun
    obtain ⟨arr', harr⟩ : ∃ arr', arr' = (arr.toList.take (base' + (o + i) * sz + off) ++ v.cells.toList ++ arr.toList.drop (base' + (o + i) * sz + off + (T t).sz)).toArray := ⟨_, rfl⟩
    rw [← harr] at hrun
    obtain ⟨it, zt, i1, i2, i3, _⟩ := hT.info t hpos
    have hst : (Instr.storeAt t (.pointer (some ⟨bb', base' + (o + i) * sz + off, none⟩)) v).run P c.w = .ok () (c.w.setRow bb' arr') := by
      have hne : ¬ (v.cells.size ≠ (T t).sz) := by omega
      simp only [Instr.storeAt, Instr.sureAddr, storeVar, Sem.run_bind, Sem.run_pure, Result.andThen_ok, sizeOf_run hT hpos, Sem.run_ite, if_neg hne, hrun]
    have hset : (c.w.setRow bb' arr').heap = _ := setRow_heap_eq hB.heap
    have hspl : ∀ k, arr'[k]? =
        if base' + (o + i) * sz + off ≤ k ∧ k < base' + (o + i) * sz + off + (T t).sz then v.cells[k - (base' + (o + i) * sz + off)]? else arr[k]? := fun k => by
      have := getElem?_splice arr.toList v.cells.toList (base' + (o + i) * sz + off) k (by rw [hvl, Array.length_toList]; omega)
      rw [hvl] at this
      rw [harr, List.getElem?_toArray, this]
      simp
    have hcells := setPart_cells (e := e) (u := u) (off := off) (by omega) heone (by omega)
    have hoi : o + i < b.length := (List.getElem?_eq_some_iff.1 he).1
    obtain ⟨q1, q2⟩ := write_ok hh hb hB (w' := c.w.setRow bb' arr') (arr' := arr')
      hset rfl rfl rfl (by rw [harr]; simp [c1, hl]; omega) (b.set (o + i) (setPart e off u))
      (fun k x hk => by
        rw [List.getElem?_set] at hk
        split at hk
        · simp [] at hk; subst hk; rw [hcells]; simp; omega
        · exact hB.size _ _ hk)
      (fun k x j y hk hj => by
        rw [List.getElem?_set] at hk
        split at hk
        · simp [] at hk; subst hk; rw [hcells, getElem?_splice _ _ _ _ (by omega)] at hj
          split at hj
          · exact hone _ (List.mem_of_getElem? hj)
          · exact heone _ (List.mem_of_getElem? hj)
        · exact hB.one _ _ _ _ hk hj)
      (fun k x j y hk hj => by
        rw [hspl]
        rw [List.getElem?_set] at hk
        split at hk
        · rename_i hko
          subst hko
          simp [] at hk; subst hk; rw [hcells, getElem?_splice _ _ _ _ (by omega)] at hj
          split at hj
          · rename_i hin
            rw [if_pos (by omega)]
            have hlt : j - off < u.cells.length := (List.getElem?_eq_some_iff.1 hj).1
            have hx : v.cells[j - off]? = some (v.cells[j - off]'(by omega)) := Array.getElem?_eq_getElem (by omega)
            refine ⟨_, ?_, c2 _ _ _ hj hx⟩
            rw [← hx]; congr 1; omega
          · rename_i hout
            rw [if_neg (by omega)]
            exact hB.cell _ _ _ _ he hj
        · rename_i hko
          have hjl : j < sz := by
            have := (List.getElem?_eq_some_iff.1 hj).1
            have := hB.size _ _ hk
            omega
          rw [if_neg (by
            rintro ⟨g1, g2⟩
            rcases Nat.lt_or_gt_of_ne hko with hlt | hgt
            · have : (o + i + 1) * sz ≤ k * sz := Nat.mul_le_mul_right _ hlt
              rw [Nat.add_mul (o + i) 1 sz] at this
              omega
            · have : (k + 1) * sz ≤ (o + i) * sz := Nat.mul_le_mul_right _ hgt
              rw [Nat.add_mul k 1 sz] at this
              omega)]
          exact hB.cell _ _ _ _ hk hj)
    refine ⟨_, ⟨c.ι, c.Fz, _⟩, .undef, _, n, Go.undef, hs _ hst, .inr ⟨rfl, rfl⟩, ?_, q2, hf, .undef _, Nat.le_refl _, hK⟩
    exact ⟨q1.os, q1.tape, q1.output, q1.size, q1.ι, fun id x hx => .inl hx, q1.fz, q1.shape, q1.frame, q1.own, q1.fzb⟩

end
end Go.Proofs.Ytplkjfnjdekgpaa
