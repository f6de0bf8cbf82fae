/- The plain operations are sound: literals, slices, append, make. Own work. -/
import Derived.Test.YtplkjfnjdekgpaaLtOpsD
namespace Go.Proofs.Ytplkjfnjdekgpaa
open Go

section
variable {P : Program} {T : TE} {c : Cfg} {h : Heap} {n : Nat} {K : AV → Heap → Nat → Prop}

/-- A new row whose elements stand for a list. -/
theorem row_ok (hh : HR c h) (hf : ∀ id, n ≤ id → c.ι id = none) {w' : World} {arr : Array Value} {E : TypeId} {sz : Nat} {blk : List AV} (hw : w'.heap = c.w.heap.push (.cells arr E))
    (h1 : w'.os = c.w.os) (h2 : w'.tape = c.w.tape) (h3 : w'.output = c.w.output)
    (hsz : ∀ (i : Nat) (e : AV), blk[i]? = some e → e.cells.length = sz)
    (hone : ∀ (i : Nat) (e : AV) (j : Nat) (u : AV), blk[i]? = some e → e.cells[j]? = some u → u.one = true)
    (hc : ∀ (i : Nat) (e : AV) (j : Nat) (u : AV), blk[i]? = some e → e.cells[j]? = some u → ∃ v, arr[i * sz + j]? = some v ∧ VR c u v)
    {len lo cap : Nat} {ex : Bool} (hl : len ≤ lo) (hlo : lo ≤ cap) (hex : ex = true → cap = lo) (hmax : cap ≤ maxLen) (hroom : cap * sz ≤ arr.size) {s : Sem Next}
    (hrun : s.run P c.w = .ok (.value (.slice (some ⟨c.w.heap.size, 0, none⟩) len cap)) w')
    (hK : K (.sl sz n 0 len lo ex) (h.upd n blk) (n + 1)) : OpOk P c h n s K := by
  have q1 : Ext c h (fun id => n ≤ id ∧ id < n + 1) (c.new n sz w') (h.upd n blk) := alloc_ext hh hf blk hw h1 h2 h3
  have q2 := alloc_hr hh hf hw h1 h2 h3 hsz hone hc
  have q3 := VR.sl (c := c.new n sz w') sz n 0 len lo ex c.w.heap.size 0 cap (if_pos rfl) hl hlo hex hmax ⟨arr, E, (0, 0), by show w'.heap[c.w.heap.size]? = _; rw [hw]; simp, by simpa using hroom⟩ ⟨c.w.heap.size, 0, none⟩ (fun _ => by simp)
  exact ⟨_, c.new n sz w', _, _, n + 1, _, hrun, .inl rfl, q1, q2, alloc_fresh hf, q3, by omega, hK⟩

/-- The cells of elements, side by side. -/
theorem flat_at {sz : Nat} (vs : List Value) (hs : ∀ v ∈ vs, v.cells.size = sz) (i j : Nat) (v : Value) (hi : vs[i]? = some v) (hj : j < sz) :
    (vs.flatMap fun v => v.cells.toList)[i * sz + j]? = v.cells[j]? := by
  induction vs generalizing i with
  | nil => simp at hi
  | cons x xs ih =>
    have hx : x.cells.toList.length = sz := by rw [Array.length_toList]; exact hs x (by simp)
    rw [List.flatMap_cons]
    cases i with
    | zero =>
      simp at hi; subst hi
      rw [List.getElem?_append_left (by omega)]
      simp
    | succ i =>
      rw [List.getElem?_append_right (by rw [hx, Nat.add_mul]; omega), hx]
      have : (i + 1) * sz + j - sz = i * sz + j := by rw [Nat.add_mul]; omega
      rw [this]
      exact ih (fun v hv => hs v (List.mem_cons_of_mem _ hv)) i (by simpa using hi)

theorem flat_length {sz : Nat} (vs : List Value) (hs : ∀ v ∈ vs, v.cells.size = sz) : (vs.flatMap fun v => v.cells.toList).length = vs.length * sz := by
  induction vs with
  | nil => simp
  | cons x xs ih =>
    rw [List.flatMap_cons, List.length_append, ih (fun v hv => hs v (List.mem_cons_of_mem _ hv)), Array.length_toList, hs x (by simp), List.length_cons, Nat.add_mul]
    omega

/-- What a row of such cells gives for elements that stand for them. -/
theorem flat_rel {us : List AV} {vs : List Value} {sz : Nat} (hl : vs.length = us.length) (hr : ∀ (i : Nat) (u : AV) (v : Value), us[i]? = some u → vs[i]? = some v → VR c u v)
    (hs : ∀ (i : Nat) (e : AV), us[i]? = some e → e.cells.length = sz) (ho : ∀ (i : Nat) (e : AV) (j : Nat) (u : AV), us[i]? = some e → e.cells[j]? = some u → u.one = true) :
    (∀ v ∈ vs, v.cells.size = sz) ∧ ∀ (i : Nat) (e : AV) (j : Nat) (u : AV), us[i]? = some e → e.cells[j]? = some u → ∃ v, (vs.flatMap fun v => v.cells.toList)[i * sz + j]? = some v ∧ VR c u v := by
  have hcs : ∀ (i : Nat) (u : AV) (v : Value), us[i]? = some u → vs[i]? = some v → v.cells.size = sz ∧ ∀ (j : Nat) (x : AV) (y : Value), u.cells[j]? = some x → v.cells[j]? = some y → VR c x y := fun i u v hu hv => by
    obtain ⟨q1, q2⟩ := VR.cells (hr i u v hu hv) (fun x hx => by
      obtain ⟨j, hj, rfl⟩ := List.mem_iff_getElem.1 hx
      exact ho i u j _ hu (List.getElem?_eq_getElem hj))
    exact ⟨q1.trans (hs i u hu), q2⟩
  have hall : ∀ v ∈ vs, v.cells.size = sz := fun v hv => by
    obtain ⟨i, hi, rfl⟩ := List.mem_iff_getElem.1 hv
    exact (hcs i _ _ (List.getElem?_eq_getElem (by omega : i < us.length)) (List.getElem?_eq_getElem hi)).1
  refine ⟨hall, fun i e j u hi hj => ?_⟩
  have hil : i < us.length := (List.getElem?_eq_some_iff.1 hi).1
  have hvi : vs[i]? = some (vs[i]'(by omega)) := List.getElem?_eq_getElem (by omega)
  obtain ⟨q1, q2⟩ := hcs i e _ hi hvi
  have hjl : j < sz := by have := (List.getElem?_eq_some_iff.1 hj).1; have := hs i e hi; omega
  have hx : (vs[i]'(by omega)).cells[j]? = some ((vs[i]'(by omega)).cells[j]'(by omega)) := Array.getElem?_eq_getElem (by omega)
  exact ⟨_, (flat_at vs hall i j _ hvi hjl).trans hx, q2 j u _ hj hx⟩

theorem zero_cells_rel {z : AV} {v : Value} (hv : VR c z v) (ho : ∀ u, u ∈ z.cells → u.one = true) {sz m : Nat} (hs : z.cells.length = sz) (_ : 0 < sz) :
    (∀ (i : Nat) (e : AV), (List.replicate m z)[i]? = some e → e.cells.length = sz) ∧
    (∀ (i : Nat) (e : AV) (j : Nat) (u : AV), (List.replicate m z)[i]? = some e → e.cells[j]? = some u → u.one = true) ∧
    (∀ (i : Nat) (e : AV) (j : Nat) (u : AV), (List.replicate m z)[i]? = some e → e.cells[j]? = some u → ∃ x, (madeCells v.cells (m * sz))[i * sz + j]? = some x ∧ VR c u x) := by
  obtain ⟨q1, q2⟩ := VR.cells hv ho
  have key : ∀ (i : Nat) (e : AV), (List.replicate m z)[i]? = some e → e = z ∧ i < m := fun i e hi => by
    rw [List.getElem?_replicate] at hi
    split at hi
    · exact ⟨(Option.some.inj hi).symm, by assumption⟩
    · cases hi
  refine ⟨fun i e hi => (key i e hi).1 ▸ hs, fun i e j u hi hj => ho u ((key i e hi).1 ▸ List.mem_of_getElem? hj), fun i e j u hi hj => ?_⟩
  obtain ⟨rfl, hlt⟩ := key i e hi
  have hjl : j < sz := by have := (List.getElem?_eq_some_iff.1 hj).1; omega
  have hx : v.cells[j]? = some (v.cells[j]'(by omega)) := Array.getElem?_eq_getElem (by omega)
  refine ⟨_, ?_, q2 j u _ hj hx⟩
  have hlt2 : i * sz + j < m * sz := by
    have : (i + 1) * sz ≤ m * sz := Nat.mul_le_mul_right _ hlt
    rw [Nat.add_mul] at this; omega
  have hmod : (i * sz + j) % sz = j := by rw [Nat.mul_comm, Nat.mul_add_mod, Nat.mod_eq_of_lt hjl]
  have hsv : v.cells.size = sz := by omega
  have hjv : j < v.cells.size := by omega
  simp [madeCells, hsv, hmod, hlt2, hjl]

theorem makeSlice_ok (hT : TEOk P T) (hh : HR c h) (hf : ∀ id, n ≤ id → c.ι id = none) {t e : TypeId} {k1 k2 : IntKind} {a b : Int} (ht : (T t).ty = .slice e) (hpos : 0 < (T e).sz) (ha : 0 ≤ a) (hab : a ≤ b)
    (hby : ((T e).bytes : Int) * b ≤ 140737488355328) (hb : b ≤ 140737488355328) (hK : K (.sl (T e).sz n 0 a.toNat b.toNat true) (h.upd n (List.replicate b.toNat (T e).zero)) (n + 1)) {s : Sem Next}
    (hs : ∀ v w', (Instr.makeSlice t (.int k1 a) (.int k2 b)).run P c.w = .ok v w' → s.run P c.w = .ok (.value v) w') : OpOk P c h n s K := by
  obtain ⟨i, z, hi, i1, i2, i3, i4, i5, i6⟩ := hT.info e hpos
  have hr := run_make (P := P) c.w t e i z (hT.tslice t e ht) hi i3 k1 k2 a b ha hab (by rw [i2]; omega) (by omega)
  rw [i1] at hr
  obtain ⟨r1, r2, r3⟩ := zero_cells_rel (m := b.toNat) (i4 c) i6 i5 hpos
  exact row_ok hh hf (w' := c.w.alloc (.cells (madeCells z.cells (b.toNat * (T e).sz)) e)) rfl rfl rfl rfl r1 r2 r3 (len := a.toNat) (lo := b.toNat) (cap := b.toNat) (ex := true) (by omega) (Nat.le_refl _) (fun _ => rfl)
    (by unfold maxLen; omega) (by simp [size_madeCells]) (hs _ _ hr) hK

theorem parts_zip {us : List (Nat × Operand)} {ρ : Operand → Value} : ∀ (s : Nat), us.map (·.1) = List.range' s us.length → us.map (fun p => (p.1, ρ p.2)) = ((us.map fun p => ρ p.2).zipIdx s).map fun x => (x.2, x.1) := by
  induction us with
  | nil => intro s _; rfl
  | cons p us ih =>
    intro s hs
    simp only [List.map_cons, List.length_cons, List.range'_succ, List.cons.injEq] at hs
    simp only [List.map_cons, List.zipIdx_cons, hs.1, List.cons.injEq, true_and]
    exact ih (s + 1) hs.2

theorem buildSlice_ok (hT : TEOk P T) (hh : HR c h) (hf : ∀ id, n ≤ id → c.ι id = none) {t e : TypeId} {len : Nat} {parts : Array (Nat × Operand)} {ev : Operand → AV} {ρ : Operand → Value} (hρ : ∀ x, VR c (ev x) (ρ x))
    (ht : (T t).ty = .slice e) (hpos : 0 < (T e).sz) (hlen : len * (T e).sz ≤ 16777216) (hp : parts.toList.map (·.1) = List.range len)
    (hg : ∀ p, p ∈ parts.toList → (ev p.2).cells.length = (T e).sz ∧ (ev p.2).good = true) (hK : K (.sl (T e).sz n 0 len len true) (h.upd n (parts.toList.map fun p => ev p.2)) (n + 1)) {s : Sem Next}
    (hs : ∀ v w', (Instr.buildSlice t len (parts.map fun p => (p.1, ρ p.2))).run P c.w = .ok v w' → s.run P c.w = .ok (.value v) w') : OpOk P c h n s K := by
  obtain ⟨i, z, hi, i1, i2, i3, i4, i5, i6⟩ := hT.info e hpos
  have hpl : parts.toList.length = len := by have := congrArg List.length hp; simpa using this
  have hzs : z.cells.size = (T e).sz := by rw [(VR.cells (i4 c) i6).1, i5]
  have h1 : ∀ (i : Nat) (x : AV), (parts.toList.map fun p => ev p.2)[i]? = some x → x.cells.length = (T e).sz := fun i x hx => by
    obtain ⟨p, hp, rfl⟩ := List.mem_map.1 (List.mem_of_getElem? hx)
    exact (hg p hp).1
  have h2 : ∀ (i : Nat) (x : AV) (j : Nat) (u : AV), (parts.toList.map fun p => ev p.2)[i]? = some x → x.cells[j]? = some u → u.one = true := fun i x j u hx hj => by
    obtain ⟨p, hp, rfl⟩ := List.mem_map.1 (List.mem_of_getElem? hx)
    exact good_one (hρ p.2) (hg p hp).2 u (List.mem_of_getElem? hj)
  have h3 : ∀ (i : Nat) (u : AV) (v : Value), (parts.toList.map fun p => ev p.2)[i]? = some u → (parts.toList.map fun p => ρ p.2)[i]? = some v → VR c u v := fun i u v hu hv => by
    simp only [List.getElem?_map, Option.map_eq_some_iff] at hu hv
    obtain ⟨p, q1, rfl⟩ := hu
    obtain ⟨p', q2, rfl⟩ := hv
    rw [q1] at q2
    obtain rfl := Option.some.inj q2
    exact hρ p.2
  obtain ⟨r1, r2⟩ := flat_rel (c := c) (us := parts.toList.map fun p => ev p.2) (vs := parts.toList.map fun p => ρ p.2) (by simp) h3 h1 h2
  have hfl := flat_length _ r1
  have hz := parts_zip (us := parts.toList) (ρ := ρ) 0 (by rw [hp, hpl, List.range_eq_range'])
  have hpm : (parts.map fun p => (p.1, ρ p.2)).toList = ((parts.toList.map fun p => ρ p.2).zipIdx 0).map fun x => (x.2, x.1) := by rw [Array.toList_map, hz]
  have hfill : ∀ cells : Array Value, cells.size = len * (T e).sz → Instr.fill (fun i => some (i * (T e).sz, (T e).sz)) cells (parts.map fun p => (p.1, ρ p.2)).toList = some ((parts.toList.map fun p => ρ p.2).flatMap fun v => v.cells.toList).toArray := fun cells hc => by
    rw [hpm]
    exact Great.fill_whole hpos _ _ r1 (by rw [hc]; simp [hpl])
  have hrun : (Instr.buildSlice t len (parts.map fun p => (p.1, ρ p.2))).run P c.w = .ok (.slice (some ⟨c.w.heap.size, 0, none⟩) len len) (c.w.alloc (.cells ((parts.toList.map fun p => ρ p.2).flatMap fun v => v.cells.toList).toArray e)) := by
    have hsz : (sizeOf e).run P c.w = .ok (T e).sz c.w := sizeOf_run hT hpos _
    have hn : ¬ (16777216 < len * (T e).sz) := by omega
    clear hpm hs
    generalize (parts.map fun p => (p.1, ρ p.2)) = ps at hfill ⊢
    by_cases h0 : len * (T e).sz = 0
    · have := hfill #[] (by simp [h0])
      simp [Instr.buildSlice, run_underlying (hT.tslice t e ht), hsz, h0, this, newRow, Array.range_zero']
    · have := hfill ((Array.range (len * (T e).sz)).map (z.cells[· % z.cells.size]!)) (by simp)
      simp [Instr.buildSlice, run_underlying (hT.tslice t e ht), hsz, hn, h0, zeroValue, typeInfo, hi, i3, this, newRow]
  have hlm : len ≤ 16777216 := by
    have : len * 1 ≤ len * (T e).sz := Nat.mul_le_mul_left _ hpos
    omega
  exact row_ok hh hf (w' := c.w.alloc (.cells _ e)) rfl rfl rfl rfl h1 h2 (by simpa using r2) (Nat.le_refl _) (Nat.le_refl _) (fun _ => rfl) (by unfold maxLen; omega) (by
    rw [List.size_toArray, hfl]; simp [hpl]) (hs _ _ hrun) hK

end
end Go.Proofs.Ytplkjfnjdekgpaa
