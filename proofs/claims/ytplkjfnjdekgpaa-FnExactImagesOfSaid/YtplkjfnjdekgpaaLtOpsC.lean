/- The plain operations are sound: reading, boxes, fields, indexes. Own work. -/
import Derived.Test.YtplkjfnjdekgpaaLtOpsB
namespace Go.Proofs.Ytplkjfnjdekgpaa
open Go

section
variable {P : Program} {T : TE} {c : Cfg} {h : Heap} {n : Nat} {K : AV → Heap → Nat → Prop}

theorem isAgg_struct (hT : TEOk P T) {t : TypeId} {fs : List (Nat × TypeId)} (ht : (T t).ty = .struct fs) (w : World) : (isAgg t).run P w = .ok true w := by
  obtain ⟨F, hu, _⟩ := hT.tstruct t fs ht
  simp [isAgg, run_underlying hu]

theorem isAgg_plain (hT : TEOk P T) {t : TypeId} (h1 : ∀ fs, (T t).ty ≠ .struct fs) (h2 : (T t).ty ≠ .other) (w : World) : (isAgg t).run P w = .ok false w := by
  cases ht : (T t).ty with
  | bool => simp [isAgg, run_underlying (hT.tbool t ht)]
  | int k => simp [isAgg, run_underlying (hT.tint t k ht)]
  | str => simp [isAgg, run_underlying (hT.tstr t ht)]
  | slice e => simp [isAgg, run_underlying (hT.tslice t e ht)]
  | struct fs => exact absurd ht (h1 fs)
  | ptr => obtain ⟨e, he⟩ := hT.tptr t ht; simp [isAgg, run_underlying he]
  | func => obtain ⟨a, b, d, he⟩ := hT.tfunc t ht; simp [isAgg, run_underlying he]
  | other => exact absurd ht h2

theorem sizeOf_run (hT : TEOk P T) {t : TypeId} (ht : 0 < (T t).sz) (w : World) : (sizeOf t).run P w = .ok (T t).sz w := by
  obtain ⟨i, z, hi, hs, _⟩ := hT.info t ht
  simp [sizeOf, typeInfo, hi, hs]

theorem add_off (a : Addr) (n : Nat) (hs : a.spot = none) : a.add n = ⟨a.block, a.off + n, none⟩ := by
  unfold Addr.add; split
  · subst_vars; cases a; simp_all
  · rfl

theorem add_add (a : Addr) (i j : Nat) : (a.add i).add j = a.add (i + j) := by
  unfold Addr.add
  by_cases hi : i = 0 <;> by_cases hj : j = 0 <;> simp [hi, hj, Nat.add_assoc]

theorem cell_spot {w : World} {a : Addr} {v : Value} (h : w.cell? a = some v) : a.spot = none := by
  unfold World.cell? at h
  split at h
  · split at h
    · cases h
    · rename_i hs; simpa using hs
  · cases h

theorem add_spot {w : World} {a : Addr} {n : Nat} {v : Value} (h : w.cell? (a.add n) = some v) : (a.add n) = ⟨a.block, (a.add n).off, none⟩ := by
  have hs := cell_spot h
  have hb := add_block a n
  cases e : a.add n
  rw [e] at hs hb
  simp_all

/-- What a slice value that is read stands for. -/
theorem rd_slice (hh : HR c h) {a : AV} {v : Value} (hv : VR c a v) {sz : Nat} {l : List AV} (hr : rdSl h sz a = some l) :
    (v = .slice none 0 0 ∧ l = []) ∨ ∃ ad cap, v = .slice (some ad) l.length cap ∧ l.length ≤ cap ∧ cap ≤ maxLen ∧
      (∀ (i : Nat) (e : AV), l[i]? = some e → e.cells.length = sz) ∧
      (∀ (i : Nat) (e : AV) (j : Nat) (u : AV), l[i]? = some e → e.cells[j]? = some u → u.one = true) ∧
      (∀ (i : Nat) (e : AV) (j : Nat) (u : AV), l[i]? = some e → e.cells[j]? = some u → ∃ x, c.w.cell? (ad.add (i * sz + j)) = some x ∧ VR c u x) ∧
      (∀ i off, i < l.length → VR c (.ep sz a i off) (.pointer (some (ad.add (i * sz + off))))) ∧ (l ≠ [] → 0 < sz → ad.spot = none) := by
  cases hv <;> simp only [rdSl] at hr
  case nils => exact .inl ⟨rfl, (Option.some.inj hr).symm⟩
  case ro s ex l0 ad cap f hcap hmax hex hfz hsz hone hc hv =>
    split at hr
    · subst_vars
      obtain rfl := Option.some.inj hr
      refine .inr ⟨ad, cap, rfl, hcap, hmax, hsz, hone, fun i e j u h1 h2 => ⟨_, hc i e j u h1 h2, hv i e j u h1 h2⟩, fun i off hi => ?_, fun hne hs => ?_⟩
      · exact .ep_ro s ex l0 i off ad cap (.ro s ex l0 ad cap f hcap hmax hex hfz hsz hone hc hv) hi
      · cases l0 with
        | nil => exact absurd rfl hne
        | cons e l0 =>
          have h1 := hsz 0 e rfl
          have h2 : e.cells[0]? = some (e.cells[0]'(by omega)) := List.getElem?_eq_getElem (by omega)
          have h3 := cell_spot (hc 0 e 0 _ rfl h2)
          simpa [Addr.add] using h3
    · cases hr
  case sl s id off len lo ex bb base cap hι hlen hlo hex hmax hroom ad had =>
    split at hr
    · subst_vars
      split at hr
      · rename_i b hb
        split at hr
        · rename_i hle
          obtain rfl := Option.some.inj hr
          have hll : ((b.drop off).take len).length = len := by simp; omega
          obtain ⟨bb', base', sz', arr, E, hB⟩ := hh.blk id b hb
          have he := hB.ι
          rw [hι] at he
          obtain ⟨rfl, rfl, rfl⟩ : bb = bb' ∧ base = base' ∧ s = sz' := by simpa using he
          have get : ∀ (i : Nat) (e : AV), ((b.drop off).take len)[i]? = some e → b[off + i]? = some e ∧ i < len := fun i e hi => by
            have hlt : i < len := by
              rcases Nat.lt_or_ge i len with h | h
              · exact h
              · rw [List.getElem?_take] at hi; split at hi
                · omega
                · cases hi
            rw [List.getElem?_take, if_pos hlt, List.getElem?_drop] at hi
            exact ⟨hi, hlt⟩
          rw [hll]
          refine .inr ⟨ad, cap, rfl, by omega, hmax, fun i e hi => hB.size _ _ (get i e hi).1, fun i e j u hi hj => hB.one _ _ _ _ (get i e hi).1 hj, fun i e j u hi hj => ?_, fun i o hi => ?_, fun hne _ => ?_⟩
          · obtain ⟨x, q1, q2⟩ := hB.cell _ _ _ _ (get i e hi).1 hj
            have hlt := (get i e hi).2
            refine ⟨x, ?_, q2⟩
            rw [had (by omega), add_off _ _ rfl]
            simp only [World.cell?, hB.heap]
            rw [← q1]
            simp only [Option.isSome_none, Bool.false_eq_true, if_false]
            congr 1
            rw [Nat.add_mul]; omega
          · have hp := VR.ep_sl (c := c) s id off len lo ex i o bb base hι
            rw [had (by omega), add_off _ _ rfl]
            have : base + (off + i) * s + o = base + off * s + (i * s + o) := by rw [Nat.add_mul]; omega
            rwa [this] at hp
          · rw [had (by
              intro h0
              have : len = 0 := by omega
              subst this
              simp at hne)]
        · cases hr
      · cases hr
    · cases hr
  all_goals cases hr

/-- What an element's pointer that is read leads to. -/
theorem rd_ep (hh : HR c h) {s : AV} {sz i off : Nat} {v : Value} (hv : VR c (.ep sz s i off) v) {l : List AV} {e : AV} (hr : rdSl h sz s = some l) (hi : l[i]? = some e) :
    ∃ ad, v = .pointer (some ad) ∧ e.cells.length = sz ∧ (∀ (j : Nat) (u : AV), e.cells[j]? = some u → u.one = true) ∧
      ∀ (j : Nat) (u : AV), e.cells[off + j]? = some u → ∃ x, c.w.cell? (ad.add j) = some x ∧ VR c u x := by
  have hlt : i < l.length := (List.getElem?_eq_some_iff.1 hi).1
  cases hv
  case ep_ro ex l0 ad cap ha hi0 =>
    rcases rd_slice hh ha hr with ⟨h1, _⟩ | ⟨ad', cap', h1, _, _, h4, h5, h6, _, _⟩
    · cases h1
    · obtain ⟨rfl, _⟩ : ad = ad' ∧ True := by simp at h1; exact ⟨h1.1, trivial⟩
      refine ⟨_, rfl, h4 i e hi, fun j u => h5 i e j u hi, fun j u hj => ?_⟩
      obtain ⟨x, q1, q2⟩ := h6 i e (off + j) u hi hj
      refine ⟨x, ?_, q2⟩
      rw [add_add]
      rw [← q1]; congr 2; omega
  case ep_sl id o len lo ex b base hι =>
    simp only [rdSl, if_true] at hr
    split at hr
    · rename_i blk hb
      split at hr
      · rename_i hle
        obtain rfl := Option.some.inj hr
        obtain ⟨bb', base', sz', arr, E, hB⟩ := hh.blk id blk hb
        have he := hB.ι
        rw [hι] at he
        obtain ⟨rfl, rfl, rfl⟩ : b = bb' ∧ base = base' ∧ sz = sz' := by simpa using he
        have hlen : i < len := by
          have : i < ((blk.drop o).take len).length := hlt
          simp at this; omega
        have hi' : blk[o + i]? = some e := by rw [List.getElem?_take, if_pos hlen, List.getElem?_drop] at hi; exact hi
        refine ⟨_, rfl, hB.size _ _ hi', fun j u => hB.one _ _ _ _ hi', fun j u hj => ?_⟩
        obtain ⟨x, q1, q2⟩ := hB.cell _ _ _ _ hi' hj
        refine ⟨x, ?_, q2⟩
        rw [add_off _ _ rfl]
        simp only [World.cell?, hB.heap]
        rw [← q1]
        simp only [Option.isSome_none, Bool.false_eq_true, if_false]
        congr 1
        omega
      · cases hr
    · cases hr

/-- A list of values that stand for a list of values of the logic. -/
theorem vals_of {us : List AV} {q : Nat → Value → Prop} (h : ∀ (j : Nat) (u : AV), us[j]? = some u → ∃ x, q j x ∧ VR c u x) :
    ∃ vs : List Value, vs.length = us.length ∧ (∀ (j : Nat) (v : Value), vs[j]? = some v → q j v) ∧ ∀ (j : Nat) (u : AV) (v : Value), us[j]? = some u → vs[j]? = some v → VR c u v := by
  induction us generalizing q with
  | nil => exact ⟨[], rfl, by simp, by simp⟩
  | cons u us ih =>
    obtain ⟨x, hx, hvx⟩ := h 0 u rfl
    obtain ⟨vs, h1, h2, h3⟩ := ih (q := fun j v => q (j + 1) v) (fun j w hw => h (j + 1) w (by simpa using hw))
    refine ⟨x :: vs, by simp [h1], fun j v hj => ?_, fun j w v hj hv => ?_⟩
    · cases j with
      | zero => simp at hj; subst hj; exact hx
      | succ j => exact h2 j v (by simpa using hj)
    · cases j with
      | zero => simp at hj hv; subst hj; subst hv; exact hvx
      | succ j => exact h3 j w v (by simpa using hj) (by simpa using hv)

theorem load_run (hT : TEOk P T) {t : TypeId} {off : Nat} {e u : AV} {ad : Addr} (hp : part T t off e = some u) (hst : ∀ fs, (T t).ty = .struct fs → 0 < (T t).sz)
    (hone : ∀ (j : Nat) (u : AV), e.cells[j]? = some u → u.one = true)
    (hc : ∀ (j : Nat) (u : AV), e.cells[off + j]? = some u → ∃ x, c.w.cell? (ad.add j) = some x ∧ VR c u x) : ∃ v, (loadVar t ad).run P c.w = .ok v c.w ∧ VR c u v := by
  unfold part at hp
  split at hp
  · rename_i fs ht
    split at hp
    · rename_i hle
      obtain rfl := Option.some.inj hp
      obtain ⟨vs, h1, h2, h3⟩ := vals_of (c := c) (us := (e.cells.drop off).take (T t).sz) (q := fun j v => c.w.cell? (ad.add j) = some v) (fun j u hj => by
        rw [List.getElem?_take] at hj
        split at hj
        · rw [List.getElem?_drop] at hj; exact hc j u hj
        · cases hj)
      have hlen : vs.length = (T t).sz := by rw [h1]; simp; omega
      refine ⟨.agg vs.toArray, ?_, .agg _ _ (by simp [h1]) (fun u hu => ?_) fun i u v hi hv => h3 i u v hi (by simpa using hv)⟩
      · have := run_loadCells_list (P := P) c.w ad vs h2
        rw [hlen] at this
        simp [loadVar, isAgg_struct hT ht, sizeOf_run hT (hst fs ht), this]
      · obtain ⟨j, hj, rfl⟩ := List.mem_iff_getElem.1 hu
        refine hone (off + j) _ ?_
        simp at hj ⊢
    · cases hp
  · cases hp
  · rename_i h1 h2
    obtain ⟨x, q1, q2⟩ := hc 0 u (by simpa using hp)
    refine ⟨x, ?_, q2⟩
    rw [Addr.add_zero'] at q1
    simp [loadVar, isAgg_plain hT (fun fs => h1 fs) h2, q1]

theorem fieldPlace_run (hT : TEOk P T) (a : Addr) (f : Field) (hf : 0 < (T f.type).sz) (w : World) : (fieldPlace a f).run P w = .ok (a.add f.offset) w := by
  have h := sizeOf_run hT hf w
  have hne : ¬ (T f.type).sz = 0 := by omega
  simp [fieldPlace, h, hne]

theorem ep_add {sz i off o : Nat} {s : AV} {ad : Addr} (hv : VR c (.ep sz s i off) (.pointer (some ad))) : VR c (.ep sz s i (off + o)) (.pointer (some (ad.add o))) := by
  cases hv
  case ep_ro ex l a cap ha hi => rw [add_add, Nat.add_assoc]; exact .ep_ro sz ex l i (off + o) a cap ha hi
  case ep_sl id o' len lo ex b base hι =>
    rw [add_off _ _ rfl]
    have := VR.ep_sl (c := c) sz id o' len lo ex i (off + o) b base hι
    rwa [← Nat.add_assoc] at this

theorem ep_ptr {sz i off : Nat} {s : AV} {v : Value} (hv : VR c (.ep sz s i off) v) : ∃ ad, v = .pointer (some ad) := by
  cases hv <;> exact ⟨_, rfl⟩

theorem part_run (hT : TEOk P T) {t : TypeId} {off : Nat} {cs : List AV} {vs : Array Value} {u : AV} (hv : VR c (.agg cs) (.agg vs)) (hp : part T t off (.agg cs) = some u) (hst : ∀ fs, (T t).ty = .struct fs → 0 < (T t).sz) :
    ∃ v, (Go.part t vs off).run P c.w = .ok v c.w ∧ VR c u v := by
  cases hv with
  | agg _ _ hs hone hcv =>
    unfold part at hp
    split at hp
    · rename_i fs ht
      split at hp
      · rename_i hle
        obtain rfl := Option.some.inj hp
        have hsz := sizeOf_run hT (hst fs ht)
        refine ⟨.agg (vs.extract off (off + (T t).sz)), by simp [Go.part, isAgg_struct hT ht, hsz], .agg _ _ (by simp at hle ⊢; omega) (fun u hu => hone u (List.mem_of_mem_drop (List.mem_of_mem_take hu))) fun i u v hi hv => ?_⟩
        rw [List.getElem?_take] at hi
        split at hi
        · rename_i hlt
          rw [List.getElem?_drop] at hi
          refine hcv (off + i) u v hi ?_
          rw [Array.getElem?_extract] at hv
          split at hv
          · exact hv
          · cases hv
        · cases hi
      · cases hp
    · cases hp
    · rename_i h1 h2
      have hlt : off < cs.length := (List.getElem?_eq_some_iff.1 hp).1
      have hx : vs[off]? = some (vs[off]'(by omega)) := Array.getElem?_eq_getElem (by omega)
      refine ⟨vs[off]'(by omega), ?_, hcv off u _ hp hx⟩
      simp [Go.part, isAgg_plain hT (fun fs => h1 fs) h2, hx]

end
end Go.Proofs.Ytplkjfnjdekgpaa
