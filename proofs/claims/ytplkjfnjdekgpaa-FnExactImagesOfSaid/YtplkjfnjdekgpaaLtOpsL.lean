/- The plain operations are sound, all of them. Own work. -/
import Derived.Test.YtplkjfnjdekgpaaLtOpsK
namespace Go.Proofs.Ytplkjfnjdekgpaa
open Go

section
variable {P : Program} {T : TE} {c : Cfg} {h : Heap} {n : Nat} {K : AV → Heap → Nat → Prop}

theorem list1 {α : Type} {a : Array α} {x : α} (h : a.toList = [x]) : a = #[x] := by rw [← Array.toArray_toList (xs := a), h]
theorem list2 {α : Type} {a : Array α} {x y : α} (h : a.toList = [x, y]) : a = #[x, y] := by rw [← Array.toArray_toList (xs := a), h]

theorem map1 {α β : Type} {f : α → β} {l : List α} {b : β} (h : l.map f = [b]) : ∃ x, l = [x] ∧ f x = b := by
  cases l with
  | nil => cases h
  | cons x t => cases t with
    | nil => exact ⟨x, rfl, by simpa using h⟩
    | cons => simp at h

theorem map2 {α β : Type} {f : α → β} {l : List α} {b b' : β} (h : l.map f = [b, b']) : ∃ x y, l = [x, y] ∧ f x = b ∧ f y = b' := by
  cases l with
  | nil => cases h
  | cons x t => cases t with
    | nil => simp at h
    | cons y t => cases t with
      | nil => exact ⟨x, y, rfl, by simpa using h⟩
      | cons => simp at h

theorem len_sl (hh : HR c h) {a : AV} {v : Value} (hv : VR c a v) {sz : Nat} {l : List AV} (hr : rdSl h sz a = some l) : ∃ b k, v = .slice b l.length k := by
  rcases rd_slice hh hv hr with ⟨rfl, rfl⟩ | ⟨ad, cap, rfl, _⟩
  · exact ⟨none, 0, rfl⟩
  · exact ⟨_, _, rfl⟩

theorem good_of {z : AV} (h : ∀ u, u ∈ z.cells → u.one = true) : z.good = true := by
  cases z <;> first | rfl | simp [AV.cells, AV.one] at h

theorem builtin_ok (hT : TEOk P T) (hh : HR c h) (hf : ∀ id, n ≤ id → c.ι id = none) {ev : Operand → AV} {ρ : Operand → Value} (hρ : ∀ x, VR c (ev x) (ρ x)) {b : Builtin} {ts : Array TypeId} {args : Array Operand} {ty : TypeId} {cs : Array Bool}
    (ha : builtinP T b ts.toList (args.toList.map ev) h n K) : OpOk P c h n (builtin b ts ty cs (args.map ρ)) K := by
  unfold builtinP at ha
  split at ha
  · rename_i t s q1 q2
    obtain rfl := list1 q1
    obtain ⟨x, q3, hx⟩ := map1 q2
    obtain rfl := list1 q3
    obtain ⟨ht, hK⟩ := ha
    have hv := hρ x
    rw [hx] at hv
    obtain ⟨v, hv'⟩ : ∃ v, v = ρ x := ⟨_, rfl⟩
    rw [← hv'] at hv
    cases hv
    refine OpOk.pure hh hf (v := goInt s.size) ?_ (.int _ _) hK
    simp [builtin, Builtin.len_, ← hv', run_underlying (hT.tstr t ht)]
  · rename_i t x0 _ q1 q2
    obtain rfl := list1 q1
    obtain ⟨x, q3, hx⟩ := map1 q2
    obtain rfl := list1 q3
    obtain ⟨e, l, ht, hr, hK⟩ := ha
    rw [← hx] at hr
    obtain ⟨bb, k, hv⟩ := len_sl hh (hρ x) hr
    refine OpOk.pure hh hf (v := goInt l.length) ?_ (.int _ _) hK
    simp [builtin, Builtin.len_, hv, run_underlying (hT.tslice t e ht)]
  · rename_i t sz id off len lo ex q1 q2
    obtain rfl := list1 q1
    obtain ⟨x, q3, hx⟩ := map1 q2
    obtain rfl := list1 q3
    obtain ⟨e, ht, hex, hK⟩ := ha
    have hv := hρ x
    rw [hx] at hv
    obtain ⟨v, hv'⟩ : ∃ v, v = ρ x := ⟨_, rfl⟩
    rw [← hv'] at hv
    cases hv with
    | sl _ _ _ _ _ _ b base cap hι hlen hlo hexc hmax hroom a ha =>
      have := hexc hex
      subst this
      refine OpOk.pure hh hf (v := goInt cap) ?_ (.int _ _) hK
      simp [builtin, Builtin.cap_, ← hv', run_underlying (hT.tslice t e ht)]
  · rename_i k a k' b q2
    obtain ⟨x, y, q3, hx, hy⟩ := map2 q2
    obtain rfl := list2 q3
    obtain ⟨rfl, hK⟩ := ha
    have hv := hρ x
    rw [hx] at hv
    have hu := hρ y
    rw [hy] at hu
    obtain ⟨v, hv'⟩ : ∃ v, v = ρ x := ⟨_, rfl⟩
    obtain ⟨u, hu'⟩ : ∃ u, u = ρ y := ⟨_, rfl⟩
    rw [← hv'] at hv
    rw [← hu'] at hu
    cases hv; cases hu
    refine OpOk.pure hh hf (v := .int k (if b < a then b else a)) ?_ (.int _ _) hK
    simp [builtin, Builtin.min_, Builtin.min2, ← hv', ← hu']
  · rename_i k a k' b q2
    obtain ⟨x, y, q3, hx, hy⟩ := map2 q2
    obtain rfl := list2 q3
    obtain ⟨rfl, hK⟩ := ha
    have hv := hρ x
    rw [hx] at hv
    have hu := hρ y
    rw [hy] at hu
    obtain ⟨v, hv'⟩ : ∃ v, v = ρ x := ⟨_, rfl⟩
    obtain ⟨u, hu'⟩ : ∃ u, u = ρ y := ⟨_, rfl⟩
    rw [← hv'] at hv
    rw [← hu'] at hu
    cases hv; cases hu
    refine OpOk.pure hh hf (v := .int k (if a < b then b else a)) ?_ (.int _ _) hK
    simp [builtin, Builtin.max_, Builtin.max2, ← hv', ← hu']
  · rename_i t t' x0 y0 q1 q2
    obtain rfl := list2 q1
    obtain ⟨x, y, q3, hx, hy⟩ := map2 q2
    obtain rfl := list2 q3
    obtain ⟨rfl, e, ht, ha⟩ := ha
    rw [← hx, ← hy] at ha
    refine append_ok (ty := ty) hT hh hf ht (hρ x) (hρ y) ha (fun v w' hr => ?_)
    simp [builtin, hr]
  · rename_i t t' x0 y0 q1 q2
    obtain rfl := list2 q1
    obtain ⟨x, y, q3, hx, hy⟩ := map2 q2
    obtain rfl := list2 q3
    obtain ⟨e, ht, ha⟩ := ha
    rw [← hx, ← hy] at ha
    refine copy_ok (ty := ty) (t' := t') hT hh hf ht (hρ x) (hρ y) ha (fun v w' hr => ?_)
    simp [builtin, hr]
  · rename_i t x0 q1 q2
    obtain rfl := list1 q1
    obtain ⟨x, q3, hx⟩ := map1 q2
    obtain rfl := list1 q3
    obtain ⟨e, ht, ha⟩ := ha
    rw [← hx] at ha
    refine clear_ok (ty := ty) hT hh hf ht (hρ x) ha (fun v w' hr => ?_)
    simp [builtin, hr]
  · exact ha.elim

theorem opP_sound (hT : TEOk P T) (hh : HR c h) (hf : ∀ id, n ≤ id → c.ι id = none) {ev : Operand → AV} {ρ : Operand → Value} (hρ : ∀ x, VR c (ev x) (ρ x)) (o : Oper) (ho : opP T o.op ev h n K) : OpOk P c h n (execOp ρ o) K := by
  obtain ⟨dst, op, type, pos, after, guard⟩ := o
  simp only at ho
  cases op <;> simp only [opP] at ho
  all_goals first | exact ho.elim | skip
  case move x => exact OpOk.pure hh hf (by simp [execOp]) (hρ x) ho
  case assign x => exact OpOk.pure hh hf (by simp [execOp]) (hρ x) ho
  case pick cc a b =>
    obtain ⟨t, ht, hK⟩ := ho
    have hv := hρ cc
    rw [ht] at hv
    obtain ⟨v, hv'⟩ : ∃ v, v = ρ cc := ⟨_, rfl⟩
    rw [← hv'] at hv
    cases hv
    refine OpOk.pure hh hf (v := if t then ρ a else ρ b) (by simp [execOp, ← hv', asBool]) ?_ hK
    cases t
    · exact hρ b
    · exact hρ a
  case alloc e =>
    obtain ⟨hpos, hK⟩ := ho
    obtain ⟨i, z, hi, i1, i2, i3, i4, i5, i6⟩ := hT.info e hpos
    refine box_ok hh hf (i4 c) (good_of i6) i5 e ?_ hK
    simp [execOp, Instr.alloc, zeroValue, typeInfo, hi, i3, newVar, newRow]
  case box e x =>
    obtain ⟨hg, hl, hpos, hK⟩ := ho
    obtain ⟨i, z, hi, i1, i2, i3, i4, i5, i6⟩ := hT.info e hpos
    refine box_ok hh hf (hρ x) hg hl e ?_ hK
    simp [execOp, Instr.box, newVar, newRow]
  case build t parts =>
    obtain ⟨fs, ht, hpos, hfs, hb⟩ := ho
    exact build_ok hT hh hf hρ ht hpos hfs hb (fun v hr => by simp [execOp, hr])
  case buildSlice t len parts =>
    obtain ⟨e, ht, hpos, hlen, hp, hg, hK⟩ := ho
    exact buildSlice_ok hT hh hf hρ ht hpos hlen hp hg hK (fun v w' hr => by simp [execOp, hr])
  case load t a =>
    obtain ⟨sz, s, i, off, l, e, v, ha, hr, hi, hp, hst, hK⟩ := ho
    have hv := hρ a
    rw [ha] at hv
    obtain ⟨ad, hpv, hlen, hone, hc⟩ := rd_ep hh hv hr hi
    obtain ⟨u, q1, q2⟩ := load_run hT hp hst hone hc
    refine OpOk.pure hh hf ?_ q2 hK
    simp [execOp, Instr.loadAt, Instr.sureAddr, hpv, q1]
  case store t a x =>
    obtain ⟨sz, id, o, len, lo, ex, i, off, b, e, ha, hb, he, hg, hl, hpos, hle, hK⟩ := ho
    have hv := hρ a
    rw [ha] at hv
    exact store_ok hT hh hf hv (hρ x) hb he hg hl hpos hle hK (fun w' hr => by simp [execOp, hr])
  case nilCheck x =>
    split at ho
    · rename_i sz a i off hx
      have hv := hρ x
      rw [hx] at hv
      obtain ⟨ad, hp⟩ := ep_ptr hv
      rw [hp] at hv
      exact OpOk.pure hh hf (by simp [execOp, hp]) hv ho
    · rename_i f cp hx
      have hv := hρ x
      rw [hx] at hv
      obtain ⟨v, hv'⟩ : ∃ v, v = ρ x := ⟨_, rfl⟩
      rw [← hv'] at hv
      have hv2 := hv
      cases hv
      exact OpOk.pure hh hf (by simp [execOp, ← hv']) hv2 ho
    · exact ho.elim
  case binOp op t x y fl =>
    obtain ⟨r, v, q1, q2, q3⟩ := bin_ok hT (hρ x) (hρ y) ho x y
    refine OpOk.pure hh hf ?_ q2 q3
    simp only [Sem.run_bind] at q1
    simp only [execOp, Sem.run_bind, q1, Result.andThen_ok, Sem.run_pure]
  case unOp op fl x =>
    have hv := hρ x
    obtain ⟨v, hv'⟩ : ∃ v, v = ρ x := ⟨_, rfl⟩
    rw [← hv'] at hv
    unfold unP at ho
    split at ho
    · rename_i b hx
      rw [hx] at hv
      cases hv
      exact OpOk.pure hh hf (by simp [execOp, ← hv', Op.unary] <;> rfl) (.bool _) ho
    · rename_i k m hx
      rw [hx] at hv
      cases hv
      exact OpOk.pure hh hf (v := .int k (k.wrap (0 - m))) (by simp [execOp, ← hv', Op.unary, Op.intArith]) (.int _ _) ho
    · exact ho.elim
  case convert s d x =>
    split at ho
    · rename_i k k0 m hd hx
      obtain ⟨⟨k', hs⟩, hK⟩ := ho
      have hv := hρ x
      obtain ⟨v, hv'⟩ : ∃ v, v = ρ x := ⟨_, rfl⟩
      rw [← hv', hx] at hv
      cases hv
      refine OpOk.pure hh hf (v := .int k (k.wrap m)) ?_ (.int _ _) hK
      simp [execOp, convert, run_underlying (hT.tint s k' hs), run_underlying (hT.tint d k hd), ← hv', Conv.intToInt]
    · exact ho.elim
  case makeFunc f first cap =>
    cases f <;> simp only at ho
    case func f =>
      obtain ⟨hfst, hK⟩ := ho
      subst hfst
      refine OpOk.pure hh hf (v := .func (.func f) #[] (cap.map ρ)) (by simp [execOp, Instr.makeFunc]) (.fn _ _ _ (by simp) fun i u v hu hv => ?_) hK
      rw [List.getElem?_map] at hu
      rw [Array.getElem?_map] at hv
      cases hc : cap[i]? with
      | none => rw [hc] at hv; cases hv
      | some y =>
        have hc' : cap.toList[i]? = some y := by simpa using hc
        rw [hc] at hv
        rw [hc'] at hu
        obtain rfl := Option.some.inj hv
        obtain rfl := Option.some.inj hu
        exact hρ y
    all_goals exact ho.elim
  case makeSlice t l cp =>
    obtain ⟨e, k1, k2, a, b, ht, hpos, hl, hc, ha, hab, hby, hb, hK⟩ := ho
    have hv := hρ l
    have hu := hρ cp
    rw [hl] at hv
    rw [hc] at hu
    obtain ⟨v, hv'⟩ : ∃ v, v = ρ l := ⟨_, rfl⟩
    obtain ⟨u, hu'⟩ : ∃ u, u = ρ cp := ⟨_, rfl⟩
    rw [← hv'] at hv
    rw [← hu'] at hu
    cases hv; cases hu
    exact makeSlice_ok (k1 := k1) (k2 := k2) hT hh hf ht hpos ha hab hby hb hK (fun v w' hr => by simp [execOp, ← hv', ← hu', hr])
  case slice t x lo hi mx =>
    have hv := hρ x
    split at ho
    · rename_i s hx
      obtain ⟨ht, rfl, hs⟩ := ho
      obtain ⟨v, hv'⟩ : ∃ v, v = ρ x := ⟨_, rfl⟩
      rw [← hv', hx] at hv
      cases hv
      obtain ⟨r, u, q1, q2, q3⟩ := strSlice_ok (P := P) hT ht hρ hs
      exact OpOk.pure hh hf (by simp [execOp, ← hv', q1]) q2 q3
    · obtain ⟨e, ht, hpos, hmx, hs⟩ := ho
      obtain ⟨r, u, q1, q2, q3⟩ := slice_ok (P := P) hT ht hpos hρ hv hmx hs
      exact OpOk.pure hh hf (by simp [execOp, q1]) q2 q3
  case fieldAddr s x f =>
    obtain ⟨sz, b, i, off, fs, p, hx, ht, hf', hpos, hK⟩ := ho
    have hv := hρ x
    rw [hx] at hv
    obtain ⟨ad, hp⟩ := ep_ptr hv
    rw [hp] at hv
    obtain ⟨F, hF, hfs⟩ := hT.tstruct s fs ht
    subst hfs
    rw [List.getElem?_map] at hf'
    cases hFf : F.toList[f]? with
    | none => rw [hFf] at hf'; cases hf'
    | some g =>
      rw [hFf] at hf'
      obtain rfl := Option.some.inj hf'
      have hFf' : F[f]? = some g := by simpa using hFf
      refine OpOk.pure hh hf ?_ (ep_add hv) hK
      simp [execOp, Instr.fieldAt, run_underlying hF, hFf', Instr.sureAddr, hp, fieldPlace_run hT ad g hpos]
  case field t x f =>
    obtain ⟨fs, p, cs, v, ht, hf', hx, hp, hst, hK⟩ := ho
    have hv := hρ x
    obtain ⟨u, hu⟩ : ∃ u, u = ρ x := ⟨_, rfl⟩
    rw [← hu, hx] at hv
    obtain ⟨F, hF, hfs⟩ := hT.tstruct t fs ht
    subst hfs
    rw [List.getElem?_map] at hf'
    cases hFf : F.toList[f]? with
    | none => rw [hFf] at hf'; cases hf'
    | some g =>
      rw [hFf] at hf'
      obtain rfl := Option.some.inj hf'
      have hFf' : F[f]? = some g := by simpa using hFf
      have hv2 := hv
      cases hv
      obtain ⟨y, q1, q2⟩ := part_run (P := P) hT hv2 hp hst
      refine OpOk.pure hh hf ?_ q2 hK
      simp [execOp, Instr.field, run_underlying hF, hFf', ← hu, asAgg, q1]
  case indexAddr t x ix =>
    obtain ⟨e, l, k, i, ht, hpos, hr, hi, h0, hlt, hK⟩ := ho
    have hu := hρ ix
    rw [hi] at hu
    obtain ⟨u, hu'⟩ : ∃ u, u = ρ ix := ⟨_, rfl⟩
    rw [← hu'] at hu
    cases hu
    rcases rd_slice hh (hρ x) hr with ⟨_, rfl⟩ | ⟨ad, cap, hx, _, _, _, _, _, hep, _⟩
    · simp at hlt; omega
    · have := hep i.toNat 0 (by omega)
      refine OpOk.pure hh hf ?_ this hK
      have hsz := sizeOf_run (P := P) hT hpos c.w
      simp [execOp, Instr.indexAt, asIntOf, ← hu', hx, run_underlying (hT.tslice t e ht), h0, hlt, hsz]
  case index t x ix =>
    obtain ⟨s, k, i, ht, hx, hi, h0, hlt, hK⟩ := ho
    have hu := hρ ix
    rw [hi] at hu
    obtain ⟨u, hu'⟩ : ∃ u, u = ρ ix := ⟨_, rfl⟩
    rw [← hu'] at hu
    cases hu
    have hv := hρ x
    rw [hx] at hv
    obtain ⟨v, hv'⟩ : ∃ v, v = ρ x := ⟨_, rfl⟩
    rw [← hv'] at hv
    cases hv
    refine OpOk.pure hh hf ?_ (.int _ _) hK
    simp [execOp, Instr.index, asIntOf, ← hu', ← hv', run_underlying (hT.tstr t ht), h0, hlt]
  case extract t ix =>
    obtain ⟨vs, r, ht, hr, hK⟩ := ho
    have hv := hρ t
    rw [ht] at hv
    obtain ⟨v, hv'⟩ : ∃ v, v = ρ t := ⟨_, rfl⟩
    rw [← hv'] at hv
    cases hv with
    | tup _ xs hs hcv =>
      have hlt : ix < vs.length := (List.getElem?_eq_some_iff.1 hr).1
      have hx : xs[ix]? = some (xs[ix]'(by omega)) := Array.getElem?_eq_getElem (by omega)
      refine OpOk.pure hh hf (v := xs[ix]'(by omega)) ?_ (hcv ix r _ hr hx) hK
      simp [execOp, Instr.extract, ← hv', hx]
  case call cl =>
    split at ho
    · rename_i b hc
      simp only [execOp, resolve, hc, invoke, pure_bind]
      exact builtin_ok hT hh hf hρ ho
    · exact ho.elim

end
end Go.Proofs.Ytplkjfnjdekgpaa
