/- The plain operations are sound: slicing, append. Own work. -/
import Derived.Test.YtplkjfnjdekgpaaLtOpsG
namespace Go.Proofs.Ytplkjfnjdekgpaa
open Go

section
variable {P : Program} {T : TE} {c : Cfg} {h : Heap} {n : Nat} {K : AV → Heap → Nat → Prop}

theorem bnd_run {o : Option AV} {vo : Option Value} (hv : ∀ a, o = some a → ∃ v, vo = some v ∧ VR c a v) (hn : o = none → vo = none) {d k y : Nat} (hb : bnd o d k) (hk : k ≤ y) (code : BoundsCode) (w : World) :
    (vo = none ∧ k = d) ∨ ∃ v, vo = some v ∧ (Instr.sliceBound v y code).run P w = .ok k w := by
  unfold bnd at hb
  split at hb
  · exact .inl ⟨hn rfl, hb⟩
  · obtain ⟨v, rfl, q⟩ := hv _ rfl
    cases q
    obtain ⟨h0, rfl⟩ := hb
    exact .inr ⟨_, rfl, by rw [run_sliceBound _ _ _ _ _ h0 (by omega)]⟩
  · exact hb.elim

/-- The bounds of a slice expression. -/
theorem bounds_run {lo hi mx : Option AV} {vl vh vm : Option Value} (hl : ∀ a, lo = some a → ∃ v, vl = some v ∧ VR c a v) (hl' : lo = none → vl = none) (hh : ∀ a, hi = some a → ∃ v, vh = some v ∧ VR c a v) (hh' : hi = none → vh = none)
    (hm : ∀ a, mx = some a → ∃ v, vm = some v ∧ VR c a v) (hm' : mx = none → vm = none) {len cap i j m : Nat} (bl : bnd lo 0 i) (bh : bnd hi len j) (bm : mx.isSome = true → bnd mx 0 m) (hij : i ≤ j) (hjm : mx.isSome = true → j ≤ m) (hmc : mx.isSome = true → m ≤ cap) (hjc : j ≤ cap)
    (hmx : mx.isSome = true → hi.isSome = true) (b : Bool) (w : World) :
    (Instr.sliceBounds b len cap vl vh vm).run P w = .ok (i, j, if mx.isSome then m else cap) w := by
  cases hmo : mx with
  | none =>
    obtain rfl := hm' hmo
    rcases bnd_run (P := P) hh hh' bh hjc (if b then .sliceAcap else .sliceAlen) w with ⟨rfl, rfl⟩ | ⟨v, rfl, q⟩
    · rcases bnd_run (P := P) hl hl' bl hij .sliceB w with ⟨rfl, rfl⟩ | ⟨u, rfl, q2⟩
      · simp [Instr.sliceBounds]
      · simp [Instr.sliceBounds, q2]
    · rcases bnd_run (P := P) hl hl' bl hij .sliceB w with ⟨rfl, rfl⟩ | ⟨u, rfl, q2⟩
      · cases b <;> (simp at q; simp [Instr.sliceBounds, q])
      · cases b <;> (simp at q; simp [Instr.sliceBounds, q, q2])
  | some a =>
    have hs : mx.isSome = true := by rw [hmo]; rfl
    obtain ⟨vmm, rfl, hq⟩ := hm a hmo
    have bm' := bm hs
    rcases bnd_run (P := P) hm hm' bm' (hmc hs) (if b then .slice3Acap else .slice3Alen) w with ⟨h0, _⟩ | ⟨v, e, q⟩
    · cases h0
    · obtain rfl := Option.some.inj e
      rcases bnd_run (P := P) hh hh' bh (hjm hs) .slice3B w with ⟨rfl, rfl⟩ | ⟨u, rfl, q2⟩
      · have := hmx hs
        cases hhi : hi with
        | none => rw [hhi] at this; cases this
        | some z => obtain ⟨v', h1, _⟩ := hh z hhi; cases h1
      · rcases bnd_run (P := P) hl hl' bl hij .slice3C w with ⟨rfl, rfl⟩ | ⟨u3, rfl, q3⟩
        · cases b <;> (simp at q; simp [Instr.sliceBounds, q, q2])
        · cases b <;> (simp at q; simp [Instr.sliceBounds, q, q2, q3])

theorem map_opt {ev : Operand → AV} {ρ : Operand → Value} (hρ : ∀ x, VR c (ev x) (ρ x)) (o : Option Operand) : (∀ a, o.map ev = some a → ∃ v, o.map ρ = some v ∧ VR c a v) ∧ (o.map ev = none → o.map ρ = none) := by
  cases o with
  | none => exact ⟨fun a h => (by cases h), fun _ => rfl⟩
  | some x => exact ⟨fun a h => (by obtain rfl := Option.some.inj h; exact ⟨_, rfl, hρ x⟩), fun h => (by cases h)⟩

theorem slice_ok (hT : TEOk P T) {t e : TypeId} (ht : (T t).ty = .slice e) (hpos : 0 < (T e).sz) {ev : Operand → AV} {ρ : Operand → Value} (hρ : ∀ x, VR c (ev x) (ρ x)) {a : AV} {v : Value} (hv : VR c a v) {lo hi mx : Option Operand}
    (hmx : mx.isSome = true → hi.isSome = true) {R : AV → Prop} (hs : sliceP (T e).sz a (lo.map ev) (hi.map ev) (mx.map ev) R) :
    ∃ r u, (Instr.sliceAt t v (lo.map ρ) (hi.map ρ) (mx.map ρ)).run P c.w = .ok u c.w ∧ VR c r u ∧ R r := by
  have hu := hT.tslice t e ht
  have hsz := sizeOf_run (P := P) hT hpos c.w
  obtain ⟨l1, l2⟩ := map_opt hρ lo
  obtain ⟨h1, h2⟩ := map_opt hρ hi
  obtain ⟨m1, m2⟩ := map_opt hρ mx
  have hms : (mx.map ev).isSome = mx.isSome := by simp
  have hhs : (hi.map ev).isSome = hi.isSome := by simp
  have key : ∀ (base : Option Addr) (len cap i j m : Nat), v = .slice base len cap → bnd (lo.map ev) 0 i → bnd (hi.map ev) len j → ((mx.map ev).isSome = true → bnd (mx.map ev) 0 m) → i ≤ j → (mx.isSome = true → j ≤ m) → (mx.isSome = true → m ≤ cap) → j ≤ cap →
      (Instr.sliceAt t v (lo.map ρ) (hi.map ρ) (mx.map ρ)).run P c.w = .ok (.slice (if (if mx.isSome then m else cap) = i then base else base.map (·.add (i * (T e).sz))) (j - i) ((if mx.isSome then m else cap) - i)) c.w := by
    intro base len cap i j m hve b1 b2 b3 hij hjm hmc hjc
    have hb := bounds_run (P := P) l1 l2 h1 h2 m1 m2 b1 b2 b3 hij (by rw [hms]; exact hjm) (by rw [hms]; exact hmc) hjc (by rw [hms, hhs]; exact hmx) true c.w
    rw [hms] at hb
    subst hve
    simp only [Instr.sliceAt, Instr.slice, Sem.run_bind, run_underlying hu, Result.andThen_ok, hb, hsz, Sem.run_pure]
  unfold sliceP at hs
  split at hs
  · cases hv
    obtain ⟨b1, b2, b3, hR⟩ := hs
    refine ⟨.nils, .slice none 0 0, ?_, .nils, hR⟩
    have := key none 0 0 0 0 0 rfl b1 b2 (fun _ => by simpa [bnd] using b3) (Nat.le_refl _) (fun _ => Nat.le_refl _) (fun _ => Nat.le_refl _) (Nat.le_refl _)
    rw [this]
    simp
  · rename_i s ex l
    obtain ⟨rfl, i, j, m, b1, b2, b3, hij, hjm, hml, hR⟩ := hs
    cases hv with
    | ro _ _ _ ad cap f hcap hmax hex hfz hsz' hone hc hcv =>
      have b3' : (mx.map ev).isSome = true → bnd (mx.map ev) 0 m := fun hs => by
        cases hq : mx.map ev with
        | none => rw [hq] at hs; cases hs
        | some z => rw [hq] at b3; cases z <;> first | exact b3 | exact b3.elim
      have hlen : ((l.drop i).take (j - i)).length = j - i := by simp; omega
      have hrun := key (some ad) l.length cap i j m rfl b1 b2 b3' hij (fun _ => hjm) (fun _ => by omega) (by omega)
      obtain ⟨M, hM⟩ : ∃ M, M = (if mx.isSome = true then m else cap) := ⟨_, rfl⟩
      have hMj : j ≤ M := by rw [hM]; split <;> omega
      have hMc : M ≤ cap := by rw [hM]; split <;> omega
      have hMs : mx.isSome = true → M = m := fun hs => by rw [hM, if_pos hs]
      have hMn : mx.isSome = false → M = cap := fun hs => by rw [hM, hs]; rfl
      rw [← hM] at hrun
      have get : ∀ (q : Nat) (x : AV), ((l.drop i).take (j - i))[q]? = some x → l[i + q]? = some x ∧ q < j - i := fun q x hq => by
        rw [List.getElem?_take] at hq
        split at hq
        · rw [List.getElem?_drop] at hq; exact ⟨hq, by assumption⟩
        · cases hq
      refine ⟨_, _, hrun, ?_, hR⟩
      have hval := VR.ro (c := c) (T e).sz (if (mx.map ev).isSome = true then decide (m = j) else (ex && decide (j = l.length))) ((l.drop i).take (j - i)) (if M = i then ad else ad.add (i * (T e).sz)) (M - i) (fun q k => f (i + q) k)
        (by rw [hlen]; omega) (by omega) (fun hx => by
          rw [hlen]
          rw [hms] at hx
          split at hx
          · rename_i hs; have := hMs hs; simp at hx; omega
          · rename_i hs; have := hMn (by simpa using hs); simp at hx; have := hex hx.1; omega)
        (fun hne => by
          have : l ≠ [] := by rintro rfl; simp at hne
          have hq := hfz this
          split
          · exact hq
          · rw [add_block]; exact hq)
        (fun q x hq => hsz' _ _ (get q x hq).1) (fun q x k u hq hk => hone _ _ _ _ (get q x hq).1 hk)
        (fun q x k u hq hk => by
          obtain ⟨g1, g2⟩ := get q x hq
          have hcell := hc _ _ _ _ g1 hk
          rw [if_neg (by omega), add_add, ← hcell]
          congr 2
          rw [Nat.add_mul]; omega)
        (fun q x k u hq hk => hcv _ _ _ _ (get q x hq).1 hk)
      rw [hlen] at hval
      have e1 : (if M = i then some ad else (some ad).map (·.add (i * (T e).sz))) = some (if M = i then ad else ad.add (i * (T e).sz)) := by split <;> rfl
      rw [e1]
      exact hval
  · rename_i s id off len lo' ex
    obtain ⟨rfl, i, j, m, b1, b2, b3, hij, hjm, hml, hR⟩ := hs
    cases hv with
    | sl _ _ _ _ _ _ b base cap hι hlen hlo hex hmax hroom ad had =>
      have b3' : (mx.map ev).isSome = true → bnd (mx.map ev) 0 m := fun hs => by
        cases hq : mx.map ev with
        | none => rw [hq] at hs; cases hs
        | some z => rw [hq] at b3; cases z <;> first | exact b3 | exact b3.elim
      have b3n : mx.isSome = false → m = lo' := fun hs => by
        cases hq : mx with
        | none => rw [hq] at b3; exact b3
        | some z => rw [hq] at hs; cases hs
      have hrun := key (some ad) len cap i j m rfl b1 b2 b3' hij (fun _ => hjm) (fun _ => by omega) (by omega)
      obtain ⟨M, hM⟩ : ∃ M, M = (if mx.isSome = true then m else cap) := ⟨_, rfl⟩
      have hMj : j ≤ M := by rw [hM]; split <;> omega
      have hMc : M ≤ cap := by rw [hM]; split <;> omega
      have hMs : mx.isSome = true → M = m := fun hs => by rw [hM, if_pos hs]
      have hMn : mx.isSome = false → M = cap := fun hs => by rw [hM, hs]; rfl
      rw [← hM] at hrun
      refine ⟨_, _, hrun, ?_, hR⟩
      have e1 : (if M = i then some ad else (some ad).map (·.add (i * (T e).sz))) = some (if M = i then ad else ad.add (i * (T e).sz)) := by split <;> rfl
      rw [e1, hms]
      obtain ⟨arr, E, fr, r1, r2⟩ := hroom
      have hmM : m ≤ M := by
        cases hq : mx.isSome with
        | true => have := hMs hq; omega
        | false => have := hMn hq; have := b3n hq; omega
      refine VR.sl (c := c) (T e).sz id (off + i) (j - i) (m - i) _ b base (M - i) hι (by omega) (by omega) (fun hx => ?_) (by omega) ⟨arr, E, fr, r1, ?_⟩ _ (fun hne => ?_)
      · split at hx
        · rename_i hs; have := hMs hs; omega
        · rename_i hs; have := hMn (by simpa using hs); have := hex hx; have := b3n (by simpa using hs); omega
      · have hle : off + i + (M - i) ≤ off + cap := by omega
        have := Nat.mul_le_mul_right (T e).sz hle
        omega
      · rw [if_neg (by omega), had (by omega), add_off _ _ rfl]
        simp only [Nat.add_mul, Nat.add_assoc]
  · exact hs.elim

theorem strSlice_ok (hT : TEOk P T) {t : TypeId} (ht : (T t).ty = .str) {ev : Operand → AV} {ρ : Operand → Value} (hρ : ∀ x, VR c (ev x) (ρ x)) {s : ByteArray} {lo hi : Option Operand} {R : AV → Prop} (hs : strSliceP s (lo.map ev) (hi.map ev) R) :
    ∃ r u, (Instr.sliceAt t (.string s) (lo.map ρ) (hi.map ρ) none).run P c.w = .ok u c.w ∧ VR c r u ∧ R r := by
  have hu := hT.tstr t ht
  obtain ⟨l1, l2⟩ := map_opt hρ lo
  obtain ⟨h1, h2⟩ := map_opt hρ hi
  obtain ⟨i, j, b1, b2, hij, hj, hR⟩ := hs
  have hb := bounds_run (P := P) (mx := none) (vm := none) l1 l2 h1 h2 (fun a h => by cases h) (fun _ => rfl) b1 b2 (m := 0) (cap := s.size) (fun h => by cases h) hij (fun h => by cases h) (fun h => by cases h) hj (fun h => by cases h) false c.w
  refine ⟨_, .string (s.extract i j), ?_, .str _, hR⟩
  simp only [Instr.sliceAt, Instr.slice, Sem.run_bind, run_underlying hu, Result.andThen_ok, Option.isSome_none, Bool.false_eq_true, if_false, Sem.run_pure, hb]

end
end Go.Proofs.Ytplkjfnjdekgpaa
