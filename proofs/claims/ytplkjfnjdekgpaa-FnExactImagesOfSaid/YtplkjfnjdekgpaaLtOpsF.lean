/- The plain operations are sound: structs, arithmetic, slicing. Own work. -/
import Derived.Test.YtplkjfnjdekgpaaLtOpsE
namespace Go.Proofs.Ytplkjfnjdekgpaa
open Go

section
variable {P : Program} {T : TE} {c : Cfg} {h : Heap} {n : Nat} {K : AV → Heap → Nat → Prop}

/-- Parts put into the cells of a struct. -/
theorem fill_ok {fs : List (Nat × TypeId)} {place : Nat → Option (Nat × Nat)} (hpl : ∀ (i : Nat) (p : Nat × TypeId), fs[i]? = some p → 0 < (T p.2).sz → place i = some (p.1, (T p.2).sz)) {ev : Operand → AV} {ρ : Operand → Value} (hρ : ∀ x, VR c (ev x) (ρ x))
    {R : List AV → Prop} : ∀ (parts : List (Nat × Operand)) (cs : List AV) (vs : Array Value), VR c (.agg cs) (.agg vs) → buildP T fs cs ev parts R →
      ∃ cs' vs', Instr.fill place vs (parts.map fun p => (p.1, ρ p.2)) = some vs' ∧ VR c (.agg cs') (.agg vs') ∧ R cs'
  | [], cs, vs, hv, hb => ⟨cs, vs, rfl, hv, hb⟩
  | (i, x) :: rest, cs, vs, hv, hb => by
    obtain ⟨p, hp, hl, hpos, hle, hg, hb'⟩ := hb
    have hone := good_one (hρ x) hg
    obtain ⟨q1, q2⟩ := VR.cells (hρ x) hone
    cases hv with
    | agg _ _ hs ho hcv =>
      obtain ⟨g1, g2⟩ := Great.foldl_set p.1 (ρ x).cells.toList 0 vs
      have hvs : VR c (.agg (cs.take p.1 ++ (ev x).cells ++ cs.drop (p.1 + (T p.2).sz))) (.agg (((ρ x).cells.toList.zipIdx 0).foldl (fun cs (y : Value × Nat) => cs.setIfInBounds (p.1 + y.2) y.1) vs)) := by
        refine .agg _ _ (by rw [g1, hs]; simp; omega) (fun u hu => ?_) fun k u v hk hkv => ?_
        · rcases List.mem_append.1 hu with hu | hu
          · rcases List.mem_append.1 hu with hu | hu
            · exact ho u (List.mem_of_mem_take hu)
            · exact hone u hu
          · exact ho u (List.mem_of_mem_drop hu)
        · rw [g2 k] at hkv
          rw [← hl, getElem?_splice _ _ _ _ (by omega)] at hk
          simp only [Array.length_toList, Nat.add_zero] at hkv
          split at hk
          · rename_i hin
            rw [if_pos (by rw [q1]; exact ⟨hin.1, hin.2, by omega⟩)] at hkv
            exact q2 _ u v hk (by simpa using hkv)
          · rename_i hout
            rw [if_neg (by rw [q1]; exact fun hq => hout ⟨hq.1, hq.2.1⟩)] at hkv
            exact hcv k u v hk hkv
      obtain ⟨cs', vs', r1, r2, r3⟩ := fill_ok hpl hρ rest _ _ hvs hb'
      refine ⟨cs', vs', ?_, r2, r3⟩
      rw [List.map_cons]
      unfold Instr.fill
      simp only [hpl i p hp hpos]
      rw [if_neg (by rw [q1, hs]; simp; omega)]
      rw [← Array.foldl_toList, Array.toList_zipIdx]
      exact r1

theorem places_run (hT : TEOk P T) (w : World) : ∀ (F : List Field), (∀ f, f ∈ F → 0 < (T f.type).sz) → (F.mapM fun f => Prod.mk f.offset <$> sizeOf f.type).run P w = .ok (F.map fun f => (f.offset, (T f.type).sz)) w
  | [], _ => by simp
  | f :: F, hF => by
    have h1 := sizeOf_run hT (hF f (by simp)) w
    have h2 := places_run hT w F (fun f hf => hF f (List.mem_cons_of_mem _ hf))
    simp [List.mapM_cons, h1, h2]

theorem build_ok (hT : TEOk P T) (hh : HR c h) (hf : ∀ id, n ≤ id → c.ι id = none) {t : TypeId} {fs : List (Nat × TypeId)} {parts : Array (Nat × Operand)} {ev : Operand → AV} {ρ : Operand → Value} (hρ : ∀ x, VR c (ev x) (ρ x))
    (ht : (T t).ty = .struct fs) (hpos : 0 < (T t).sz) (hfs : fs.all (fun p => decide (0 < (T p.2).sz)) = true) (hb : buildP T fs (T t).zero.cells ev parts.toList (fun cs => K (.agg cs) h n)) {s : Sem Next}
    (hs : ∀ v, (Instr.build t (parts.map fun p => (p.1, ρ p.2))).run P c.w = .ok v c.w → s.run P c.w = .ok (.value v) c.w) : OpOk P c h n s K := by
  obtain ⟨i, z, hi, i1, i2, i3, i4, i5, i6⟩ := hT.info t hpos
  obtain ⟨F, hu, hF⟩ := hT.tstruct t fs ht
  have hFpos : ∀ f, f ∈ F.toList → 0 < (T f.type).sz := fun f hf => by
    have : (f.offset, f.type) ∈ fs := by rw [← hF]; exact List.mem_map.2 ⟨f, hf, rfl⟩
    simpa using List.all_eq_true.1 hfs _ this
  have hz : VR c (.agg (T t).zero.cells) (.agg z.cells) := by
    obtain ⟨q1, q2⟩ := VR.cells (i4 c) i6
    exact .agg _ _ q1 i6 q2
  have hpl : ∀ (i : Nat) (p : Nat × TypeId), fs[i]? = some p → 0 < (T p.2).sz → (F.toList.map fun f => (f.offset, (T f.type).sz)).toArray[i]? = some (p.1, (T p.2).sz) := fun i p hp _ => by
    rw [← hF] at hp
    simp only [List.getElem?_map, Option.map_eq_some_iff] at hp
    obtain ⟨f, h1, rfl⟩ := hp
    simp at h1 ⊢
    exact ⟨f, h1, rfl, rfl⟩
  obtain ⟨cs', vs', r1, r2, r3⟩ := fill_ok (R := fun cs => K (.agg cs) h n) hpl hρ parts.toList _ _ hz hb
  have hpm : (parts.map fun p => (p.1, ρ p.2)).toList = parts.toList.map fun p => (p.1, ρ p.2) := by simp
  have hrun : (Instr.build t (parts.map fun p => (p.1, ρ p.2))).run P c.w = .ok (.agg vs') c.w := by
    have h1 := places_run hT c.w F.toList hFpos
    rw [← hpm] at r1
    clear hpm hs
    generalize (parts.map fun p => (p.1, ρ p.2)) = ps at r1 ⊢
    have r1' : Instr.fill (fun x => (F.toList.map fun f => (f.offset, (T f.type).sz)).toArray[x]?) z.cells ps.toList = some vs' := r1
    simp [Instr.build, run_underlying hu, zeroValue, typeInfo, hi, i3, Array.mapM_eq_mapM_toList, h1]
    simp at r1'
    simp [r1']
  exact OpOk.pure hh hf (hs _ hrun) r2 r3

end
end Go.Proofs.Ytplkjfnjdekgpaa
