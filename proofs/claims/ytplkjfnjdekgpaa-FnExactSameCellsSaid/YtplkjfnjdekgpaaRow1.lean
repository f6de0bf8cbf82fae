/- laws.FnExactSameCells returns true for every input, and each argument reads afterwards as it read before. No condition. Own work. -/
import Derived.Test.YtplkjfnjdekgpaaR1
import Derived.Test.YtplkjfnjdekgpaaLtOpen
import Derived.Test.YtplkjfnjdekgpaaRows
namespace Go.Proofs.Ytplkjfnjdekgpaa
open Go Go.ChangeShapes Go.WideShapes Go.ChangeAt Go.RowKit Go.Deep

theorem ownKnob_ : ownKnob Try.prog.godebug = none := by kernel_rfl
theorem laidOut_ : laidOutB Try.prog = true := by kernel_rfl

set_option maxRecDepth 100000 in
theorem sameCells_lifted (os : Os) (started : os.Started) (H : Type) (enc : TypeId × Value → H) :
    ReturnsInHanded {} Try.checked os 3 .any (Rows.fnExactSameCellsSpec.pre6 enc Try.prog Try.f3 Rows.fnExactSameCellsRow.domain false) (Rows.fnExactSameCellsSpec.post enc Try.prog Try.f3 false true false false) := by
  refine returnsInHanded_of_change (C := Try.checked) ownKnob_ started (by kernel_rfl) Try.func3
    (ChangeSpec.witness6 (enc := enc) (C := Try.checked) false ⟨#[], #[.slice .none 0 0, .slice .none 0 0], []⟩ 8 (by kernel_rfl) (by kernel_rfl) (by kernel_rfl) (by kernel_rfl)) ?_
  intro W base args ds gs before hval0 hW hcnd _
  have hval : ∀ (j : Nat) t v, Try.f3.params[j]? = some t → args[j]? = some v → Value.okWide Try.prog W .any base t v := hval0
  have hW' := hW
  obtain ⟨p, q, hA0, hV, rfl, hfz, hnd⟩ := hW
  have hA : DataW.TrodAll enc Try.prog W 0 (fun _ => true) true Try.f3.params.toList args.toList ds p := hA0
  rw [Try.params3] at hA hval
  obtain ⟨v0, v1, d0, d1, p0, p1, rfl, rfl, rfl, h0, h1⟩ := trodAll_two hA
  obtain ⟨rfl, rfl⟩ := trodVars_none hV
  have hcell : Opn enc Try.prog W 0 (fun _ => true) true 75 2 CellR := by
    refine opn_struct [intF 2 .i64, intF 2 .i64] Try.underlying75 rfl (by kernel_rfl) (fun f hf => ?_) (fun us hus => ?_)
    · rcases List.mem_cons.1 hf with rfl | hf
      · exact opnQ_int Try.underlying2 (by kernel_rfl)
      · rw [List.mem_singleton.1 hf]; exact opnQ_int Try.underlying2 (by kernel_rfl)
    · cases hus with
      | cons h1 t1 => cases t1 with
        | cons h2 t2 => cases t2; obtain ⟨⟨a, rfl, _⟩, _⟩ := h1; obtain ⟨⟨b, rfl, _⟩, _⟩ := h2; exact ⟨(a, b), rfl⟩
  obtain ⟨a0, len0, cap0, e0⟩ := okWide_slice Try.underlying22 (hval 0 22 v0 rfl rfl)
  obtain ⟨a1, len1, cap1, e1⟩ := okWide_slice Try.underlying22 (hval 1 22 v1 rfl rfl)
  have hsl := opn_slice Try.underlying22 (by kernel_rfl) (by omega) hcell cell75.lt
  obtain ⟨u0, l0, r0, k0⟩ := param_one hsl (fun u a h => h.one) (by rw [e0]; rfl) h0
  obtain ⟨u1, l1, r1, k1⟩ := param_one hsl (fun u a h => h.one) (by rw [e1]; rfl) h1
  clear hA0 hval0
  simp only [List.append_nil] at hW'
  have hlt0 : ∀ x ∈ p0, x.block < W.heap.size := fun x hx => hW'.lt x (by simp [hx])
  have hlt1 : ∀ x ∈ p1, x.block < W.heap.size := fun x hx => hW'.lt x (by simp [hx])
  refine (law_calls (us := [u0, u1]) (vals := #[v0, v1]) rfl (fun i u v hu hv => ?_) (c3 r0 r1 rfl)).mono fun e W' ⟨he, bel⟩ => ?_
  · match i with
    | 0 => simp at hu hv; subst hu; subst hv; exact k0
    | 1 => simp at hu hv; subst hu; subst hv; exact k1
    | i + 2 => simp at hu
  subst he
  refine ⟨_, rfl, ⟨_, _, _, [], p0 ++ p1, [], hW', ?_, ?_, rfl, bel.frame _, fun h => by cases h⟩⟩
  · exact trodAll_mk1 (p := []) (shut_bool Try.underlying4 true)
  · exact trodAll_mk2 (Below.trod laidOut_ (by kernel_rfl) (of_decide_eq_true (by kernel_rfl)) h0 bel hlt0) (Below.trod laidOut_ (by kernel_rfl) (of_decide_eq_true (by kernel_rfl)) h1 bel hlt1)

theorem fnExactSameCells_holds : Rows.FnExactSameCellsSaid :=
  OpenClaim.holds_of_wide 3 Try.f3 rfl rfl rfl rfl rfl rfl rfl ⟨rfl, rfl, rfl, rfl, rfl⟩ rfl rfl rfl rfl rfl (by kernel_rfl) Try.func3 (by kernel_rfl)
    (of_decide_eq_true (by kernel_rfl)) (by unfold Func.isWrapper; first | (rw [if_pos (by decide +kernel)]; kernel_rfl) | (rw [if_neg (by decide +kernel)]; exact ⟨rfl, rfl⟩))
    (fun os started H enc _ => sameCells_lifted os started H enc)

end Go.Proofs.Ytplkjfnjdekgpaa
