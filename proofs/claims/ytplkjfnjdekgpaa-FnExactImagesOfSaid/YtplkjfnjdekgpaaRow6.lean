/- laws.FnExactImagesOf returns true for every input, and each argument reads afterwards as it read before. No condition. Own work. -/
import Derived.Test.YtplkjfnjdekgpaaR23
import Derived.Test.YtplkjfnjdekgpaaRowAidC
import Derived.Test.YtplkjfnjdekgpaaRows
namespace Go.Proofs.Ytplkjfnjdekgpaa
open Go Go.ChangeShapes Go.WideShapes Go.ChangeAt Go.RowKit Go.Deep

set_option maxRecDepth 100000 in
theorem imagesOf_lifted (os : Os) (started : os.Started) (H : Type) (enc : TypeId × Value → H) :
    ReturnsInHanded {} Try.checked os 8 .any (Rows.fnExactImagesOfSpec.pre6 enc Try.prog Try.f8 Rows.fnExactImagesOfRow.domain false) (Rows.fnExactImagesOfSpec.post enc Try.prog Try.f8 false true false false) := by
  refine returnsInHanded_of_change (C := Try.checked) ownKnob_2 started (by kernel_rfl) Try.func8
    (ChangeSpec.witness6 (enc := enc) (C := Try.checked) false ⟨#[], #[.agg #[.slice .none 0 0, .slice .none 0 0], .int .i64 0], []⟩ 8 (by kernel_rfl) (by kernel_rfl) (by kernel_rfl) (by kernel_rfl)) ?_
  intro W base args ds gs before hval0 hW hcnd _
  have hval : ∀ (j : Nat) t v, Try.f8.params[j]? = some t → args[j]? = some v → Value.okWide Try.prog W .any base t v := hval0
  have hW' := hW
  obtain ⟨p, q, hA0, hV, rfl, hfz, hnd⟩ := hW
  have hA : DataW.TrodAll enc Try.prog W 0 (fun _ => true) true Try.f8.params.toList args.toList ds p := hA0
  rw [Try.params8] at hA hval
  obtain ⟨v0, v1, d0, d1, p0, p1, rfl, rfl, rfl, h0, h1⟩ := trodAll_two hA
  obtain ⟨rfl, rfl⟩ := trodVars_none hV
  obtain ⟨vs0, e0, _⟩ := okWide_struct Try.underlying58 (hval 0 58 v0 rfl rfl)
  obtain ⟨u0, l0, r0, k0⟩ := param_agg opn_58 (fun u a h => by obtain ⟨_, _, rfl, _⟩ := h; exact ⟨_, rfl⟩) e0 h0
  obtain ⟨w, rfl, rfl, rfl, ww⟩ := open_int Try.underlying2 (hval 1 2 v1 rfl rfl) h1
  clear hA0 hval0
  simp only [List.append_nil] at hW'
  have hlt0 : ∀ x ∈ p0, x.block < W.heap.size := fun x hx => hW'.lt x (by simp [hx])
  refine (law_calls (us := [u0, .int .i64 w]) (vals := #[v0, .int .i64 w]) rfl (fun i u v hu hv => ?_) (c8 r0 rfl)).mono fun e W' ⟨he, bel⟩ => ?_
  · match i with
    | 0 => simp at hu hv; subst hu; subst hv; exact k0
    | 1 => simp at hu hv; subst hu; subst hv; exact .int _ _
    | i + 2 => simp at hu
  subst he
  refine ⟨_, rfl, ⟨_, _, _, [], p0, [], hW', ?_, ?_, rfl, bel.frame _, fun h => by cases h⟩⟩
  · exact trodAll_mk1 (p := []) (shut_bool Try.underlying4 true)
  · have hq := trodAll_mk2 (Below.trod laidOut_2 (by kernel_rfl) (of_decide_eq_true (by kernel_rfl)) h0 bel hlt0) (shut_int Try.underlying2 ww)
    rw [List.append_nil] at hq
    exact hq

theorem fnExactImagesOf_holds : Rows.FnExactImagesOfSaid :=
  OpenClaim.holds_of_wide 8 Try.f8 rfl rfl rfl rfl rfl rfl rfl ⟨rfl, rfl, rfl, rfl, rfl⟩ rfl rfl rfl rfl rfl (by kernel_rfl) Try.func8 (by kernel_rfl)
    (of_decide_eq_true (by kernel_rfl)) (by unfold Func.isWrapper; first | (rw [if_pos (by decide +kernel)]; kernel_rfl) | (rw [if_neg (by decide +kernel)]; exact ⟨rfl, rfl⟩))
    (fun os started H enc _ => imagesOf_lifted os started H enc)

end Go.Proofs.Ytplkjfnjdekgpaa
