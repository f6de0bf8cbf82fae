/- laws.FnExactEarlyPicks returns true for every input, and each argument reads afterwards as it read before. No condition. Own work. -/
import Derived.Test.YtplkjfnjdekgpaaR14
import Derived.Test.YtplkjfnjdekgpaaRowAidB
import Derived.Test.YtplkjfnjdekgpaaRows
namespace Go.Proofs.Ytplkjfnjdekgpaa
open Go Go.ChangeShapes Go.WideShapes Go.ChangeAt Go.RowKit Go.Deep

set_option maxRecDepth 100000 in
theorem earlyPicks_lifted (os : Os) (started : os.Started) (H : Type) (enc : TypeId × Value → H) :
    ReturnsInHanded {} Try.checked os 7 .any (Rows.fnExactEarlyPicksSpec.pre6 enc Try.prog Try.f7 Rows.fnExactEarlyPicksRow.domain false) (Rows.fnExactEarlyPicksSpec.post enc Try.prog Try.f7 false true false false) := by
  refine returnsInHanded_of_change (C := Try.checked) ownKnob_2 started (by kernel_rfl) Try.func7
    (ChangeSpec.witness6 (enc := enc) (C := Try.checked) false ⟨#[], #[.slice .none 0 0, .slice .none 0 0, .int .i64 0], []⟩ 8 (by kernel_rfl) (by kernel_rfl) (by kernel_rfl) (by kernel_rfl)) ?_
  intro W base args ds gs before hval0 hW hcnd _
  have hval : ∀ (j : Nat) t v, Try.f7.params[j]? = some t → args[j]? = some v → Value.okWide Try.prog W .any base t v := hval0
  have hW' := hW
  obtain ⟨p, q, hA0, hV, rfl, hfz, hnd⟩ := hW
  have hA : DataW.TrodAll enc Try.prog W 0 (fun _ => true) true Try.f7.params.toList args.toList ds p := hA0
  rw [Try.params7] at hA hval
  obtain ⟨v0, v1, v2, d0, d1, d2, p0, p1, p2, rfl, rfl, rfl, h0, h1, h2⟩ := trodAll_three hA
  obtain ⟨rfl, rfl⟩ := trodVars_none hV
  obtain ⟨a0, len0, cap0, e0⟩ := okWide_slice Try.underlying28 (hval 0 28 v0 rfl rfl)
  obtain ⟨a1, len1, cap1, e1⟩ := okWide_slice Try.underlying37 (hval 1 37 v1 rfl rfl)
  obtain ⟨u0, l0, r0, k0⟩ := param_one opn_28 (fun u a h => h.one) (by rw [e0]; rfl) h0
  obtain ⟨u1, l1, r1, k1⟩ := param_one opn_37 (fun u a h => h.one) (by rw [e1]; rfl) h1
  obtain ⟨w, rfl, rfl, rfl, ww⟩ := open_int Try.underlying2 (hval 2 2 v2 rfl rfl) h2
  clear hA0 hval0
  simp only [List.append_nil] at hW'
  have hlt0 : ∀ x ∈ p0, x.block < W.heap.size := fun x hx => hW'.lt x (by simp [hx])
  have hlt1 : ∀ x ∈ p1, x.block < W.heap.size := fun x hx => hW'.lt x (by simp [hx])
  refine (law_calls (us := [u0, u1, .int .i64 w]) (vals := #[v0, v1, .int .i64 w]) rfl (fun i u v hu hv => ?_) (c7 r0 r1 (i64_of_wf ww) rfl)).mono fun e W' ⟨he, bel⟩ => ?_
  · match i with
    | 0 => simp at hu hv; subst hu; subst hv; exact k0
    | 1 => simp at hu hv; subst hu; subst hv; exact k1
    | 2 => simp at hu hv; subst hu; subst hv; exact .int _ _
    | i + 3 => simp at hu
  subst he
  refine ⟨_, rfl, ⟨_, _, _, [], p0 ++ p1, [], hW', ?_, ?_, rfl, bel.frame _, fun h => by cases h⟩⟩
  · exact trodAll_mk1 (p := []) (shut_bool Try.underlying4 true)
  · have hq := trodAll_mk3 (Below.trod laidOut_2 (by kernel_rfl) (of_decide_eq_true (by kernel_rfl)) h0 bel hlt0) (Below.trod laidOut_2 (by kernel_rfl) (of_decide_eq_true (by kernel_rfl)) h1 bel hlt1) (shut_int Try.underlying2 ww)
    simp only [List.append_nil] at hq
    exact hq

theorem fnExactEarlyPicks_holds : Rows.FnExactEarlyPicksSaid :=
  OpenClaim.holds_of_wide 7 Try.f7 rfl rfl rfl rfl rfl rfl rfl ⟨rfl, rfl, rfl, rfl, rfl⟩ rfl rfl rfl rfl rfl (by kernel_rfl) Try.func7 (by kernel_rfl)
    (of_decide_eq_true (by kernel_rfl)) (by unfold Func.isWrapper; first | (rw [if_pos (by decide +kernel)]; kernel_rfl) | (rw [if_neg (by decide +kernel)]; exact ⟨rfl, rfl⟩))
    (fun os started H enc _ => earlyPicks_lifted os started H enc)

end Go.Proofs.Ytplkjfnjdekgpaa
