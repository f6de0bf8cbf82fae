/- laws.FnExactReadsWhole returns true for every input, and each argument reads afterwards as it read before. No condition. Own work. -/
import Derived.Test.YtcngfjmfgeckmaaRows
import Derived.Test.YtcngfjmfgeckmaaZ11j
set_option linter.unusedSimpArgs false
set_option linter.unusedVariables false
set_option linter.unusedSectionVars false
section
namespace Go.Proofs.Ytcngfjmfgeckmaa
open Go Go.ChangeShapes Go.WideShapes Go.ChangeAt Go.RowKit Go.Deep
theorem ownKnob_2 : ownKnob Try.prog.godebug = none := by kernel_rfl
theorem laidOut_2 : laidOutB Try.prog = true := by kernel_rfl
set_option maxRecDepth 100000 in
theorem readsWhole_lifted (os : Os) (started : os.Started) (H : Type) (enc : TypeId × Value → H) :
    ReturnsInHanded {} Try.checked os 3 .any (Rows.fnExactReadsWholeSpec.pre6 enc Try.prog Try.f3 Rows.fnExactReadsWholeRow.domain false) (Rows.fnExactReadsWholeSpec.post enc Try.prog Try.f3 false true false false) := by
  refine returnsInHanded_of_change (C := Try.checked) ownKnob_2 started (by kernel_rfl) Try.func3
    (ChangeSpec.witness6 (enc := enc) (C := Try.checked) false ⟨#[], #[.agg #[.slice .none 0 0, .slice .none 0 0], .agg #[.slice .none 0 0, .slice .none 0 0]], []⟩ 8 (by kernel_rfl) (by kernel_rfl) (by kernel_rfl) (by kernel_rfl)) ?_
  intro W base args ds gs before hval0 hW hcnd _
  have hval : ∀ (j : Nat) t v, Try.f3.params[j]? = some t → args[j]? = some v → Value.okWide Try.prog W .any base t v := hval0
  have hW' := hW
  obtain ⟨p, q, hA0, hV, rfl, hfz, hnd⟩ := hW
  have hA : DataW.TrodAll enc Try.prog W 0 (fun _ => true) true Try.f3.params.toList args.toList ds p := hA0
  rw [Try.params3] at hA hval
  obtain ⟨v0, v1, d0, d1, p0, p1, rfl, rfl, rfl, h0, h1⟩ := trodAll_two hA
  obtain ⟨rfl, rfl⟩ := trodVars_none hV
  obtain ⟨vs0, e0, _⟩ := okWide_struct Try.underlying25 (hval 0 25 v0 rfl rfl)
  obtain ⟨vs1, e1, _⟩ := okWide_struct Try.underlying25 (hval 1 25 v1 rfl rfl)
  obtain ⟨x0, u0, r0, k0, w0⟩ := param_ok hT ty25 (p := .rcd .disk) (fun _ => rfl) (.inr ⟨rfl, _, e0⟩) h0
  obtain ⟨x1, u1, r1, k1, w1⟩ := param_ok hT ty25 (p := .rcd .disk) (fun _ => rfl) (.inr ⟨rfl, _, e1⟩) h1
  clear hA0 hval0
  simp only [List.append_nil] at hW'
  have hlt0 : ∀ x ∈ p0, x.block < W.heap.size := fun x hx => hW'.lt x (by simp [hx])
  have hlt1 : ∀ x ∈ p1, x.block < W.heap.size := fun x hx => hW'.lt x (by simp [hx])
  refine (law_calls (us := [u0, u1]) (vals := #[v0, v1]) rfl (fun i u v hu hv => ?_) (law3 r0 r1 (plain_readsWhole (wf_disk w0).1 (wf_disk w1).1 (wf_disk w0).2 (wf_disk w1).2))).mono fun e W' ⟨he, bel⟩ => ?_
  · match i with
    | 0 => simp at hu hv; subst hu; subst hv; exact k0
    | 1 => simp at hu hv; subst hu; subst hv; exact k1
    | i + 2 => simp at hu
  subst he
  refine ⟨_, rfl, ⟨_, _, _, [], p0 ++ p1, [], hW', ?_, ?_, rfl, bel.frame _, fun h => by cases h⟩⟩
  · exact trodAll_mk1 (p := []) (shut_bool Try.underlying4 true)
  · exact trodAll_mk2 (Below.trod laidOut_2 (by kernel_rfl) (of_decide_eq_true (by kernel_rfl)) h0 bel hlt0) (Below.trod laidOut_2 (by kernel_rfl) (of_decide_eq_true (by kernel_rfl)) h1 bel hlt1)
theorem fnExactReadsWhole_holds : Rows.FnExactReadsWholeSaid :=
  OpenClaim.holds_of_wide 3 Try.f3 rfl rfl rfl rfl rfl rfl rfl ⟨rfl, rfl, rfl, rfl, rfl⟩ rfl rfl rfl rfl rfl (by kernel_rfl) Try.func3 (by kernel_rfl)
    (of_decide_eq_true (by kernel_rfl)) (by unfold Func.isWrapper; first | (rw [if_pos (by decide +kernel)]; kernel_rfl) | (rw [if_neg (by decide +kernel)]; exact ⟨rfl, rfl⟩))
    (fun os started H enc _ => readsWhole_lifted os started H enc)
end Go.Proofs.Ytcngfjmfgeckmaa
end
