/- laws.FnExactSessionsFault returns true for every input, and its argument reads afterwards as it read before. No condition. Own work. -/
import Derived.Test.YtplkjfnjdekgpaaR2b
import Derived.Test.YtplkjfnjdekgpaaLtOpen
import Derived.Test.YtplkjfnjdekgpaaRows
namespace Go.Proofs.Ytplkjfnjdekgpaa
open Go Go.ChangeShapes Go.WideShapes Go.ChangeAt Go.RowKit Go.Deep

theorem ownKnob_2 : ownKnob Try.prog.godebug = none := by kernel_rfl
theorem laidOut_2 : laidOutB Try.prog = true := by kernel_rfl

theorem i64_of_wf {a : Int} (h : (Lit.int .i64 a).wf = true) : I64 a := by
  have h1 : IntKind.i64.min = -9223372036854775808 := by rfl
  have h2 : IntKind.i64.max = 9223372036854775807 := by rfl
  simp only [Lit.wf, h1, h2, Bool.and_eq_true, decide_eq_true_eq] at h
  unfold I64
  omega

section
variable {H : Type} {enc : TypeId × Value → H} {W : World} {base : Nat} {spare : Nat → Bool} {held : Bool}

theorem opn_107 : Opn enc Try.prog W base spare held 107 4 ActR := by
  refine opn_struct [intF 2 .i64, intF 2 .i64, intF 2 .i64, intF 2 .i64] Try.underlying107 rfl (by kernel_rfl) (fun f hf => ?_) (fun us hus => ?_)
  · simp only [List.mem_cons, List.not_mem_nil, or_false, or_self] at hf
    subst hf
    exact opnQ_int Try.underlying2 (by kernel_rfl)
  · cases hus with
    | cons h1 t1 => cases t1 with
      | cons h2 t2 => cases t2 with
        | cons h3 t3 => cases t3 with
          | cons h4 t4 =>
            cases t4
            obtain ⟨⟨a, rfl, w1⟩, _⟩ := h1
            obtain ⟨⟨b, rfl, w2⟩, _⟩ := h2
            obtain ⟨⟨c, rfl, w3⟩, _⟩ := h3
            obtain ⟨⟨d, rfl, w4⟩, _⟩ := h4
            exact ⟨⟨a, b, c, d⟩, rfl, i64_of_wf w1, i64_of_wf w2, i64_of_wf w3, i64_of_wf w4⟩

theorem opn_78 : Opn enc Try.prog W base spare held 78 1 ActsR := opn_slice Try.underlying78 (by kernel_rfl) (by omega) opn_107 tyAct_107.lt
theorem opn_28 : Opn enc Try.prog W base spare held 28 1 ActSSR := opn_slice Try.underlying28 (by kernel_rfl) (by omega) opn_78 tyActs_78.lt
end

set_option maxRecDepth 100000 in
theorem sessionsFault_lifted (os : Os) (started : os.Started) (H : Type) (enc : TypeId × Value → H) :
    ReturnsInHanded {} Try.checked os 4 .any (Rows.fnExactSessionsFaultSpec.pre6 enc Try.prog Try.f4 Rows.fnExactSessionsFaultRow.domain false) (Rows.fnExactSessionsFaultSpec.post enc Try.prog Try.f4 false true false false) := by
  refine returnsInHanded_of_change (C := Try.checked) ownKnob_2 started (by kernel_rfl) Try.func4
    (ChangeSpec.witness6 (enc := enc) (C := Try.checked) false ⟨#[], #[.slice .none 0 0], []⟩ 8 (by kernel_rfl) (by kernel_rfl) (by kernel_rfl) (by kernel_rfl)) ?_
  intro W base args ds gs before hval0 hW hcnd _
  have hval : ∀ (j : Nat) t v, Try.f4.params[j]? = some t → args[j]? = some v → Value.okWide Try.prog W .any base t v := hval0
  have hW' := hW
  obtain ⟨p, q, hA0, hV, rfl, hfz, hnd⟩ := hW
  have hA : DataW.TrodAll enc Try.prog W 0 (fun _ => true) true Try.f4.params.toList args.toList ds p := hA0
  rw [Try.params4] at hA hval
  obtain ⟨v0, d0, rfl, rfl, h0⟩ := trodAll_one hA
  obtain ⟨rfl, rfl⟩ := trodVars_none hV
  obtain ⟨a0, len0, cap0, e0⟩ := okWide_slice Try.underlying28 (hval 0 28 v0 rfl rfl)
  obtain ⟨u0, l0, r0, k0⟩ := param_one opn_28 (fun u a h => h.one) (by rw [e0]; rfl) h0
  clear hA0 hval0
  simp only [List.append_nil] at hW'
  have hlt0 : ∀ x ∈ p, x.block < W.heap.size := fun x hx => hW'.lt x (by simp [hx])
  refine (law_calls (us := [u0]) (vals := #[v0]) rfl (fun i u v hu hv => ?_) (c4 r0 rfl)).mono fun e W' ⟨he, bel⟩ => ?_
  · match i with
    | 0 => simp at hu hv; subst hu; subst hv; exact k0
    | i + 1 => simp at hu
  subst he
  refine ⟨_, rfl, ⟨_, _, _, [], p, [], hW', ?_, ?_, rfl, bel.frame _, fun h => by cases h⟩⟩
  · exact trodAll_mk1 (p := []) (shut_bool Try.underlying4 true)
  · exact trodAll_mk1 (Below.trod laidOut_2 (by kernel_rfl) (of_decide_eq_true (by kernel_rfl)) h0 bel hlt0)

theorem fnExactSessionsFault_holds : Rows.FnExactSessionsFaultSaid :=
  OpenClaim.holds_of_wide 4 Try.f4 rfl rfl rfl rfl rfl rfl rfl ⟨rfl, rfl, rfl, rfl, rfl⟩ rfl rfl rfl rfl rfl (by kernel_rfl) Try.func4 (by kernel_rfl)
    (of_decide_eq_true (by kernel_rfl)) (by unfold Func.isWrapper; first | (rw [if_pos (by decide +kernel)]; kernel_rfl) | (rw [if_neg (by decide +kernel)]; exact ⟨rfl, rfl⟩))
    (fun os started H enc _ => sessionsFault_lifted os started H enc)

end Go.Proofs.Ytplkjfnjdekgpaa
