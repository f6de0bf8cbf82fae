/- What the rows' closing shares: how the arguments are read. Own work. -/
import Derived.Test.YtplkjfnjdekgpaaR2
import Derived.Test.YtplkjfnjdekgpaaLtOpen
namespace Go.Proofs.Ytplkjfnjdekgpaa
open Go Go.ChangeShapes Go.WideShapes Go.ChangeAt Go.RowKit Go.Deep

theorem ownKnob_2 : ownKnob Try.prog.godebug = none := by kernel_rfl
theorem laidOut_2 : laidOutB Try.prog = true := by kernel_rfl

theorem i64_of_wf {a : Int} (h : (Lit.int .i64 a).wf = true) : I64 a := by
  have h1 : IntKind.i64.min = -9223372036854775808 := by rfl
  have h2 : IntKind.i64.max = 9223372036854775807 := by rfl
  simp only [Lit.wf, h1, h2, Bool.and_eq_true, decide_eq_true_eq] at h
  unfold I64
  omega

section
variable {H : Type} {enc : TypeId × Value → H} {W : World} {base : Nat} {spare : Nat → Bool} {held : Bool}

theorem opn_107 : Opn enc Try.prog W base spare held 107 4 ActR := by
  refine opn_struct [intF 2 .i64, intF 2 .i64, intF 2 .i64, intF 2 .i64] Try.underlying107 rfl (by kernel_rfl) (fun f hf => ?_) (fun us hus => ?_)
  · simp only [List.mem_cons, List.not_mem_nil, or_false, or_self] at hf
    subst hf
    exact opnQ_int Try.underlying2 (by kernel_rfl)
  · cases hus with
    | cons h1 t1 => cases t1 with
      | cons h2 t2 => cases t2 with
        | cons h3 t3 => cases t3 with
          | cons h4 t4 =>
            cases t4
            obtain ⟨⟨a, rfl, w1⟩, _⟩ := h1
            obtain ⟨⟨b, rfl, w2⟩, _⟩ := h2
            obtain ⟨⟨c, rfl, w3⟩, _⟩ := h3
            obtain ⟨⟨d, rfl, w4⟩, _⟩ := h4
            exact ⟨⟨a, b, c, d⟩, rfl, i64_of_wf w1, i64_of_wf w2, i64_of_wf w3, i64_of_wf w4⟩

theorem opn_78 : Opn enc Try.prog W base spare held 78 1 ActsR := opn_slice Try.underlying78 (by kernel_rfl) (by omega) opn_107 tyAct_107.lt
theorem opn_28 : Opn enc Try.prog W base spare held 28 1 ActSSR := opn_slice Try.underlying28 (by kernel_rfl) (by omega) opn_78 tyActs_78.lt
end


end Go.Proofs.Ytplkjfnjdekgpaa
