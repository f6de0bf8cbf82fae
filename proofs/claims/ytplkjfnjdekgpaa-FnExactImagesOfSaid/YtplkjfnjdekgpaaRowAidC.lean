/- How the rows' arguments are read: bytes, disks. Own work. -/
import Derived.Test.YtplkjfnjdekgpaaR15
import Derived.Test.YtplkjfnjdekgpaaRowAid
namespace Go.Proofs.Ytplkjfnjdekgpaa
open Go Go.ChangeShapes Go.WideShapes Go.ChangeAt Go.RowKit Go.Deep

theorem u8_of_wf {a : Int} (h : (Lit.int .u8 a).wf = true) : U8 a := by
  have h1 : IntKind.u8.min = 0 := by rfl
  have h2 : IntKind.u8.max = 255 := by rfl
  simp only [Lit.wf, h1, h2, Bool.and_eq_true, decide_eq_true_eq] at h
  exact h

def anyF {α : Type} (t : TypeId) (R : AV → α → Prop) : Fld := ⟨t, 1, fun e => ∃ a, R e a⟩

section
variable {H : Type} {enc : TypeId × Value → H} {W : World} {base : Nat} {spare : Nat → Bool} {held : Bool}

theorem opnQ_any {P : Program} {α : Type} {t : TypeId} {R : AV → α → Prop} (hc : P.cellsOf t = 1) (ho : Opn enc P W base spare held t 1 R) : OpnQ enc P W base spare held (anyF t R) := ⟨hc, opn_mono ho fun _ a h => ⟨(), a, h⟩⟩

theorem opn_113 : Opn enc Try.prog W base spare held 113 1 ByteSR := opn_slice Try.underlying113 (by kernel_rfl) (by omega) (opn_mono (opn_int Try.underlying5) fun _ a h => ⟨a, h.1, u8_of_wf h.2⟩) tyByte_5.lt
theorem opn_55 : Opn enc Try.prog W base spare held 55 1 ByteSSR := opn_slice Try.underlying55 (by kernel_rfl) (by omega) opn_113 tyByteS_113.lt
theorem opn_116 : Opn enc Try.prog W base spare held 116 3 LooseR := by
  refine opn_struct [intF 2 .i64, intF 2 .i64, anyF 113 ByteSR] Try.underlying116 rfl (by kernel_rfl) (fun f hf => ?_) (fun us hus => ?_)
  · simp only [List.mem_cons, List.not_mem_nil, or_false] at hf
    rcases hf with rfl | rfl | rfl
    · exact opnQ_int Try.underlying2 (by kernel_rfl)
    · exact opnQ_int Try.underlying2 (by kernel_rfl)
    · exact opnQ_any (by kernel_rfl) opn_113
  · cases hus with
    | cons h1 t1 => cases t1 with
      | cons h2 t2 => cases t2 with
        | cons h3 t3 =>
          cases t3
          obtain ⟨⟨a, rfl, w1⟩, _⟩ := h1
          obtain ⟨⟨b, rfl, w2⟩, _⟩ := h2
          obtain ⟨⟨c, hc⟩, _⟩ := h3
          refine ⟨⟨a, b, c⟩, _, ?_, i64_of_wf w1, i64_of_wf w2, hc⟩
          simp only [List.flatMap_cons, List.flatMap_nil, AV.cells_int, one_cells hc.isOne]
          rfl
theorem opn_56 : Opn enc Try.prog W base spare held 56 1 LooseSR := opn_slice Try.underlying56 (by kernel_rfl) (by omega) opn_116 tyLoose_116.lt
theorem opn_58 : Opn enc Try.prog W base spare held 58 2 DiskR := by
  refine opn_struct [anyF 55 ByteSSR, anyF 56 LooseSR] Try.underlying58 rfl (by kernel_rfl) (fun f hf => ?_) (fun us hus => ?_)
  · simp only [List.mem_cons, List.not_mem_nil, or_false] at hf
    rcases hf with rfl | rfl
    · exact opnQ_any (by kernel_rfl) opn_55
    · exact opnQ_any (by kernel_rfl) opn_56
  · cases hus with
    | cons h1 t1 => cases t1 with
      | cons h2 t2 =>
        cases t2
        obtain ⟨⟨a, ha⟩, _⟩ := h1
        obtain ⟨⟨b, hb⟩, _⟩ := h2
        refine ⟨⟨a, b⟩, _, _, ?_, ha, hb⟩
        simp only [List.flatMap_cons, List.flatMap_nil, one_cells ha.isOne, one_cells hb.isOne]
        rfl
end
end Go.Proofs.Ytplkjfnjdekgpaa
