/- How the rows' arguments are read, more. Own work. -/
import Derived.Test.YtplkjfnjdekgpaaR4
import Derived.Test.YtplkjfnjdekgpaaRowAid
namespace Go.Proofs.Ytplkjfnjdekgpaa
open Go Go.ChangeShapes Go.WideShapes Go.ChangeAt Go.RowKit Go.Deep

theorem opn_37 {H : Type} {enc : TypeId × Value → H} {W : World} {base : Nat} {spare : Nat → Bool} {held : Bool} : Opn enc Try.prog W base spare held 37 1 IntsR :=
  opn_slice Try.underlying37 (by kernel_rfl) (by omega) (opn_mono (opn_int Try.underlying2) fun u a h => ⟨a, h.1, i64_of_wf h.2⟩) tyInt_2.lt

end Go.Proofs.Ytplkjfnjdekgpaa
