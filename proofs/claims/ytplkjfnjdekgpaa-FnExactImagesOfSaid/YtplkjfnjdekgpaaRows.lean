/-
  No cell of these rows narrows 'for every input' (looked for: loops, veiled, ifaces, maps, wideKeys, modest, calm, conditions, laid).
  DERIVED. THE GIVEN ROWS OF THIS SEAT. 6 by the template 'for every input the law returns true; each argument reads behind the call as it read before'; 0 by the template 'total and deterministic' (their statements: YtplkjfnjdekgpaaTotals.lean).
  GIVEN WITH THE SEED: the statements are not yours to turn. If you find one false, say at which input.
  Laid BY PROGRAM, IN A SANDBOX (cutbox-rows.mjs): the forced cells as the released guide's own fill.sh prints them over the translation 9887b8c44ac76e05… (all of the seat's roots in one cut). By AI agents, Wed Nov 11 2026. No macro, syntax, notation, axiom, sorry.
-/
import Derived.Test.YtplkjfnjdekgpaaChecked
import GoSem.Claim
import GoSem.ClaimJoined
import GoSem.ClaimMapViews
import Derived.JoinedTies
import Derived.KernelRfl
namespace Go.Proofs.Ytplkjfnjdekgpaa
/- THE CELL 'sum', in the pinned program and in every row, IS THE sha256 OF THE DUMP (.gsa) THAT YtplkjfnjdekgpaaProg.lean LOADS. Nothing in Lean hashes anything: it is a label: what it is worth is what the hold of that sum in a sandbox is worth. -/
noncomputable def Try.pinned : Pinned := { name := "ytplkjfnjdekgpaa", sum := "9887b8c44ac76e05e7664bcd8a3fdbc19dc029c9721a30a2a5ca2356f04e5603", checked := Try.checked }
namespace Rows
def none {H : Type} : Left H := { results := [], args := [] }

/-- 'laws.FnExactSameCells': WHATEVER THE INPUT: true; the input reads as it did. -/
def fnExactSameCellsSpec : ChangeSpec := { name := "fnExactSameCells", fn := fun _ => fun
  | [d1, d2] => { results := [.lit (.bool true)], args := [d1, d2] }
  | _ => none }
def fnExactSameCellsRow : OpenClaim := { program := "ytplkjfnjdekgpaa", sum := "9887b8c44ac76e05e7664bcd8a3fdbc19dc029c9721a30a2a5ca2356f04e5603", func := "loop.example/g00216/laws.FnExactSameCells", spec := "fnExactSameCells", apart := false }
def FnExactSameCellsSaid : Prop := fnExactSameCellsRow.holds Try.pinned (OpenSpec.ofChange fnExactSameCellsSpec)

/-- ITS FALSE NEIGHBOUR: 'it returns false'. Refute it at one input. -/
def fnExactSameCellsWrong : ChangeSpec := { name := "fnExactSameCells", fn := fun _ => fun
  | [d1, d2] => { results := [.lit (.bool false)], args := [d1, d2] }
  | _ => none }
def FnExactSameCellsWrongFalsely : Prop := fnExactSameCellsRow.holds Try.pinned (OpenSpec.ofChange fnExactSameCellsWrong)

/-- 'laws.FnExactSessionsFault': WHATEVER THE INPUT: true; the input reads as it did. -/
def fnExactSessionsFaultSpec : ChangeSpec := { name := "fnExactSessionsFault", fn := fun _ => fun
  | [d] => { results := [.lit (.bool true)], args := [d] }
  | _ => none }
def fnExactSessionsFaultRow : OpenClaim := { program := "ytplkjfnjdekgpaa", sum := "9887b8c44ac76e05e7664bcd8a3fdbc19dc029c9721a30a2a5ca2356f04e5603", func := "loop.example/g00216/laws.FnExactSessionsFault", spec := "fnExactSessionsFault", unfollowed := true, recurses := true, apart := false }
def FnExactSessionsFaultSaid : Prop := fnExactSessionsFaultRow.holds Try.pinned (OpenSpec.ofChange fnExactSessionsFaultSpec)

/-- ITS FALSE NEIGHBOUR: 'it returns false'. Refute it at one input. -/
def fnExactSessionsFaultWrong : ChangeSpec := { name := "fnExactSessionsFault", fn := fun _ => fun
  | [d] => { results := [.lit (.bool false)], args := [d] }
  | _ => none }
def FnExactSessionsFaultWrongFalsely : Prop := fnExactSessionsFaultRow.holds Try.pinned (OpenSpec.ofChange fnExactSessionsFaultWrong)

/-- 'laws.FnExactOnlyReads': WHATEVER THE INPUT: true; the input reads as it did. -/
def fnExactOnlyReadsSpec : ChangeSpec := { name := "fnExactOnlyReads", fn := fun _ => fun
  | [d1, d2] => { results := [.lit (.bool true)], args := [d1, d2] }
  | _ => none }
def fnExactOnlyReadsRow : OpenClaim := { program := "ytplkjfnjdekgpaa", sum := "9887b8c44ac76e05e7664bcd8a3fdbc19dc029c9721a30a2a5ca2356f04e5603", func := "loop.example/g00216/laws.FnExactOnlyReads", spec := "fnExactOnlyReads", unfollowed := true, recurses := true, apart := false }
def FnExactOnlyReadsSaid : Prop := fnExactOnlyReadsRow.holds Try.pinned (OpenSpec.ofChange fnExactOnlyReadsSpec)

/-- ITS FALSE NEIGHBOUR: 'it returns false'. Refute it at one input. -/
def fnExactOnlyReadsWrong : ChangeSpec := { name := "fnExactOnlyReads", fn := fun _ => fun
  | [d1, d2] => { results := [.lit (.bool false)], args := [d1, d2] }
  | _ => none }
def FnExactOnlyReadsWrongFalsely : Prop := fnExactOnlyReadsRow.holds Try.pinned (OpenSpec.ofChange fnExactOnlyReadsWrong)

/-- 'laws.FnExactMergeActs': WHATEVER THE INPUT: true; the input reads as it did. -/
def fnExactMergeActsSpec : ChangeSpec := { name := "fnExactMergeActs", fn := fun _ => fun
  | [d1, d2] => { results := [.lit (.bool true)], args := [d1, d2] }
  | _ => none }
def fnExactMergeActsRow : OpenClaim := { program := "ytplkjfnjdekgpaa", sum := "9887b8c44ac76e05e7664bcd8a3fdbc19dc029c9721a30a2a5ca2356f04e5603", func := "loop.example/g00216/laws.FnExactMergeActs", spec := "fnExactMergeActs", unfollowed := true, recurses := true, apart := false }
def FnExactMergeActsSaid : Prop := fnExactMergeActsRow.holds Try.pinned (OpenSpec.ofChange fnExactMergeActsSpec)

/-- ITS FALSE NEIGHBOUR: 'it returns false'. Refute it at one input. -/
def fnExactMergeActsWrong : ChangeSpec := { name := "fnExactMergeActs", fn := fun _ => fun
  | [d1, d2] => { results := [.lit (.bool false)], args := [d1, d2] }
  | _ => none }
def FnExactMergeActsWrongFalsely : Prop := fnExactMergeActsRow.holds Try.pinned (OpenSpec.ofChange fnExactMergeActsWrong)

/-- 'laws.FnExactEarlyPicks': WHATEVER THE INPUT: true; the input reads as it did. -/
def fnExactEarlyPicksSpec : ChangeSpec := { name := "fnExactEarlyPicks", fn := fun _ => fun
  | [d1, d2, d3] => { results := [.lit (.bool true)], args := [d1, d2, d3] }
  | _ => none }
def fnExactEarlyPicksRow : OpenClaim := { program := "ytplkjfnjdekgpaa", sum := "9887b8c44ac76e05e7664bcd8a3fdbc19dc029c9721a30a2a5ca2356f04e5603", func := "loop.example/g00216/laws.FnExactEarlyPicks", spec := "fnExactEarlyPicks", unfollowed := true, recurses := true, apart := false }
def FnExactEarlyPicksSaid : Prop := fnExactEarlyPicksRow.holds Try.pinned (OpenSpec.ofChange fnExactEarlyPicksSpec)

/-- ITS FALSE NEIGHBOUR: 'it returns false'. Refute it at one input. -/
def fnExactEarlyPicksWrong : ChangeSpec := { name := "fnExactEarlyPicks", fn := fun _ => fun
  | [d1, d2, d3] => { results := [.lit (.bool false)], args := [d1, d2, d3] }
  | _ => none }
def FnExactEarlyPicksWrongFalsely : Prop := fnExactEarlyPicksRow.holds Try.pinned (OpenSpec.ofChange fnExactEarlyPicksWrong)

/-- 'laws.FnExactImagesOf': WHATEVER THE INPUT: true; the input reads as it did. -/
def fnExactImagesOfSpec : ChangeSpec := { name := "fnExactImagesOf", fn := fun _ => fun
  | [d1, d2] => { results := [.lit (.bool true)], args := [d1, d2] }
  | _ => none }
def fnExactImagesOfRow : OpenClaim := { program := "ytplkjfnjdekgpaa", sum := "9887b8c44ac76e05e7664bcd8a3fdbc19dc029c9721a30a2a5ca2356f04e5603", func := "loop.example/g00216/laws.FnExactImagesOf", spec := "fnExactImagesOf", unfollowed := true, recurses := true, apart := false }
def FnExactImagesOfSaid : Prop := fnExactImagesOfRow.holds Try.pinned (OpenSpec.ofChange fnExactImagesOfSpec)

/-- ITS FALSE NEIGHBOUR: 'it returns false'. Refute it at one input. -/
def fnExactImagesOfWrong : ChangeSpec := { name := "fnExactImagesOf", fn := fun _ => fun
  | [d1, d2] => { results := [.lit (.bool false)], args := [d1, d2] }
  | _ => none }
def FnExactImagesOfWrongFalsely : Prop := fnExactImagesOfRow.holds Try.pinned (OpenSpec.ofChange fnExactImagesOfWrong)

/- THE SECOND FORM. 'bulk': how many values and letters a reading holds, each counted each time it is reached (what is shared counts as often as it is met; a slice's spare places count too). A statement '..UptoSaid' is the law's where the arguments, and the package variables that the reading takes, are together of bulk at most 1048576: NARROWER than '..Said'. Prove '..Said' where nothing that the law and all that it calls make is longer than what came in: it says more and counts as full. Else prove '..UptoSaid'. A law counts once. -/
mutual
def uptoBulk {H : Type} : DataW H → Nat
  | .lit (.string bytes) => bytes.length + 1
  | .lit _ => 1
  | .nil => 1
  | .ptr d => uptoBulk d + 1
  | .slice elems spare => uptoBulkAll elems + uptoBulkAll spare + 1
  | .agg parts => uptoBulkAll parts + 1
  | .iface _ d => uptoBulk d + 1
  | .map entries => uptoBulkEntries entries + 1
  | .held _ => 1
def uptoBulkAll {H : Type} : List (DataW H) → Nat
  | [] => 0
  | d :: r => uptoBulk d + uptoBulkAll r
def uptoBulkEntries {H : Type} : List (Lit × DataW H) → Nat
  | [] => 0
  | x :: r => uptoBulkEntry x + uptoBulkEntries r
def uptoBulkEntry {H : Type} : Lit × DataW H → Nat
  | (.string bytes, d) => bytes.length + uptoBulk d + 1
  | (_, d) => uptoBulk d + 1
 end
def uptoSmall : (H : Type) → List (DataW H) → Bool := fun _ ds => decide (uptoBulkAll ds ≤ 1048576)
def OpenSpec.upto (s : _root_.Go.ChangeSpec) : _root_.Go.OpenSpec := { _root_.Go.OpenSpec.ofChange s with cond := some uptoSmall }

/-- 'laws.FnExactSameCells', WHERE WHAT IT READS IS OF BULK AT MOST 1048576: true; the input reads as it did. -/
def fnExactSameCellsUptoRow : OpenClaim := { program := "ytplkjfnjdekgpaa", sum := "9887b8c44ac76e05e7664bcd8a3fdbc19dc029c9721a30a2a5ca2356f04e5603", func := "loop.example/g00216/laws.FnExactSameCells", spec := "fnExactSameCells", apart := false, narrowed := true }
def FnExactSameCellsUptoSaid : Prop := fnExactSameCellsUptoRow.holds Try.pinned (OpenSpec.upto fnExactSameCellsSpec)

/-- 'laws.FnExactSessionsFault', WHERE WHAT IT READS IS OF BULK AT MOST 1048576: true; the input reads as it did. -/
def fnExactSessionsFaultUptoRow : OpenClaim := { program := "ytplkjfnjdekgpaa", sum := "9887b8c44ac76e05e7664bcd8a3fdbc19dc029c9721a30a2a5ca2356f04e5603", func := "loop.example/g00216/laws.FnExactSessionsFault", spec := "fnExactSessionsFault", unfollowed := true, recurses := true, apart := false, narrowed := true }
def FnExactSessionsFaultUptoSaid : Prop := fnExactSessionsFaultUptoRow.holds Try.pinned (OpenSpec.upto fnExactSessionsFaultSpec)

/-- 'laws.FnExactOnlyReads', WHERE WHAT IT READS IS OF BULK AT MOST 1048576: true; the input reads as it did. -/
def fnExactOnlyReadsUptoRow : OpenClaim := { program := "ytplkjfnjdekgpaa", sum := "9887b8c44ac76e05e7664bcd8a3fdbc19dc029c9721a30a2a5ca2356f04e5603", func := "loop.example/g00216/laws.FnExactOnlyReads", spec := "fnExactOnlyReads", unfollowed := true, recurses := true, apart := false, narrowed := true }
def FnExactOnlyReadsUptoSaid : Prop := fnExactOnlyReadsUptoRow.holds Try.pinned (OpenSpec.upto fnExactOnlyReadsSpec)

/-- 'laws.FnExactMergeActs', WHERE WHAT IT READS IS OF BULK AT MOST 1048576: true; the input reads as it did. -/
def fnExactMergeActsUptoRow : OpenClaim := { program := "ytplkjfnjdekgpaa", sum := "9887b8c44ac76e05e7664bcd8a3fdbc19dc029c9721a30a2a5ca2356f04e5603", func := "loop.example/g00216/laws.FnExactMergeActs", spec := "fnExactMergeActs", unfollowed := true, recurses := true, apart := false, narrowed := true }
def FnExactMergeActsUptoSaid : Prop := fnExactMergeActsUptoRow.holds Try.pinned (OpenSpec.upto fnExactMergeActsSpec)

/-- 'laws.FnExactEarlyPicks', WHERE WHAT IT READS IS OF BULK AT MOST 1048576: true; the input reads as it did. -/
def fnExactEarlyPicksUptoRow : OpenClaim := { program := "ytplkjfnjdekgpaa", sum := "9887b8c44ac76e05e7664bcd8a3fdbc19dc029c9721a30a2a5ca2356f04e5603", func := "loop.example/g00216/laws.FnExactEarlyPicks", spec := "fnExactEarlyPicks", unfollowed := true, recurses := true, apart := false, narrowed := true }
def FnExactEarlyPicksUptoSaid : Prop := fnExactEarlyPicksUptoRow.holds Try.pinned (OpenSpec.upto fnExactEarlyPicksSpec)

/-- 'laws.FnExactImagesOf', WHERE WHAT IT READS IS OF BULK AT MOST 1048576: true; the input reads as it did. -/
def fnExactImagesOfUptoRow : OpenClaim := { program := "ytplkjfnjdekgpaa", sum := "9887b8c44ac76e05e7664bcd8a3fdbc19dc029c9721a30a2a5ca2356f04e5603", func := "loop.example/g00216/laws.FnExactImagesOf", spec := "fnExactImagesOf", unfollowed := true, recurses := true, apart := false, narrowed := true }
def FnExactImagesOfUptoSaid : Prop := fnExactImagesOfUptoRow.holds Try.pinned (OpenSpec.upto fnExactImagesOfSpec)

end Rows
end Go.Proofs.Ytplkjfnjdekgpaa
