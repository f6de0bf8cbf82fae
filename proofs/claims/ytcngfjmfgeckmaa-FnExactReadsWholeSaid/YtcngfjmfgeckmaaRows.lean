/-
  No cell of these rows narrows 'for every input' (looked for: loops, veiled, ifaces, maps, wideKeys, modest, calm, conditions, laid).
  DERIVED. THE GIVEN ROWS OF THIS SEAT. 6 by the template 'for every input the law returns true; each argument reads behind the call as it read before'; 0 by the template 'total and deterministic' (their statements: YtcngfjmfgeckmaaTotals.lean).
  GIVEN WITH THE SEED: the statements are not yours to turn. If you find one false, say at which input.
  Laid BY PROGRAM, IN A SANDBOX (cutbox-rows.mjs): the forced cells as the released guide's own fill.sh prints them over the translation 0beaa3dd998fbefd… (all of the seat's roots in one cut). By AI agents, Wed Nov 11 2026. No macro, syntax, notation, axiom, sorry.
-/
import Derived.Test.YtcngfjmfgeckmaaChecked
import GoSem.Claim
import GoSem.ClaimJoined
import GoSem.ClaimMapViews
import Derived.JoinedTies
import Derived.KernelRfl
namespace Go.Proofs.Ytcngfjmfgeckmaa
/- THE CELL 'sum', in the pinned program and in every row, IS THE sha256 OF THE DUMP (.gsa) THAT YtcngfjmfgeckmaaProg.lean LOADS. Nothing in Lean hashes anything: it is a label: what it is worth is what the hold of that sum in a sandbox is worth. -/
noncomputable def Try.pinned : Pinned := { name := "ytcngfjmfgeckmaa", sum := "0beaa3dd998fbefd6909a633b4881a43680268aa103386053343b161160fba7b", checked := Try.checked }
namespace Rows
def none {H : Type} : Left H := { results := [], args := [] }

/-- 'laws.FnExactReadsWhole': WHATEVER THE INPUT: true; the input reads as it did. -/
def fnExactReadsWholeSpec : ChangeSpec := { name := "fnExactReadsWhole", fn := fun _ => fun
  | [d1, d2] => { results := [.lit (.bool true)], args := [d1, d2] }
  | _ => none }
def fnExactReadsWholeRow : OpenClaim := { program := "ytcngfjmfgeckmaa", sum := "0beaa3dd998fbefd6909a633b4881a43680268aa103386053343b161160fba7b", func := "loop.example/g00216/laws.FnExactReadsWhole", spec := "fnExactReadsWhole", unfollowed := true, recurses := true, apart := false }
def FnExactReadsWholeSaid : Prop := fnExactReadsWholeRow.holds Try.pinned (OpenSpec.ofChange fnExactReadsWholeSpec)

/-- ITS FALSE NEIGHBOUR: 'it returns false'. Refute it at one input. -/
def fnExactReadsWholeWrong : ChangeSpec := { name := "fnExactReadsWhole", fn := fun _ => fun
  | [d1, d2] => { results := [.lit (.bool false)], args := [d1, d2] }
  | _ => none }
def FnExactReadsWholeWrongFalsely : Prop := fnExactReadsWholeRow.holds Try.pinned (OpenSpec.ofChange fnExactReadsWholeWrong)

/-- 'laws.FnExactSoundRecs': WHATEVER THE INPUT: true; the input reads as it did. -/
def fnExactSoundRecsSpec : ChangeSpec := { name := "fnExactSoundRecs", fn := fun _ => fun
  | [d] => { results := [.lit (.bool true)], args := [d] }
  | _ => none }
def fnExactSoundRecsRow : OpenClaim := { program := "ytcngfjmfgeckmaa", sum := "0beaa3dd998fbefd6909a633b4881a43680268aa103386053343b161160fba7b", func := "loop.example/g00216/laws.FnExactSoundRecs", spec := "fnExactSoundRecs", inPlace := ["slices.overlaps[loop.example/g00216/impl.Cell]"], unfollowed := true, recurses := true, apart := false }
def FnExactSoundRecsSaid : Prop := fnExactSoundRecsRow.holds Try.pinned (OpenSpec.ofChange fnExactSoundRecsSpec)

/-- ITS FALSE NEIGHBOUR: 'it returns false'. Refute it at one input. -/
def fnExactSoundRecsWrong : ChangeSpec := { name := "fnExactSoundRecs", fn := fun _ => fun
  | [d] => { results := [.lit (.bool false)], args := [d] }
  | _ => none }
def FnExactSoundRecsWrongFalsely : Prop := fnExactSoundRecsRow.holds Try.pinned (OpenSpec.ofChange fnExactSoundRecsWrong)

/-- 'laws.FnExactWinnersOf': WHATEVER THE INPUT: true; the input reads as it did. -/
def fnExactWinnersOfSpec : ChangeSpec := { name := "fnExactWinnersOf", fn := fun _ => fun
  | [d] => { results := [.lit (.bool true)], args := [d] }
  | _ => none }
def fnExactWinnersOfRow : OpenClaim := { program := "ytcngfjmfgeckmaa", sum := "0beaa3dd998fbefd6909a633b4881a43680268aa103386053343b161160fba7b", func := "loop.example/g00216/laws.FnExactWinnersOf", spec := "fnExactWinnersOf", inPlace := ["slices.overlaps[loop.example/g00216/impl.Cell]"], unfollowed := true, recurses := true, apart := false }
def FnExactWinnersOfSaid : Prop := fnExactWinnersOfRow.holds Try.pinned (OpenSpec.ofChange fnExactWinnersOfSpec)

/-- ITS FALSE NEIGHBOUR: 'it returns false'. Refute it at one input. -/
def fnExactWinnersOfWrong : ChangeSpec := { name := "fnExactWinnersOf", fn := fun _ => fun
  | [d] => { results := [.lit (.bool false)], args := [d] }
  | _ => none }
def FnExactWinnersOfWrongFalsely : Prop := fnExactWinnersOfRow.holds Try.pinned (OpenSpec.ofChange fnExactWinnersOfWrong)

/-- 'laws.FnExactLosersOf': WHATEVER THE INPUT: true; the input reads as it did. -/
def fnExactLosersOfSpec : ChangeSpec := { name := "fnExactLosersOf", fn := fun _ => fun
  | [d] => { results := [.lit (.bool true)], args := [d] }
  | _ => none }
def fnExactLosersOfRow : OpenClaim := { program := "ytcngfjmfgeckmaa", sum := "0beaa3dd998fbefd6909a633b4881a43680268aa103386053343b161160fba7b", func := "loop.example/g00216/laws.FnExactLosersOf", spec := "fnExactLosersOf", inPlace := ["slices.overlaps[loop.example/g00216/impl.Cell]"], unfollowed := true, recurses := true, apart := false }
def FnExactLosersOfSaid : Prop := fnExactLosersOfRow.holds Try.pinned (OpenSpec.ofChange fnExactLosersOfSpec)

/-- ITS FALSE NEIGHBOUR: 'it returns false'. Refute it at one input. -/
def fnExactLosersOfWrong : ChangeSpec := { name := "fnExactLosersOf", fn := fun _ => fun
  | [d] => { results := [.lit (.bool false)], args := [d] }
  | _ => none }
def FnExactLosersOfWrongFalsely : Prop := fnExactLosersOfRow.holds Try.pinned (OpenSpec.ofChange fnExactLosersOfWrong)

/-- 'laws.FnExactCommittedMap': WHATEVER THE INPUT: true; the input reads as it did. -/
def fnExactCommittedMapSpec : ChangeSpec := { name := "fnExactCommittedMap", fn := fun _ => fun
  | [d] => { results := [.lit (.bool true)], args := [d] }
  | _ => none }
def fnExactCommittedMapRow : OpenClaim := { program := "ytcngfjmfgeckmaa", sum := "0beaa3dd998fbefd6909a633b4881a43680268aa103386053343b161160fba7b", func := "loop.example/g00216/laws.FnExactCommittedMap", spec := "fnExactCommittedMap", inPlace := ["slices.overlaps[loop.example/g00216/impl.Cell]"], unfollowed := true, recurses := true, apart := false }
def FnExactCommittedMapSaid : Prop := fnExactCommittedMapRow.holds Try.pinned (OpenSpec.ofChange fnExactCommittedMapSpec)

/-- ITS FALSE NEIGHBOUR: 'it returns false'. Refute it at one input. -/
def fnExactCommittedMapWrong : ChangeSpec := { name := "fnExactCommittedMap", fn := fun _ => fun
  | [d] => { results := [.lit (.bool false)], args := [d] }
  | _ => none }
def FnExactCommittedMapWrongFalsely : Prop := fnExactCommittedMapRow.holds Try.pinned (OpenSpec.ofChange fnExactCommittedMapWrong)

/-- 'laws.FnExactUndoneOf': WHATEVER THE INPUT: true; the input reads as it did. -/
def fnExactUndoneOfSpec : ChangeSpec := { name := "fnExactUndoneOf", fn := fun _ => fun
  | [d] => { results := [.lit (.bool true)], args := [d] }
  | _ => none }
def fnExactUndoneOfRow : OpenClaim := { program := "ytcngfjmfgeckmaa", sum := "0beaa3dd998fbefd6909a633b4881a43680268aa103386053343b161160fba7b", func := "loop.example/g00216/laws.FnExactUndoneOf", spec := "fnExactUndoneOf", inPlace := ["slices.overlaps[loop.example/g00216/impl.Cell]"], unfollowed := true, recurses := true, apart := false }
def FnExactUndoneOfSaid : Prop := fnExactUndoneOfRow.holds Try.pinned (OpenSpec.ofChange fnExactUndoneOfSpec)

/-- ITS FALSE NEIGHBOUR: 'it returns false'. Refute it at one input. -/
def fnExactUndoneOfWrong : ChangeSpec := { name := "fnExactUndoneOf", fn := fun _ => fun
  | [d] => { results := [.lit (.bool false)], args := [d] }
  | _ => none }
def FnExactUndoneOfWrongFalsely : Prop := fnExactUndoneOfRow.holds Try.pinned (OpenSpec.ofChange fnExactUndoneOfWrong)

/- THE SECOND FORM. 'bulk': how many values and letters a reading holds, each counted each time it is reached (what is shared counts as often as it is met; a slice's spare places count too). A statement '..UptoSaid' is the law's where the arguments, and the package variables that the reading takes, are together of bulk at most 1048576: NARROWER than '..Said'. Prove '..Said' where nothing that the law and all that it calls make is longer than what came in: it says more and counts as full. Else prove '..UptoSaid'. A law counts once. -/
mutual
def uptoBulk {H : Type} : DataW H → Nat
  | .lit (.string bytes) => bytes.length + 1
  | .lit _ => 1
  | .nil => 1
  | .ptr d => uptoBulk d + 1
  | .slice elems spare => uptoBulkAll elems + uptoBulkAll spare + 1
  | .agg parts => uptoBulkAll parts + 1
  | .iface _ d => uptoBulk d + 1
  | .map entries => uptoBulkEntries entries + 1
  | .held _ => 1
def uptoBulkAll {H : Type} : List (DataW H) → Nat
  | [] => 0
  | d :: r => uptoBulk d + uptoBulkAll r
def uptoBulkEntries {H : Type} : List (Lit × DataW H) → Nat
  | [] => 0
  | x :: r => uptoBulkEntry x + uptoBulkEntries r
def uptoBulkEntry {H : Type} : Lit × DataW H → Nat
  | (.string bytes, d) => bytes.length + uptoBulk d + 1
  | (_, d) => uptoBulk d + 1
 end
def uptoSmall : (H : Type) → List (DataW H) → Bool := fun _ ds => decide (uptoBulkAll ds ≤ 1048576)
def OpenSpec.upto (s : _root_.Go.ChangeSpec) : _root_.Go.OpenSpec := { _root_.Go.OpenSpec.ofChange s with cond := some uptoSmall }

/-- 'laws.FnExactReadsWhole', WHERE WHAT IT READS IS OF BULK AT MOST 1048576: true; the input reads as it did. -/
def fnExactReadsWholeUptoRow : OpenClaim := { program := "ytcngfjmfgeckmaa", sum := "0beaa3dd998fbefd6909a633b4881a43680268aa103386053343b161160fba7b", func := "loop.example/g00216/laws.FnExactReadsWhole", spec := "fnExactReadsWhole", unfollowed := true, recurses := true, apart := false, narrowed := true }
def FnExactReadsWholeUptoSaid : Prop := fnExactReadsWholeUptoRow.holds Try.pinned (OpenSpec.upto fnExactReadsWholeSpec)

/-- 'laws.FnExactSoundRecs', WHERE WHAT IT READS IS OF BULK AT MOST 1048576: true; the input reads as it did. -/
def fnExactSoundRecsUptoRow : OpenClaim := { program := "ytcngfjmfgeckmaa", sum := "0beaa3dd998fbefd6909a633b4881a43680268aa103386053343b161160fba7b", func := "loop.example/g00216/laws.FnExactSoundRecs", spec := "fnExactSoundRecs", inPlace := ["slices.overlaps[loop.example/g00216/impl.Cell]"], unfollowed := true, recurses := true, apart := false, narrowed := true }
def FnExactSoundRecsUptoSaid : Prop := fnExactSoundRecsUptoRow.holds Try.pinned (OpenSpec.upto fnExactSoundRecsSpec)

/-- 'laws.FnExactWinnersOf', WHERE WHAT IT READS IS OF BULK AT MOST 1048576: true; the input reads as it did. -/
def fnExactWinnersOfUptoRow : OpenClaim := { program := "ytcngfjmfgeckmaa", sum := "0beaa3dd998fbefd6909a633b4881a43680268aa103386053343b161160fba7b", func := "loop.example/g00216/laws.FnExactWinnersOf", spec := "fnExactWinnersOf", inPlace := ["slices.overlaps[loop.example/g00216/impl.Cell]"], unfollowed := true, recurses := true, apart := false, narrowed := true }
def FnExactWinnersOfUptoSaid : Prop := fnExactWinnersOfUptoRow.holds Try.pinned (OpenSpec.upto fnExactWinnersOfSpec)

/-- 'laws.FnExactLosersOf', WHERE WHAT IT READS IS OF BULK AT MOST 1048576: true; the input reads as it did. -/
def fnExactLosersOfUptoRow : OpenClaim := { program := "ytcngfjmfgeckmaa", sum := "0beaa3dd998fbefd6909a633b4881a43680268aa103386053343b161160fba7b", func := "loop.example/g00216/laws.FnExactLosersOf", spec := "fnExactLosersOf", inPlace := ["slices.overlaps[loop.example/g00216/impl.Cell]"], unfollowed := true, recurses := true, apart := false, narrowed := true }
def FnExactLosersOfUptoSaid : Prop := fnExactLosersOfUptoRow.holds Try.pinned (OpenSpec.upto fnExactLosersOfSpec)

/-- 'laws.FnExactCommittedMap', WHERE WHAT IT READS IS OF BULK AT MOST 1048576: true; the input reads as it did. -/
def fnExactCommittedMapUptoRow : OpenClaim := { program := "ytcngfjmfgeckmaa", sum := "0beaa3dd998fbefd6909a633b4881a43680268aa103386053343b161160fba7b", func := "loop.example/g00216/laws.FnExactCommittedMap", spec := "fnExactCommittedMap", inPlace := ["slices.overlaps[loop.example/g00216/impl.Cell]"], unfollowed := true, recurses := true, apart := false, narrowed := true }
def FnExactCommittedMapUptoSaid : Prop := fnExactCommittedMapUptoRow.holds Try.pinned (OpenSpec.upto fnExactCommittedMapSpec)

/-- 'laws.FnExactUndoneOf', WHERE WHAT IT READS IS OF BULK AT MOST 1048576: true; the input reads as it did. -/
def fnExactUndoneOfUptoRow : OpenClaim := { program := "ytcngfjmfgeckmaa", sum := "0beaa3dd998fbefd6909a633b4881a43680268aa103386053343b161160fba7b", func := "loop.example/g00216/laws.FnExactUndoneOf", spec := "fnExactUndoneOf", inPlace := ["slices.overlaps[loop.example/g00216/impl.Cell]"], unfollowed := true, recurses := true, apart := false, narrowed := true }
def FnExactUndoneOfUptoSaid : Prop := fnExactUndoneOfUptoRow.holds Try.pinned (OpenSpec.upto fnExactUndoneOfSpec)

end Rows
end Go.Proofs.Ytcngfjmfgeckmaa
