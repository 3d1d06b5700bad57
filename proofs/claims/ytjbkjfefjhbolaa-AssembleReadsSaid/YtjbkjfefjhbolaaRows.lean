/-
  No cell of these rows narrows 'for every input' (looked for: loops, veiled, ifaces, maps, wideKeys, modest, calm, conditions, laid).
  DERIVED. THE GIVEN ROWS OF THIS SEAT. 7 by the template 'for every input the law returns true; each argument reads behind the call as it read before'; 0 by the template 'total and deterministic' (their statements: YtjbkjfefjhbolaaTotals.lean).
  GIVEN WITH THE SEED: the statements are not yours to turn. If you find one false, say at which input.
  Laid BY PROGRAM, IN A SANDBOX (cutbox-rows.mjs): the forced cells as the released guide's own fill.sh prints them over the translation de41325149155e2d… (all of the seat's roots in one cut). By AI agents, Wed Nov 11 2026. No macro, syntax, notation, axiom, sorry.
-/
import Derived.Test.YtjbkjfefjhbolaaChecked
import GoSem.Claim
import GoSem.ClaimJoined
import GoSem.ClaimMapViews
import Derived.JoinedTies
import Derived.KernelRfl
namespace Go.Proofs.Ytjbkjfefjhbolaa
/- THE CELL 'sum', in the pinned program and in every row, IS THE sha256 OF THE DUMP (.gsa) THAT YtjbkjfefjhbolaaProg.lean LOADS. Nothing in Lean hashes anything: it is a label: what it is worth is what the hold of that sum in a sandbox is worth. -/
noncomputable def Try.pinned : Pinned := { name := "ytjbkjfefjhbolaa", sum := "de41325149155e2d12df88379e1c1e0610078d9fecdb24dbb800af95fd33a795", checked := Try.checked }
namespace Rows
def none {H : Type} : Left H := { results := [], args := [] }

/-- 'shredderlaw16.AssembleBack': WHATEVER THE INPUT: true; the input reads as it did. -/
def assembleBackSpec : ChangeSpec := { name := "assembleBack", fn := fun _ => fun
  | [d1, d2] => { results := [.lit (.bool true)], args := [d1, d2] }
  | _ => none }
def assembleBackRow : OpenClaim := { program := "ytjbkjfefjhbolaa", sum := "de41325149155e2d12df88379e1c1e0610078d9fecdb24dbb800af95fd33a795", func := "shredder/shredderlaw16.AssembleBack", spec := "assembleBack", unfollowed := true, recurses := true, apart := false }
def AssembleBackSaid : Prop := assembleBackRow.holds Try.pinned (OpenSpec.ofChange assembleBackSpec)

/-- ITS FALSE NEIGHBOUR: 'it returns false'. Refute it at one input. -/
def assembleBackWrong : ChangeSpec := { name := "assembleBack", fn := fun _ => fun
  | [d1, d2] => { results := [.lit (.bool false)], args := [d1, d2] }
  | _ => none }
def AssembleBackWrongFalsely : Prop := assembleBackRow.holds Try.pinned (OpenSpec.ofChange assembleBackWrong)

/-- 'shredderlaw16.AssembleReads': WHATEVER THE INPUT: true; the input reads as it did. -/
def assembleReadsSpec : ChangeSpec := { name := "assembleReads", fn := fun _ => fun
  | [d1, d2, d3, d4, d5, d6, d7] => { results := [.lit (.bool true)], args := [d1, d2, d3, d4, d5, d6, d7] }
  | _ => none }
def assembleReadsRow : OpenClaim := { program := "ytjbkjfefjhbolaa", sum := "de41325149155e2d12df88379e1c1e0610078d9fecdb24dbb800af95fd33a795", func := "shredder/shredderlaw16.AssembleReads", spec := "assembleReads", unfollowed := true, recurses := true, apart := false }
def AssembleReadsSaid : Prop := assembleReadsRow.holds Try.pinned (OpenSpec.ofChange assembleReadsSpec)

/-- ITS FALSE NEIGHBOUR: 'it returns false'. Refute it at one input. -/
def assembleReadsWrong : ChangeSpec := { name := "assembleReads", fn := fun _ => fun
  | [d1, d2, d3, d4, d5, d6, d7] => { results := [.lit (.bool false)], args := [d1, d2, d3, d4, d5, d6, d7] }
  | _ => none }
def AssembleReadsWrongFalsely : Prop := assembleReadsRow.holds Try.pinned (OpenSpec.ofChange assembleReadsWrong)

/-- 'shredderlaw16.AssembleOnly': WHATEVER THE INPUT: true; the input reads as it did. -/
def assembleOnlySpec : ChangeSpec := { name := "assembleOnly", fn := fun _ => fun
  | [d1, d2, d3] => { results := [.lit (.bool true)], args := [d1, d2, d3] }
  | _ => none }
def assembleOnlyRow : OpenClaim := { program := "ytjbkjfefjhbolaa", sum := "de41325149155e2d12df88379e1c1e0610078d9fecdb24dbb800af95fd33a795", func := "shredder/shredderlaw16.AssembleOnly", spec := "assembleOnly", unfollowed := true, recurses := true, apart := false }
def AssembleOnlySaid : Prop := assembleOnlyRow.holds Try.pinned (OpenSpec.ofChange assembleOnlySpec)

/-- ITS FALSE NEIGHBOUR: 'it returns false'. Refute it at one input. -/
def assembleOnlyWrong : ChangeSpec := { name := "assembleOnly", fn := fun _ => fun
  | [d1, d2, d3] => { results := [.lit (.bool false)], args := [d1, d2, d3] }
  | _ => none }
def AssembleOnlyWrongFalsely : Prop := assembleOnlyRow.holds Try.pinned (OpenSpec.ofChange assembleOnlyWrong)

/-- 'shredderlaw16.AssembleParts': WHATEVER THE INPUT: true; the input reads as it did. -/
def assemblePartsSpec : ChangeSpec := { name := "assembleParts", fn := fun _ => fun
  | [d1, d2, d3, d4] => { results := [.lit (.bool true)], args := [d1, d2, d3, d4] }
  | _ => none }
def assemblePartsRow : OpenClaim := { program := "ytjbkjfefjhbolaa", sum := "de41325149155e2d12df88379e1c1e0610078d9fecdb24dbb800af95fd33a795", func := "shredder/shredderlaw16.AssembleParts", spec := "assembleParts", unfollowed := true, recurses := true, apart := false }
def AssemblePartsSaid : Prop := assemblePartsRow.holds Try.pinned (OpenSpec.ofChange assemblePartsSpec)

/-- ITS FALSE NEIGHBOUR: 'it returns false'. Refute it at one input. -/
def assemblePartsWrong : ChangeSpec := { name := "assembleParts", fn := fun _ => fun
  | [d1, d2, d3, d4] => { results := [.lit (.bool false)], args := [d1, d2, d3, d4] }
  | _ => none }
def AssemblePartsWrongFalsely : Prop := assemblePartsRow.holds Try.pinned (OpenSpec.ofChange assemblePartsWrong)

/-- 'shredderlaw16.AssembleCounts': WHATEVER THE INPUT: true; the input reads as it did. -/
def assembleCountsSpec : ChangeSpec := { name := "assembleCounts", fn := fun _ => fun
  | [d1, d2, d3] => { results := [.lit (.bool true)], args := [d1, d2, d3] }
  | _ => none }
def assembleCountsRow : OpenClaim := { program := "ytjbkjfefjhbolaa", sum := "de41325149155e2d12df88379e1c1e0610078d9fecdb24dbb800af95fd33a795", func := "shredder/shredderlaw16.AssembleCounts", spec := "assembleCounts", unfollowed := true, recurses := true, apart := false }
def AssembleCountsSaid : Prop := assembleCountsRow.holds Try.pinned (OpenSpec.ofChange assembleCountsSpec)

/-- ITS FALSE NEIGHBOUR: 'it returns false'. Refute it at one input. -/
def assembleCountsWrong : ChangeSpec := { name := "assembleCounts", fn := fun _ => fun
  | [d1, d2, d3] => { results := [.lit (.bool false)], args := [d1, d2, d3] }
  | _ => none }
def AssembleCountsWrongFalsely : Prop := assembleCountsRow.holds Try.pinned (OpenSpec.ofChange assembleCountsWrong)

/-- 'shredderlaw16.AssembleNone': WHATEVER THE INPUT: true; the input reads as it did. -/
def assembleNoneSpec : ChangeSpec := { name := "assembleNone", fn := fun _ => fun
  | [d1, d2] => { results := [.lit (.bool true)], args := [d1, d2] }
  | _ => none }
def assembleNoneRow : OpenClaim := { program := "ytjbkjfefjhbolaa", sum := "de41325149155e2d12df88379e1c1e0610078d9fecdb24dbb800af95fd33a795", func := "shredder/shredderlaw16.AssembleNone", spec := "assembleNone", unfollowed := true, recurses := true, apart := false }
def AssembleNoneSaid : Prop := assembleNoneRow.holds Try.pinned (OpenSpec.ofChange assembleNoneSpec)

/-- ITS FALSE NEIGHBOUR: 'it returns false'. Refute it at one input. -/
def assembleNoneWrong : ChangeSpec := { name := "assembleNone", fn := fun _ => fun
  | [d1, d2] => { results := [.lit (.bool false)], args := [d1, d2] }
  | _ => none }
def AssembleNoneWrongFalsely : Prop := assembleNoneRow.holds Try.pinned (OpenSpec.ofChange assembleNoneWrong)

/-- 'shredderlaw16.AssembleValues': WHATEVER THE INPUT: true; the input reads as it did. -/
def assembleValuesSpec : ChangeSpec := { name := "assembleValues", fn := fun _ => fun
  | [d1, d2, d3] => { results := [.lit (.bool true)], args := [d1, d2, d3] }
  | _ => none }
def assembleValuesRow : OpenClaim := { program := "ytjbkjfefjhbolaa", sum := "de41325149155e2d12df88379e1c1e0610078d9fecdb24dbb800af95fd33a795", func := "shredder/shredderlaw16.AssembleValues", spec := "assembleValues", unfollowed := true, recurses := true, apart := false }
def AssembleValuesSaid : Prop := assembleValuesRow.holds Try.pinned (OpenSpec.ofChange assembleValuesSpec)

/-- ITS FALSE NEIGHBOUR: 'it returns false'. Refute it at one input. -/
def assembleValuesWrong : ChangeSpec := { name := "assembleValues", fn := fun _ => fun
  | [d1, d2, d3] => { results := [.lit (.bool false)], args := [d1, d2, d3] }
  | _ => none }
def AssembleValuesWrongFalsely : Prop := assembleValuesRow.holds Try.pinned (OpenSpec.ofChange assembleValuesWrong)

/- THE SECOND FORM. 'bulk': how many values and letters a reading holds, each counted each time it is reached (what is shared counts as often as it is met; a slice's spare places count too). A statement '..UptoSaid' is the law's where the arguments, and the package variables that the reading takes, are together of bulk at most 1048576: NARROWER than '..Said'. Prove '..Said' where nothing that the law and all that it calls make is longer than what came in: it says more and counts as full. Else prove '..UptoSaid'. A law counts once. -/
mutual
def uptoBulk {H : Type} : DataW H → Nat
  | .lit (.string bytes) => bytes.length + 1
  | .lit _ => 1
  | .nil => 1
  | .ptr d => uptoBulk d + 1
  | .slice elems spare => uptoBulkAll elems + uptoBulkAll spare + 1
  | .agg parts => uptoBulkAll parts + 1
  | .iface _ d => uptoBulk d + 1
  | .map entries => uptoBulkEntries entries + 1
  | .held _ => 1
def uptoBulkAll {H : Type} : List (DataW H) → Nat
  | [] => 0
  | d :: r => uptoBulk d + uptoBulkAll r
def uptoBulkEntries {H : Type} : List (Lit × DataW H) → Nat
  | [] => 0
  | x :: r => uptoBulkEntry x + uptoBulkEntries r
def uptoBulkEntry {H : Type} : Lit × DataW H → Nat
  | (.string bytes, d) => bytes.length + uptoBulk d + 1
  | (_, d) => uptoBulk d + 1
 end
def uptoSmall : (H : Type) → List (DataW H) → Bool := fun _ ds => decide (uptoBulkAll ds ≤ 1048576)
def OpenSpec.upto (s : _root_.Go.ChangeSpec) : _root_.Go.OpenSpec := { _root_.Go.OpenSpec.ofChange s with cond := some uptoSmall }

/-- 'shredderlaw16.AssembleBack', WHERE WHAT IT READS IS OF BULK AT MOST 1048576: true; the input reads as it did. -/
def assembleBackUptoRow : OpenClaim := { program := "ytjbkjfefjhbolaa", sum := "de41325149155e2d12df88379e1c1e0610078d9fecdb24dbb800af95fd33a795", func := "shredder/shredderlaw16.AssembleBack", spec := "assembleBack", unfollowed := true, recurses := true, apart := false, narrowed := true }
def AssembleBackUptoSaid : Prop := assembleBackUptoRow.holds Try.pinned (OpenSpec.upto assembleBackSpec)

/-- 'shredderlaw16.AssembleReads', WHERE WHAT IT READS IS OF BULK AT MOST 1048576: true; the input reads as it did. -/
def assembleReadsUptoRow : OpenClaim := { program := "ytjbkjfefjhbolaa", sum := "de41325149155e2d12df88379e1c1e0610078d9fecdb24dbb800af95fd33a795", func := "shredder/shredderlaw16.AssembleReads", spec := "assembleReads", unfollowed := true, recurses := true, apart := false, narrowed := true }
def AssembleReadsUptoSaid : Prop := assembleReadsUptoRow.holds Try.pinned (OpenSpec.upto assembleReadsSpec)

/-- 'shredderlaw16.AssembleOnly', WHERE WHAT IT READS IS OF BULK AT MOST 1048576: true; the input reads as it did. -/
def assembleOnlyUptoRow : OpenClaim := { program := "ytjbkjfefjhbolaa", sum := "de41325149155e2d12df88379e1c1e0610078d9fecdb24dbb800af95fd33a795", func := "shredder/shredderlaw16.AssembleOnly", spec := "assembleOnly", unfollowed := true, recurses := true, apart := false, narrowed := true }
def AssembleOnlyUptoSaid : Prop := assembleOnlyUptoRow.holds Try.pinned (OpenSpec.upto assembleOnlySpec)

/-- 'shredderlaw16.AssembleParts', WHERE WHAT IT READS IS OF BULK AT MOST 1048576: true; the input reads as it did. -/
def assemblePartsUptoRow : OpenClaim := { program := "ytjbkjfefjhbolaa", sum := "de41325149155e2d12df88379e1c1e0610078d9fecdb24dbb800af95fd33a795", func := "shredder/shredderlaw16.AssembleParts", spec := "assembleParts", unfollowed := true, recurses := true, apart := false, narrowed := true }
def AssemblePartsUptoSaid : Prop := assemblePartsUptoRow.holds Try.pinned (OpenSpec.upto assemblePartsSpec)

/-- 'shredderlaw16.AssembleCounts', WHERE WHAT IT READS IS OF BULK AT MOST 1048576: true; the input reads as it did. -/
def assembleCountsUptoRow : OpenClaim := { program := "ytjbkjfefjhbolaa", sum := "de41325149155e2d12df88379e1c1e0610078d9fecdb24dbb800af95fd33a795", func := "shredder/shredderlaw16.AssembleCounts", spec := "assembleCounts", unfollowed := true, recurses := true, apart := false, narrowed := true }
def AssembleCountsUptoSaid : Prop := assembleCountsUptoRow.holds Try.pinned (OpenSpec.upto assembleCountsSpec)

/-- 'shredderlaw16.AssembleNone', WHERE WHAT IT READS IS OF BULK AT MOST 1048576: true; the input reads as it did. -/
def assembleNoneUptoRow : OpenClaim := { program := "ytjbkjfefjhbolaa", sum := "de41325149155e2d12df88379e1c1e0610078d9fecdb24dbb800af95fd33a795", func := "shredder/shredderlaw16.AssembleNone", spec := "assembleNone", unfollowed := true, recurses := true, apart := false, narrowed := true }
def AssembleNoneUptoSaid : Prop := assembleNoneUptoRow.holds Try.pinned (OpenSpec.upto assembleNoneSpec)

/-- 'shredderlaw16.AssembleValues', WHERE WHAT IT READS IS OF BULK AT MOST 1048576: true; the input reads as it did. -/
def assembleValuesUptoRow : OpenClaim := { program := "ytjbkjfefjhbolaa", sum := "de41325149155e2d12df88379e1c1e0610078d9fecdb24dbb800af95fd33a795", func := "shredder/shredderlaw16.AssembleValues", spec := "assembleValues", unfollowed := true, recurses := true, apart := false, narrowed := true }
def AssembleValuesUptoSaid : Prop := assembleValuesUptoRow.holds Try.pinned (OpenSpec.upto assembleValuesSpec)

end Rows
end Go.Proofs.Ytjbkjfefjhbolaa
