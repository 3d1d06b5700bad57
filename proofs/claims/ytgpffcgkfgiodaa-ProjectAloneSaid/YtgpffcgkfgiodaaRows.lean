/-
  No cell of these rows narrows 'for every input' (looked for: loops, veiled, ifaces, maps, wideKeys, modest, calm, conditions, laid).
  DERIVED. THE GIVEN ROWS OF THIS SEAT. 7 by the template 'for every input the law returns true; each argument reads behind the call as it read before'; 0 by the template 'total and deterministic' (their statements: YtgpffcgkfgiodaaTotals.lean).
  GIVEN WITH THE SEED: the statements are not yours to turn. If you find one false, say at which input.
  Laid BY PROGRAM, IN A SANDBOX (cutbox-rows.mjs): the forced cells as the released guide's own fill.sh prints them over the translation 321da764bdfd81f4… (all of the seat's roots in one cut). By AI agents, Wed Nov 11 2026. No macro, syntax, notation, axiom, sorry.
-/
import Derived.Test.YtgpffcgkfgiodaaChecked
import GoSem.Claim
import GoSem.ClaimJoined
import GoSem.ClaimMapViews
import Derived.JoinedTies
import Derived.KernelRfl
namespace Go.Proofs.Ytgpffcgkfgiodaa
/- THE CELL 'sum', in the pinned program and in every row, IS THE sha256 OF THE DUMP (.gsa) THAT YtgpffcgkfgiodaaProg.lean LOADS. Nothing in Lean hashes anything: it is a label: what it is worth is what the hold of that sum in a sandbox is worth. -/
noncomputable def Try.pinned : Pinned := { name := "ytgpffcgkfgiodaa", sum := "321da764bdfd81f46a9ca67eb129882c689f5867b5a7d9a4994f8fbfc729fc2d", checked := Try.checked }
namespace Rows
def none {H : Type} : Left H := { results := [], args := [] }

/-- 'shredderlaw7.ProjectOne': WHATEVER THE INPUT: true; the input reads as it did. -/
def projectOneSpec : ChangeSpec := { name := "projectOne", fn := fun _ => fun
  | [d1, d2] => { results := [.lit (.bool true)], args := [d1, d2] }
  | _ => none }
def projectOneRow : OpenClaim := { program := "ytgpffcgkfgiodaa", sum := "321da764bdfd81f46a9ca67eb129882c689f5867b5a7d9a4994f8fbfc729fc2d", func := "shredder/shredderlaw7.ProjectOne", spec := "projectOne", unfollowed := true, recurses := true, apart := false }
def ProjectOneSaid : Prop := projectOneRow.holds Try.pinned (OpenSpec.ofChange projectOneSpec)

/-- ITS FALSE NEIGHBOUR: 'it returns false'. Refute it at one input. -/
def projectOneWrong : ChangeSpec := { name := "projectOne", fn := fun _ => fun
  | [d1, d2] => { results := [.lit (.bool false)], args := [d1, d2] }
  | _ => none }
def ProjectOneWrongFalsely : Prop := projectOneRow.holds Try.pinned (OpenSpec.ofChange projectOneWrong)

/-- 'shredderlaw7.ProjectGroups': WHATEVER THE INPUT: true; the input reads as it did. -/
def projectGroupsSpec : ChangeSpec := { name := "projectGroups", fn := fun _ => fun
  | [d1, d2] => { results := [.lit (.bool true)], args := [d1, d2] }
  | _ => none }
def projectGroupsRow : OpenClaim := { program := "ytgpffcgkfgiodaa", sum := "321da764bdfd81f46a9ca67eb129882c689f5867b5a7d9a4994f8fbfc729fc2d", func := "shredder/shredderlaw7.ProjectGroups", spec := "projectGroups", unfollowed := true, recurses := true, apart := false }
def ProjectGroupsSaid : Prop := projectGroupsRow.holds Try.pinned (OpenSpec.ofChange projectGroupsSpec)

/-- ITS FALSE NEIGHBOUR: 'it returns false'. Refute it at one input. -/
def projectGroupsWrong : ChangeSpec := { name := "projectGroups", fn := fun _ => fun
  | [d1, d2] => { results := [.lit (.bool false)], args := [d1, d2] }
  | _ => none }
def ProjectGroupsWrongFalsely : Prop := projectGroupsRow.holds Try.pinned (OpenSpec.ofChange projectGroupsWrong)

/-- 'shredderlaw7.ProjectOrder': WHATEVER THE INPUT: true; the input reads as it did. -/
def projectOrderSpec : ChangeSpec := { name := "projectOrder", fn := fun _ => fun
  | [d1, d2, d3] => { results := [.lit (.bool true)], args := [d1, d2, d3] }
  | _ => none }
def projectOrderRow : OpenClaim := { program := "ytgpffcgkfgiodaa", sum := "321da764bdfd81f46a9ca67eb129882c689f5867b5a7d9a4994f8fbfc729fc2d", func := "shredder/shredderlaw7.ProjectOrder", spec := "projectOrder", unfollowed := true, recurses := true, apart := false }
def ProjectOrderSaid : Prop := projectOrderRow.holds Try.pinned (OpenSpec.ofChange projectOrderSpec)

/-- ITS FALSE NEIGHBOUR: 'it returns false'. Refute it at one input. -/
def projectOrderWrong : ChangeSpec := { name := "projectOrder", fn := fun _ => fun
  | [d1, d2, d3] => { results := [.lit (.bool false)], args := [d1, d2, d3] }
  | _ => none }
def ProjectOrderWrongFalsely : Prop := projectOrderRow.holds Try.pinned (OpenSpec.ofChange projectOrderWrong)

/-- 'shredderlaw7.ProjectAll': WHATEVER THE INPUT: true; the input reads as it did. -/
def projectAllSpec : ChangeSpec := { name := "projectAll", fn := fun _ => fun
  | [d1, d2, d3, d4] => { results := [.lit (.bool true)], args := [d1, d2, d3, d4] }
  | _ => none }
def projectAllRow : OpenClaim := { program := "ytgpffcgkfgiodaa", sum := "321da764bdfd81f46a9ca67eb129882c689f5867b5a7d9a4994f8fbfc729fc2d", func := "shredder/shredderlaw7.ProjectAll", spec := "projectAll", unfollowed := true, recurses := true, apart := false }
def ProjectAllSaid : Prop := projectAllRow.holds Try.pinned (OpenSpec.ofChange projectAllSpec)

/-- ITS FALSE NEIGHBOUR: 'it returns false'. Refute it at one input. -/
def projectAllWrong : ChangeSpec := { name := "projectAll", fn := fun _ => fun
  | [d1, d2, d3, d4] => { results := [.lit (.bool false)], args := [d1, d2, d3, d4] }
  | _ => none }
def ProjectAllWrongFalsely : Prop := projectAllRow.holds Try.pinned (OpenSpec.ofChange projectAllWrong)

/-- 'shredderlaw7.ProjectFits': WHATEVER THE INPUT: true; the input reads as it did. -/
def projectFitsSpec : ChangeSpec := { name := "projectFits", fn := fun _ => fun
  | [d1, d2, d3] => { results := [.lit (.bool true)], args := [d1, d2, d3] }
  | _ => none }
def projectFitsRow : OpenClaim := { program := "ytgpffcgkfgiodaa", sum := "321da764bdfd81f46a9ca67eb129882c689f5867b5a7d9a4994f8fbfc729fc2d", func := "shredder/shredderlaw7.ProjectFits", spec := "projectFits", unfollowed := true, recurses := true, apart := false }
def ProjectFitsSaid : Prop := projectFitsRow.holds Try.pinned (OpenSpec.ofChange projectFitsSpec)

/-- ITS FALSE NEIGHBOUR: 'it returns false'. Refute it at one input. -/
def projectFitsWrong : ChangeSpec := { name := "projectFits", fn := fun _ => fun
  | [d1, d2, d3] => { results := [.lit (.bool false)], args := [d1, d2, d3] }
  | _ => none }
def ProjectFitsWrongFalsely : Prop := projectFitsRow.holds Try.pinned (OpenSpec.ofChange projectFitsWrong)

/-- 'shredderlaw7.ProjectTwice': WHATEVER THE INPUT: true; the input reads as it did. -/
def projectTwiceSpec : ChangeSpec := { name := "projectTwice", fn := fun _ => fun
  | [d1, d2, d3, d4] => { results := [.lit (.bool true)], args := [d1, d2, d3, d4] }
  | _ => none }
def projectTwiceRow : OpenClaim := { program := "ytgpffcgkfgiodaa", sum := "321da764bdfd81f46a9ca67eb129882c689f5867b5a7d9a4994f8fbfc729fc2d", func := "shredder/shredderlaw7.ProjectTwice", spec := "projectTwice", unfollowed := true, recurses := true, apart := false }
def ProjectTwiceSaid : Prop := projectTwiceRow.holds Try.pinned (OpenSpec.ofChange projectTwiceSpec)

/-- ITS FALSE NEIGHBOUR: 'it returns false'. Refute it at one input. -/
def projectTwiceWrong : ChangeSpec := { name := "projectTwice", fn := fun _ => fun
  | [d1, d2, d3, d4] => { results := [.lit (.bool false)], args := [d1, d2, d3, d4] }
  | _ => none }
def ProjectTwiceWrongFalsely : Prop := projectTwiceRow.holds Try.pinned (OpenSpec.ofChange projectTwiceWrong)

/-- 'shredderlaw7.ProjectAlone': WHATEVER THE INPUT: true; the input reads as it did. -/
def projectAloneSpec : ChangeSpec := { name := "projectAlone", fn := fun _ => fun
  | [d1, d2, d3] => { results := [.lit (.bool true)], args := [d1, d2, d3] }
  | _ => none }
def projectAloneRow : OpenClaim := { program := "ytgpffcgkfgiodaa", sum := "321da764bdfd81f46a9ca67eb129882c689f5867b5a7d9a4994f8fbfc729fc2d", func := "shredder/shredderlaw7.ProjectAlone", spec := "projectAlone", unfollowed := true, recurses := true, apart := false }
def ProjectAloneSaid : Prop := projectAloneRow.holds Try.pinned (OpenSpec.ofChange projectAloneSpec)

/-- ITS FALSE NEIGHBOUR: 'it returns false'. Refute it at one input. -/
def projectAloneWrong : ChangeSpec := { name := "projectAlone", fn := fun _ => fun
  | [d1, d2, d3] => { results := [.lit (.bool false)], args := [d1, d2, d3] }
  | _ => none }
def ProjectAloneWrongFalsely : Prop := projectAloneRow.holds Try.pinned (OpenSpec.ofChange projectAloneWrong)

/- THE SECOND FORM. 'bulk': how many values and letters a reading holds, each counted each time it is reached (what is shared counts as often as it is met; a slice's spare places count too). A statement '..UptoSaid' is the law's where the arguments, and the package variables that the reading takes, are together of bulk at most 1048576: NARROWER than '..Said'. Prove '..Said' where nothing that the law and all that it calls make is longer than what came in: it says more and counts as full. Else prove '..UptoSaid'. A law counts once. -/
mutual
def uptoBulk {H : Type} : DataW H → Nat
  | .lit (.string bytes) => bytes.length + 1
  | .lit _ => 1
  | .nil => 1
  | .ptr d => uptoBulk d + 1
  | .slice elems spare => uptoBulkAll elems + uptoBulkAll spare + 1
  | .agg parts => uptoBulkAll parts + 1
  | .iface _ d => uptoBulk d + 1
  | .map entries => uptoBulkEntries entries + 1
  | .held _ => 1
def uptoBulkAll {H : Type} : List (DataW H) → Nat
  | [] => 0
  | d :: r => uptoBulk d + uptoBulkAll r
def uptoBulkEntries {H : Type} : List (Lit × DataW H) → Nat
  | [] => 0
  | x :: r => uptoBulkEntry x + uptoBulkEntries r
def uptoBulkEntry {H : Type} : Lit × DataW H → Nat
  | (.string bytes, d) => bytes.length + uptoBulk d + 1
  | (_, d) => uptoBulk d + 1
 end
def uptoSmall : (H : Type) → List (DataW H) → Bool := fun _ ds => decide (uptoBulkAll ds ≤ 1048576)
def OpenSpec.upto (s : _root_.Go.ChangeSpec) : _root_.Go.OpenSpec := { _root_.Go.OpenSpec.ofChange s with cond := some uptoSmall }

/-- 'shredderlaw7.ProjectOne', WHERE WHAT IT READS IS OF BULK AT MOST 1048576: true; the input reads as it did. -/
def projectOneUptoRow : OpenClaim := { program := "ytgpffcgkfgiodaa", sum := "321da764bdfd81f46a9ca67eb129882c689f5867b5a7d9a4994f8fbfc729fc2d", func := "shredder/shredderlaw7.ProjectOne", spec := "projectOne", unfollowed := true, recurses := true, apart := false, narrowed := true }
def ProjectOneUptoSaid : Prop := projectOneUptoRow.holds Try.pinned (OpenSpec.upto projectOneSpec)

/-- 'shredderlaw7.ProjectGroups', WHERE WHAT IT READS IS OF BULK AT MOST 1048576: true; the input reads as it did. -/
def projectGroupsUptoRow : OpenClaim := { program := "ytgpffcgkfgiodaa", sum := "321da764bdfd81f46a9ca67eb129882c689f5867b5a7d9a4994f8fbfc729fc2d", func := "shredder/shredderlaw7.ProjectGroups", spec := "projectGroups", unfollowed := true, recurses := true, apart := false, narrowed := true }
def ProjectGroupsUptoSaid : Prop := projectGroupsUptoRow.holds Try.pinned (OpenSpec.upto projectGroupsSpec)

/-- 'shredderlaw7.ProjectOrder', WHERE WHAT IT READS IS OF BULK AT MOST 1048576: true; the input reads as it did. -/
def projectOrderUptoRow : OpenClaim := { program := "ytgpffcgkfgiodaa", sum := "321da764bdfd81f46a9ca67eb129882c689f5867b5a7d9a4994f8fbfc729fc2d", func := "shredder/shredderlaw7.ProjectOrder", spec := "projectOrder", unfollowed := true, recurses := true, apart := false, narrowed := true }
def ProjectOrderUptoSaid : Prop := projectOrderUptoRow.holds Try.pinned (OpenSpec.upto projectOrderSpec)

/-- 'shredderlaw7.ProjectAll', WHERE WHAT IT READS IS OF BULK AT MOST 1048576: true; the input reads as it did. -/
def projectAllUptoRow : OpenClaim := { program := "ytgpffcgkfgiodaa", sum := "321da764bdfd81f46a9ca67eb129882c689f5867b5a7d9a4994f8fbfc729fc2d", func := "shredder/shredderlaw7.ProjectAll", spec := "projectAll", unfollowed := true, recurses := true, apart := false, narrowed := true }
def ProjectAllUptoSaid : Prop := projectAllUptoRow.holds Try.pinned (OpenSpec.upto projectAllSpec)

/-- 'shredderlaw7.ProjectFits', WHERE WHAT IT READS IS OF BULK AT MOST 1048576: true; the input reads as it did. -/
def projectFitsUptoRow : OpenClaim := { program := "ytgpffcgkfgiodaa", sum := "321da764bdfd81f46a9ca67eb129882c689f5867b5a7d9a4994f8fbfc729fc2d", func := "shredder/shredderlaw7.ProjectFits", spec := "projectFits", unfollowed := true, recurses := true, apart := false, narrowed := true }
def ProjectFitsUptoSaid : Prop := projectFitsUptoRow.holds Try.pinned (OpenSpec.upto projectFitsSpec)

/-- 'shredderlaw7.ProjectTwice', WHERE WHAT IT READS IS OF BULK AT MOST 1048576: true; the input reads as it did. -/
def projectTwiceUptoRow : OpenClaim := { program := "ytgpffcgkfgiodaa", sum := "321da764bdfd81f46a9ca67eb129882c689f5867b5a7d9a4994f8fbfc729fc2d", func := "shredder/shredderlaw7.ProjectTwice", spec := "projectTwice", unfollowed := true, recurses := true, apart := false, narrowed := true }
def ProjectTwiceUptoSaid : Prop := projectTwiceUptoRow.holds Try.pinned (OpenSpec.upto projectTwiceSpec)

/-- 'shredderlaw7.ProjectAlone', WHERE WHAT IT READS IS OF BULK AT MOST 1048576: true; the input reads as it did. -/
def projectAloneUptoRow : OpenClaim := { program := "ytgpffcgkfgiodaa", sum := "321da764bdfd81f46a9ca67eb129882c689f5867b5a7d9a4994f8fbfc729fc2d", func := "shredder/shredderlaw7.ProjectAlone", spec := "projectAlone", unfollowed := true, recurses := true, apart := false, narrowed := true }
def ProjectAloneUptoSaid : Prop := projectAloneUptoRow.holds Try.pinned (OpenSpec.upto projectAloneSpec)

end Rows
end Go.Proofs.Ytgpffcgkfgiodaa
