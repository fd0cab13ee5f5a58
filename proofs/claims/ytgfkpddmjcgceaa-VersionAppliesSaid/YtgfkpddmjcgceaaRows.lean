/-
  No cell of these rows narrows 'for every input' (looked for: loops, veiled, ifaces, maps, wideKeys, modest, calm, conditions, laid).
  DERIVED. THE GIVEN ROWS OF THIS SEAT. 5 by the template 'for every input the law returns true; each argument reads behind the call as it read before'; 0 by the template 'total and deterministic' (their statements: YtgfkpddmjcgceaaTotals.lean).
  GIVEN WITH THE SEED: the statements are not yours to turn. If you find one false, say at which input.
  Laid BY PROGRAM, IN A SANDBOX (cutbox-rows.mjs): the forced cells as the released guide's own fill.sh prints them over the translation dd62022209ea10d0… (all of the seat's roots in one cut). By AI agents, Wed Nov 11 2026. No macro, syntax, notation, axiom, sorry.
-/
import Derived.Test.YtgfkpddmjcgceaaChecked
import GoSem.Claim
import GoSem.ClaimJoined
import GoSem.ClaimMapViews
import Derived.JoinedTies
import Derived.KernelRfl
namespace Go.Proofs.Ytgfkpddmjcgceaa
/- THE CELL 'sum', in the pinned program and in every row, IS THE sha256 OF THE DUMP (.gsa) THAT YtgfkpddmjcgceaaProg.lean LOADS. Nothing in Lean hashes anything: it is a label: what it is worth is what the hold of that sum in a sandbox is worth. -/
noncomputable def Try.pinned : Pinned := { name := "ytgfkpddmjcgceaa", sum := "dd62022209ea10d055d774d13956bbf305584d7945889ee5ec42ad0373fecace", checked := Try.checked }
namespace Rows
def none {H : Type} : Left H := { results := [], args := [] }

/-- 'butterylaw17.VersionRows': WHATEVER THE INPUT: true; the input reads as it did. -/
def versionRowsSpec : ChangeSpec := { name := "versionRows", fn := fun _ => fun
  | [d] => { results := [.lit (.bool true)], args := [d] }
  | _ => none }
def versionRowsRow : OpenClaim := { program := "ytgfkpddmjcgceaa", sum := "dd62022209ea10d055d774d13956bbf305584d7945889ee5ec42ad0373fecace", func := "buttery/butterylaw17.VersionRows", spec := "versionRows", inPlace := ["internal/bytealg.Compare"], unfollowed := true, recurses := true, apart := false }
def VersionRowsSaid : Prop := versionRowsRow.holds Try.pinned (OpenSpec.ofChange versionRowsSpec)

/-- ITS FALSE NEIGHBOUR: 'it returns false'. Refute it at one input. -/
def versionRowsWrong : ChangeSpec := { name := "versionRows", fn := fun _ => fun
  | [d] => { results := [.lit (.bool false)], args := [d] }
  | _ => none }
def VersionRowsWrongFalsely : Prop := versionRowsRow.holds Try.pinned (OpenSpec.ofChange versionRowsWrong)

/-- 'butterylaw17.VersionErrors': WHATEVER THE INPUT: true; the input reads as it did. -/
def versionErrorsSpec : ChangeSpec := { name := "versionErrors", fn := fun _ => fun
  | [d] => { results := [.lit (.bool true)], args := [d] }
  | _ => none }
def versionErrorsRow : OpenClaim := { program := "ytgfkpddmjcgceaa", sum := "dd62022209ea10d055d774d13956bbf305584d7945889ee5ec42ad0373fecace", func := "buttery/butterylaw17.VersionErrors", spec := "versionErrors", inPlace := ["internal/bytealg.Compare"], unfollowed := true, recurses := true, apart := false }
def VersionErrorsSaid : Prop := versionErrorsRow.holds Try.pinned (OpenSpec.ofChange versionErrorsSpec)

/-- ITS FALSE NEIGHBOUR: 'it returns false'. Refute it at one input. -/
def versionErrorsWrong : ChangeSpec := { name := "versionErrors", fn := fun _ => fun
  | [d] => { results := [.lit (.bool false)], args := [d] }
  | _ => none }
def VersionErrorsWrongFalsely : Prop := versionErrorsRow.holds Try.pinned (OpenSpec.ofChange versionErrorsWrong)

/-- 'butterylaw17.VersionApplies': WHATEVER THE INPUT: true; the input reads as it did. -/
def versionAppliesSpec : ChangeSpec := { name := "versionApplies", fn := fun _ => fun
  | [d1, d2] => { results := [.lit (.bool true)], args := [d1, d2] }
  | _ => none }
def versionAppliesRow : OpenClaim := { program := "ytgfkpddmjcgceaa", sum := "dd62022209ea10d055d774d13956bbf305584d7945889ee5ec42ad0373fecace", func := "buttery/butterylaw17.VersionApplies", spec := "versionApplies", inPlace := ["internal/bytealg.Compare"], unfollowed := true, recurses := true, apart := false }
def VersionAppliesSaid : Prop := versionAppliesRow.holds Try.pinned (OpenSpec.ofChange versionAppliesSpec)

/-- ITS FALSE NEIGHBOUR: 'it returns false'. Refute it at one input. -/
def versionAppliesWrong : ChangeSpec := { name := "versionApplies", fn := fun _ => fun
  | [d1, d2] => { results := [.lit (.bool false)], args := [d1, d2] }
  | _ => none }
def VersionAppliesWrongFalsely : Prop := versionAppliesRow.holds Try.pinned (OpenSpec.ofChange versionAppliesWrong)

/-- 'butterylaw17.VersionSwaps': WHATEVER THE INPUT: true; the input reads as it did. -/
def versionSwapsSpec : ChangeSpec := { name := "versionSwaps", fn := fun _ => fun
  | [d1, d2, d3] => { results := [.lit (.bool true)], args := [d1, d2, d3] }
  | _ => none }
def versionSwapsRow : OpenClaim := { program := "ytgfkpddmjcgceaa", sum := "dd62022209ea10d055d774d13956bbf305584d7945889ee5ec42ad0373fecace", func := "buttery/butterylaw17.VersionSwaps", spec := "versionSwaps", inPlace := ["internal/bytealg.Compare"], unfollowed := true, recurses := true, apart := false }
def VersionSwapsSaid : Prop := versionSwapsRow.holds Try.pinned (OpenSpec.ofChange versionSwapsSpec)

/-- ITS FALSE NEIGHBOUR: 'it returns false'. Refute it at one input. -/
def versionSwapsWrong : ChangeSpec := { name := "versionSwaps", fn := fun _ => fun
  | [d1, d2, d3] => { results := [.lit (.bool false)], args := [d1, d2, d3] }
  | _ => none }
def VersionSwapsWrongFalsely : Prop := versionSwapsRow.holds Try.pinned (OpenSpec.ofChange versionSwapsWrong)

/-- 'butterylaw17.VersionLive': WHATEVER THE INPUT: true; the input reads as it did. -/
def versionLiveSpec : ChangeSpec := { name := "versionLive", fn := fun _ => fun
  | [d] => { results := [.lit (.bool true)], args := [d] }
  | _ => none }
def versionLiveRow : OpenClaim := { program := "ytgfkpddmjcgceaa", sum := "dd62022209ea10d055d774d13956bbf305584d7945889ee5ec42ad0373fecace", func := "buttery/butterylaw17.VersionLive", spec := "versionLive", inPlace := ["internal/bytealg.Compare"], unfollowed := true, recurses := true, apart := false }
def VersionLiveSaid : Prop := versionLiveRow.holds Try.pinned (OpenSpec.ofChange versionLiveSpec)

/-- ITS FALSE NEIGHBOUR: 'it returns false'. Refute it at one input. -/
def versionLiveWrong : ChangeSpec := { name := "versionLive", fn := fun _ => fun
  | [d] => { results := [.lit (.bool false)], args := [d] }
  | _ => none }
def VersionLiveWrongFalsely : Prop := versionLiveRow.holds Try.pinned (OpenSpec.ofChange versionLiveWrong)

/- THE SECOND FORM. 'bulk': how many values and letters a reading holds, each counted each time it is reached (what is shared counts as often as it is met; a slice's spare places count too). A statement '..UptoSaid' is the law's where the arguments, and the package variables that the reading takes, are together of bulk at most 1048576: NARROWER than '..Said'. Prove '..Said' where nothing that the law and all that it calls make is longer than what came in: it says more and counts as full. Else prove '..UptoSaid'. A law counts once. -/
mutual
def uptoBulk {H : Type} : DataW H → Nat
  | .lit (.string bytes) => bytes.length + 1
  | .lit _ => 1
  | .nil => 1
  | .ptr d => uptoBulk d + 1
  | .slice elems spare => uptoBulkAll elems + uptoBulkAll spare + 1
  | .agg parts => uptoBulkAll parts + 1
  | .iface _ d => uptoBulk d + 1
  | .map entries => uptoBulkEntries entries + 1
  | .held _ => 1
def uptoBulkAll {H : Type} : List (DataW H) → Nat
  | [] => 0
  | d :: r => uptoBulk d + uptoBulkAll r
def uptoBulkEntries {H : Type} : List (Lit × DataW H) → Nat
  | [] => 0
  | x :: r => uptoBulkEntry x + uptoBulkEntries r
def uptoBulkEntry {H : Type} : Lit × DataW H → Nat
  | (.string bytes, d) => bytes.length + uptoBulk d + 1
  | (_, d) => uptoBulk d + 1
 end
def uptoSmall : (H : Type) → List (DataW H) → Bool := fun _ ds => decide (uptoBulkAll ds ≤ 1048576)
def OpenSpec.upto (s : _root_.Go.ChangeSpec) : _root_.Go.OpenSpec := { _root_.Go.OpenSpec.ofChange s with cond := some uptoSmall }

/-- 'butterylaw17.VersionRows', WHERE WHAT IT READS IS OF BULK AT MOST 1048576: true; the input reads as it did. -/
def versionRowsUptoRow : OpenClaim := { program := "ytgfkpddmjcgceaa", sum := "dd62022209ea10d055d774d13956bbf305584d7945889ee5ec42ad0373fecace", func := "buttery/butterylaw17.VersionRows", spec := "versionRows", inPlace := ["internal/bytealg.Compare"], unfollowed := true, recurses := true, apart := false, narrowed := true }
def VersionRowsUptoSaid : Prop := versionRowsUptoRow.holds Try.pinned (OpenSpec.upto versionRowsSpec)

/-- 'butterylaw17.VersionErrors', WHERE WHAT IT READS IS OF BULK AT MOST 1048576: true; the input reads as it did. -/
def versionErrorsUptoRow : OpenClaim := { program := "ytgfkpddmjcgceaa", sum := "dd62022209ea10d055d774d13956bbf305584d7945889ee5ec42ad0373fecace", func := "buttery/butterylaw17.VersionErrors", spec := "versionErrors", inPlace := ["internal/bytealg.Compare"], unfollowed := true, recurses := true, apart := false, narrowed := true }
def VersionErrorsUptoSaid : Prop := versionErrorsUptoRow.holds Try.pinned (OpenSpec.upto versionErrorsSpec)

/-- 'butterylaw17.VersionApplies', WHERE WHAT IT READS IS OF BULK AT MOST 1048576: true; the input reads as it did. -/
def versionAppliesUptoRow : OpenClaim := { program := "ytgfkpddmjcgceaa", sum := "dd62022209ea10d055d774d13956bbf305584d7945889ee5ec42ad0373fecace", func := "buttery/butterylaw17.VersionApplies", spec := "versionApplies", inPlace := ["internal/bytealg.Compare"], unfollowed := true, recurses := true, apart := false, narrowed := true }
def VersionAppliesUptoSaid : Prop := versionAppliesUptoRow.holds Try.pinned (OpenSpec.upto versionAppliesSpec)

/-- 'butterylaw17.VersionSwaps', WHERE WHAT IT READS IS OF BULK AT MOST 1048576: true; the input reads as it did. -/
def versionSwapsUptoRow : OpenClaim := { program := "ytgfkpddmjcgceaa", sum := "dd62022209ea10d055d774d13956bbf305584d7945889ee5ec42ad0373fecace", func := "buttery/butterylaw17.VersionSwaps", spec := "versionSwaps", inPlace := ["internal/bytealg.Compare"], unfollowed := true, recurses := true, apart := false, narrowed := true }
def VersionSwapsUptoSaid : Prop := versionSwapsUptoRow.holds Try.pinned (OpenSpec.upto versionSwapsSpec)

/-- 'butterylaw17.VersionLive', WHERE WHAT IT READS IS OF BULK AT MOST 1048576: true; the input reads as it did. -/
def versionLiveUptoRow : OpenClaim := { program := "ytgfkpddmjcgceaa", sum := "dd62022209ea10d055d774d13956bbf305584d7945889ee5ec42ad0373fecace", func := "buttery/butterylaw17.VersionLive", spec := "versionLive", inPlace := ["internal/bytealg.Compare"], unfollowed := true, recurses := true, apart := false, narrowed := true }
def VersionLiveUptoSaid : Prop := versionLiveUptoRow.holds Try.pinned (OpenSpec.upto versionLiveSpec)

end Rows
end Go.Proofs.Ytgfkpddmjcgceaa
