/-
  No cell of these rows narrows 'for every input' (looked for: loops, veiled, ifaces, maps, wideKeys, modest, calm, conditions, laid).
  DERIVED. THE GIVEN ROWS OF THIS SEAT. 3 by the template 'for every input the law returns true; each argument reads behind the call as it read before'; 0 by the template 'total and deterministic' (their statements: YtllgfmijocgniaaTotals.lean).
  GIVEN WITH THE SEED: the statements are not yours to turn. If you find one false, say at which input.
  Laid BY PROGRAM, IN A SANDBOX (cutbox-rows.mjs): the forced cells as the released guide's own fill.sh prints them over the translation b7651d08a1bb74ad… (all of the seat's roots in one cut). By AI agents, Wed Nov 11 2026. No macro, syntax, notation, axiom, sorry.
-/
import Derived.Test.YtllgfmijocgniaaChecked
import GoSem.Claim
import GoSem.ClaimJoined
import GoSem.ClaimMapViews
import Derived.JoinedTies
import Derived.KernelRfl
namespace Go.Proofs.Ytllgfmijocgniaa
/- THE CELL 'sum', in the pinned program and in every row, IS THE sha256 OF THE DUMP (.gsa) THAT YtllgfmijocgniaaProg.lean LOADS. Nothing in Lean hashes anything: it is a label: what it is worth is what the hold of that sum in a sandbox is worth. -/
noncomputable def Try.pinned : Pinned := { name := "ytllgfmijocgniaa", sum := "b7651d08a1bb74ad61921452c66ae4ad183778fc85b6ba3a72ff14d3a54b6f07", checked := Try.checked }
namespace Rows
def none {H : Type} : Left H := { results := [], args := [] }

/-- 'stetlaw45.PackLays': WHATEVER THE INPUT: true; the input reads as it did. -/
def packLaysSpec : ChangeSpec := { name := "packLays", fn := fun _ => fun
  | [d1, d2, d3] => { results := [.lit (.bool true)], args := [d1, d2, d3] }
  | _ => none }
def packLaysRow : OpenClaim := { program := "ytllgfmijocgniaa", sum := "b7651d08a1bb74ad61921452c66ae4ad183778fc85b6ba3a72ff14d3a54b6f07", func := "stet/stetlaw45.PackLays", spec := "packLays", unfollowed := true, recurses := true, apart := false }
def PackLaysSaid : Prop := packLaysRow.holds Try.pinned (OpenSpec.ofChange packLaysSpec)

/-- ITS FALSE NEIGHBOUR: 'it returns false'. Refute it at one input. -/
def packLaysWrong : ChangeSpec := { name := "packLays", fn := fun _ => fun
  | [d1, d2, d3] => { results := [.lit (.bool false)], args := [d1, d2, d3] }
  | _ => none }
def PackLaysWrongFalsely : Prop := packLaysRow.holds Try.pinned (OpenSpec.ofChange packLaysWrong)

/-- 'stetlaw46.KeepReads': WHATEVER THE INPUT: true; the input reads as it did. -/
def keepReadsSpec : ChangeSpec := { name := "keepReads", fn := fun _ => fun
  | [d1, d2] => { results := [.lit (.bool true)], args := [d1, d2] }
  | _ => none }
def keepReadsRow : OpenClaim := { program := "ytllgfmijocgniaa", sum := "b7651d08a1bb74ad61921452c66ae4ad183778fc85b6ba3a72ff14d3a54b6f07", func := "stet/stetlaw46.KeepReads", spec := "keepReads", unfollowed := true, recurses := true, apart := false }
def KeepReadsSaid : Prop := keepReadsRow.holds Try.pinned (OpenSpec.ofChange keepReadsSpec)

/-- ITS FALSE NEIGHBOUR: 'it returns false'. Refute it at one input. -/
def keepReadsWrong : ChangeSpec := { name := "keepReads", fn := fun _ => fun
  | [d1, d2] => { results := [.lit (.bool false)], args := [d1, d2] }
  | _ => none }
def KeepReadsWrongFalsely : Prop := keepReadsRow.holds Try.pinned (OpenSpec.ofChange keepReadsWrong)

/-- 'stetlaw46.KeepGrows': WHATEVER THE INPUT: true; the input reads as it did. -/
def keepGrowsSpec : ChangeSpec := { name := "keepGrows", fn := fun _ => fun
  | [d1, d2] => { results := [.lit (.bool true)], args := [d1, d2] }
  | _ => none }
def keepGrowsRow : OpenClaim := { program := "ytllgfmijocgniaa", sum := "b7651d08a1bb74ad61921452c66ae4ad183778fc85b6ba3a72ff14d3a54b6f07", func := "stet/stetlaw46.KeepGrows", spec := "keepGrows", unfollowed := true, recurses := true, apart := false }
def KeepGrowsSaid : Prop := keepGrowsRow.holds Try.pinned (OpenSpec.ofChange keepGrowsSpec)

/-- ITS FALSE NEIGHBOUR: 'it returns false'. Refute it at one input. -/
def keepGrowsWrong : ChangeSpec := { name := "keepGrows", fn := fun _ => fun
  | [d1, d2] => { results := [.lit (.bool false)], args := [d1, d2] }
  | _ => none }
def KeepGrowsWrongFalsely : Prop := keepGrowsRow.holds Try.pinned (OpenSpec.ofChange keepGrowsWrong)

/- THE SECOND FORM. 'bulk': how many values and letters a reading holds, each counted each time it is reached (what is shared counts as often as it is met; a slice's spare places count too). A statement '..UptoSaid' is the law's where the arguments, and the package variables that the reading takes, are together of bulk at most 1048576: NARROWER than '..Said'. Prove '..Said' where nothing that the law and all that it calls make is longer than what came in: it says more and counts as full. Else prove '..UptoSaid'. A law counts once. -/
mutual
def uptoBulk {H : Type} : DataW H → Nat
  | .lit (.string bytes) => bytes.length + 1
  | .lit _ => 1
  | .nil => 1
  | .ptr d => uptoBulk d + 1
  | .slice elems spare => uptoBulkAll elems + uptoBulkAll spare + 1
  | .agg parts => uptoBulkAll parts + 1
  | .iface _ d => uptoBulk d + 1
  | .map entries => uptoBulkEntries entries + 1
  | .held _ => 1
def uptoBulkAll {H : Type} : List (DataW H) → Nat
  | [] => 0
  | d :: r => uptoBulk d + uptoBulkAll r
def uptoBulkEntries {H : Type} : List (Lit × DataW H) → Nat
  | [] => 0
  | x :: r => uptoBulkEntry x + uptoBulkEntries r
def uptoBulkEntry {H : Type} : Lit × DataW H → Nat
  | (.string bytes, d) => bytes.length + uptoBulk d + 1
  | (_, d) => uptoBulk d + 1
 end
def uptoSmall : (H : Type) → List (DataW H) → Bool := fun _ ds => decide (uptoBulkAll ds ≤ 1048576)
def OpenSpec.upto (s : _root_.Go.ChangeSpec) : _root_.Go.OpenSpec := { _root_.Go.OpenSpec.ofChange s with cond := some uptoSmall }

/-- 'stetlaw45.PackLays', WHERE WHAT IT READS IS OF BULK AT MOST 1048576: true; the input reads as it did. -/
def packLaysUptoRow : OpenClaim := { program := "ytllgfmijocgniaa", sum := "b7651d08a1bb74ad61921452c66ae4ad183778fc85b6ba3a72ff14d3a54b6f07", func := "stet/stetlaw45.PackLays", spec := "packLays", unfollowed := true, recurses := true, apart := false, narrowed := true }
def PackLaysUptoSaid : Prop := packLaysUptoRow.holds Try.pinned (OpenSpec.upto packLaysSpec)

/-- 'stetlaw46.KeepReads', WHERE WHAT IT READS IS OF BULK AT MOST 1048576: true; the input reads as it did. -/
def keepReadsUptoRow : OpenClaim := { program := "ytllgfmijocgniaa", sum := "b7651d08a1bb74ad61921452c66ae4ad183778fc85b6ba3a72ff14d3a54b6f07", func := "stet/stetlaw46.KeepReads", spec := "keepReads", unfollowed := true, recurses := true, apart := false, narrowed := true }
def KeepReadsUptoSaid : Prop := keepReadsUptoRow.holds Try.pinned (OpenSpec.upto keepReadsSpec)

/-- 'stetlaw46.KeepGrows', WHERE WHAT IT READS IS OF BULK AT MOST 1048576: true; the input reads as it did. -/
def keepGrowsUptoRow : OpenClaim := { program := "ytllgfmijocgniaa", sum := "b7651d08a1bb74ad61921452c66ae4ad183778fc85b6ba3a72ff14d3a54b6f07", func := "stet/stetlaw46.KeepGrows", spec := "keepGrows", unfollowed := true, recurses := true, apart := false, narrowed := true }
def KeepGrowsUptoSaid : Prop := keepGrowsUptoRow.holds Try.pinned (OpenSpec.upto keepGrowsSpec)

end Rows
end Go.Proofs.Ytllgfmijocgniaa
