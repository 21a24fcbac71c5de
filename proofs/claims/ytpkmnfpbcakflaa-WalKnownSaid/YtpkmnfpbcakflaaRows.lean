/-
  No cell of these rows narrows 'for every input' (looked for: loops, veiled, ifaces, maps, wideKeys, modest, calm, conditions, laid).
  DERIVED. THE GIVEN ROWS OF THIS SEAT. 11 by the template 'for every input the law returns true; each argument reads behind the call as it read before'; 0 by the template 'total and deterministic' (their statements: YtpkmnfpbcakflaaTotals.lean).
  GIVEN WITH THE SEED: the statements are not yours to turn. If you find one false, say at which input.
  Laid BY PROGRAM, IN A SANDBOX (cutbox-rows.mjs): the forced cells as the released guide's own fill.sh prints them over the translation 0901629f31688872… (all of the seat's roots in one cut). By AI agents, Wed Nov 11 2026. No macro, syntax, notation, axiom, sorry.
-/
import Derived.Test.YtpkmnfpbcakflaaChecked
import GoSem.Claim
import GoSem.ClaimJoined
import GoSem.ClaimMapViews
import Derived.JoinedTies
import Derived.KernelRfl
namespace Go.Proofs.Ytpkmnfpbcakflaa
/- THE CELL 'sum', in the pinned program and in every row, IS THE sha256 OF THE DUMP (.gsa) THAT YtpkmnfpbcakflaaProg.lean LOADS. Nothing in Lean hashes anything: it is a label: what it is worth is what the hold of that sum in a sandbox is worth. -/
noncomputable def Try.pinned : Pinned := { name := "ytpkmnfpbcakflaa", sum := "0901629f316888722394b5a35bee76393a3ffd6c8dfb751240df25bc791b7ed1", checked := Try.checked }
namespace Rows
def none {H : Type} : Left H := { results := [], args := [] }

/-- 'tailracelaw2.DiskCuts': WHATEVER THE INPUT: true; the input reads as it did. -/
def diskCutsSpec : ChangeSpec := { name := "diskCuts", fn := fun _ => fun
  | [d1, d2] => { results := [.lit (.bool true)], args := [d1, d2] }
  | _ => none }
def diskCutsRow : OpenClaim := { program := "ytpkmnfpbcakflaa", sum := "0901629f316888722394b5a35bee76393a3ffd6c8dfb751240df25bc791b7ed1", func := "tailrace/tailracelaw2.DiskCuts", spec := "diskCuts", apart := false }
def DiskCutsSaid : Prop := diskCutsRow.holds Try.pinned (OpenSpec.ofChange diskCutsSpec)

/-- ITS FALSE NEIGHBOUR: 'it returns false'. Refute it at one input. -/
def diskCutsWrong : ChangeSpec := { name := "diskCuts", fn := fun _ => fun
  | [d1, d2] => { results := [.lit (.bool false)], args := [d1, d2] }
  | _ => none }
def DiskCutsWrongFalsely : Prop := diskCutsRow.holds Try.pinned (OpenSpec.ofChange diskCutsWrong)

/-- 'tailracelaw2.DiskOwn': WHATEVER THE INPUT: true; the input reads as it did. -/
def diskOwnSpec : ChangeSpec := { name := "diskOwn", fn := fun _ => fun
  | [d] => { results := [.lit (.bool true)], args := [d] }
  | _ => none }
def diskOwnRow : OpenClaim := { program := "ytpkmnfpbcakflaa", sum := "0901629f316888722394b5a35bee76393a3ffd6c8dfb751240df25bc791b7ed1", func := "tailrace/tailracelaw2.DiskOwn", spec := "diskOwn", apart := false }
def DiskOwnSaid : Prop := diskOwnRow.holds Try.pinned (OpenSpec.ofChange diskOwnSpec)

/-- ITS FALSE NEIGHBOUR: 'it returns false'. Refute it at one input. -/
def diskOwnWrong : ChangeSpec := { name := "diskOwn", fn := fun _ => fun
  | [d] => { results := [.lit (.bool false)], args := [d] }
  | _ => none }
def DiskOwnWrongFalsely : Prop := diskOwnRow.holds Try.pinned (OpenSpec.ofChange diskOwnWrong)

/-- 'tailracelaw2.DiskSynced': WHATEVER THE INPUT: true; the input reads as it did. -/
def diskSyncedSpec : ChangeSpec := { name := "diskSynced", fn := fun _ => fun
  | [d1, d2, d3, d4] => { results := [.lit (.bool true)], args := [d1, d2, d3, d4] }
  | _ => none }
def diskSyncedRow : OpenClaim := { program := "ytpkmnfpbcakflaa", sum := "0901629f316888722394b5a35bee76393a3ffd6c8dfb751240df25bc791b7ed1", func := "tailrace/tailracelaw2.DiskSynced", spec := "diskSynced", apart := false }
def DiskSyncedSaid : Prop := diskSyncedRow.holds Try.pinned (OpenSpec.ofChange diskSyncedSpec)

/-- ITS FALSE NEIGHBOUR: 'it returns false'. Refute it at one input. -/
def diskSyncedWrong : ChangeSpec := { name := "diskSynced", fn := fun _ => fun
  | [d1, d2, d3, d4] => { results := [.lit (.bool false)], args := [d1, d2, d3, d4] }
  | _ => none }
def DiskSyncedWrongFalsely : Prop := diskSyncedRow.holds Try.pinned (OpenSpec.ofChange diskSyncedWrong)

/-- 'tailracelaw2.DiskFuses': WHATEVER THE INPUT: true; the input reads as it did. -/
def diskFusesSpec : ChangeSpec := { name := "diskFuses", fn := fun _ => fun
  | [d1, d2] => { results := [.lit (.bool true)], args := [d1, d2] }
  | _ => none }
def diskFusesRow : OpenClaim := { program := "ytpkmnfpbcakflaa", sum := "0901629f316888722394b5a35bee76393a3ffd6c8dfb751240df25bc791b7ed1", func := "tailrace/tailracelaw2.DiskFuses", spec := "diskFuses", apart := false }
def DiskFusesSaid : Prop := diskFusesRow.holds Try.pinned (OpenSpec.ofChange diskFusesSpec)

/-- ITS FALSE NEIGHBOUR: 'it returns false'. Refute it at one input. -/
def diskFusesWrong : ChangeSpec := { name := "diskFuses", fn := fun _ => fun
  | [d1, d2] => { results := [.lit (.bool false)], args := [d1, d2] }
  | _ => none }
def DiskFusesWrongFalsely : Prop := diskFusesRow.holds Try.pinned (OpenSpec.ofChange diskFusesWrong)

/-- 'tailracelaw2.DiskKnown': WHATEVER THE INPUT: true; the input reads as it did. -/
def diskKnownSpec : ChangeSpec := { name := "diskKnown", fn := fun _ => fun
  | [] => { results := [.lit (.bool true)], args := [] }
  | _ => none }
def diskKnownRow : OpenClaim := { program := "ytpkmnfpbcakflaa", sum := "0901629f316888722394b5a35bee76393a3ffd6c8dfb751240df25bc791b7ed1", func := "tailrace/tailracelaw2.DiskKnown", spec := "diskKnown", recurses := true, apart := false }
def DiskKnownSaid : Prop := diskKnownRow.holds Try.pinned (OpenSpec.ofChange diskKnownSpec)

/-- ITS FALSE NEIGHBOUR: 'it returns false'. Refute it at one input. -/
def diskKnownWrong : ChangeSpec := { name := "diskKnown", fn := fun _ => fun
  | [] => { results := [.lit (.bool false)], args := [] }
  | _ => none }
def DiskKnownWrongFalsely : Prop := diskKnownRow.holds Try.pinned (OpenSpec.ofChange diskKnownWrong)

/-- 'tailracelaw6.SnapKnown': WHATEVER THE INPUT: true; the input reads as it did. -/
def snapKnownSpec : ChangeSpec := { name := "snapKnown", fn := fun _ => fun
  | [] => { results := [.lit (.bool true)], args := [] }
  | _ => none }
def snapKnownRow : OpenClaim := { program := "ytpkmnfpbcakflaa", sum := "0901629f316888722394b5a35bee76393a3ffd6c8dfb751240df25bc791b7ed1", func := "tailrace/tailracelaw6.SnapKnown", spec := "snapKnown", apart := false }
def SnapKnownSaid : Prop := snapKnownRow.holds Try.pinned (OpenSpec.ofChange snapKnownSpec)

/-- ITS FALSE NEIGHBOUR: 'it returns false'. Refute it at one input. -/
def snapKnownWrong : ChangeSpec := { name := "snapKnown", fn := fun _ => fun
  | [] => { results := [.lit (.bool false)], args := [] }
  | _ => none }
def SnapKnownWrongFalsely : Prop := snapKnownRow.holds Try.pinned (OpenSpec.ofChange snapKnownWrong)

/-- 'tailracelaw6.SnapKeeps': WHATEVER THE INPUT: true; the input reads as it did. -/
def snapKeepsSpec : ChangeSpec := { name := "snapKeeps", fn := fun _ => fun
  | [d] => { results := [.lit (.bool true)], args := [d] }
  | _ => none }
def snapKeepsRow : OpenClaim := { program := "ytpkmnfpbcakflaa", sum := "0901629f316888722394b5a35bee76393a3ffd6c8dfb751240df25bc791b7ed1", func := "tailrace/tailracelaw6.SnapKeeps", spec := "snapKeeps", apart := false }
def SnapKeepsSaid : Prop := snapKeepsRow.holds Try.pinned (OpenSpec.ofChange snapKeepsSpec)

/-- ITS FALSE NEIGHBOUR: 'it returns false'. Refute it at one input. -/
def snapKeepsWrong : ChangeSpec := { name := "snapKeeps", fn := fun _ => fun
  | [d] => { results := [.lit (.bool false)], args := [d] }
  | _ => none }
def SnapKeepsWrongFalsely : Prop := snapKeepsRow.holds Try.pinned (OpenSpec.ofChange snapKeepsWrong)

/-- 'tailracelaw6.SnapAny': WHATEVER THE INPUT: true; the input reads as it did. -/
def snapAnySpec : ChangeSpec := { name := "snapAny", fn := fun _ => fun
  | [d1, d2, d3, d4] => { results := [.lit (.bool true)], args := [d1, d2, d3, d4] }
  | _ => none }
def snapAnyRow : OpenClaim := { program := "ytpkmnfpbcakflaa", sum := "0901629f316888722394b5a35bee76393a3ffd6c8dfb751240df25bc791b7ed1", func := "tailrace/tailracelaw6.SnapAny", spec := "snapAny", recurses := true, apart := false }
def SnapAnySaid : Prop := snapAnyRow.holds Try.pinned (OpenSpec.ofChange snapAnySpec)

/-- ITS FALSE NEIGHBOUR: 'it returns false'. Refute it at one input. -/
def snapAnyWrong : ChangeSpec := { name := "snapAny", fn := fun _ => fun
  | [d1, d2, d3, d4] => { results := [.lit (.bool false)], args := [d1, d2, d3, d4] }
  | _ => none }
def SnapAnyWrongFalsely : Prop := snapAnyRow.holds Try.pinned (OpenSpec.ofChange snapAnyWrong)

/-- 'tailracelaw6.SnapPlays': WHATEVER THE INPUT: true; the input reads as it did. -/
def snapPlaysSpec : ChangeSpec := { name := "snapPlays", fn := fun _ => fun
  | [d] => { results := [.lit (.bool true)], args := [d] }
  | _ => none }
def snapPlaysRow : OpenClaim := { program := "ytpkmnfpbcakflaa", sum := "0901629f316888722394b5a35bee76393a3ffd6c8dfb751240df25bc791b7ed1", func := "tailrace/tailracelaw6.SnapPlays", spec := "snapPlays", recurses := true, apart := false }
def SnapPlaysSaid : Prop := snapPlaysRow.holds Try.pinned (OpenSpec.ofChange snapPlaysSpec)

/-- ITS FALSE NEIGHBOUR: 'it returns false'. Refute it at one input. -/
def snapPlaysWrong : ChangeSpec := { name := "snapPlays", fn := fun _ => fun
  | [d] => { results := [.lit (.bool false)], args := [d] }
  | _ => none }
def SnapPlaysWrongFalsely : Prop := snapPlaysRow.holds Try.pinned (OpenSpec.ofChange snapPlaysWrong)

/-- 'tailracelaw5.WalNames': WHATEVER THE INPUT: true; the input reads as it did. -/
def walNamesSpec : ChangeSpec := { name := "walNames", fn := fun _ => fun
  | [d] => { results := [.lit (.bool true)], args := [d] }
  | _ => none }
def walNamesRow : OpenClaim := { program := "ytpkmnfpbcakflaa", sum := "0901629f316888722394b5a35bee76393a3ffd6c8dfb751240df25bc791b7ed1", func := "tailrace/tailracelaw5.WalNames", spec := "walNames", inPlace := ["math.archTrunc", "math.Float64bits", "math.Float64frombits"], recurses := true, apart := false }
def WalNamesSaid : Prop := walNamesRow.holds Try.pinned (OpenSpec.ofChange walNamesSpec)

/-- ITS FALSE NEIGHBOUR: 'it returns false'. Refute it at one input. -/
def walNamesWrong : ChangeSpec := { name := "walNames", fn := fun _ => fun
  | [d] => { results := [.lit (.bool false)], args := [d] }
  | _ => none }
def WalNamesWrongFalsely : Prop := walNamesRow.holds Try.pinned (OpenSpec.ofChange walNamesWrong)

/-- 'tailracelaw5.WalKnown': WHATEVER THE INPUT: true; the input reads as it did. -/
def walKnownSpec : ChangeSpec := { name := "walKnown", fn := fun _ => fun
  | [] => { results := [.lit (.bool true)], args := [] }
  | _ => none }
def walKnownRow : OpenClaim := { program := "ytpkmnfpbcakflaa", sum := "0901629f316888722394b5a35bee76393a3ffd6c8dfb751240df25bc791b7ed1", func := "tailrace/tailracelaw5.WalKnown", spec := "walKnown", inPlace := ["math.archTrunc", "math.Float64bits", "math.Float64frombits"], recurses := true, apart := false }
def WalKnownSaid : Prop := walKnownRow.holds Try.pinned (OpenSpec.ofChange walKnownSpec)

/-- ITS FALSE NEIGHBOUR: 'it returns false'. Refute it at one input. -/
def walKnownWrong : ChangeSpec := { name := "walKnown", fn := fun _ => fun
  | [] => { results := [.lit (.bool false)], args := [] }
  | _ => none }
def WalKnownWrongFalsely : Prop := walKnownRow.holds Try.pinned (OpenSpec.ofChange walKnownWrong)

/- THE SECOND FORM. 'bulk': how many values and letters a reading holds, each counted each time it is reached (what is shared counts as often as it is met; a slice's spare places count too). A statement '..UptoSaid' is the law's where the arguments, and the package variables that the reading takes, are together of bulk at most 1048576: NARROWER than '..Said'. Prove '..Said' where nothing that the law and all that it calls make is longer than what came in: it says more and counts as full. Else prove '..UptoSaid'. A law counts once. -/
mutual
def uptoBulk {H : Type} : DataW H → Nat
  | .lit (.string bytes) => bytes.length + 1
  | .lit _ => 1
  | .nil => 1
  | .ptr d => uptoBulk d + 1
  | .slice elems spare => uptoBulkAll elems + uptoBulkAll spare + 1
  | .agg parts => uptoBulkAll parts + 1
  | .iface _ d => uptoBulk d + 1
  | .map entries => uptoBulkEntries entries + 1
  | .held _ => 1
def uptoBulkAll {H : Type} : List (DataW H) → Nat
  | [] => 0
  | d :: r => uptoBulk d + uptoBulkAll r
def uptoBulkEntries {H : Type} : List (Lit × DataW H) → Nat
  | [] => 0
  | x :: r => uptoBulkEntry x + uptoBulkEntries r
def uptoBulkEntry {H : Type} : Lit × DataW H → Nat
  | (.string bytes, d) => bytes.length + uptoBulk d + 1
  | (_, d) => uptoBulk d + 1
 end
def uptoSmall : (H : Type) → List (DataW H) → Bool := fun _ ds => decide (uptoBulkAll ds ≤ 1048576)
def OpenSpec.upto (s : _root_.Go.ChangeSpec) : _root_.Go.OpenSpec := { _root_.Go.OpenSpec.ofChange s with cond := some uptoSmall }

/-- 'tailracelaw2.DiskCuts', WHERE WHAT IT READS IS OF BULK AT MOST 1048576: true; the input reads as it did. -/
def diskCutsUptoRow : OpenClaim := { program := "ytpkmnfpbcakflaa", sum := "0901629f316888722394b5a35bee76393a3ffd6c8dfb751240df25bc791b7ed1", func := "tailrace/tailracelaw2.DiskCuts", spec := "diskCuts", apart := false, narrowed := true }
def DiskCutsUptoSaid : Prop := diskCutsUptoRow.holds Try.pinned (OpenSpec.upto diskCutsSpec)

/-- 'tailracelaw2.DiskOwn', WHERE WHAT IT READS IS OF BULK AT MOST 1048576: true; the input reads as it did. -/
def diskOwnUptoRow : OpenClaim := { program := "ytpkmnfpbcakflaa", sum := "0901629f316888722394b5a35bee76393a3ffd6c8dfb751240df25bc791b7ed1", func := "tailrace/tailracelaw2.DiskOwn", spec := "diskOwn", apart := false, narrowed := true }
def DiskOwnUptoSaid : Prop := diskOwnUptoRow.holds Try.pinned (OpenSpec.upto diskOwnSpec)

/-- 'tailracelaw2.DiskSynced', WHERE WHAT IT READS IS OF BULK AT MOST 1048576: true; the input reads as it did. -/
def diskSyncedUptoRow : OpenClaim := { program := "ytpkmnfpbcakflaa", sum := "0901629f316888722394b5a35bee76393a3ffd6c8dfb751240df25bc791b7ed1", func := "tailrace/tailracelaw2.DiskSynced", spec := "diskSynced", apart := false, narrowed := true }
def DiskSyncedUptoSaid : Prop := diskSyncedUptoRow.holds Try.pinned (OpenSpec.upto diskSyncedSpec)

/-- 'tailracelaw2.DiskFuses', WHERE WHAT IT READS IS OF BULK AT MOST 1048576: true; the input reads as it did. -/
def diskFusesUptoRow : OpenClaim := { program := "ytpkmnfpbcakflaa", sum := "0901629f316888722394b5a35bee76393a3ffd6c8dfb751240df25bc791b7ed1", func := "tailrace/tailracelaw2.DiskFuses", spec := "diskFuses", apart := false, narrowed := true }
def DiskFusesUptoSaid : Prop := diskFusesUptoRow.holds Try.pinned (OpenSpec.upto diskFusesSpec)

/-- 'tailracelaw2.DiskKnown', WHERE WHAT IT READS IS OF BULK AT MOST 1048576: true; the input reads as it did. -/
def diskKnownUptoRow : OpenClaim := { program := "ytpkmnfpbcakflaa", sum := "0901629f316888722394b5a35bee76393a3ffd6c8dfb751240df25bc791b7ed1", func := "tailrace/tailracelaw2.DiskKnown", spec := "diskKnown", recurses := true, apart := false, narrowed := true }
def DiskKnownUptoSaid : Prop := diskKnownUptoRow.holds Try.pinned (OpenSpec.upto diskKnownSpec)

/-- 'tailracelaw6.SnapKnown', WHERE WHAT IT READS IS OF BULK AT MOST 1048576: true; the input reads as it did. -/
def snapKnownUptoRow : OpenClaim := { program := "ytpkmnfpbcakflaa", sum := "0901629f316888722394b5a35bee76393a3ffd6c8dfb751240df25bc791b7ed1", func := "tailrace/tailracelaw6.SnapKnown", spec := "snapKnown", apart := false, narrowed := true }
def SnapKnownUptoSaid : Prop := snapKnownUptoRow.holds Try.pinned (OpenSpec.upto snapKnownSpec)

/-- 'tailracelaw6.SnapKeeps', WHERE WHAT IT READS IS OF BULK AT MOST 1048576: true; the input reads as it did. -/
def snapKeepsUptoRow : OpenClaim := { program := "ytpkmnfpbcakflaa", sum := "0901629f316888722394b5a35bee76393a3ffd6c8dfb751240df25bc791b7ed1", func := "tailrace/tailracelaw6.SnapKeeps", spec := "snapKeeps", apart := false, narrowed := true }
def SnapKeepsUptoSaid : Prop := snapKeepsUptoRow.holds Try.pinned (OpenSpec.upto snapKeepsSpec)

/-- 'tailracelaw6.SnapAny', WHERE WHAT IT READS IS OF BULK AT MOST 1048576: true; the input reads as it did. -/
def snapAnyUptoRow : OpenClaim := { program := "ytpkmnfpbcakflaa", sum := "0901629f316888722394b5a35bee76393a3ffd6c8dfb751240df25bc791b7ed1", func := "tailrace/tailracelaw6.SnapAny", spec := "snapAny", recurses := true, apart := false, narrowed := true }
def SnapAnyUptoSaid : Prop := snapAnyUptoRow.holds Try.pinned (OpenSpec.upto snapAnySpec)

/-- 'tailracelaw6.SnapPlays', WHERE WHAT IT READS IS OF BULK AT MOST 1048576: true; the input reads as it did. -/
def snapPlaysUptoRow : OpenClaim := { program := "ytpkmnfpbcakflaa", sum := "0901629f316888722394b5a35bee76393a3ffd6c8dfb751240df25bc791b7ed1", func := "tailrace/tailracelaw6.SnapPlays", spec := "snapPlays", recurses := true, apart := false, narrowed := true }
def SnapPlaysUptoSaid : Prop := snapPlaysUptoRow.holds Try.pinned (OpenSpec.upto snapPlaysSpec)

/-- 'tailracelaw5.WalNames', WHERE WHAT IT READS IS OF BULK AT MOST 1048576: true; the input reads as it did. -/
def walNamesUptoRow : OpenClaim := { program := "ytpkmnfpbcakflaa", sum := "0901629f316888722394b5a35bee76393a3ffd6c8dfb751240df25bc791b7ed1", func := "tailrace/tailracelaw5.WalNames", spec := "walNames", inPlace := ["math.archTrunc", "math.Float64bits", "math.Float64frombits"], recurses := true, apart := false, narrowed := true }
def WalNamesUptoSaid : Prop := walNamesUptoRow.holds Try.pinned (OpenSpec.upto walNamesSpec)

/-- 'tailracelaw5.WalKnown', WHERE WHAT IT READS IS OF BULK AT MOST 1048576: true; the input reads as it did. -/
def walKnownUptoRow : OpenClaim := { program := "ytpkmnfpbcakflaa", sum := "0901629f316888722394b5a35bee76393a3ffd6c8dfb751240df25bc791b7ed1", func := "tailrace/tailracelaw5.WalKnown", spec := "walKnown", inPlace := ["math.archTrunc", "math.Float64bits", "math.Float64frombits"], recurses := true, apart := false, narrowed := true }
def WalKnownUptoSaid : Prop := walKnownUptoRow.holds Try.pinned (OpenSpec.upto walKnownSpec)

end Rows
end Go.Proofs.Ytpkmnfpbcakflaa
