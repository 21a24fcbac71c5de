/-
  No cell of these rows narrows 'for every input' (looked for: loops, veiled, ifaces, maps, wideKeys, modest, calm, conditions, laid).
  DERIVED. THE GIVEN ROWS OF THIS SEAT. 6 by the template 'for every input the law returns true; each argument reads behind the call as it read before'; 0 by the template 'total and deterministic' (their statements: YtakdcankhfeobaaTotals.lean).
  GIVEN WITH THE SEED: the statements are not yours to turn. If you find one false, say at which input.
  Laid BY PROGRAM, IN A SANDBOX (cutbox-rows.mjs): the forced cells as the released guide's own fill.sh prints them over the translation 37a54c60b98818fb… (all of the seat's roots in one cut). By AI agents, Wed Nov 11 2026. No macro, syntax, notation, axiom, sorry.
-/
import Derived.Test.YtakdcankhfeobaaChecked
import GoSem.Claim
import GoSem.ClaimJoined
import GoSem.ClaimMapViews
import Derived.JoinedTies
import Derived.KernelRfl
namespace Go.Proofs.Ytakdcankhfeobaa
/- THE CELL 'sum', in the pinned program and in every row, IS THE sha256 OF THE DUMP (.gsa) THAT YtakdcankhfeobaaProg.lean LOADS. Nothing in Lean hashes anything: it is a label: what it is worth is what the hold of that sum in a sandbox is worth. -/
noncomputable def Try.pinned : Pinned := { name := "ytakdcankhfeobaa", sum := "37a54c60b98818fb2ed32f0815f90af4116d2989c590887cca54184b2909eb30", checked := Try.checked }
namespace Rows
def none {H : Type} : Left H := { results := [], args := [] }

/-- 'tailracelaw23.FamilyKnown': WHATEVER THE INPUT: true; the input reads as it did. -/
def familyKnownSpec : ChangeSpec := { name := "familyKnown", fn := fun _ => fun
  | [] => { results := [.lit (.bool true)], args := [] }
  | _ => none }
def familyKnownRow : OpenClaim := { program := "ytakdcankhfeobaa", sum := "37a54c60b98818fb2ed32f0815f90af4116d2989c590887cca54184b2909eb30", func := "tailrace/tailracelaw23.FamilyKnown", spec := "familyKnown", apart := false }
def FamilyKnownSaid : Prop := familyKnownRow.holds Try.pinned (OpenSpec.ofChange familyKnownSpec)

/-- ITS FALSE NEIGHBOUR: 'it returns false'. Refute it at one input. -/
def familyKnownWrong : ChangeSpec := { name := "familyKnown", fn := fun _ => fun
  | [] => { results := [.lit (.bool false)], args := [] }
  | _ => none }
def FamilyKnownWrongFalsely : Prop := familyKnownRow.holds Try.pinned (OpenSpec.ofChange familyKnownWrong)

/-- 'tailracelaw23.FamilyPlays': WHATEVER THE INPUT: true; the input reads as it did. -/
def familyPlaysSpec : ChangeSpec := { name := "familyPlays", fn := fun _ => fun
  | [d] => { results := [.lit (.bool true)], args := [d] }
  | _ => none }
def familyPlaysRow : OpenClaim := { program := "ytakdcankhfeobaa", sum := "37a54c60b98818fb2ed32f0815f90af4116d2989c590887cca54184b2909eb30", func := "tailrace/tailracelaw23.FamilyPlays", spec := "familyPlays", apart := false }
def FamilyPlaysSaid : Prop := familyPlaysRow.holds Try.pinned (OpenSpec.ofChange familyPlaysSpec)

/-- ITS FALSE NEIGHBOUR: 'it returns false'. Refute it at one input. -/
def familyPlaysWrong : ChangeSpec := { name := "familyPlays", fn := fun _ => fun
  | [d] => { results := [.lit (.bool false)], args := [d] }
  | _ => none }
def FamilyPlaysWrongFalsely : Prop := familyPlaysRow.holds Try.pinned (OpenSpec.ofChange familyPlaysWrong)

/-- 'tailracelaw23.FamilyKeeps': WHATEVER THE INPUT: true; the input reads as it did. -/
def familyKeepsSpec : ChangeSpec := { name := "familyKeeps", fn := fun _ => fun
  | [d] => { results := [.lit (.bool true)], args := [d] }
  | _ => none }
def familyKeepsRow : OpenClaim := { program := "ytakdcankhfeobaa", sum := "37a54c60b98818fb2ed32f0815f90af4116d2989c590887cca54184b2909eb30", func := "tailrace/tailracelaw23.FamilyKeeps", spec := "familyKeeps", apart := false }
def FamilyKeepsSaid : Prop := familyKeepsRow.holds Try.pinned (OpenSpec.ofChange familyKeepsSpec)

/-- ITS FALSE NEIGHBOUR: 'it returns false'. Refute it at one input. -/
def familyKeepsWrong : ChangeSpec := { name := "familyKeeps", fn := fun _ => fun
  | [d] => { results := [.lit (.bool false)], args := [d] }
  | _ => none }
def FamilyKeepsWrongFalsely : Prop := familyKeepsRow.holds Try.pinned (OpenSpec.ofChange familyKeepsWrong)

/-- 'tailracelaw24.FollowKnown': WHATEVER THE INPUT: true; the input reads as it did. -/
def followKnownSpec : ChangeSpec := { name := "followKnown", fn := fun _ => fun
  | [] => { results := [.lit (.bool true)], args := [] }
  | _ => none }
def followKnownRow : OpenClaim := { program := "ytakdcankhfeobaa", sum := "37a54c60b98818fb2ed32f0815f90af4116d2989c590887cca54184b2909eb30", func := "tailrace/tailracelaw24.FollowKnown", spec := "followKnown", inPlace := ["math.archTrunc", "math.Float64bits", "math.Float64frombits"], apart := false }
def FollowKnownSaid : Prop := followKnownRow.holds Try.pinned (OpenSpec.ofChange followKnownSpec)

/-- ITS FALSE NEIGHBOUR: 'it returns false'. Refute it at one input. -/
def followKnownWrong : ChangeSpec := { name := "followKnown", fn := fun _ => fun
  | [] => { results := [.lit (.bool false)], args := [] }
  | _ => none }
def FollowKnownWrongFalsely : Prop := followKnownRow.holds Try.pinned (OpenSpec.ofChange followKnownWrong)

/-- 'tailracelaw24.FollowAll': WHATEVER THE INPUT: true; the input reads as it did. -/
def followAllSpec : ChangeSpec := { name := "followAll", fn := fun _ => fun
  | [d1, d2] => { results := [.lit (.bool true)], args := [d1, d2] }
  | _ => none }
def followAllRow : OpenClaim := { program := "ytakdcankhfeobaa", sum := "37a54c60b98818fb2ed32f0815f90af4116d2989c590887cca54184b2909eb30", func := "tailrace/tailracelaw24.FollowAll", spec := "followAll", inPlace := ["math.archTrunc", "math.Float64bits", "math.Float64frombits", "math.archFloor"], unfollowed := true, recurses := true, apart := false }
def FollowAllSaid : Prop := followAllRow.holds Try.pinned (OpenSpec.ofChange followAllSpec)

/-- ITS FALSE NEIGHBOUR: 'it returns false'. Refute it at one input. -/
def followAllWrong : ChangeSpec := { name := "followAll", fn := fun _ => fun
  | [d1, d2] => { results := [.lit (.bool false)], args := [d1, d2] }
  | _ => none }
def FollowAllWrongFalsely : Prop := followAllRow.holds Try.pinned (OpenSpec.ofChange followAllWrong)

/-- 'tailracelaw24.FollowGaps': WHATEVER THE INPUT: true; the input reads as it did. -/
def followGapsSpec : ChangeSpec := { name := "followGaps", fn := fun _ => fun
  | [d1, d2] => { results := [.lit (.bool true)], args := [d1, d2] }
  | _ => none }
def followGapsRow : OpenClaim := { program := "ytakdcankhfeobaa", sum := "37a54c60b98818fb2ed32f0815f90af4116d2989c590887cca54184b2909eb30", func := "tailrace/tailracelaw24.FollowGaps", spec := "followGaps", inPlace := ["math.archTrunc", "math.Float64bits", "math.Float64frombits", "math.archFloor"], apart := false }
def FollowGapsSaid : Prop := followGapsRow.holds Try.pinned (OpenSpec.ofChange followGapsSpec)

/-- ITS FALSE NEIGHBOUR: 'it returns false'. Refute it at one input. -/
def followGapsWrong : ChangeSpec := { name := "followGaps", fn := fun _ => fun
  | [d1, d2] => { results := [.lit (.bool false)], args := [d1, d2] }
  | _ => none }
def FollowGapsWrongFalsely : Prop := followGapsRow.holds Try.pinned (OpenSpec.ofChange followGapsWrong)

/- THE SECOND FORM. 'bulk': how many values and letters a reading holds, each counted each time it is reached (what is shared counts as often as it is met; a slice's spare places count too). A statement '..UptoSaid' is the law's where the arguments, and the package variables that the reading takes, are together of bulk at most 1048576: NARROWER than '..Said'. Prove '..Said' where nothing that the law and all that it calls make is longer than what came in: it says more and counts as full. Else prove '..UptoSaid'. A law counts once. -/
mutual
def uptoBulk {H : Type} : DataW H → Nat
  | .lit (.string bytes) => bytes.length + 1
  | .lit _ => 1
  | .nil => 1
  | .ptr d => uptoBulk d + 1
  | .slice elems spare => uptoBulkAll elems + uptoBulkAll spare + 1
  | .agg parts => uptoBulkAll parts + 1
  | .iface _ d => uptoBulk d + 1
  | .map entries => uptoBulkEntries entries + 1
  | .held _ => 1
def uptoBulkAll {H : Type} : List (DataW H) → Nat
  | [] => 0
  | d :: r => uptoBulk d + uptoBulkAll r
def uptoBulkEntries {H : Type} : List (Lit × DataW H) → Nat
  | [] => 0
  | x :: r => uptoBulkEntry x + uptoBulkEntries r
def uptoBulkEntry {H : Type} : Lit × DataW H → Nat
  | (.string bytes, d) => bytes.length + uptoBulk d + 1
  | (_, d) => uptoBulk d + 1
 end
def uptoSmall : (H : Type) → List (DataW H) → Bool := fun _ ds => decide (uptoBulkAll ds ≤ 1048576)
def OpenSpec.upto (s : _root_.Go.ChangeSpec) : _root_.Go.OpenSpec := { _root_.Go.OpenSpec.ofChange s with cond := some uptoSmall }

/-- 'tailracelaw23.FamilyKnown', WHERE WHAT IT READS IS OF BULK AT MOST 1048576: true; the input reads as it did. -/
def familyKnownUptoRow : OpenClaim := { program := "ytakdcankhfeobaa", sum := "37a54c60b98818fb2ed32f0815f90af4116d2989c590887cca54184b2909eb30", func := "tailrace/tailracelaw23.FamilyKnown", spec := "familyKnown", apart := false, narrowed := true }
def FamilyKnownUptoSaid : Prop := familyKnownUptoRow.holds Try.pinned (OpenSpec.upto familyKnownSpec)

/-- 'tailracelaw23.FamilyPlays', WHERE WHAT IT READS IS OF BULK AT MOST 1048576: true; the input reads as it did. -/
def familyPlaysUptoRow : OpenClaim := { program := "ytakdcankhfeobaa", sum := "37a54c60b98818fb2ed32f0815f90af4116d2989c590887cca54184b2909eb30", func := "tailrace/tailracelaw23.FamilyPlays", spec := "familyPlays", apart := false, narrowed := true }
def FamilyPlaysUptoSaid : Prop := familyPlaysUptoRow.holds Try.pinned (OpenSpec.upto familyPlaysSpec)

/-- 'tailracelaw23.FamilyKeeps', WHERE WHAT IT READS IS OF BULK AT MOST 1048576: true; the input reads as it did. -/
def familyKeepsUptoRow : OpenClaim := { program := "ytakdcankhfeobaa", sum := "37a54c60b98818fb2ed32f0815f90af4116d2989c590887cca54184b2909eb30", func := "tailrace/tailracelaw23.FamilyKeeps", spec := "familyKeeps", apart := false, narrowed := true }
def FamilyKeepsUptoSaid : Prop := familyKeepsUptoRow.holds Try.pinned (OpenSpec.upto familyKeepsSpec)

/-- 'tailracelaw24.FollowKnown', WHERE WHAT IT READS IS OF BULK AT MOST 1048576: true; the input reads as it did. -/
def followKnownUptoRow : OpenClaim := { program := "ytakdcankhfeobaa", sum := "37a54c60b98818fb2ed32f0815f90af4116d2989c590887cca54184b2909eb30", func := "tailrace/tailracelaw24.FollowKnown", spec := "followKnown", inPlace := ["math.archTrunc", "math.Float64bits", "math.Float64frombits"], apart := false, narrowed := true }
def FollowKnownUptoSaid : Prop := followKnownUptoRow.holds Try.pinned (OpenSpec.upto followKnownSpec)

/-- 'tailracelaw24.FollowAll', WHERE WHAT IT READS IS OF BULK AT MOST 1048576: true; the input reads as it did. -/
def followAllUptoRow : OpenClaim := { program := "ytakdcankhfeobaa", sum := "37a54c60b98818fb2ed32f0815f90af4116d2989c590887cca54184b2909eb30", func := "tailrace/tailracelaw24.FollowAll", spec := "followAll", inPlace := ["math.archTrunc", "math.Float64bits", "math.Float64frombits", "math.archFloor"], unfollowed := true, recurses := true, apart := false, narrowed := true }
def FollowAllUptoSaid : Prop := followAllUptoRow.holds Try.pinned (OpenSpec.upto followAllSpec)

/-- 'tailracelaw24.FollowGaps', WHERE WHAT IT READS IS OF BULK AT MOST 1048576: true; the input reads as it did. -/
def followGapsUptoRow : OpenClaim := { program := "ytakdcankhfeobaa", sum := "37a54c60b98818fb2ed32f0815f90af4116d2989c590887cca54184b2909eb30", func := "tailrace/tailracelaw24.FollowGaps", spec := "followGaps", inPlace := ["math.archTrunc", "math.Float64bits", "math.Float64frombits", "math.archFloor"], apart := false, narrowed := true }
def FollowGapsUptoSaid : Prop := followGapsUptoRow.holds Try.pinned (OpenSpec.upto followGapsSpec)

end Rows
end Go.Proofs.Ytakdcankhfeobaa
