/-
  No cell of these rows narrows 'for every input' (looked for: loops, veiled, ifaces, maps, wideKeys, modest, calm, conditions, laid).
  DERIVED. THE GIVEN ROWS OF THIS SEAT. 4 by the template 'for every input the law returns true; each argument reads behind the call as it read before'; 0 by the template 'total and deterministic' (their statements: YtifoppgacekknaaTotals.lean).
  GIVEN WITH THE SEED: the statements are not yours to turn. If you find one false, say at which input.
  Laid BY PROGRAM, IN A SANDBOX (cutbox-rows.mjs): the forced cells as the released guide's own fill.sh prints them over the translation 98bbfe4f0c0b0448… (all of the seat's roots in one cut). By AI agents, Wed Nov 11 2026. No macro, syntax, notation, axiom, sorry.
-/
import Derived.Test.YtifoppgacekknaaChecked
import GoSem.Claim
import GoSem.ClaimJoined
import GoSem.ClaimMapViews
import Derived.JoinedTies
import Derived.KernelRfl
namespace Go.Proofs.Ytifoppgacekknaa
/- THE CELL 'sum', in the pinned program and in every row, IS THE sha256 OF THE DUMP (.gsa) THAT YtifoppgacekknaaProg.lean LOADS. Nothing in Lean hashes anything: it is a label: what it is worth is what the hold of that sum in a sandbox is worth. -/
noncomputable def Try.pinned : Pinned := { name := "ytifoppgacekknaa", sum := "98bbfe4f0c0b0448d9857f879afcbfe7f7af48cf699277cf58567f84b31479b4", checked := Try.checked }
namespace Rows
def none {H : Type} : Left H := { results := [], args := [] }

/-- 'revertlaw03.HashBuckets': WHATEVER THE INPUT: true; the input reads as it did. -/
def hashBucketsSpec : ChangeSpec := { name := "hashBuckets", fn := fun _ => fun
  | [d] => { results := [.lit (.bool true)], args := [d] }
  | _ => none }
def hashBucketsRow : OpenClaim := { program := "ytifoppgacekknaa", sum := "98bbfe4f0c0b0448d9857f879afcbfe7f7af48cf699277cf58567f84b31479b4", func := "revert/revertlaw03.HashBuckets", spec := "hashBuckets", unfollowed := true, recurses := true, apart := false }
def HashBucketsSaid : Prop := hashBucketsRow.holds Try.pinned (OpenSpec.ofChange hashBucketsSpec)

/-- ITS FALSE NEIGHBOUR: 'it returns false'. Refute it at one input. -/
def hashBucketsWrong : ChangeSpec := { name := "hashBuckets", fn := fun _ => fun
  | [d] => { results := [.lit (.bool false)], args := [d] }
  | _ => none }
def HashBucketsWrongFalsely : Prop := hashBucketsRow.holds Try.pinned (OpenSpec.ofChange hashBucketsWrong)

/-- 'revertlaw03.HashPlays': WHATEVER THE INPUT: true; the input reads as it did. -/
def hashPlaysSpec : ChangeSpec := { name := "hashPlays", fn := fun _ => fun
  | [d] => { results := [.lit (.bool true)], args := [d] }
  | _ => none }
def hashPlaysRow : OpenClaim := { program := "ytifoppgacekknaa", sum := "98bbfe4f0c0b0448d9857f879afcbfe7f7af48cf699277cf58567f84b31479b4", func := "revert/revertlaw03.HashPlays", spec := "hashPlays", unfollowed := true, recurses := true, apart := false }
def HashPlaysSaid : Prop := hashPlaysRow.holds Try.pinned (OpenSpec.ofChange hashPlaysSpec)

/-- ITS FALSE NEIGHBOUR: 'it returns false'. Refute it at one input. -/
def hashPlaysWrong : ChangeSpec := { name := "hashPlays", fn := fun _ => fun
  | [d] => { results := [.lit (.bool false)], args := [d] }
  | _ => none }
def HashPlaysWrongFalsely : Prop := hashPlaysRow.holds Try.pinned (OpenSpec.ofChange hashPlaysWrong)

/-- 'revertlaw03.HashKnown': WHATEVER THE INPUT: true; the input reads as it did. -/
def hashKnownSpec : ChangeSpec := { name := "hashKnown", fn := fun _ => fun
  | [] => { results := [.lit (.bool true)], args := [] }
  | _ => none }
def hashKnownRow : OpenClaim := { program := "ytifoppgacekknaa", sum := "98bbfe4f0c0b0448d9857f879afcbfe7f7af48cf699277cf58567f84b31479b4", func := "revert/revertlaw03.HashKnown", spec := "hashKnown", unfollowed := true, recurses := true, apart := false }
def HashKnownSaid : Prop := hashKnownRow.holds Try.pinned (OpenSpec.ofChange hashKnownSpec)

/-- ITS FALSE NEIGHBOUR: 'it returns false'. Refute it at one input. -/
def hashKnownWrong : ChangeSpec := { name := "hashKnown", fn := fun _ => fun
  | [] => { results := [.lit (.bool false)], args := [] }
  | _ => none }
def HashKnownWrongFalsely : Prop := hashKnownRow.holds Try.pinned (OpenSpec.ofChange hashKnownWrong)

/-- 'revertlaw03.HashFinds': WHATEVER THE INPUT: true; the input reads as it did. -/
def hashFindsSpec : ChangeSpec := { name := "hashFinds", fn := fun _ => fun
  | [d1, d2] => { results := [.lit (.bool true)], args := [d1, d2] }
  | _ => none }
def hashFindsRow : OpenClaim := { program := "ytifoppgacekknaa", sum := "98bbfe4f0c0b0448d9857f879afcbfe7f7af48cf699277cf58567f84b31479b4", func := "revert/revertlaw03.HashFinds", spec := "hashFinds", unfollowed := true, recurses := true, apart := false }
def HashFindsSaid : Prop := hashFindsRow.holds Try.pinned (OpenSpec.ofChange hashFindsSpec)

/-- ITS FALSE NEIGHBOUR: 'it returns false'. Refute it at one input. -/
def hashFindsWrong : ChangeSpec := { name := "hashFinds", fn := fun _ => fun
  | [d1, d2] => { results := [.lit (.bool false)], args := [d1, d2] }
  | _ => none }
def HashFindsWrongFalsely : Prop := hashFindsRow.holds Try.pinned (OpenSpec.ofChange hashFindsWrong)

/- THE SECOND FORM. 'bulk': how many values and letters a reading holds, each counted each time it is reached (what is shared counts as often as it is met; a slice's spare places count too). A statement '..UptoSaid' is the law's where the arguments, and the package variables that the reading takes, are together of bulk at most 1048576: NARROWER than '..Said'. Prove '..Said' where nothing that the law and all that it calls make is longer than what came in: it says more and counts as full. Else prove '..UptoSaid'. A law counts once. -/
mutual
def uptoBulk {H : Type} : DataW H → Nat
  | .lit (.string bytes) => bytes.length + 1
  | .lit _ => 1
  | .nil => 1
  | .ptr d => uptoBulk d + 1
  | .slice elems spare => uptoBulkAll elems + uptoBulkAll spare + 1
  | .agg parts => uptoBulkAll parts + 1
  | .iface _ d => uptoBulk d + 1
  | .map entries => uptoBulkEntries entries + 1
  | .held _ => 1
def uptoBulkAll {H : Type} : List (DataW H) → Nat
  | [] => 0
  | d :: r => uptoBulk d + uptoBulkAll r
def uptoBulkEntries {H : Type} : List (Lit × DataW H) → Nat
  | [] => 0
  | x :: r => uptoBulkEntry x + uptoBulkEntries r
def uptoBulkEntry {H : Type} : Lit × DataW H → Nat
  | (.string bytes, d) => bytes.length + uptoBulk d + 1
  | (_, d) => uptoBulk d + 1
 end
def uptoSmall : (H : Type) → List (DataW H) → Bool := fun _ ds => decide (uptoBulkAll ds ≤ 1048576)
def OpenSpec.upto (s : _root_.Go.ChangeSpec) : _root_.Go.OpenSpec := { _root_.Go.OpenSpec.ofChange s with cond := some uptoSmall }

/-- 'revertlaw03.HashBuckets', WHERE WHAT IT READS IS OF BULK AT MOST 1048576: true; the input reads as it did. -/
def hashBucketsUptoRow : OpenClaim := { program := "ytifoppgacekknaa", sum := "98bbfe4f0c0b0448d9857f879afcbfe7f7af48cf699277cf58567f84b31479b4", func := "revert/revertlaw03.HashBuckets", spec := "hashBuckets", unfollowed := true, recurses := true, apart := false, narrowed := true }
def HashBucketsUptoSaid : Prop := hashBucketsUptoRow.holds Try.pinned (OpenSpec.upto hashBucketsSpec)

/-- 'revertlaw03.HashPlays', WHERE WHAT IT READS IS OF BULK AT MOST 1048576: true; the input reads as it did. -/
def hashPlaysUptoRow : OpenClaim := { program := "ytifoppgacekknaa", sum := "98bbfe4f0c0b0448d9857f879afcbfe7f7af48cf699277cf58567f84b31479b4", func := "revert/revertlaw03.HashPlays", spec := "hashPlays", unfollowed := true, recurses := true, apart := false, narrowed := true }
def HashPlaysUptoSaid : Prop := hashPlaysUptoRow.holds Try.pinned (OpenSpec.upto hashPlaysSpec)

/-- 'revertlaw03.HashKnown', WHERE WHAT IT READS IS OF BULK AT MOST 1048576: true; the input reads as it did. -/
def hashKnownUptoRow : OpenClaim := { program := "ytifoppgacekknaa", sum := "98bbfe4f0c0b0448d9857f879afcbfe7f7af48cf699277cf58567f84b31479b4", func := "revert/revertlaw03.HashKnown", spec := "hashKnown", unfollowed := true, recurses := true, apart := false, narrowed := true }
def HashKnownUptoSaid : Prop := hashKnownUptoRow.holds Try.pinned (OpenSpec.upto hashKnownSpec)

/-- 'revertlaw03.HashFinds', WHERE WHAT IT READS IS OF BULK AT MOST 1048576: true; the input reads as it did. -/
def hashFindsUptoRow : OpenClaim := { program := "ytifoppgacekknaa", sum := "98bbfe4f0c0b0448d9857f879afcbfe7f7af48cf699277cf58567f84b31479b4", func := "revert/revertlaw03.HashFinds", spec := "hashFinds", unfollowed := true, recurses := true, apart := false, narrowed := true }
def HashFindsUptoSaid : Prop := hashFindsUptoRow.holds Try.pinned (OpenSpec.upto hashFindsSpec)

end Rows
end Go.Proofs.Ytifoppgacekknaa
