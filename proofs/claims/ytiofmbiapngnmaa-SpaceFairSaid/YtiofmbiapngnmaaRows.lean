/-
  No cell of these rows narrows 'for every input' (looked for: loops, veiled, ifaces, maps, wideKeys, modest, calm, conditions, laid).
  DERIVED. THE GIVEN ROWS OF THIS SEAT. 3 by the template 'for every input the law returns true; each argument reads behind the call as it read before'; 0 by the template 'total and deterministic' (their statements: YtiofmbiapngnmaaTotals.lean).
  GIVEN WITH THE SEED: the statements are not yours to turn. If you find one false, say at which input.
  Laid BY PROGRAM, IN A SANDBOX (cutbox-rows.mjs): the forced cells as the released guide's own fill.sh prints them over the translation 0c76058592fc7745… (all of the seat's roots in one cut). By AI agents, Wed Nov 11 2026. No macro, syntax, notation, axiom, sorry.
-/
import Derived.Test.YtiofmbiapngnmaaChecked
import GoSem.Claim
import GoSem.ClaimJoined
import GoSem.ClaimMapViews
import Derived.JoinedTies
import Derived.KernelRfl
namespace Go.Proofs.Ytiofmbiapngnmaa
/- THE CELL 'sum', in the pinned program and in every row, IS THE sha256 OF THE DUMP (.gsa) THAT YtiofmbiapngnmaaProg.lean LOADS. Nothing in Lean hashes anything: it is a label: what it is worth is what the hold of that sum in a sandbox is worth. -/
noncomputable def Try.pinned : Pinned := { name := "ytiofmbiapngnmaa", sum := "0c76058592fc7745156a297a9612d2cf112a03d9cd535670c1e9adfd27411c1d", checked := Try.checked }
namespace Rows
def none {H : Type} : Left H := { results := [], args := [] }

/-- 'revertlaw15.SpaceFair': WHATEVER THE INPUT: true; the input reads as it did. -/
def spaceFairSpec : ChangeSpec := { name := "spaceFair", fn := fun _ => fun
  | [d1, d2, d3] => { results := [.lit (.bool true)], args := [d1, d2, d3] }
  | _ => none }
def spaceFairRow : OpenClaim := { program := "ytiofmbiapngnmaa", sum := "0c76058592fc7745156a297a9612d2cf112a03d9cd535670c1e9adfd27411c1d", func := "revert/revertlaw15.SpaceFair", spec := "spaceFair", unfollowed := true, recurses := true, apart := false }
def SpaceFairSaid : Prop := spaceFairRow.holds Try.pinned (OpenSpec.ofChange spaceFairSpec)

/-- ITS FALSE NEIGHBOUR: 'it returns false'. Refute it at one input. -/
def spaceFairWrong : ChangeSpec := { name := "spaceFair", fn := fun _ => fun
  | [d1, d2, d3] => { results := [.lit (.bool false)], args := [d1, d2, d3] }
  | _ => none }
def SpaceFairWrongFalsely : Prop := spaceFairRow.holds Try.pinned (OpenSpec.ofChange spaceFairWrong)

/-- 'revertlaw15.SpacePlays': WHATEVER THE INPUT: true; the input reads as it did. -/
def spacePlaysSpec : ChangeSpec := { name := "spacePlays", fn := fun _ => fun
  | [d1, d2, d3] => { results := [.lit (.bool true)], args := [d1, d2, d3] }
  | _ => none }
def spacePlaysRow : OpenClaim := { program := "ytiofmbiapngnmaa", sum := "0c76058592fc7745156a297a9612d2cf112a03d9cd535670c1e9adfd27411c1d", func := "revert/revertlaw15.SpacePlays", spec := "spacePlays", unfollowed := true, recurses := true, apart := false }
def SpacePlaysSaid : Prop := spacePlaysRow.holds Try.pinned (OpenSpec.ofChange spacePlaysSpec)

/-- ITS FALSE NEIGHBOUR: 'it returns false'. Refute it at one input. -/
def spacePlaysWrong : ChangeSpec := { name := "spacePlays", fn := fun _ => fun
  | [d1, d2, d3] => { results := [.lit (.bool false)], args := [d1, d2, d3] }
  | _ => none }
def SpacePlaysWrongFalsely : Prop := spacePlaysRow.holds Try.pinned (OpenSpec.ofChange spacePlaysWrong)

/-- 'revertlaw15.SpaceKnown': WHATEVER THE INPUT: true; the input reads as it did. -/
def spaceKnownSpec : ChangeSpec := { name := "spaceKnown", fn := fun _ => fun
  | [] => { results := [.lit (.bool true)], args := [] }
  | _ => none }
def spaceKnownRow : OpenClaim := { program := "ytiofmbiapngnmaa", sum := "0c76058592fc7745156a297a9612d2cf112a03d9cd535670c1e9adfd27411c1d", func := "revert/revertlaw15.SpaceKnown", spec := "spaceKnown", unfollowed := true, recurses := true, apart := false }
def SpaceKnownSaid : Prop := spaceKnownRow.holds Try.pinned (OpenSpec.ofChange spaceKnownSpec)

/-- ITS FALSE NEIGHBOUR: 'it returns false'. Refute it at one input. -/
def spaceKnownWrong : ChangeSpec := { name := "spaceKnown", fn := fun _ => fun
  | [] => { results := [.lit (.bool false)], args := [] }
  | _ => none }
def SpaceKnownWrongFalsely : Prop := spaceKnownRow.holds Try.pinned (OpenSpec.ofChange spaceKnownWrong)

/- THE SECOND FORM. 'bulk': how many values and letters a reading holds, each counted each time it is reached (what is shared counts as often as it is met; a slice's spare places count too). A statement '..UptoSaid' is the law's where the arguments, and the package variables that the reading takes, are together of bulk at most 1048576: NARROWER than '..Said'. Prove '..Said' where nothing that the law and all that it calls make is longer than what came in: it says more and counts as full. Else prove '..UptoSaid'. A law counts once. -/
mutual
def uptoBulk {H : Type} : DataW H → Nat
  | .lit (.string bytes) => bytes.length + 1
  | .lit _ => 1
  | .nil => 1
  | .ptr d => uptoBulk d + 1
  | .slice elems spare => uptoBulkAll elems + uptoBulkAll spare + 1
  | .agg parts => uptoBulkAll parts + 1
  | .iface _ d => uptoBulk d + 1
  | .map entries => uptoBulkEntries entries + 1
  | .held _ => 1
def uptoBulkAll {H : Type} : List (DataW H) → Nat
  | [] => 0
  | d :: r => uptoBulk d + uptoBulkAll r
def uptoBulkEntries {H : Type} : List (Lit × DataW H) → Nat
  | [] => 0
  | x :: r => uptoBulkEntry x + uptoBulkEntries r
def uptoBulkEntry {H : Type} : Lit × DataW H → Nat
  | (.string bytes, d) => bytes.length + uptoBulk d + 1
  | (_, d) => uptoBulk d + 1
 end
def uptoSmall : (H : Type) → List (DataW H) → Bool := fun _ ds => decide (uptoBulkAll ds ≤ 1048576)
def OpenSpec.upto (s : _root_.Go.ChangeSpec) : _root_.Go.OpenSpec := { _root_.Go.OpenSpec.ofChange s with cond := some uptoSmall }

/-- 'revertlaw15.SpaceFair', WHERE WHAT IT READS IS OF BULK AT MOST 1048576: true; the input reads as it did. -/
def spaceFairUptoRow : OpenClaim := { program := "ytiofmbiapngnmaa", sum := "0c76058592fc7745156a297a9612d2cf112a03d9cd535670c1e9adfd27411c1d", func := "revert/revertlaw15.SpaceFair", spec := "spaceFair", unfollowed := true, recurses := true, apart := false, narrowed := true }
def SpaceFairUptoSaid : Prop := spaceFairUptoRow.holds Try.pinned (OpenSpec.upto spaceFairSpec)

/-- 'revertlaw15.SpacePlays', WHERE WHAT IT READS IS OF BULK AT MOST 1048576: true; the input reads as it did. -/
def spacePlaysUptoRow : OpenClaim := { program := "ytiofmbiapngnmaa", sum := "0c76058592fc7745156a297a9612d2cf112a03d9cd535670c1e9adfd27411c1d", func := "revert/revertlaw15.SpacePlays", spec := "spacePlays", unfollowed := true, recurses := true, apart := false, narrowed := true }
def SpacePlaysUptoSaid : Prop := spacePlaysUptoRow.holds Try.pinned (OpenSpec.upto spacePlaysSpec)

/-- 'revertlaw15.SpaceKnown', WHERE WHAT IT READS IS OF BULK AT MOST 1048576: true; the input reads as it did. -/
def spaceKnownUptoRow : OpenClaim := { program := "ytiofmbiapngnmaa", sum := "0c76058592fc7745156a297a9612d2cf112a03d9cd535670c1e9adfd27411c1d", func := "revert/revertlaw15.SpaceKnown", spec := "spaceKnown", unfollowed := true, recurses := true, apart := false, narrowed := true }
def SpaceKnownUptoSaid : Prop := spaceKnownUptoRow.holds Try.pinned (OpenSpec.upto spaceKnownSpec)

end Rows
end Go.Proofs.Ytiofmbiapngnmaa
