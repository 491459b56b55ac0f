/-
  No cell of these rows narrows 'for every input' (looked for: loops, veiled, ifaces, maps, wideKeys, modest, calm, conditions, laid).
  DERIVED. THE GIVEN ROWS OF THIS SEAT. 9 by the template 'for every input the law returns true; each argument reads behind the call as it read before'; 0 by the template 'total and deterministic' (their statements: YtckelpenodabdaaTotals.lean).
  GIVEN WITH THE SEED: the statements are not yours to turn. If you find one false, say at which input.
  Laid BY PROGRAM, IN A SANDBOX (cutbox-rows.mjs): the forced cells as the released guide's own fill.sh prints them over the translation 9d1fd68a6c10cc2b… (all of the seat's roots in one cut). By AI agents, Wed Nov 11 2026. No macro, syntax, notation, axiom, sorry.
-/
import Derived.Test.YtckelpenodabdaaChecked
import GoSem.Claim
import GoSem.ClaimJoined
import GoSem.ClaimMapViews
import Derived.JoinedTies
import Derived.KernelRfl
namespace Go.Proofs.Ytckelpenodabdaa
/- THE CELL 'sum', in the pinned program and in every row, IS THE sha256 OF THE DUMP (.gsa) THAT YtckelpenodabdaaProg.lean LOADS. Nothing in Lean hashes anything: it is a label: what it is worth is what the hold of that sum in a sandbox is worth. -/
noncomputable def Try.pinned : Pinned := { name := "ytckelpenodabdaa", sum := "9d1fd68a6c10cc2baa3ab7a1127fb54a7610789e8e84e71ddb332a20e9a10958", checked := Try.checked }
namespace Rows
def none {H : Type} : Left H := { results := [], args := [] }

/-- 'revertlaw11.DeviceOrder': WHATEVER THE INPUT: true; the input reads as it did. -/
def deviceOrderSpec : ChangeSpec := { name := "deviceOrder", fn := fun _ => fun
  | [d1, d2] => { results := [.lit (.bool true)], args := [d1, d2] }
  | _ => none }
def deviceOrderRow : OpenClaim := { program := "ytckelpenodabdaa", sum := "9d1fd68a6c10cc2baa3ab7a1127fb54a7610789e8e84e71ddb332a20e9a10958", func := "revert/revertlaw11.DeviceOrder", spec := "deviceOrder", unfollowed := true, recurses := true, apart := false }
def DeviceOrderSaid : Prop := deviceOrderRow.holds Try.pinned (OpenSpec.ofChange deviceOrderSpec)

/-- ITS FALSE NEIGHBOUR: 'it returns false'. Refute it at one input. -/
def deviceOrderWrong : ChangeSpec := { name := "deviceOrder", fn := fun _ => fun
  | [d1, d2] => { results := [.lit (.bool false)], args := [d1, d2] }
  | _ => none }
def DeviceOrderWrongFalsely : Prop := deviceOrderRow.holds Try.pinned (OpenSpec.ofChange deviceOrderWrong)

/-- 'revertlaw11.DevicePlays': WHATEVER THE INPUT: true; the input reads as it did. -/
def devicePlaysSpec : ChangeSpec := { name := "devicePlays", fn := fun _ => fun
  | [d1, d2] => { results := [.lit (.bool true)], args := [d1, d2] }
  | _ => none }
def devicePlaysRow : OpenClaim := { program := "ytckelpenodabdaa", sum := "9d1fd68a6c10cc2baa3ab7a1127fb54a7610789e8e84e71ddb332a20e9a10958", func := "revert/revertlaw11.DevicePlays", spec := "devicePlays", unfollowed := true, recurses := true, apart := false }
def DevicePlaysSaid : Prop := devicePlaysRow.holds Try.pinned (OpenSpec.ofChange devicePlaysSpec)

/-- ITS FALSE NEIGHBOUR: 'it returns false'. Refute it at one input. -/
def devicePlaysWrong : ChangeSpec := { name := "devicePlays", fn := fun _ => fun
  | [d1, d2] => { results := [.lit (.bool false)], args := [d1, d2] }
  | _ => none }
def DevicePlaysWrongFalsely : Prop := devicePlaysRow.holds Try.pinned (OpenSpec.ofChange devicePlaysWrong)

/-- 'revertlaw11.DeviceTears': WHATEVER THE INPUT: true; the input reads as it did. -/
def deviceTearsSpec : ChangeSpec := { name := "deviceTears", fn := fun _ => fun
  | [d1, d2] => { results := [.lit (.bool true)], args := [d1, d2] }
  | _ => none }
def deviceTearsRow : OpenClaim := { program := "ytckelpenodabdaa", sum := "9d1fd68a6c10cc2baa3ab7a1127fb54a7610789e8e84e71ddb332a20e9a10958", func := "revert/revertlaw11.DeviceTears", spec := "deviceTears", unfollowed := true, recurses := true, apart := false }
def DeviceTearsSaid : Prop := deviceTearsRow.holds Try.pinned (OpenSpec.ofChange deviceTearsSpec)

/-- ITS FALSE NEIGHBOUR: 'it returns false'. Refute it at one input. -/
def deviceTearsWrong : ChangeSpec := { name := "deviceTears", fn := fun _ => fun
  | [d1, d2] => { results := [.lit (.bool false)], args := [d1, d2] }
  | _ => none }
def DeviceTearsWrongFalsely : Prop := deviceTearsRow.holds Try.pinned (OpenSpec.ofChange deviceTearsWrong)

/-- 'revertlaw12.LineAnswers': WHATEVER THE INPUT: true; the input reads as it did. -/
def lineAnswersSpec : ChangeSpec := { name := "lineAnswers", fn := fun _ => fun
  | [d1, d2, d3] => { results := [.lit (.bool true)], args := [d1, d2, d3] }
  | _ => none }
def lineAnswersRow : OpenClaim := { program := "ytckelpenodabdaa", sum := "9d1fd68a6c10cc2baa3ab7a1127fb54a7610789e8e84e71ddb332a20e9a10958", func := "revert/revertlaw12.LineAnswers", spec := "lineAnswers", unfollowed := true, recurses := true, apart := false }
def LineAnswersSaid : Prop := lineAnswersRow.holds Try.pinned (OpenSpec.ofChange lineAnswersSpec)

/-- ITS FALSE NEIGHBOUR: 'it returns false'. Refute it at one input. -/
def lineAnswersWrong : ChangeSpec := { name := "lineAnswers", fn := fun _ => fun
  | [d1, d2, d3] => { results := [.lit (.bool false)], args := [d1, d2, d3] }
  | _ => none }
def LineAnswersWrongFalsely : Prop := lineAnswersRow.holds Try.pinned (OpenSpec.ofChange lineAnswersWrong)

/-- 'revertlaw12.LineKnown': WHATEVER THE INPUT: true; the input reads as it did. -/
def lineKnownSpec : ChangeSpec := { name := "lineKnown", fn := fun _ => fun
  | [] => { results := [.lit (.bool true)], args := [] }
  | _ => none }
def lineKnownRow : OpenClaim := { program := "ytckelpenodabdaa", sum := "9d1fd68a6c10cc2baa3ab7a1127fb54a7610789e8e84e71ddb332a20e9a10958", func := "revert/revertlaw12.LineKnown", spec := "lineKnown", unfollowed := true, recurses := true, apart := false }
def LineKnownSaid : Prop := lineKnownRow.holds Try.pinned (OpenSpec.ofChange lineKnownSpec)

/-- ITS FALSE NEIGHBOUR: 'it returns false'. Refute it at one input. -/
def lineKnownWrong : ChangeSpec := { name := "lineKnown", fn := fun _ => fun
  | [] => { results := [.lit (.bool false)], args := [] }
  | _ => none }
def LineKnownWrongFalsely : Prop := lineKnownRow.holds Try.pinned (OpenSpec.ofChange lineKnownWrong)

/-- 'revertlaw12.LineCuts': WHATEVER THE INPUT: true; the input reads as it did. -/
def lineCutsSpec : ChangeSpec := { name := "lineCuts", fn := fun _ => fun
  | [d1, d2, d3] => { results := [.lit (.bool true)], args := [d1, d2, d3] }
  | _ => none }
def lineCutsRow : OpenClaim := { program := "ytckelpenodabdaa", sum := "9d1fd68a6c10cc2baa3ab7a1127fb54a7610789e8e84e71ddb332a20e9a10958", func := "revert/revertlaw12.LineCuts", spec := "lineCuts", unfollowed := true, recurses := true, apart := false }
def LineCutsSaid : Prop := lineCutsRow.holds Try.pinned (OpenSpec.ofChange lineCutsSpec)

/-- ITS FALSE NEIGHBOUR: 'it returns false'. Refute it at one input. -/
def lineCutsWrong : ChangeSpec := { name := "lineCuts", fn := fun _ => fun
  | [d1, d2, d3] => { results := [.lit (.bool false)], args := [d1, d2, d3] }
  | _ => none }
def LineCutsWrongFalsely : Prop := lineCutsRow.holds Try.pinned (OpenSpec.ofChange lineCutsWrong)

/-- 'revertlaw12.LineGoes': WHATEVER THE INPUT: true; the input reads as it did. -/
def lineGoesSpec : ChangeSpec := { name := "lineGoes", fn := fun _ => fun
  | [d1, d2, d3] => { results := [.lit (.bool true)], args := [d1, d2, d3] }
  | _ => none }
def lineGoesRow : OpenClaim := { program := "ytckelpenodabdaa", sum := "9d1fd68a6c10cc2baa3ab7a1127fb54a7610789e8e84e71ddb332a20e9a10958", func := "revert/revertlaw12.LineGoes", spec := "lineGoes", unfollowed := true, recurses := true, apart := false }
def LineGoesSaid : Prop := lineGoesRow.holds Try.pinned (OpenSpec.ofChange lineGoesSpec)

/-- ITS FALSE NEIGHBOUR: 'it returns false'. Refute it at one input. -/
def lineGoesWrong : ChangeSpec := { name := "lineGoes", fn := fun _ => fun
  | [d1, d2, d3] => { results := [.lit (.bool false)], args := [d1, d2, d3] }
  | _ => none }
def LineGoesWrongFalsely : Prop := lineGoesRow.holds Try.pinned (OpenSpec.ofChange lineGoesWrong)

/-- 'revertlaw11.DeviceHolds': WHATEVER THE INPUT: true; the input reads as it did. -/
def deviceHoldsSpec : ChangeSpec := { name := "deviceHolds", fn := fun _ => fun
  | [d1, d2, d3] => { results := [.lit (.bool true)], args := [d1, d2, d3] }
  | _ => none }
def deviceHoldsRow : OpenClaim := { program := "ytckelpenodabdaa", sum := "9d1fd68a6c10cc2baa3ab7a1127fb54a7610789e8e84e71ddb332a20e9a10958", func := "revert/revertlaw11.DeviceHolds", spec := "deviceHolds", inPlace := ["internal/abi.NoEscape", "internal/bytealg.MakeNoZero"], unfollowed := true, recurses := true, apart := false }
def DeviceHoldsSaid : Prop := deviceHoldsRow.holds Try.pinned (OpenSpec.ofChange deviceHoldsSpec)

/-- ITS FALSE NEIGHBOUR: 'it returns false'. Refute it at one input. -/
def deviceHoldsWrong : ChangeSpec := { name := "deviceHolds", fn := fun _ => fun
  | [d1, d2, d3] => { results := [.lit (.bool false)], args := [d1, d2, d3] }
  | _ => none }
def DeviceHoldsWrongFalsely : Prop := deviceHoldsRow.holds Try.pinned (OpenSpec.ofChange deviceHoldsWrong)

/-- 'revertlaw11.DeviceKnown': WHATEVER THE INPUT: true; the input reads as it did. -/
def deviceKnownSpec : ChangeSpec := { name := "deviceKnown", fn := fun _ => fun
  | [] => { results := [.lit (.bool true)], args := [] }
  | _ => none }
def deviceKnownRow : OpenClaim := { program := "ytckelpenodabdaa", sum := "9d1fd68a6c10cc2baa3ab7a1127fb54a7610789e8e84e71ddb332a20e9a10958", func := "revert/revertlaw11.DeviceKnown", spec := "deviceKnown", inPlace := ["internal/abi.NoEscape", "internal/bytealg.MakeNoZero"], unfollowed := true, recurses := true, apart := false }
def DeviceKnownSaid : Prop := deviceKnownRow.holds Try.pinned (OpenSpec.ofChange deviceKnownSpec)

/-- ITS FALSE NEIGHBOUR: 'it returns false'. Refute it at one input. -/
def deviceKnownWrong : ChangeSpec := { name := "deviceKnown", fn := fun _ => fun
  | [] => { results := [.lit (.bool false)], args := [] }
  | _ => none }
def DeviceKnownWrongFalsely : Prop := deviceKnownRow.holds Try.pinned (OpenSpec.ofChange deviceKnownWrong)

/- THE SECOND FORM. 'bulk': how many values and letters a reading holds, each counted each time it is reached (what is shared counts as often as it is met; a slice's spare places count too). A statement '..UptoSaid' is the law's where the arguments, and the package variables that the reading takes, are together of bulk at most 1048576: NARROWER than '..Said'. Prove '..Said' where nothing that the law and all that it calls make is longer than what came in: it says more and counts as full. Else prove '..UptoSaid'. A law counts once. -/
mutual
def uptoBulk {H : Type} : DataW H → Nat
  | .lit (.string bytes) => bytes.length + 1
  | .lit _ => 1
  | .nil => 1
  | .ptr d => uptoBulk d + 1
  | .slice elems spare => uptoBulkAll elems + uptoBulkAll spare + 1
  | .agg parts => uptoBulkAll parts + 1
  | .iface _ d => uptoBulk d + 1
  | .map entries => uptoBulkEntries entries + 1
  | .held _ => 1
def uptoBulkAll {H : Type} : List (DataW H) → Nat
  | [] => 0
  | d :: r => uptoBulk d + uptoBulkAll r
def uptoBulkEntries {H : Type} : List (Lit × DataW H) → Nat
  | [] => 0
  | x :: r => uptoBulkEntry x + uptoBulkEntries r
def uptoBulkEntry {H : Type} : Lit × DataW H → Nat
  | (.string bytes, d) => bytes.length + uptoBulk d + 1
  | (_, d) => uptoBulk d + 1
 end
def uptoSmall : (H : Type) → List (DataW H) → Bool := fun _ ds => decide (uptoBulkAll ds ≤ 1048576)
def OpenSpec.upto (s : _root_.Go.ChangeSpec) : _root_.Go.OpenSpec := { _root_.Go.OpenSpec.ofChange s with cond := some uptoSmall }

/-- 'revertlaw11.DeviceOrder', WHERE WHAT IT READS IS OF BULK AT MOST 1048576: true; the input reads as it did. -/
def deviceOrderUptoRow : OpenClaim := { program := "ytckelpenodabdaa", sum := "9d1fd68a6c10cc2baa3ab7a1127fb54a7610789e8e84e71ddb332a20e9a10958", func := "revert/revertlaw11.DeviceOrder", spec := "deviceOrder", unfollowed := true, recurses := true, apart := false, narrowed := true }
def DeviceOrderUptoSaid : Prop := deviceOrderUptoRow.holds Try.pinned (OpenSpec.upto deviceOrderSpec)

/-- 'revertlaw11.DevicePlays', WHERE WHAT IT READS IS OF BULK AT MOST 1048576: true; the input reads as it did. -/
def devicePlaysUptoRow : OpenClaim := { program := "ytckelpenodabdaa", sum := "9d1fd68a6c10cc2baa3ab7a1127fb54a7610789e8e84e71ddb332a20e9a10958", func := "revert/revertlaw11.DevicePlays", spec := "devicePlays", unfollowed := true, recurses := true, apart := false, narrowed := true }
def DevicePlaysUptoSaid : Prop := devicePlaysUptoRow.holds Try.pinned (OpenSpec.upto devicePlaysSpec)

/-- 'revertlaw11.DeviceTears', WHERE WHAT IT READS IS OF BULK AT MOST 1048576: true; the input reads as it did. -/
def deviceTearsUptoRow : OpenClaim := { program := "ytckelpenodabdaa", sum := "9d1fd68a6c10cc2baa3ab7a1127fb54a7610789e8e84e71ddb332a20e9a10958", func := "revert/revertlaw11.DeviceTears", spec := "deviceTears", unfollowed := true, recurses := true, apart := false, narrowed := true }
def DeviceTearsUptoSaid : Prop := deviceTearsUptoRow.holds Try.pinned (OpenSpec.upto deviceTearsSpec)

/-- 'revertlaw12.LineAnswers', WHERE WHAT IT READS IS OF BULK AT MOST 1048576: true; the input reads as it did. -/
def lineAnswersUptoRow : OpenClaim := { program := "ytckelpenodabdaa", sum := "9d1fd68a6c10cc2baa3ab7a1127fb54a7610789e8e84e71ddb332a20e9a10958", func := "revert/revertlaw12.LineAnswers", spec := "lineAnswers", unfollowed := true, recurses := true, apart := false, narrowed := true }
def LineAnswersUptoSaid : Prop := lineAnswersUptoRow.holds Try.pinned (OpenSpec.upto lineAnswersSpec)

/-- 'revertlaw12.LineKnown', WHERE WHAT IT READS IS OF BULK AT MOST 1048576: true; the input reads as it did. -/
def lineKnownUptoRow : OpenClaim := { program := "ytckelpenodabdaa", sum := "9d1fd68a6c10cc2baa3ab7a1127fb54a7610789e8e84e71ddb332a20e9a10958", func := "revert/revertlaw12.LineKnown", spec := "lineKnown", unfollowed := true, recurses := true, apart := false, narrowed := true }
def LineKnownUptoSaid : Prop := lineKnownUptoRow.holds Try.pinned (OpenSpec.upto lineKnownSpec)

/-- 'revertlaw12.LineCuts', WHERE WHAT IT READS IS OF BULK AT MOST 1048576: true; the input reads as it did. -/
def lineCutsUptoRow : OpenClaim := { program := "ytckelpenodabdaa", sum := "9d1fd68a6c10cc2baa3ab7a1127fb54a7610789e8e84e71ddb332a20e9a10958", func := "revert/revertlaw12.LineCuts", spec := "lineCuts", unfollowed := true, recurses := true, apart := false, narrowed := true }
def LineCutsUptoSaid : Prop := lineCutsUptoRow.holds Try.pinned (OpenSpec.upto lineCutsSpec)

/-- 'revertlaw12.LineGoes', WHERE WHAT IT READS IS OF BULK AT MOST 1048576: true; the input reads as it did. -/
def lineGoesUptoRow : OpenClaim := { program := "ytckelpenodabdaa", sum := "9d1fd68a6c10cc2baa3ab7a1127fb54a7610789e8e84e71ddb332a20e9a10958", func := "revert/revertlaw12.LineGoes", spec := "lineGoes", unfollowed := true, recurses := true, apart := false, narrowed := true }
def LineGoesUptoSaid : Prop := lineGoesUptoRow.holds Try.pinned (OpenSpec.upto lineGoesSpec)

/-- 'revertlaw11.DeviceHolds', WHERE WHAT IT READS IS OF BULK AT MOST 1048576: true; the input reads as it did. -/
def deviceHoldsUptoRow : OpenClaim := { program := "ytckelpenodabdaa", sum := "9d1fd68a6c10cc2baa3ab7a1127fb54a7610789e8e84e71ddb332a20e9a10958", func := "revert/revertlaw11.DeviceHolds", spec := "deviceHolds", inPlace := ["internal/abi.NoEscape", "internal/bytealg.MakeNoZero"], unfollowed := true, recurses := true, apart := false, narrowed := true }
def DeviceHoldsUptoSaid : Prop := deviceHoldsUptoRow.holds Try.pinned (OpenSpec.upto deviceHoldsSpec)

/-- 'revertlaw11.DeviceKnown', WHERE WHAT IT READS IS OF BULK AT MOST 1048576: true; the input reads as it did. -/
def deviceKnownUptoRow : OpenClaim := { program := "ytckelpenodabdaa", sum := "9d1fd68a6c10cc2baa3ab7a1127fb54a7610789e8e84e71ddb332a20e9a10958", func := "revert/revertlaw11.DeviceKnown", spec := "deviceKnown", inPlace := ["internal/abi.NoEscape", "internal/bytealg.MakeNoZero"], unfollowed := true, recurses := true, apart := false, narrowed := true }
def DeviceKnownUptoSaid : Prop := deviceKnownUptoRow.holds Try.pinned (OpenSpec.upto deviceKnownSpec)

end Rows
end Go.Proofs.Ytckelpenodabdaa
