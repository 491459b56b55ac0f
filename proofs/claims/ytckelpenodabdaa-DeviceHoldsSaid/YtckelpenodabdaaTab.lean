/- The table of the types of the program. Made by mktab.py. -/
import Derived.Test.YtckelpenodabdaaProg
import Derived.Test.YtckelpenodabdaaWalk
namespace Go.X
open Go
def atL {α : Type} : List (Option α) → Nat → Option α
  | [], _ => none
  | o :: _, 0 => o
  | _ :: l, k + 1 => atL l k
def AllU (P : Program) : List (Option TypeDesc) → Nat → Prop
  | [], _ => True
  | none :: l, k => AllU P l (k + 1)
  | some d :: l, k => P.underlying k = some d ∧ AllU P l (k + 1)
theorem AllU.get {P : Program} : ∀ {l : List (Option TypeDesc)} {k i : Nat} {d : TypeDesc}, AllU P l k → atL l i = some d → P.underlying (k + i) = some d
  | [], k, i, d, _, h => by simp [atL] at h
  | o :: l, k, 0, d, ha, h => by
    simp only [atL] at h; subst h
    exact ha.1
  | o :: l, k, i + 1, d, ha, h => by
    simp only [atL] at h
    have : AllU P l (k + 1) := by cases o with
      | none => exact ha
      | some _ => exact ha.2
    have := AllU.get this h
    rwa [show k + 1 + i = k + (i + 1) by omega] at this
def AllI (P : Program) : List (Option (Nat × Nat × Value)) → Nat → Prop
  | [], _ => True
  | none :: l, k => AllI P l (k + 1)
  | some (s, b, z) :: l, k => (P.info? k).map (fun i => (i.size, i.bytes, i.zero)) = some (s, b, some z) ∧ AllI P l (k + 1)
theorem AllI.get {P : Program} : ∀ {l : List (Option (Nat × Nat × Value))} {k i : Nat} {s b : Nat} {z : Value}, AllI P l k → atL l i = some (s, b, z) → ∃ j, P.info? (k + i) = some j ∧ j.size = s ∧ j.bytes = b ∧ j.zero = some z
  | [], k, i, s, b, z, _, h => by simp [atL] at h
  | o :: l, k, 0, s, b, z, ha, h => by
    simp only [atL] at h; subst h
    have h1 := ha.1
    cases hi : P.info? k with
    | none => rw [hi] at h1; cases h1
    | some j => rw [hi] at h1; simp at h1; exact ⟨j, rfl, h1.1, h1.2.1, h1.2.2⟩
  | o :: l, k, i + 1, s, b, z, ha, h => by
    simp only [atL] at h
    have : AllI P l (k + 1) := by cases o with
      | none => exact ha
      | some x => obtain ⟨s', b', z'⟩ := x; exact ha.2
    have := AllI.get this h
    rwa [show k + 1 + i = k + (i + 1) by omega] at this
def undL : List (Option TypeDesc) := [
  some (Go.TypeDesc.tuple #[]),
  some (Go.TypeDesc.func #[] #[] false),
  some (Go.TypeDesc.int Go.IntKind.i64),
  some (Go.TypeDesc.int Go.IntKind.i64),
  some Go.TypeDesc.bool,
  some (Go.TypeDesc.int Go.IntKind.u8),
  some (Go.TypeDesc.int Go.IntKind.u8),
  some (Go.TypeDesc.struct #[{ name := "x", type := 2, offset := 0, embedded := false, tag := "", pkgPath := "runtime", byteOffset := 0 }, { name := "y", type := 3, offset := 1, embedded := false, tag := "", pkgPath := "runtime", byteOffset := 8 }, { name := "signed", type := 4, offset := 2, embedded := false, tag := "", pkgPath := "runtime", byteOffset := 16 }, { name := "code", type := 6, offset := 3, embedded := false, tag := "", pkgPath := "runtime", byteOffset := 17 }]),
  some (Go.TypeDesc.struct #[{ name := "x", type := 2, offset := 0, embedded := false, tag := "", pkgPath := "runtime", byteOffset := 0 }, { name := "y", type := 3, offset := 1, embedded := false, tag := "", pkgPath := "runtime", byteOffset := 8 }, { name := "signed", type := 4, offset := 2, embedded := false, tag := "", pkgPath := "runtime", byteOffset := 16 }, { name := "code", type := 6, offset := 3, embedded := false, tag := "", pkgPath := "runtime", byteOffset := 17 }]),
  some Go.TypeDesc.string,
  some Go.TypeDesc.string,
  some Go.TypeDesc.string,
  some (Go.TypeDesc.int Go.IntKind.u64),
  some (Go.TypeDesc.struct #[{ name := "msg", type := 9, offset := 0, embedded := false, tag := "", pkgPath := "runtime", byteOffset := 0 }, { name := "addr", type := 12, offset := 1, embedded := false, tag := "", pkgPath := "runtime", byteOffset := 16 }]),
  some (Go.TypeDesc.struct #[{ name := "msg", type := 9, offset := 0, embedded := false, tag := "", pkgPath := "runtime", byteOffset := 0 }, { name := "addr", type := 12, offset := 1, embedded := false, tag := "", pkgPath := "runtime", byteOffset := 16 }]),
  some (Go.TypeDesc.pointer 126),
  some (Go.TypeDesc.pointer 129),
  some (Go.TypeDesc.pointer 136),
  some (Go.TypeDesc.struct #[{ name := "typ", type := 17, offset := 0, embedded := false, tag := "", pkgPath := "internal/runtime/maps", byteOffset := 0 }]),
  some (Go.TypeDesc.struct #[{ name := "typ", type := 17, offset := 0, embedded := false, tag := "", pkgPath := "internal/runtime/maps", byteOffset := 0 }]),
  some (Go.TypeDesc.interface #[]),
  some (Go.TypeDesc.int Go.IntKind.i32),
  some (Go.TypeDesc.slice 29),
  some (Go.TypeDesc.slice 3),
  some (Go.TypeDesc.pointer 72),
  some (Go.TypeDesc.func #[3] #[24] false),
  some (Go.TypeDesc.func #[] #[4] false),
  some (Go.TypeDesc.array 256 3),
  some (Go.TypeDesc.struct #[{ name := "At", type := 5, offset := 0, embedded := false, tag := "", pkgPath := "", byteOffset := 0 }, { name := "S", type := 9, offset := 1, embedded := false, tag := "", pkgPath := "", byteOffset := 8 }]),
  some (Go.TypeDesc.struct #[{ name := "At", type := 5, offset := 0, embedded := false, tag := "", pkgPath := "", byteOffset := 0 }, { name := "S", type := 9, offset := 1, embedded := false, tag := "", pkgPath := "", byteOffset := 8 }]),
  some (Go.TypeDesc.int Go.IntKind.i64),
  some (Go.TypeDesc.func #[3, 9] #[30] false),
  some (Go.TypeDesc.func #[] #[23] false),
  some (Go.TypeDesc.tuple #[9, 30]),
  some (Go.TypeDesc.func #[3] #[9, 30] false),
  some (Go.TypeDesc.func #[23] #[] false),
  some (Go.TypeDesc.func #[22, 23] #[4] false),
  some (Go.TypeDesc.slice 44),
  some (Go.TypeDesc.func #[37] #[4] false),
  some (Go.TypeDesc.func #[3] #[4] false),
  some (Go.TypeDesc.func #[] #[3] false),
  some (Go.TypeDesc.pointer 52),
  some (Go.TypeDesc.func #[3] #[41] false),
  some (Go.TypeDesc.struct #[{ name := "What", type := 5, offset := 0, embedded := false, tag := "", pkgPath := "", byteOffset := 0 }, { name := "At", type := 3, offset := 1, embedded := false, tag := "", pkgPath := "", byteOffset := 8 }, { name := "S", type := 9, offset := 2, embedded := false, tag := "", pkgPath := "", byteOffset := 16 }, { name := "Choices", type := 23, offset := 3, embedded := false, tag := "", pkgPath := "", byteOffset := 32 }]),
  some (Go.TypeDesc.struct #[{ name := "What", type := 5, offset := 0, embedded := false, tag := "", pkgPath := "", byteOffset := 0 }, { name := "At", type := 3, offset := 1, embedded := false, tag := "", pkgPath := "", byteOffset := 8 }, { name := "S", type := 9, offset := 2, embedded := false, tag := "", pkgPath := "", byteOffset := 16 }, { name := "Choices", type := 23, offset := 3, embedded := false, tag := "", pkgPath := "", byteOffset := 32 }]),
  some (Go.TypeDesc.func #[] #[24] false),
  some (Go.TypeDesc.func #[] #[41] false),
  some (Go.TypeDesc.func #[24, 41, 44] #[4] false),
  some (Go.TypeDesc.func #[24, 41, 3] #[4] false),
  some (Go.TypeDesc.slice 9),
  some (Go.TypeDesc.slice 54),
  some (Go.TypeDesc.struct #[{ name := "Firm", type := 49, offset := 0, embedded := false, tag := "", pkgPath := "", byteOffset := 0 }, { name := "L", type := 50, offset := 1, embedded := false, tag := "", pkgPath := "", byteOffset := 24 }]),
  some (Go.TypeDesc.struct #[{ name := "Firm", type := 49, offset := 0, embedded := false, tag := "", pkgPath := "", byteOffset := 0 }, { name := "L", type := 50, offset := 1, embedded := false, tag := "", pkgPath := "", byteOffset := 24 }]),
  some (Go.TypeDesc.struct #[{ name := "At", type := 3, offset := 0, embedded := false, tag := "", pkgPath := "", byteOffset := 0 }, { name := "S", type := 9, offset := 1, embedded := false, tag := "", pkgPath := "", byteOffset := 8 }]),
  some (Go.TypeDesc.struct #[{ name := "At", type := 3, offset := 0, embedded := false, tag := "", pkgPath := "", byteOffset := 0 }, { name := "S", type := 9, offset := 1, embedded := false, tag := "", pkgPath := "", byteOffset := 8 }]),
  some (Go.TypeDesc.func #[3, 37] #[4] false),
  some (Go.TypeDesc.func #[24, 37] #[] false),
  some (Go.TypeDesc.func #[37, 23] #[4] false),
  some (Go.TypeDesc.slice 63),
  some (Go.TypeDesc.func #[58] #[4] false),
  some (Go.TypeDesc.pointer 68),
  some (Go.TypeDesc.func #[24, 3, 23] #[60] false),
  some (Go.TypeDesc.struct #[{ name := "What", type := 5, offset := 0, embedded := false, tag := "", pkgPath := "", byteOffset := 0 }, { name := "At", type := 3, offset := 1, embedded := false, tag := "", pkgPath := "", byteOffset := 8 }, { name := "S", type := 9, offset := 2, embedded := false, tag := "", pkgPath := "", byteOffset := 16 }]),
  some (Go.TypeDesc.struct #[{ name := "What", type := 5, offset := 0, embedded := false, tag := "", pkgPath := "", byteOffset := 0 }, { name := "At", type := 3, offset := 1, embedded := false, tag := "", pkgPath := "", byteOffset := 8 }, { name := "S", type := 9, offset := 2, embedded := false, tag := "", pkgPath := "", byteOffset := 16 }]),
  some (Go.TypeDesc.func #[] #[30] false),
  some (Go.TypeDesc.func #[5, 23, 58] #[4] false),
  some (Go.TypeDesc.func #[24, 3, 9] #[4] false),
  some (Go.TypeDesc.struct #[{ name := "d", type := 24, offset := 0, embedded := false, tag := "", pkgPath := "revert/line", byteOffset := 0 }, { name := "cut", type := 3, offset := 1, embedded := false, tag := "", pkgPath := "revert/line", byteOffset := 8 }, { name := "choices", type := 23, offset := 2, embedded := false, tag := "", pkgPath := "revert/line", byteOffset := 16 }, { name := "acts", type := 3, offset := 3, embedded := false, tag := "", pkgPath := "revert/line", byteOffset := 40 }, { name := "down", type := 4, offset := 4, embedded := false, tag := "", pkgPath := "revert/line", byteOffset := 48 }]),
  some (Go.TypeDesc.struct #[{ name := "d", type := 24, offset := 0, embedded := false, tag := "", pkgPath := "revert/line", byteOffset := 0 }, { name := "cut", type := 3, offset := 1, embedded := false, tag := "", pkgPath := "revert/line", byteOffset := 8 }, { name := "choices", type := 23, offset := 2, embedded := false, tag := "", pkgPath := "revert/line", byteOffset := 16 }, { name := "acts", type := 3, offset := 3, embedded := false, tag := "", pkgPath := "revert/line", byteOffset := 40 }, { name := "down", type := 4, offset := 4, embedded := false, tag := "", pkgPath := "revert/line", byteOffset := 48 }]),
  some (Go.TypeDesc.func #[3, 9, 9] #[4] false),
  some (Go.TypeDesc.slice 91),
  some (Go.TypeDesc.struct #[{ name := "l", type := 70, offset := 0, embedded := false, tag := "", pkgPath := "revert/device", byteOffset := 0 }]),
  some (Go.TypeDesc.struct #[{ name := "l", type := 70, offset := 0, embedded := false, tag := "", pkgPath := "revert/device", byteOffset := 0 }]),
  some (Go.TypeDesc.func #[60, 58, 3] #[3] false),
  some (Go.TypeDesc.pointer 76),
  some (Go.TypeDesc.struct #[{ name := "D", type := 41, offset := 0, embedded := false, tag := "", pkgPath := "", byteOffset := 0 }, { name := "Number", type := 3, offset := 1, embedded := false, tag := "", pkgPath := "", byteOffset := 8 }, { name := "Choices", type := 23, offset := 2, embedded := false, tag := "", pkgPath := "", byteOffset := 16 }, { name := "Acts", type := 3, offset := 3, embedded := false, tag := "", pkgPath := "", byteOffset := 40 }, { name := "Cut", type := 4, offset := 4, embedded := false, tag := "", pkgPath := "", byteOffset := 48 }]),
  some (Go.TypeDesc.struct #[{ name := "D", type := 41, offset := 0, embedded := false, tag := "", pkgPath := "", byteOffset := 0 }, { name := "Number", type := 3, offset := 1, embedded := false, tag := "", pkgPath := "", byteOffset := 8 }, { name := "Choices", type := 23, offset := 2, embedded := false, tag := "", pkgPath := "", byteOffset := 16 }, { name := "Acts", type := 3, offset := 3, embedded := false, tag := "", pkgPath := "", byteOffset := 40 }, { name := "Cut", type := 4, offset := 4, embedded := false, tag := "", pkgPath := "", byteOffset := 48 }]),
  some (Go.TypeDesc.func #[60, 74, 63] #[4] false),
  some (Go.TypeDesc.func #[24, 41, 58] #[4] false),
  some (Go.TypeDesc.func #[3, 23, 58] #[4] false),
  some (Go.TypeDesc.func #[9, 3] #[9] false),
  some (Go.TypeDesc.func #[37, 5, 9] #[4] false),
  some (Go.TypeDesc.slice 5),
  some (Go.TypeDesc.func #[23] #[9] true),
  some (Go.TypeDesc.func #[24, 9] #[4] false),
  some (Go.TypeDesc.pointer 91),
  some (Go.TypeDesc.tuple #[85, 30]),
  some (Go.TypeDesc.func #[3] #[85, 30] false),
  some (Go.TypeDesc.array 64 5),
  some (Go.TypeDesc.array 64 5),
  some (Go.TypeDesc.struct #[{ name := "firm", type := 89, offset := 0, embedded := false, tag := "", pkgPath := "revert/device", byteOffset := 0 }, { name := "read", type := 89, offset := 64, embedded := false, tag := "", pkgPath := "revert/device", byteOffset := 64 }, { name := "fresh", type := 4, offset := 128, embedded := false, tag := "", pkgPath := "revert/device", byteOffset := 128 }]),
  some (Go.TypeDesc.struct #[{ name := "firm", type := 89, offset := 0, embedded := false, tag := "", pkgPath := "revert/device", byteOffset := 0 }, { name := "read", type := 89, offset := 64, embedded := false, tag := "", pkgPath := "revert/device", byteOffset := 64 }, { name := "fresh", type := 4, offset := 128, embedded := false, tag := "", pkgPath := "revert/device", byteOffset := 128 }]),
  some (Go.TypeDesc.func #[93] #[3] false),
  some (Go.TypeDesc.func #[3] #[3] false),
  some (Go.TypeDesc.func #[70] #[70] false),
  some (Go.TypeDesc.func #[3, 9] #[3] false),
  some (Go.TypeDesc.tuple #[9, 3]),
  some (Go.TypeDesc.func #[3] #[9, 3] false),
  some (Go.TypeDesc.func #[23] #[23] false),
  some (Go.TypeDesc.func #[64] #[30] false),
  some (Go.TypeDesc.int Go.IntKind.u64),
  some (Go.TypeDesc.tuple #[100, 100]),
  some (Go.TypeDesc.func #[100, 100] #[100, 100] false),
  some (Go.TypeDesc.func #[9, 9] #[4] false),
  some (Go.TypeDesc.pointer 106),
  some (Go.TypeDesc.struct #[{ name := "addr", type := 104, offset := 0, embedded := false, tag := "", pkgPath := "strings", byteOffset := 0 }, { name := "buf", type := 82, offset := 1, embedded := false, tag := "", pkgPath := "strings", byteOffset := 8 }]),
  some (Go.TypeDesc.struct #[{ name := "addr", type := 104, offset := 0, embedded := false, tag := "", pkgPath := "strings", byteOffset := 0 }, { name := "buf", type := 82, offset := 1, embedded := false, tag := "", pkgPath := "strings", byteOffset := 8 }]),
  some (Go.TypeDesc.func #[3] #[] false),
  some (Go.TypeDesc.interface #[("Error", 112)]),
  some (Go.TypeDesc.interface #[("Error", 112)]),
  some (Go.TypeDesc.tuple #[3, 109]),
  some (Go.TypeDesc.func #[9] #[3, 109] false),
  some (Go.TypeDesc.func #[] #[9] false),
  some (Go.TypeDesc.tuple #[3, 4]),
  some (Go.TypeDesc.func #[3] #[3, 4] false),
  some (Go.TypeDesc.int Go.IntKind.u32),
  some (Go.TypeDesc.tuple #[115, 115]),
  some (Go.TypeDesc.func #[115, 115] #[115, 115] false),
  some (Go.TypeDesc.int Go.IntKind.u64),
  some (Go.TypeDesc.tuple #[118, 118]),
  some (Go.TypeDesc.func #[118, 118] #[118, 118] false),
  some (Go.TypeDesc.pointer 5),
  some Go.TypeDesc.unsafePointer,
  some (Go.TypeDesc.func #[122] #[122] false),
  some (Go.TypeDesc.func #[3] #[82] false),
  some (Go.TypeDesc.struct #[{ name := "_interface", type := 17, offset := 0, embedded := false, tag := "", pkgPath := "runtime", byteOffset := 0 }, { name := "concrete", type := 17, offset := 1, embedded := false, tag := "", pkgPath := "runtime", byteOffset := 8 }, { name := "asserted", type := 17, offset := 2, embedded := false, tag := "", pkgPath := "runtime", byteOffset := 16 }, { name := "missingMethod", type := 9, offset := 3, embedded := false, tag := "", pkgPath := "runtime", byteOffset := 24 }]),
  some (Go.TypeDesc.struct #[{ name := "_interface", type := 17, offset := 0, embedded := false, tag := "", pkgPath := "runtime", byteOffset := 0 }, { name := "concrete", type := 17, offset := 1, embedded := false, tag := "", pkgPath := "runtime", byteOffset := 8 }, { name := "asserted", type := 17, offset := 2, embedded := false, tag := "", pkgPath := "runtime", byteOffset := 16 }, { name := "missingMethod", type := 9, offset := 3, embedded := false, tag := "", pkgPath := "runtime", byteOffset := 24 }]),
  some (Go.TypeDesc.array 0 16),
  some (Go.TypeDesc.struct #[{ name := "_", type := 127, offset := 0, embedded := false, tag := "", pkgPath := "runtime", byteOffset := 0 }]),
  some (Go.TypeDesc.struct #[{ name := "_", type := 127, offset := 0, embedded := false, tag := "", pkgPath := "runtime", byteOffset := 0 }]),
  some (Go.TypeDesc.int Go.IntKind.u8),
  some (Go.TypeDesc.int Go.IntKind.u8),
  some (Go.TypeDesc.func #[122, 122] #[4] false),
  some (Go.TypeDesc.int Go.IntKind.i32),
  some (Go.TypeDesc.int Go.IntKind.i32),
  some (Go.TypeDesc.struct #[{ name := "Size_", type := 12, offset := 0, embedded := false, tag := "", pkgPath := "", byteOffset := 0 }, { name := "PtrBytes", type := 12, offset := 1, embedded := false, tag := "", pkgPath := "", byteOffset := 8 }, { name := "Hash", type := 115, offset := 2, embedded := false, tag := "", pkgPath := "", byteOffset := 16 }, { name := "TFlag", type := 130, offset := 3, embedded := false, tag := "", pkgPath := "", byteOffset := 20 }, { name := "Align_", type := 5, offset := 4, embedded := false, tag := "", pkgPath := "", byteOffset := 21 }, { name := "FieldAlign_", type := 5, offset := 5, embedded := false, tag := "", pkgPath := "", byteOffset := 22 }, { name := "Kind_", type := 131, offset := 6, embedded := false, tag := "", pkgPath := "", byteOffset := 23 }, { name := "Equal", type := 132, offset := 7, embedded := false, tag := "", pkgPath := "", byteOffset := 24 }, { name := "GCData", type := 121, offset := 8, embedded := false, tag := "", pkgPath := "", byteOffset := 32 }, { name := "Str", type := 133, offset := 9, embedded := false, tag := "", pkgPath := "", byteOffset := 40 }, { name := "PtrToThis", type := 134, offset := 10, embedded := false, tag := "", pkgPath := "", byteOffset := 44 }]),
  some (Go.TypeDesc.struct #[{ name := "Size_", type := 12, offset := 0, embedded := false, tag := "", pkgPath := "", byteOffset := 0 }, { name := "PtrBytes", type := 12, offset := 1, embedded := false, tag := "", pkgPath := "", byteOffset := 8 }, { name := "Hash", type := 115, offset := 2, embedded := false, tag := "", pkgPath := "", byteOffset := 16 }, { name := "TFlag", type := 130, offset := 3, embedded := false, tag := "", pkgPath := "", byteOffset := 20 }, { name := "Align_", type := 5, offset := 4, embedded := false, tag := "", pkgPath := "", byteOffset := 21 }, { name := "FieldAlign_", type := 5, offset := 5, embedded := false, tag := "", pkgPath := "", byteOffset := 22 }, { name := "Kind_", type := 131, offset := 6, embedded := false, tag := "", pkgPath := "", byteOffset := 23 }, { name := "Equal", type := 132, offset := 7, embedded := false, tag := "", pkgPath := "", byteOffset := 24 }, { name := "GCData", type := 121, offset := 8, embedded := false, tag := "", pkgPath := "", byteOffset := 32 }, { name := "Str", type := 133, offset := 9, embedded := false, tag := "", pkgPath := "", byteOffset := 40 }, { name := "PtrToThis", type := 134, offset := 10, embedded := false, tag := "", pkgPath := "", byteOffset := 44 }])]
theorem inf0 : (Go.Proofs.Try.prog.info? 0).map (fun i => (i.size, i.bytes, i.zero)) = some (1, 0, some (.tuple #[])) := by kernel_rfl
theorem inf1 : (Go.Proofs.Try.prog.info? 1).map (fun i => (i.size, i.bytes, i.zero)) = some (1, 8, some .nilFunc) := by kernel_rfl
theorem inf2 : (Go.Proofs.Try.prog.info? 2).map (fun i => (i.size, i.bytes, i.zero)) = some (1, 8, some (.int .i64 0)) := by kernel_rfl
theorem inf3 : (Go.Proofs.Try.prog.info? 3).map (fun i => (i.size, i.bytes, i.zero)) = some (1, 8, some (.int .i64 0)) := by kernel_rfl
theorem inf4 : (Go.Proofs.Try.prog.info? 4).map (fun i => (i.size, i.bytes, i.zero)) = some (1, 1, some (.bool false)) := by kernel_rfl
theorem inf5 : (Go.Proofs.Try.prog.info? 5).map (fun i => (i.size, i.bytes, i.zero)) = some (1, 1, some (.int .u8 0)) := by kernel_rfl
theorem inf6 : (Go.Proofs.Try.prog.info? 6).map (fun i => (i.size, i.bytes, i.zero)) = some (1, 1, some (.int .u8 0)) := by kernel_rfl
theorem inf7 : (Go.Proofs.Try.prog.info? 7).map (fun i => (i.size, i.bytes, i.zero)) = some (4, 24, some (.agg #[(.int .i64 0), (.int .i64 0), (.bool false), (.int .u8 0)])) := by kernel_rfl
theorem inf8 : (Go.Proofs.Try.prog.info? 8).map (fun i => (i.size, i.bytes, i.zero)) = some (4, 24, some (.agg #[(.int .i64 0), (.int .i64 0), (.bool false), (.int .u8 0)])) := by kernel_rfl
theorem inf9 : (Go.Proofs.Try.prog.info? 9).map (fun i => (i.size, i.bytes, i.zero)) = some (1, 16, some (.string ⟨⟨[]⟩⟩)) := by kernel_rfl
theorem inf10 : (Go.Proofs.Try.prog.info? 10).map (fun i => (i.size, i.bytes, i.zero)) = some (1, 16, some (.string ⟨⟨[]⟩⟩)) := by kernel_rfl
theorem inf11 : (Go.Proofs.Try.prog.info? 11).map (fun i => (i.size, i.bytes, i.zero)) = some (1, 16, some (.string ⟨⟨[]⟩⟩)) := by kernel_rfl
theorem inf12 : (Go.Proofs.Try.prog.info? 12).map (fun i => (i.size, i.bytes, i.zero)) = some (1, 8, some (.int .u64 0)) := by kernel_rfl
theorem inf13 : (Go.Proofs.Try.prog.info? 13).map (fun i => (i.size, i.bytes, i.zero)) = some (2, 24, some (.agg #[(.string ⟨⟨[]⟩⟩), (.int .u64 0)])) := by kernel_rfl
theorem inf14 : (Go.Proofs.Try.prog.info? 14).map (fun i => (i.size, i.bytes, i.zero)) = some (2, 24, some (.agg #[(.string ⟨⟨[]⟩⟩), (.int .u64 0)])) := by kernel_rfl
theorem inf15 : (Go.Proofs.Try.prog.info? 15).map (fun i => (i.size, i.bytes, i.zero)) = some (1, 8, some (.pointer none)) := by kernel_rfl
theorem inf16 : (Go.Proofs.Try.prog.info? 16).map (fun i => (i.size, i.bytes, i.zero)) = some (1, 8, some (.pointer none)) := by kernel_rfl
theorem inf17 : (Go.Proofs.Try.prog.info? 17).map (fun i => (i.size, i.bytes, i.zero)) = some (1, 8, some (.pointer none)) := by kernel_rfl
theorem inf18 : (Go.Proofs.Try.prog.info? 18).map (fun i => (i.size, i.bytes, i.zero)) = some (1, 8, some (.agg #[(.pointer none)])) := by kernel_rfl
theorem inf19 : (Go.Proofs.Try.prog.info? 19).map (fun i => (i.size, i.bytes, i.zero)) = some (1, 8, some (.agg #[(.pointer none)])) := by kernel_rfl
theorem inf20 : (Go.Proofs.Try.prog.info? 20).map (fun i => (i.size, i.bytes, i.zero)) = some (1, 16, some .nilIface) := by kernel_rfl
theorem inf21 : (Go.Proofs.Try.prog.info? 21).map (fun i => (i.size, i.bytes, i.zero)) = some (1, 4, some (.int .i32 0)) := by kernel_rfl
theorem inf22 : (Go.Proofs.Try.prog.info? 22).map (fun i => (i.size, i.bytes, i.zero)) = some (1, 24, some (.slice none 0 0)) := by kernel_rfl
theorem inf23 : (Go.Proofs.Try.prog.info? 23).map (fun i => (i.size, i.bytes, i.zero)) = some (1, 24, some (.slice none 0 0)) := by kernel_rfl
theorem inf24 : (Go.Proofs.Try.prog.info? 24).map (fun i => (i.size, i.bytes, i.zero)) = some (1, 8, some (.pointer none)) := by kernel_rfl
theorem inf25 : (Go.Proofs.Try.prog.info? 25).map (fun i => (i.size, i.bytes, i.zero)) = some (1, 8, some .nilFunc) := by kernel_rfl
theorem inf26 : (Go.Proofs.Try.prog.info? 26).map (fun i => (i.size, i.bytes, i.zero)) = some (1, 8, some .nilFunc) := by kernel_rfl
theorem inf27 : (Go.Proofs.Try.prog.info? 27).map (fun i => (i.size, i.bytes, i.zero)) = some (256, 2048, some (.agg #[(.int .i64 0), (.int .i64 0), (.int .i64 0), (.int .i64 0), (.int .i64 0), (.int .i64 0), (.int .i64 0), (.int .i64 0), (.int .i64 0), (.int .i64 0), (.int .i64 0), (.int .i64 0), (.int .i64 0), (.int .i64 0), (.int .i64 0), (.int .i64 0), (.int .i64 0), (.int .i64 0), (.int .i64 0), (.int .i64 0), (.int .i64 0), (.int .i64 0), (.int .i64 0), (.int .i64 0), (.int .i64 0), (.int .i64 0), (.int .i64 0), (.int .i64 0), (.int .i64 0), (.int .i64 0), (.int .i64 0), (.int .i64 0), (.int .i64 0), (.int .i64 0), (.int .i64 0), (.int .i64 0), (.int .i64 0), (.int .i64 0), (.int .i64 0), (.int .i64 0), (.int .i64 0), (.int .i64 0), (.int .i64 0), (.int .i64 0), (.int .i64 0), (.int .i64 0), (.int .i64 0), (.int .i64 0), (.int .i64 0), (.int .i64 0), (.int .i64 0), (.int .i64 0), (.int .i64 0), (.int .i64 0), (.int .i64 0), (.int .i64 0), (.int .i64 0), (.int .i64 0), (.int .i64 0), (.int .i64 0), (.int .i64 0), (.int .i64 0), (.int .i64 0), (.int .i64 0), (.int .i64 0), (.int .i64 0), (.int .i64 0), (.int .i64 0), (.int .i64 0), (.int .i64 0), (.int .i64 0), (.int .i64 0), (.int .i64 0), (.int .i64 0), (.int .i64 0), (.int .i64 0), (.int .i64 0), (.int .i64 0), (.int .i64 0), (.int .i64 0), (.int .i64 0), (.int .i64 0), (.int .i64 0), (.int .i64 0), (.int .i64 0), (.int .i64 0), (.int .i64 0), (.int .i64 0), (.int .i64 0), (.int .i64 0), (.int .i64 0), (.int .i64 0), (.int .i64 0), (.int .i64 0), (.int .i64 0), (.int .i64 0), (.int .i64 0), (.int .i64 0), (.int .i64 0), (.int .i64 0), (.int .i64 0), (.int .i64 0), (.int .i64 0), (.int .i64 0), (.int .i64 0), (.int .i64 0), (.int .i64 0), (.int .i64 0), (.int .i64 0), (.int .i64 0), (.int .i64 0), (.int .i64 0), (.int .i64 0), (.int .i64 0), (.int .i64 0), (.int .i64 0), (.int .i64 0), (.int .i64 0), (.int .i64 0), (.int .i64 0), (.int .i64 0), (.int .i64 0), (.int .i64 0), (.int .i64 0), (.int .i64 0), (.int .i64 0), (.int .i64 0), (.int .i64 0), (.int .i64 0), (.int .i64 0), (.int .i64 0), (.int .i64 0), (.int .i64 0), (.int .i64 0), (.int .i64 0), (.int .i64 0), (.int .i64 0), (.int .i64 0), (.int .i64 0), (.int .i64 0), (.int .i64 0), (.int .i64 0), (.int .i64 0), (.int .i64 0), (.int .i64 0), (.int .i64 0), (.int .i64 0), (.int .i64 0), (.int .i64 0), (.int .i64 0), (.int .i64 0), (.int .i64 0), (.int .i64 0), (.int .i64 0), (.int .i64 0), (.int .i64 0), (.int .i64 0), (.int .i64 0), (.int .i64 0), (.int .i64 0), (.int .i64 0), (.int .i64 0), (.int .i64 0), (.int .i64 0), (.int .i64 0), (.int .i64 0), (.int .i64 0), (.int .i64 0), (.int .i64 0), (.int .i64 0), (.int .i64 0), (.int .i64 0), (.int .i64 0), (.int .i64 0), (.int .i64 0), (.int .i64 0), (.int .i64 0), (.int .i64 0), (.int .i64 0), (.int .i64 0), (.int .i64 0), (.int .i64 0), (.int .i64 0), (.int .i64 0), (.int .i64 0), (.int .i64 0), (.int .i64 0), (.int .i64 0), (.int .i64 0), (.int .i64 0), (.int .i64 0), (.int .i64 0), (.int .i64 0), (.int .i64 0), (.int .i64 0), (.int .i64 0), (.int .i64 0), (.int .i64 0), (.int .i64 0), (.int .i64 0), (.int .i64 0), (.int .i64 0), (.int .i64 0), (.int .i64 0), (.int .i64 0), (.int .i64 0), (.int .i64 0), (.int .i64 0), (.int .i64 0), (.int .i64 0), (.int .i64 0), (.int .i64 0), (.int .i64 0), (.int .i64 0), (.int .i64 0), (.int .i64 0), (.int .i64 0), (.int .i64 0), (.int .i64 0), (.int .i64 0), (.int .i64 0), (.int .i64 0), (.int .i64 0), (.int .i64 0), (.int .i64 0), (.int .i64 0), (.int .i64 0), (.int .i64 0), (.int .i64 0), (.int .i64 0), (.int .i64 0), (.int .i64 0), (.int .i64 0), (.int .i64 0), (.int .i64 0), (.int .i64 0), (.int .i64 0), (.int .i64 0), (.int .i64 0), (.int .i64 0), (.int .i64 0), (.int .i64 0), (.int .i64 0), (.int .i64 0), (.int .i64 0), (.int .i64 0), (.int .i64 0), (.int .i64 0), (.int .i64 0), (.int .i64 0), (.int .i64 0), (.int .i64 0), (.int .i64 0), (.int .i64 0), (.int .i64 0), (.int .i64 0)])) := by kernel_rfl
theorem inf28 : (Go.Proofs.Try.prog.info? 28).map (fun i => (i.size, i.bytes, i.zero)) = some (2, 24, some (.agg #[(.int .u8 0), (.string ⟨⟨[]⟩⟩)])) := by kernel_rfl
theorem inf29 : (Go.Proofs.Try.prog.info? 29).map (fun i => (i.size, i.bytes, i.zero)) = some (2, 24, some (.agg #[(.int .u8 0), (.string ⟨⟨[]⟩⟩)])) := by kernel_rfl
theorem inf30 : (Go.Proofs.Try.prog.info? 30).map (fun i => (i.size, i.bytes, i.zero)) = some (1, 8, some (.int .i64 0)) := by kernel_rfl
theorem inf31 : (Go.Proofs.Try.prog.info? 31).map (fun i => (i.size, i.bytes, i.zero)) = some (1, 8, some .nilFunc) := by kernel_rfl
theorem inf32 : (Go.Proofs.Try.prog.info? 32).map (fun i => (i.size, i.bytes, i.zero)) = some (1, 8, some .nilFunc) := by kernel_rfl
theorem inf33 : (Go.Proofs.Try.prog.info? 33).map (fun i => (i.size, i.bytes, i.zero)) = some (1, 0, some (.tuple #[(.string ⟨⟨[]⟩⟩), (.int .i64 0)])) := by kernel_rfl
theorem inf34 : (Go.Proofs.Try.prog.info? 34).map (fun i => (i.size, i.bytes, i.zero)) = some (1, 8, some .nilFunc) := by kernel_rfl
theorem inf35 : (Go.Proofs.Try.prog.info? 35).map (fun i => (i.size, i.bytes, i.zero)) = some (1, 8, some .nilFunc) := by kernel_rfl
theorem inf36 : (Go.Proofs.Try.prog.info? 36).map (fun i => (i.size, i.bytes, i.zero)) = some (1, 8, some .nilFunc) := by kernel_rfl
theorem inf37 : (Go.Proofs.Try.prog.info? 37).map (fun i => (i.size, i.bytes, i.zero)) = some (1, 24, some (.slice none 0 0)) := by kernel_rfl
theorem inf38 : (Go.Proofs.Try.prog.info? 38).map (fun i => (i.size, i.bytes, i.zero)) = some (1, 8, some .nilFunc) := by kernel_rfl
theorem inf39 : (Go.Proofs.Try.prog.info? 39).map (fun i => (i.size, i.bytes, i.zero)) = some (1, 8, some .nilFunc) := by kernel_rfl
theorem inf40 : (Go.Proofs.Try.prog.info? 40).map (fun i => (i.size, i.bytes, i.zero)) = some (1, 8, some .nilFunc) := by kernel_rfl
theorem inf41 : (Go.Proofs.Try.prog.info? 41).map (fun i => (i.size, i.bytes, i.zero)) = some (1, 8, some (.pointer none)) := by kernel_rfl
theorem inf42 : (Go.Proofs.Try.prog.info? 42).map (fun i => (i.size, i.bytes, i.zero)) = some (1, 8, some .nilFunc) := by kernel_rfl
theorem inf43 : (Go.Proofs.Try.prog.info? 43).map (fun i => (i.size, i.bytes, i.zero)) = some (4, 56, some (.agg #[(.int .u8 0), (.int .i64 0), (.string ⟨⟨[]⟩⟩), (.slice none 0 0)])) := by kernel_rfl
theorem inf44 : (Go.Proofs.Try.prog.info? 44).map (fun i => (i.size, i.bytes, i.zero)) = some (4, 56, some (.agg #[(.int .u8 0), (.int .i64 0), (.string ⟨⟨[]⟩⟩), (.slice none 0 0)])) := by kernel_rfl
theorem inf45 : (Go.Proofs.Try.prog.info? 45).map (fun i => (i.size, i.bytes, i.zero)) = some (1, 8, some .nilFunc) := by kernel_rfl
theorem inf46 : (Go.Proofs.Try.prog.info? 46).map (fun i => (i.size, i.bytes, i.zero)) = some (1, 8, some .nilFunc) := by kernel_rfl
theorem inf47 : (Go.Proofs.Try.prog.info? 47).map (fun i => (i.size, i.bytes, i.zero)) = some (1, 8, some .nilFunc) := by kernel_rfl
theorem inf48 : (Go.Proofs.Try.prog.info? 48).map (fun i => (i.size, i.bytes, i.zero)) = some (1, 8, some .nilFunc) := by kernel_rfl
theorem inf49 : (Go.Proofs.Try.prog.info? 49).map (fun i => (i.size, i.bytes, i.zero)) = some (1, 24, some (.slice none 0 0)) := by kernel_rfl
theorem inf50 : (Go.Proofs.Try.prog.info? 50).map (fun i => (i.size, i.bytes, i.zero)) = some (1, 24, some (.slice none 0 0)) := by kernel_rfl
theorem inf51 : (Go.Proofs.Try.prog.info? 51).map (fun i => (i.size, i.bytes, i.zero)) = some (2, 48, some (.agg #[(.slice none 0 0), (.slice none 0 0)])) := by kernel_rfl
theorem inf52 : (Go.Proofs.Try.prog.info? 52).map (fun i => (i.size, i.bytes, i.zero)) = some (2, 48, some (.agg #[(.slice none 0 0), (.slice none 0 0)])) := by kernel_rfl
theorem inf53 : (Go.Proofs.Try.prog.info? 53).map (fun i => (i.size, i.bytes, i.zero)) = some (2, 24, some (.agg #[(.int .i64 0), (.string ⟨⟨[]⟩⟩)])) := by kernel_rfl
theorem inf54 : (Go.Proofs.Try.prog.info? 54).map (fun i => (i.size, i.bytes, i.zero)) = some (2, 24, some (.agg #[(.int .i64 0), (.string ⟨⟨[]⟩⟩)])) := by kernel_rfl
theorem inf55 : (Go.Proofs.Try.prog.info? 55).map (fun i => (i.size, i.bytes, i.zero)) = some (1, 8, some .nilFunc) := by kernel_rfl
theorem inf56 : (Go.Proofs.Try.prog.info? 56).map (fun i => (i.size, i.bytes, i.zero)) = some (1, 8, some .nilFunc) := by kernel_rfl
theorem inf57 : (Go.Proofs.Try.prog.info? 57).map (fun i => (i.size, i.bytes, i.zero)) = some (1, 8, some .nilFunc) := by kernel_rfl
theorem inf58 : (Go.Proofs.Try.prog.info? 58).map (fun i => (i.size, i.bytes, i.zero)) = some (1, 24, some (.slice none 0 0)) := by kernel_rfl
theorem inf59 : (Go.Proofs.Try.prog.info? 59).map (fun i => (i.size, i.bytes, i.zero)) = some (1, 8, some .nilFunc) := by kernel_rfl
theorem inf60 : (Go.Proofs.Try.prog.info? 60).map (fun i => (i.size, i.bytes, i.zero)) = some (1, 8, some (.pointer none)) := by kernel_rfl
theorem inf61 : (Go.Proofs.Try.prog.info? 61).map (fun i => (i.size, i.bytes, i.zero)) = some (1, 8, some .nilFunc) := by kernel_rfl
theorem inf62 : (Go.Proofs.Try.prog.info? 62).map (fun i => (i.size, i.bytes, i.zero)) = some (3, 32, some (.agg #[(.int .u8 0), (.int .i64 0), (.string ⟨⟨[]⟩⟩)])) := by kernel_rfl
theorem inf63 : (Go.Proofs.Try.prog.info? 63).map (fun i => (i.size, i.bytes, i.zero)) = some (3, 32, some (.agg #[(.int .u8 0), (.int .i64 0), (.string ⟨⟨[]⟩⟩)])) := by kernel_rfl
theorem inf64 : (Go.Proofs.Try.prog.info? 64).map (fun i => (i.size, i.bytes, i.zero)) = some (1, 8, some .nilFunc) := by kernel_rfl
theorem inf65 : (Go.Proofs.Try.prog.info? 65).map (fun i => (i.size, i.bytes, i.zero)) = some (1, 8, some .nilFunc) := by kernel_rfl
theorem inf66 : (Go.Proofs.Try.prog.info? 66).map (fun i => (i.size, i.bytes, i.zero)) = some (1, 8, some .nilFunc) := by kernel_rfl
theorem inf67 : (Go.Proofs.Try.prog.info? 67).map (fun i => (i.size, i.bytes, i.zero)) = some (5, 56, some (.agg #[(.pointer none), (.int .i64 0), (.slice none 0 0), (.int .i64 0), (.bool false)])) := by kernel_rfl
theorem inf68 : (Go.Proofs.Try.prog.info? 68).map (fun i => (i.size, i.bytes, i.zero)) = some (5, 56, some (.agg #[(.pointer none), (.int .i64 0), (.slice none 0 0), (.int .i64 0), (.bool false)])) := by kernel_rfl
theorem inf69 : (Go.Proofs.Try.prog.info? 69).map (fun i => (i.size, i.bytes, i.zero)) = some (1, 8, some .nilFunc) := by kernel_rfl
theorem inf70 : (Go.Proofs.Try.prog.info? 70).map (fun i => (i.size, i.bytes, i.zero)) = some (1, 24, some (.slice none 0 0)) := by kernel_rfl
theorem inf71 : (Go.Proofs.Try.prog.info? 71).map (fun i => (i.size, i.bytes, i.zero)) = some (1, 24, some (.agg #[(.slice none 0 0)])) := by kernel_rfl
theorem inf72 : (Go.Proofs.Try.prog.info? 72).map (fun i => (i.size, i.bytes, i.zero)) = some (1, 24, some (.agg #[(.slice none 0 0)])) := by kernel_rfl
theorem inf73 : (Go.Proofs.Try.prog.info? 73).map (fun i => (i.size, i.bytes, i.zero)) = some (1, 8, some .nilFunc) := by kernel_rfl
theorem inf74 : (Go.Proofs.Try.prog.info? 74).map (fun i => (i.size, i.bytes, i.zero)) = some (1, 8, some (.pointer none)) := by kernel_rfl
theorem inf75 : (Go.Proofs.Try.prog.info? 75).map (fun i => (i.size, i.bytes, i.zero)) = some (5, 56, some (.agg #[(.pointer none), (.int .i64 0), (.slice none 0 0), (.int .i64 0), (.bool false)])) := by kernel_rfl
theorem inf76 : (Go.Proofs.Try.prog.info? 76).map (fun i => (i.size, i.bytes, i.zero)) = some (5, 56, some (.agg #[(.pointer none), (.int .i64 0), (.slice none 0 0), (.int .i64 0), (.bool false)])) := by kernel_rfl
theorem inf77 : (Go.Proofs.Try.prog.info? 77).map (fun i => (i.size, i.bytes, i.zero)) = some (1, 8, some .nilFunc) := by kernel_rfl
theorem inf78 : (Go.Proofs.Try.prog.info? 78).map (fun i => (i.size, i.bytes, i.zero)) = some (1, 8, some .nilFunc) := by kernel_rfl
theorem inf79 : (Go.Proofs.Try.prog.info? 79).map (fun i => (i.size, i.bytes, i.zero)) = some (1, 8, some .nilFunc) := by kernel_rfl
theorem inf80 : (Go.Proofs.Try.prog.info? 80).map (fun i => (i.size, i.bytes, i.zero)) = some (1, 8, some .nilFunc) := by kernel_rfl
theorem inf81 : (Go.Proofs.Try.prog.info? 81).map (fun i => (i.size, i.bytes, i.zero)) = some (1, 8, some .nilFunc) := by kernel_rfl
theorem inf82 : (Go.Proofs.Try.prog.info? 82).map (fun i => (i.size, i.bytes, i.zero)) = some (1, 24, some (.slice none 0 0)) := by kernel_rfl
theorem inf83 : (Go.Proofs.Try.prog.info? 83).map (fun i => (i.size, i.bytes, i.zero)) = some (1, 8, some .nilFunc) := by kernel_rfl
theorem inf84 : (Go.Proofs.Try.prog.info? 84).map (fun i => (i.size, i.bytes, i.zero)) = some (1, 8, some .nilFunc) := by kernel_rfl
theorem inf85 : (Go.Proofs.Try.prog.info? 85).map (fun i => (i.size, i.bytes, i.zero)) = some (1, 8, some (.pointer none)) := by kernel_rfl
theorem inf86 : (Go.Proofs.Try.prog.info? 86).map (fun i => (i.size, i.bytes, i.zero)) = some (1, 0, some (.tuple #[(.pointer none), (.int .i64 0)])) := by kernel_rfl
theorem inf87 : (Go.Proofs.Try.prog.info? 87).map (fun i => (i.size, i.bytes, i.zero)) = some (1, 8, some .nilFunc) := by kernel_rfl
theorem inf88 : (Go.Proofs.Try.prog.info? 88).map (fun i => (i.size, i.bytes, i.zero)) = some (64, 64, some (.agg #[(.int .u8 0), (.int .u8 0), (.int .u8 0), (.int .u8 0), (.int .u8 0), (.int .u8 0), (.int .u8 0), (.int .u8 0), (.int .u8 0), (.int .u8 0), (.int .u8 0), (.int .u8 0), (.int .u8 0), (.int .u8 0), (.int .u8 0), (.int .u8 0), (.int .u8 0), (.int .u8 0), (.int .u8 0), (.int .u8 0), (.int .u8 0), (.int .u8 0), (.int .u8 0), (.int .u8 0), (.int .u8 0), (.int .u8 0), (.int .u8 0), (.int .u8 0), (.int .u8 0), (.int .u8 0), (.int .u8 0), (.int .u8 0), (.int .u8 0), (.int .u8 0), (.int .u8 0), (.int .u8 0), (.int .u8 0), (.int .u8 0), (.int .u8 0), (.int .u8 0), (.int .u8 0), (.int .u8 0), (.int .u8 0), (.int .u8 0), (.int .u8 0), (.int .u8 0), (.int .u8 0), (.int .u8 0), (.int .u8 0), (.int .u8 0), (.int .u8 0), (.int .u8 0), (.int .u8 0), (.int .u8 0), (.int .u8 0), (.int .u8 0), (.int .u8 0), (.int .u8 0), (.int .u8 0), (.int .u8 0), (.int .u8 0), (.int .u8 0), (.int .u8 0), (.int .u8 0)])) := by kernel_rfl
theorem inf89 : (Go.Proofs.Try.prog.info? 89).map (fun i => (i.size, i.bytes, i.zero)) = some (64, 64, some (.agg #[(.int .u8 0), (.int .u8 0), (.int .u8 0), (.int .u8 0), (.int .u8 0), (.int .u8 0), (.int .u8 0), (.int .u8 0), (.int .u8 0), (.int .u8 0), (.int .u8 0), (.int .u8 0), (.int .u8 0), (.int .u8 0), (.int .u8 0), (.int .u8 0), (.int .u8 0), (.int .u8 0), (.int .u8 0), (.int .u8 0), (.int .u8 0), (.int .u8 0), (.int .u8 0), (.int .u8 0), (.int .u8 0), (.int .u8 0), (.int .u8 0), (.int .u8 0), (.int .u8 0), (.int .u8 0), (.int .u8 0), (.int .u8 0), (.int .u8 0), (.int .u8 0), (.int .u8 0), (.int .u8 0), (.int .u8 0), (.int .u8 0), (.int .u8 0), (.int .u8 0), (.int .u8 0), (.int .u8 0), (.int .u8 0), (.int .u8 0), (.int .u8 0), (.int .u8 0), (.int .u8 0), (.int .u8 0), (.int .u8 0), (.int .u8 0), (.int .u8 0), (.int .u8 0), (.int .u8 0), (.int .u8 0), (.int .u8 0), (.int .u8 0), (.int .u8 0), (.int .u8 0), (.int .u8 0), (.int .u8 0), (.int .u8 0), (.int .u8 0), (.int .u8 0), (.int .u8 0)])) := by kernel_rfl
theorem inf90 : (Go.Proofs.Try.prog.info? 90).map (fun i => (i.size, i.bytes, i.zero)) = some (129, 129, some (.agg #[(.int .u8 0), (.int .u8 0), (.int .u8 0), (.int .u8 0), (.int .u8 0), (.int .u8 0), (.int .u8 0), (.int .u8 0), (.int .u8 0), (.int .u8 0), (.int .u8 0), (.int .u8 0), (.int .u8 0), (.int .u8 0), (.int .u8 0), (.int .u8 0), (.int .u8 0), (.int .u8 0), (.int .u8 0), (.int .u8 0), (.int .u8 0), (.int .u8 0), (.int .u8 0), (.int .u8 0), (.int .u8 0), (.int .u8 0), (.int .u8 0), (.int .u8 0), (.int .u8 0), (.int .u8 0), (.int .u8 0), (.int .u8 0), (.int .u8 0), (.int .u8 0), (.int .u8 0), (.int .u8 0), (.int .u8 0), (.int .u8 0), (.int .u8 0), (.int .u8 0), (.int .u8 0), (.int .u8 0), (.int .u8 0), (.int .u8 0), (.int .u8 0), (.int .u8 0), (.int .u8 0), (.int .u8 0), (.int .u8 0), (.int .u8 0), (.int .u8 0), (.int .u8 0), (.int .u8 0), (.int .u8 0), (.int .u8 0), (.int .u8 0), (.int .u8 0), (.int .u8 0), (.int .u8 0), (.int .u8 0), (.int .u8 0), (.int .u8 0), (.int .u8 0), (.int .u8 0), (.int .u8 0), (.int .u8 0), (.int .u8 0), (.int .u8 0), (.int .u8 0), (.int .u8 0), (.int .u8 0), (.int .u8 0), (.int .u8 0), (.int .u8 0), (.int .u8 0), (.int .u8 0), (.int .u8 0), (.int .u8 0), (.int .u8 0), (.int .u8 0), (.int .u8 0), (.int .u8 0), (.int .u8 0), (.int .u8 0), (.int .u8 0), (.int .u8 0), (.int .u8 0), (.int .u8 0), (.int .u8 0), (.int .u8 0), (.int .u8 0), (.int .u8 0), (.int .u8 0), (.int .u8 0), (.int .u8 0), (.int .u8 0), (.int .u8 0), (.int .u8 0), (.int .u8 0), (.int .u8 0), (.int .u8 0), (.int .u8 0), (.int .u8 0), (.int .u8 0), (.int .u8 0), (.int .u8 0), (.int .u8 0), (.int .u8 0), (.int .u8 0), (.int .u8 0), (.int .u8 0), (.int .u8 0), (.int .u8 0), (.int .u8 0), (.int .u8 0), (.int .u8 0), (.int .u8 0), (.int .u8 0), (.int .u8 0), (.int .u8 0), (.int .u8 0), (.int .u8 0), (.int .u8 0), (.int .u8 0), (.int .u8 0), (.int .u8 0), (.int .u8 0), (.int .u8 0), (.bool false)])) := by kernel_rfl
theorem inf91 : (Go.Proofs.Try.prog.info? 91).map (fun i => (i.size, i.bytes, i.zero)) = some (129, 129, some (.agg #[(.int .u8 0), (.int .u8 0), (.int .u8 0), (.int .u8 0), (.int .u8 0), (.int .u8 0), (.int .u8 0), (.int .u8 0), (.int .u8 0), (.int .u8 0), (.int .u8 0), (.int .u8 0), (.int .u8 0), (.int .u8 0), (.int .u8 0), (.int .u8 0), (.int .u8 0), (.int .u8 0), (.int .u8 0), (.int .u8 0), (.int .u8 0), (.int .u8 0), (.int .u8 0), (.int .u8 0), (.int .u8 0), (.int .u8 0), (.int .u8 0), (.int .u8 0), (.int .u8 0), (.int .u8 0), (.int .u8 0), (.int .u8 0), (.int .u8 0), (.int .u8 0), (.int .u8 0), (.int .u8 0), (.int .u8 0), (.int .u8 0), (.int .u8 0), (.int .u8 0), (.int .u8 0), (.int .u8 0), (.int .u8 0), (.int .u8 0), (.int .u8 0), (.int .u8 0), (.int .u8 0), (.int .u8 0), (.int .u8 0), (.int .u8 0), (.int .u8 0), (.int .u8 0), (.int .u8 0), (.int .u8 0), (.int .u8 0), (.int .u8 0), (.int .u8 0), (.int .u8 0), (.int .u8 0), (.int .u8 0), (.int .u8 0), (.int .u8 0), (.int .u8 0), (.int .u8 0), (.int .u8 0), (.int .u8 0), (.int .u8 0), (.int .u8 0), (.int .u8 0), (.int .u8 0), (.int .u8 0), (.int .u8 0), (.int .u8 0), (.int .u8 0), (.int .u8 0), (.int .u8 0), (.int .u8 0), (.int .u8 0), (.int .u8 0), (.int .u8 0), (.int .u8 0), (.int .u8 0), (.int .u8 0), (.int .u8 0), (.int .u8 0), (.int .u8 0), (.int .u8 0), (.int .u8 0), (.int .u8 0), (.int .u8 0), (.int .u8 0), (.int .u8 0), (.int .u8 0), (.int .u8 0), (.int .u8 0), (.int .u8 0), (.int .u8 0), (.int .u8 0), (.int .u8 0), (.int .u8 0), (.int .u8 0), (.int .u8 0), (.int .u8 0), (.int .u8 0), (.int .u8 0), (.int .u8 0), (.int .u8 0), (.int .u8 0), (.int .u8 0), (.int .u8 0), (.int .u8 0), (.int .u8 0), (.int .u8 0), (.int .u8 0), (.int .u8 0), (.int .u8 0), (.int .u8 0), (.int .u8 0), (.int .u8 0), (.int .u8 0), (.int .u8 0), (.int .u8 0), (.int .u8 0), (.int .u8 0), (.int .u8 0), (.int .u8 0), (.int .u8 0), (.int .u8 0), (.bool false)])) := by kernel_rfl
theorem inf92 : (Go.Proofs.Try.prog.info? 92).map (fun i => (i.size, i.bytes, i.zero)) = some (1, 8, some .nilFunc) := by kernel_rfl
theorem inf93 : (Go.Proofs.Try.prog.info? 93).map (fun i => (i.size, i.bytes, i.zero)) = some (1, 8, some .nilFunc) := by kernel_rfl
theorem inf94 : (Go.Proofs.Try.prog.info? 94).map (fun i => (i.size, i.bytes, i.zero)) = some (1, 8, some .nilFunc) := by kernel_rfl
theorem inf95 : (Go.Proofs.Try.prog.info? 95).map (fun i => (i.size, i.bytes, i.zero)) = some (1, 8, some .nilFunc) := by kernel_rfl
theorem inf96 : (Go.Proofs.Try.prog.info? 96).map (fun i => (i.size, i.bytes, i.zero)) = some (1, 0, some (.tuple #[(.string ⟨⟨[]⟩⟩), (.int .i64 0)])) := by kernel_rfl
theorem inf97 : (Go.Proofs.Try.prog.info? 97).map (fun i => (i.size, i.bytes, i.zero)) = some (1, 8, some .nilFunc) := by kernel_rfl
theorem inf98 : (Go.Proofs.Try.prog.info? 98).map (fun i => (i.size, i.bytes, i.zero)) = some (1, 8, some .nilFunc) := by kernel_rfl
theorem inf99 : (Go.Proofs.Try.prog.info? 99).map (fun i => (i.size, i.bytes, i.zero)) = some (1, 8, some .nilFunc) := by kernel_rfl
theorem inf100 : (Go.Proofs.Try.prog.info? 100).map (fun i => (i.size, i.bytes, i.zero)) = some (1, 8, some (.int .u64 0)) := by kernel_rfl
theorem inf101 : (Go.Proofs.Try.prog.info? 101).map (fun i => (i.size, i.bytes, i.zero)) = some (1, 0, some (.tuple #[(.int .u64 0), (.int .u64 0)])) := by kernel_rfl
theorem inf102 : (Go.Proofs.Try.prog.info? 102).map (fun i => (i.size, i.bytes, i.zero)) = some (1, 8, some .nilFunc) := by kernel_rfl
theorem inf103 : (Go.Proofs.Try.prog.info? 103).map (fun i => (i.size, i.bytes, i.zero)) = some (1, 8, some .nilFunc) := by kernel_rfl
theorem inf104 : (Go.Proofs.Try.prog.info? 104).map (fun i => (i.size, i.bytes, i.zero)) = some (1, 8, some (.pointer none)) := by kernel_rfl
theorem inf105 : (Go.Proofs.Try.prog.info? 105).map (fun i => (i.size, i.bytes, i.zero)) = some (2, 32, some (.agg #[(.pointer none), (.slice none 0 0)])) := by kernel_rfl
theorem inf106 : (Go.Proofs.Try.prog.info? 106).map (fun i => (i.size, i.bytes, i.zero)) = some (2, 32, some (.agg #[(.pointer none), (.slice none 0 0)])) := by kernel_rfl
theorem inf107 : (Go.Proofs.Try.prog.info? 107).map (fun i => (i.size, i.bytes, i.zero)) = some (1, 8, some .nilFunc) := by kernel_rfl
theorem inf108 : (Go.Proofs.Try.prog.info? 108).map (fun i => (i.size, i.bytes, i.zero)) = some (1, 16, some .nilIface) := by kernel_rfl
theorem inf109 : (Go.Proofs.Try.prog.info? 109).map (fun i => (i.size, i.bytes, i.zero)) = some (1, 16, some .nilIface) := by kernel_rfl
theorem inf110 : (Go.Proofs.Try.prog.info? 110).map (fun i => (i.size, i.bytes, i.zero)) = some (1, 0, some (.tuple #[(.int .i64 0), .nilIface])) := by kernel_rfl
theorem inf111 : (Go.Proofs.Try.prog.info? 111).map (fun i => (i.size, i.bytes, i.zero)) = some (1, 8, some .nilFunc) := by kernel_rfl
theorem inf112 : (Go.Proofs.Try.prog.info? 112).map (fun i => (i.size, i.bytes, i.zero)) = some (1, 8, some .nilFunc) := by kernel_rfl
theorem inf113 : (Go.Proofs.Try.prog.info? 113).map (fun i => (i.size, i.bytes, i.zero)) = some (1, 0, some (.tuple #[(.int .i64 0), (.bool false)])) := by kernel_rfl
theorem inf114 : (Go.Proofs.Try.prog.info? 114).map (fun i => (i.size, i.bytes, i.zero)) = some (1, 8, some .nilFunc) := by kernel_rfl
theorem inf115 : (Go.Proofs.Try.prog.info? 115).map (fun i => (i.size, i.bytes, i.zero)) = some (1, 4, some (.int .u32 0)) := by kernel_rfl
theorem inf116 : (Go.Proofs.Try.prog.info? 116).map (fun i => (i.size, i.bytes, i.zero)) = some (1, 0, some (.tuple #[(.int .u32 0), (.int .u32 0)])) := by kernel_rfl
theorem inf117 : (Go.Proofs.Try.prog.info? 117).map (fun i => (i.size, i.bytes, i.zero)) = some (1, 8, some .nilFunc) := by kernel_rfl
theorem inf118 : (Go.Proofs.Try.prog.info? 118).map (fun i => (i.size, i.bytes, i.zero)) = some (1, 8, some (.int .u64 0)) := by kernel_rfl
theorem inf119 : (Go.Proofs.Try.prog.info? 119).map (fun i => (i.size, i.bytes, i.zero)) = some (1, 0, some (.tuple #[(.int .u64 0), (.int .u64 0)])) := by kernel_rfl
theorem inf120 : (Go.Proofs.Try.prog.info? 120).map (fun i => (i.size, i.bytes, i.zero)) = some (1, 8, some .nilFunc) := by kernel_rfl
theorem inf121 : (Go.Proofs.Try.prog.info? 121).map (fun i => (i.size, i.bytes, i.zero)) = some (1, 8, some (.pointer none)) := by kernel_rfl
theorem inf122 : (Go.Proofs.Try.prog.info? 122).map (fun i => (i.size, i.bytes, i.zero)) = some (1, 8, some (.pointer none)) := by kernel_rfl
theorem inf123 : (Go.Proofs.Try.prog.info? 123).map (fun i => (i.size, i.bytes, i.zero)) = some (1, 8, some .nilFunc) := by kernel_rfl
theorem inf124 : (Go.Proofs.Try.prog.info? 124).map (fun i => (i.size, i.bytes, i.zero)) = some (1, 8, some .nilFunc) := by kernel_rfl
theorem inf125 : (Go.Proofs.Try.prog.info? 125).map (fun i => (i.size, i.bytes, i.zero)) = some (4, 40, some (.agg #[(.pointer none), (.pointer none), (.pointer none), (.string ⟨⟨[]⟩⟩)])) := by kernel_rfl
theorem inf126 : (Go.Proofs.Try.prog.info? 126).map (fun i => (i.size, i.bytes, i.zero)) = some (4, 40, some (.agg #[(.pointer none), (.pointer none), (.pointer none), (.string ⟨⟨[]⟩⟩)])) := by kernel_rfl
theorem inf127 : (Go.Proofs.Try.prog.info? 127).map (fun i => (i.size, i.bytes, i.zero)) = some (0, 0, some (.agg #[])) := by kernel_rfl
theorem inf128 : (Go.Proofs.Try.prog.info? 128).map (fun i => (i.size, i.bytes, i.zero)) = some (0, 0, some (.agg #[])) := by kernel_rfl
theorem inf129 : (Go.Proofs.Try.prog.info? 129).map (fun i => (i.size, i.bytes, i.zero)) = some (0, 0, some (.agg #[])) := by kernel_rfl
theorem inf130 : (Go.Proofs.Try.prog.info? 130).map (fun i => (i.size, i.bytes, i.zero)) = some (1, 1, some (.int .u8 0)) := by kernel_rfl
theorem inf131 : (Go.Proofs.Try.prog.info? 131).map (fun i => (i.size, i.bytes, i.zero)) = some (1, 1, some (.int .u8 0)) := by kernel_rfl
theorem inf132 : (Go.Proofs.Try.prog.info? 132).map (fun i => (i.size, i.bytes, i.zero)) = some (1, 8, some .nilFunc) := by kernel_rfl
theorem inf133 : (Go.Proofs.Try.prog.info? 133).map (fun i => (i.size, i.bytes, i.zero)) = some (1, 4, some (.int .i32 0)) := by kernel_rfl
theorem inf134 : (Go.Proofs.Try.prog.info? 134).map (fun i => (i.size, i.bytes, i.zero)) = some (1, 4, some (.int .i32 0)) := by kernel_rfl
theorem inf135 : (Go.Proofs.Try.prog.info? 135).map (fun i => (i.size, i.bytes, i.zero)) = some (11, 48, some (.agg #[(.int .u64 0), (.int .u64 0), (.int .u32 0), (.int .u8 0), (.int .u8 0), (.int .u8 0), (.int .u8 0), .nilFunc, (.pointer none), (.int .i32 0), (.int .i32 0)])) := by kernel_rfl
theorem inf136 : (Go.Proofs.Try.prog.info? 136).map (fun i => (i.size, i.bytes, i.zero)) = some (11, 48, some (.agg #[(.int .u64 0), (.int .u64 0), (.int .u32 0), (.int .u8 0), (.int .u8 0), (.int .u8 0), (.int .u8 0), .nilFunc, (.pointer none), (.int .i32 0), (.int .i32 0)])) := by kernel_rfl
def infL : List (Option (Nat × Nat × Value)) := [
  some (1, 0, (.tuple #[])),
  some (1, 8, .nilFunc),
  some (1, 8, (.int .i64 0)),
  some (1, 8, (.int .i64 0)),
  some (1, 1, (.bool false)),
  some (1, 1, (.int .u8 0)),
  some (1, 1, (.int .u8 0)),
  some (4, 24, (.agg #[(.int .i64 0), (.int .i64 0), (.bool false), (.int .u8 0)])),
  some (4, 24, (.agg #[(.int .i64 0), (.int .i64 0), (.bool false), (.int .u8 0)])),
  some (1, 16, (.string ⟨⟨[]⟩⟩)),
  some (1, 16, (.string ⟨⟨[]⟩⟩)),
  some (1, 16, (.string ⟨⟨[]⟩⟩)),
  some (1, 8, (.int .u64 0)),
  some (2, 24, (.agg #[(.string ⟨⟨[]⟩⟩), (.int .u64 0)])),
  some (2, 24, (.agg #[(.string ⟨⟨[]⟩⟩), (.int .u64 0)])),
  some (1, 8, (.pointer none)),
  some (1, 8, (.pointer none)),
  some (1, 8, (.pointer none)),
  some (1, 8, (.agg #[(.pointer none)])),
  some (1, 8, (.agg #[(.pointer none)])),
  some (1, 16, .nilIface),
  some (1, 4, (.int .i32 0)),
  some (1, 24, (.slice none 0 0)),
  some (1, 24, (.slice none 0 0)),
  some (1, 8, (.pointer none)),
  some (1, 8, .nilFunc),
  some (1, 8, .nilFunc),
  some (256, 2048, (.agg #[(.int .i64 0), (.int .i64 0), (.int .i64 0), (.int .i64 0), (.int .i64 0), (.int .i64 0), (.int .i64 0), (.int .i64 0), (.int .i64 0), (.int .i64 0), (.int .i64 0), (.int .i64 0), (.int .i64 0), (.int .i64 0), (.int .i64 0), (.int .i64 0), (.int .i64 0), (.int .i64 0), (.int .i64 0), (.int .i64 0), (.int .i64 0), (.int .i64 0), (.int .i64 0), (.int .i64 0), (.int .i64 0), (.int .i64 0), (.int .i64 0), (.int .i64 0), (.int .i64 0), (.int .i64 0), (.int .i64 0), (.int .i64 0), (.int .i64 0), (.int .i64 0), (.int .i64 0), (.int .i64 0), (.int .i64 0), (.int .i64 0), (.int .i64 0), (.int .i64 0), (.int .i64 0), (.int .i64 0), (.int .i64 0), (.int .i64 0), (.int .i64 0), (.int .i64 0), (.int .i64 0), (.int .i64 0), (.int .i64 0), (.int .i64 0), (.int .i64 0), (.int .i64 0), (.int .i64 0), (.int .i64 0), (.int .i64 0), (.int .i64 0), (.int .i64 0), (.int .i64 0), (.int .i64 0), (.int .i64 0), (.int .i64 0), (.int .i64 0), (.int .i64 0), (.int .i64 0), (.int .i64 0), (.int .i64 0), (.int .i64 0), (.int .i64 0), (.int .i64 0), (.int .i64 0), (.int .i64 0), (.int .i64 0), (.int .i64 0), (.int .i64 0), (.int .i64 0), (.int .i64 0), (.int .i64 0), (.int .i64 0), (.int .i64 0), (.int .i64 0), (.int .i64 0), (.int .i64 0), (.int .i64 0), (.int .i64 0), (.int .i64 0), (.int .i64 0), (.int .i64 0), (.int .i64 0), (.int .i64 0), (.int .i64 0), (.int .i64 0), (.int .i64 0), (.int .i64 0), (.int .i64 0), (.int .i64 0), (.int .i64 0), (.int .i64 0), (.int .i64 0), (.int .i64 0), (.int .i64 0), (.int .i64 0), (.int .i64 0), (.int .i64 0), (.int .i64 0), (.int .i64 0), (.int .i64 0), (.int .i64 0), (.int .i64 0), (.int .i64 0), (.int .i64 0), (.int .i64 0), (.int .i64 0), (.int .i64 0), (.int .i64 0), (.int .i64 0), (.int .i64 0), (.int .i64 0), (.int .i64 0), (.int .i64 0), (.int .i64 0), (.int .i64 0), (.int .i64 0), (.int .i64 0), (.int .i64 0), (.int .i64 0), (.int .i64 0), (.int .i64 0), (.int .i64 0), (.int .i64 0), (.int .i64 0), (.int .i64 0), (.int .i64 0), (.int .i64 0), (.int .i64 0), (.int .i64 0), (.int .i64 0), (.int .i64 0), (.int .i64 0), (.int .i64 0), (.int .i64 0), (.int .i64 0), (.int .i64 0), (.int .i64 0), (.int .i64 0), (.int .i64 0), (.int .i64 0), (.int .i64 0), (.int .i64 0), (.int .i64 0), (.int .i64 0), (.int .i64 0), (.int .i64 0), (.int .i64 0), (.int .i64 0), (.int .i64 0), (.int .i64 0), (.int .i64 0), (.int .i64 0), (.int .i64 0), (.int .i64 0), (.int .i64 0), (.int .i64 0), (.int .i64 0), (.int .i64 0), (.int .i64 0), (.int .i64 0), (.int .i64 0), (.int .i64 0), (.int .i64 0), (.int .i64 0), (.int .i64 0), (.int .i64 0), (.int .i64 0), (.int .i64 0), (.int .i64 0), (.int .i64 0), (.int .i64 0), (.int .i64 0), (.int .i64 0), (.int .i64 0), (.int .i64 0), (.int .i64 0), (.int .i64 0), (.int .i64 0), (.int .i64 0), (.int .i64 0), (.int .i64 0), (.int .i64 0), (.int .i64 0), (.int .i64 0), (.int .i64 0), (.int .i64 0), (.int .i64 0), (.int .i64 0), (.int .i64 0), (.int .i64 0), (.int .i64 0), (.int .i64 0), (.int .i64 0), (.int .i64 0), (.int .i64 0), (.int .i64 0), (.int .i64 0), (.int .i64 0), (.int .i64 0), (.int .i64 0), (.int .i64 0), (.int .i64 0), (.int .i64 0), (.int .i64 0), (.int .i64 0), (.int .i64 0), (.int .i64 0), (.int .i64 0), (.int .i64 0), (.int .i64 0), (.int .i64 0), (.int .i64 0), (.int .i64 0), (.int .i64 0), (.int .i64 0), (.int .i64 0), (.int .i64 0), (.int .i64 0), (.int .i64 0), (.int .i64 0), (.int .i64 0), (.int .i64 0), (.int .i64 0), (.int .i64 0), (.int .i64 0), (.int .i64 0), (.int .i64 0), (.int .i64 0), (.int .i64 0), (.int .i64 0), (.int .i64 0), (.int .i64 0), (.int .i64 0), (.int .i64 0), (.int .i64 0), (.int .i64 0), (.int .i64 0), (.int .i64 0), (.int .i64 0), (.int .i64 0), (.int .i64 0), (.int .i64 0), (.int .i64 0), (.int .i64 0), (.int .i64 0), (.int .i64 0), (.int .i64 0), (.int .i64 0), (.int .i64 0), (.int .i64 0)])),
  some (2, 24, (.agg #[(.int .u8 0), (.string ⟨⟨[]⟩⟩)])),
  some (2, 24, (.agg #[(.int .u8 0), (.string ⟨⟨[]⟩⟩)])),
  some (1, 8, (.int .i64 0)),
  some (1, 8, .nilFunc),
  some (1, 8, .nilFunc),
  some (1, 0, (.tuple #[(.string ⟨⟨[]⟩⟩), (.int .i64 0)])),
  some (1, 8, .nilFunc),
  some (1, 8, .nilFunc),
  some (1, 8, .nilFunc),
  some (1, 24, (.slice none 0 0)),
  some (1, 8, .nilFunc),
  some (1, 8, .nilFunc),
  some (1, 8, .nilFunc),
  some (1, 8, (.pointer none)),
  some (1, 8, .nilFunc),
  some (4, 56, (.agg #[(.int .u8 0), (.int .i64 0), (.string ⟨⟨[]⟩⟩), (.slice none 0 0)])),
  some (4, 56, (.agg #[(.int .u8 0), (.int .i64 0), (.string ⟨⟨[]⟩⟩), (.slice none 0 0)])),
  some (1, 8, .nilFunc),
  some (1, 8, .nilFunc),
  some (1, 8, .nilFunc),
  some (1, 8, .nilFunc),
  some (1, 24, (.slice none 0 0)),
  some (1, 24, (.slice none 0 0)),
  some (2, 48, (.agg #[(.slice none 0 0), (.slice none 0 0)])),
  some (2, 48, (.agg #[(.slice none 0 0), (.slice none 0 0)])),
  some (2, 24, (.agg #[(.int .i64 0), (.string ⟨⟨[]⟩⟩)])),
  some (2, 24, (.agg #[(.int .i64 0), (.string ⟨⟨[]⟩⟩)])),
  some (1, 8, .nilFunc),
  some (1, 8, .nilFunc),
  some (1, 8, .nilFunc),
  some (1, 24, (.slice none 0 0)),
  some (1, 8, .nilFunc),
  some (1, 8, (.pointer none)),
  some (1, 8, .nilFunc),
  some (3, 32, (.agg #[(.int .u8 0), (.int .i64 0), (.string ⟨⟨[]⟩⟩)])),
  some (3, 32, (.agg #[(.int .u8 0), (.int .i64 0), (.string ⟨⟨[]⟩⟩)])),
  some (1, 8, .nilFunc),
  some (1, 8, .nilFunc),
  some (1, 8, .nilFunc),
  some (5, 56, (.agg #[(.pointer none), (.int .i64 0), (.slice none 0 0), (.int .i64 0), (.bool false)])),
  some (5, 56, (.agg #[(.pointer none), (.int .i64 0), (.slice none 0 0), (.int .i64 0), (.bool false)])),
  some (1, 8, .nilFunc),
  some (1, 24, (.slice none 0 0)),
  some (1, 24, (.agg #[(.slice none 0 0)])),
  some (1, 24, (.agg #[(.slice none 0 0)])),
  some (1, 8, .nilFunc),
  some (1, 8, (.pointer none)),
  some (5, 56, (.agg #[(.pointer none), (.int .i64 0), (.slice none 0 0), (.int .i64 0), (.bool false)])),
  some (5, 56, (.agg #[(.pointer none), (.int .i64 0), (.slice none 0 0), (.int .i64 0), (.bool false)])),
  some (1, 8, .nilFunc),
  some (1, 8, .nilFunc),
  some (1, 8, .nilFunc),
  some (1, 8, .nilFunc),
  some (1, 8, .nilFunc),
  some (1, 24, (.slice none 0 0)),
  some (1, 8, .nilFunc),
  some (1, 8, .nilFunc),
  some (1, 8, (.pointer none)),
  some (1, 0, (.tuple #[(.pointer none), (.int .i64 0)])),
  some (1, 8, .nilFunc),
  some (64, 64, (.agg #[(.int .u8 0), (.int .u8 0), (.int .u8 0), (.int .u8 0), (.int .u8 0), (.int .u8 0), (.int .u8 0), (.int .u8 0), (.int .u8 0), (.int .u8 0), (.int .u8 0), (.int .u8 0), (.int .u8 0), (.int .u8 0), (.int .u8 0), (.int .u8 0), (.int .u8 0), (.int .u8 0), (.int .u8 0), (.int .u8 0), (.int .u8 0), (.int .u8 0), (.int .u8 0), (.int .u8 0), (.int .u8 0), (.int .u8 0), (.int .u8 0), (.int .u8 0), (.int .u8 0), (.int .u8 0), (.int .u8 0), (.int .u8 0), (.int .u8 0), (.int .u8 0), (.int .u8 0), (.int .u8 0), (.int .u8 0), (.int .u8 0), (.int .u8 0), (.int .u8 0), (.int .u8 0), (.int .u8 0), (.int .u8 0), (.int .u8 0), (.int .u8 0), (.int .u8 0), (.int .u8 0), (.int .u8 0), (.int .u8 0), (.int .u8 0), (.int .u8 0), (.int .u8 0), (.int .u8 0), (.int .u8 0), (.int .u8 0), (.int .u8 0), (.int .u8 0), (.int .u8 0), (.int .u8 0), (.int .u8 0), (.int .u8 0), (.int .u8 0), (.int .u8 0), (.int .u8 0)])),
  some (64, 64, (.agg #[(.int .u8 0), (.int .u8 0), (.int .u8 0), (.int .u8 0), (.int .u8 0), (.int .u8 0), (.int .u8 0), (.int .u8 0), (.int .u8 0), (.int .u8 0), (.int .u8 0), (.int .u8 0), (.int .u8 0), (.int .u8 0), (.int .u8 0), (.int .u8 0), (.int .u8 0), (.int .u8 0), (.int .u8 0), (.int .u8 0), (.int .u8 0), (.int .u8 0), (.int .u8 0), (.int .u8 0), (.int .u8 0), (.int .u8 0), (.int .u8 0), (.int .u8 0), (.int .u8 0), (.int .u8 0), (.int .u8 0), (.int .u8 0), (.int .u8 0), (.int .u8 0), (.int .u8 0), (.int .u8 0), (.int .u8 0), (.int .u8 0), (.int .u8 0), (.int .u8 0), (.int .u8 0), (.int .u8 0), (.int .u8 0), (.int .u8 0), (.int .u8 0), (.int .u8 0), (.int .u8 0), (.int .u8 0), (.int .u8 0), (.int .u8 0), (.int .u8 0), (.int .u8 0), (.int .u8 0), (.int .u8 0), (.int .u8 0), (.int .u8 0), (.int .u8 0), (.int .u8 0), (.int .u8 0), (.int .u8 0), (.int .u8 0), (.int .u8 0), (.int .u8 0), (.int .u8 0)])),
  some (129, 129, (.agg #[(.int .u8 0), (.int .u8 0), (.int .u8 0), (.int .u8 0), (.int .u8 0), (.int .u8 0), (.int .u8 0), (.int .u8 0), (.int .u8 0), (.int .u8 0), (.int .u8 0), (.int .u8 0), (.int .u8 0), (.int .u8 0), (.int .u8 0), (.int .u8 0), (.int .u8 0), (.int .u8 0), (.int .u8 0), (.int .u8 0), (.int .u8 0), (.int .u8 0), (.int .u8 0), (.int .u8 0), (.int .u8 0), (.int .u8 0), (.int .u8 0), (.int .u8 0), (.int .u8 0), (.int .u8 0), (.int .u8 0), (.int .u8 0), (.int .u8 0), (.int .u8 0), (.int .u8 0), (.int .u8 0), (.int .u8 0), (.int .u8 0), (.int .u8 0), (.int .u8 0), (.int .u8 0), (.int .u8 0), (.int .u8 0), (.int .u8 0), (.int .u8 0), (.int .u8 0), (.int .u8 0), (.int .u8 0), (.int .u8 0), (.int .u8 0), (.int .u8 0), (.int .u8 0), (.int .u8 0), (.int .u8 0), (.int .u8 0), (.int .u8 0), (.int .u8 0), (.int .u8 0), (.int .u8 0), (.int .u8 0), (.int .u8 0), (.int .u8 0), (.int .u8 0), (.int .u8 0), (.int .u8 0), (.int .u8 0), (.int .u8 0), (.int .u8 0), (.int .u8 0), (.int .u8 0), (.int .u8 0), (.int .u8 0), (.int .u8 0), (.int .u8 0), (.int .u8 0), (.int .u8 0), (.int .u8 0), (.int .u8 0), (.int .u8 0), (.int .u8 0), (.int .u8 0), (.int .u8 0), (.int .u8 0), (.int .u8 0), (.int .u8 0), (.int .u8 0), (.int .u8 0), (.int .u8 0), (.int .u8 0), (.int .u8 0), (.int .u8 0), (.int .u8 0), (.int .u8 0), (.int .u8 0), (.int .u8 0), (.int .u8 0), (.int .u8 0), (.int .u8 0), (.int .u8 0), (.int .u8 0), (.int .u8 0), (.int .u8 0), (.int .u8 0), (.int .u8 0), (.int .u8 0), (.int .u8 0), (.int .u8 0), (.int .u8 0), (.int .u8 0), (.int .u8 0), (.int .u8 0), (.int .u8 0), (.int .u8 0), (.int .u8 0), (.int .u8 0), (.int .u8 0), (.int .u8 0), (.int .u8 0), (.int .u8 0), (.int .u8 0), (.int .u8 0), (.int .u8 0), (.int .u8 0), (.int .u8 0), (.int .u8 0), (.int .u8 0), (.int .u8 0), (.int .u8 0), (.bool false)])),
  some (129, 129, (.agg #[(.int .u8 0), (.int .u8 0), (.int .u8 0), (.int .u8 0), (.int .u8 0), (.int .u8 0), (.int .u8 0), (.int .u8 0), (.int .u8 0), (.int .u8 0), (.int .u8 0), (.int .u8 0), (.int .u8 0), (.int .u8 0), (.int .u8 0), (.int .u8 0), (.int .u8 0), (.int .u8 0), (.int .u8 0), (.int .u8 0), (.int .u8 0), (.int .u8 0), (.int .u8 0), (.int .u8 0), (.int .u8 0), (.int .u8 0), (.int .u8 0), (.int .u8 0), (.int .u8 0), (.int .u8 0), (.int .u8 0), (.int .u8 0), (.int .u8 0), (.int .u8 0), (.int .u8 0), (.int .u8 0), (.int .u8 0), (.int .u8 0), (.int .u8 0), (.int .u8 0), (.int .u8 0), (.int .u8 0), (.int .u8 0), (.int .u8 0), (.int .u8 0), (.int .u8 0), (.int .u8 0), (.int .u8 0), (.int .u8 0), (.int .u8 0), (.int .u8 0), (.int .u8 0), (.int .u8 0), (.int .u8 0), (.int .u8 0), (.int .u8 0), (.int .u8 0), (.int .u8 0), (.int .u8 0), (.int .u8 0), (.int .u8 0), (.int .u8 0), (.int .u8 0), (.int .u8 0), (.int .u8 0), (.int .u8 0), (.int .u8 0), (.int .u8 0), (.int .u8 0), (.int .u8 0), (.int .u8 0), (.int .u8 0), (.int .u8 0), (.int .u8 0), (.int .u8 0), (.int .u8 0), (.int .u8 0), (.int .u8 0), (.int .u8 0), (.int .u8 0), (.int .u8 0), (.int .u8 0), (.int .u8 0), (.int .u8 0), (.int .u8 0), (.int .u8 0), (.int .u8 0), (.int .u8 0), (.int .u8 0), (.int .u8 0), (.int .u8 0), (.int .u8 0), (.int .u8 0), (.int .u8 0), (.int .u8 0), (.int .u8 0), (.int .u8 0), (.int .u8 0), (.int .u8 0), (.int .u8 0), (.int .u8 0), (.int .u8 0), (.int .u8 0), (.int .u8 0), (.int .u8 0), (.int .u8 0), (.int .u8 0), (.int .u8 0), (.int .u8 0), (.int .u8 0), (.int .u8 0), (.int .u8 0), (.int .u8 0), (.int .u8 0), (.int .u8 0), (.int .u8 0), (.int .u8 0), (.int .u8 0), (.int .u8 0), (.int .u8 0), (.int .u8 0), (.int .u8 0), (.int .u8 0), (.int .u8 0), (.int .u8 0), (.int .u8 0), (.int .u8 0), (.int .u8 0), (.bool false)])),
  some (1, 8, .nilFunc),
  some (1, 8, .nilFunc),
  some (1, 8, .nilFunc),
  some (1, 8, .nilFunc),
  some (1, 0, (.tuple #[(.string ⟨⟨[]⟩⟩), (.int .i64 0)])),
  some (1, 8, .nilFunc),
  some (1, 8, .nilFunc),
  some (1, 8, .nilFunc),
  some (1, 8, (.int .u64 0)),
  some (1, 0, (.tuple #[(.int .u64 0), (.int .u64 0)])),
  some (1, 8, .nilFunc),
  some (1, 8, .nilFunc),
  some (1, 8, (.pointer none)),
  some (2, 32, (.agg #[(.pointer none), (.slice none 0 0)])),
  some (2, 32, (.agg #[(.pointer none), (.slice none 0 0)])),
  some (1, 8, .nilFunc),
  some (1, 16, .nilIface),
  some (1, 16, .nilIface),
  some (1, 0, (.tuple #[(.int .i64 0), .nilIface])),
  some (1, 8, .nilFunc),
  some (1, 8, .nilFunc),
  some (1, 0, (.tuple #[(.int .i64 0), (.bool false)])),
  some (1, 8, .nilFunc),
  some (1, 4, (.int .u32 0)),
  some (1, 0, (.tuple #[(.int .u32 0), (.int .u32 0)])),
  some (1, 8, .nilFunc),
  some (1, 8, (.int .u64 0)),
  some (1, 0, (.tuple #[(.int .u64 0), (.int .u64 0)])),
  some (1, 8, .nilFunc),
  some (1, 8, (.pointer none)),
  some (1, 8, (.pointer none)),
  some (1, 8, .nilFunc),
  some (1, 8, .nilFunc),
  some (4, 40, (.agg #[(.pointer none), (.pointer none), (.pointer none), (.string ⟨⟨[]⟩⟩)])),
  some (4, 40, (.agg #[(.pointer none), (.pointer none), (.pointer none), (.string ⟨⟨[]⟩⟩)])),
  some (0, 0, (.agg #[])),
  some (0, 0, (.agg #[])),
  some (0, 0, (.agg #[])),
  some (1, 1, (.int .u8 0)),
  some (1, 1, (.int .u8 0)),
  some (1, 8, .nilFunc),
  some (1, 4, (.int .i32 0)),
  some (1, 4, (.int .i32 0)),
  some (11, 48, (.agg #[(.int .u64 0), (.int .u64 0), (.int .u32 0), (.int .u8 0), (.int .u8 0), (.int .u8 0), (.int .u8 0), .nilFunc, (.pointer none), (.int .i32 0), (.int .i32 0)])),
  some (11, 48, (.agg #[(.int .u64 0), (.int .u64 0), (.int .u32 0), (.int .u8 0), (.int .u8 0), (.int .u8 0), (.int .u8 0), .nilFunc, (.pointer none), (.int .i32 0), (.int .i32 0)]))]
theorem undOk : AllU Go.Proofs.Try.prog undL 0 := ⟨Go.Proofs.Try.underlying0, Go.Proofs.Try.underlying1, Go.Proofs.Try.underlying2, Go.Proofs.Try.underlying3, Go.Proofs.Try.underlying4, Go.Proofs.Try.underlying5, Go.Proofs.Try.underlying6, Go.Proofs.Try.underlying7, Go.Proofs.Try.underlying8, Go.Proofs.Try.underlying9, Go.Proofs.Try.underlying10, Go.Proofs.Try.underlying11, Go.Proofs.Try.underlying12, Go.Proofs.Try.underlying13, Go.Proofs.Try.underlying14, Go.Proofs.Try.underlying15, Go.Proofs.Try.underlying16, Go.Proofs.Try.underlying17, Go.Proofs.Try.underlying18, Go.Proofs.Try.underlying19, Go.Proofs.Try.underlying20, Go.Proofs.Try.underlying21, Go.Proofs.Try.underlying22, Go.Proofs.Try.underlying23, Go.Proofs.Try.underlying24, Go.Proofs.Try.underlying25, Go.Proofs.Try.underlying26, Go.Proofs.Try.underlying27, Go.Proofs.Try.underlying28, Go.Proofs.Try.underlying29, Go.Proofs.Try.underlying30, Go.Proofs.Try.underlying31, Go.Proofs.Try.underlying32, Go.Proofs.Try.underlying33, Go.Proofs.Try.underlying34, Go.Proofs.Try.underlying35, Go.Proofs.Try.underlying36, Go.Proofs.Try.underlying37, Go.Proofs.Try.underlying38, Go.Proofs.Try.underlying39, Go.Proofs.Try.underlying40, Go.Proofs.Try.underlying41, Go.Proofs.Try.underlying42, Go.Proofs.Try.underlying43, Go.Proofs.Try.underlying44, Go.Proofs.Try.underlying45, Go.Proofs.Try.underlying46, Go.Proofs.Try.underlying47, Go.Proofs.Try.underlying48, Go.Proofs.Try.underlying49, Go.Proofs.Try.underlying50, Go.Proofs.Try.underlying51, Go.Proofs.Try.underlying52, Go.Proofs.Try.underlying53, Go.Proofs.Try.underlying54, Go.Proofs.Try.underlying55, Go.Proofs.Try.underlying56, Go.Proofs.Try.underlying57, Go.Proofs.Try.underlying58, Go.Proofs.Try.underlying59, Go.Proofs.Try.underlying60, Go.Proofs.Try.underlying61, Go.Proofs.Try.underlying62, Go.Proofs.Try.underlying63, Go.Proofs.Try.underlying64, Go.Proofs.Try.underlying65, Go.Proofs.Try.underlying66, Go.Proofs.Try.underlying67, Go.Proofs.Try.underlying68, Go.Proofs.Try.underlying69, Go.Proofs.Try.underlying70, Go.Proofs.Try.underlying71, Go.Proofs.Try.underlying72, Go.Proofs.Try.underlying73, Go.Proofs.Try.underlying74, Go.Proofs.Try.underlying75, Go.Proofs.Try.underlying76, Go.Proofs.Try.underlying77, Go.Proofs.Try.underlying78, Go.Proofs.Try.underlying79, Go.Proofs.Try.underlying80, Go.Proofs.Try.underlying81, Go.Proofs.Try.underlying82, Go.Proofs.Try.underlying83, Go.Proofs.Try.underlying84, Go.Proofs.Try.underlying85, Go.Proofs.Try.underlying86, Go.Proofs.Try.underlying87, Go.Proofs.Try.underlying88, Go.Proofs.Try.underlying89, Go.Proofs.Try.underlying90, Go.Proofs.Try.underlying91, Go.Proofs.Try.underlying92, Go.Proofs.Try.underlying93, Go.Proofs.Try.underlying94, Go.Proofs.Try.underlying95, Go.Proofs.Try.underlying96, Go.Proofs.Try.underlying97, Go.Proofs.Try.underlying98, Go.Proofs.Try.underlying99, Go.Proofs.Try.underlying100, Go.Proofs.Try.underlying101, Go.Proofs.Try.underlying102, Go.Proofs.Try.underlying103, Go.Proofs.Try.underlying104, Go.Proofs.Try.underlying105, Go.Proofs.Try.underlying106, Go.Proofs.Try.underlying107, Go.Proofs.Try.underlying108, Go.Proofs.Try.underlying109, Go.Proofs.Try.underlying110, Go.Proofs.Try.underlying111, Go.Proofs.Try.underlying112, Go.Proofs.Try.underlying113, Go.Proofs.Try.underlying114, Go.Proofs.Try.underlying115, Go.Proofs.Try.underlying116, Go.Proofs.Try.underlying117, Go.Proofs.Try.underlying118, Go.Proofs.Try.underlying119, Go.Proofs.Try.underlying120, Go.Proofs.Try.underlying121, Go.Proofs.Try.underlying122, Go.Proofs.Try.underlying123, Go.Proofs.Try.underlying124, Go.Proofs.Try.underlying125, Go.Proofs.Try.underlying126, Go.Proofs.Try.underlying127, Go.Proofs.Try.underlying128, Go.Proofs.Try.underlying129, Go.Proofs.Try.underlying130, Go.Proofs.Try.underlying131, Go.Proofs.Try.underlying132, Go.Proofs.Try.underlying133, Go.Proofs.Try.underlying134, Go.Proofs.Try.underlying135, Go.Proofs.Try.underlying136, trivial⟩
theorem infOk : AllI Go.Proofs.Try.prog infL 0 := ⟨inf0, inf1, inf2, inf3, inf4, inf5, inf6, inf7, inf8, inf9, inf10, inf11, inf12, inf13, inf14, inf15, inf16, inf17, inf18, inf19, inf20, inf21, inf22, inf23, inf24, inf25, inf26, inf27, inf28, inf29, inf30, inf31, inf32, inf33, inf34, inf35, inf36, inf37, inf38, inf39, inf40, inf41, inf42, inf43, inf44, inf45, inf46, inf47, inf48, inf49, inf50, inf51, inf52, inf53, inf54, inf55, inf56, inf57, inf58, inf59, inf60, inf61, inf62, inf63, inf64, inf65, inf66, inf67, inf68, inf69, inf70, inf71, inf72, inf73, inf74, inf75, inf76, inf77, inf78, inf79, inf80, inf81, inf82, inf83, inf84, inf85, inf86, inf87, inf88, inf89, inf90, inf91, inf92, inf93, inf94, inf95, inf96, inf97, inf98, inf99, inf100, inf101, inf102, inf103, inf104, inf105, inf106, inf107, inf108, inf109, inf110, inf111, inf112, inf113, inf114, inf115, inf116, inf117, inf118, inf119, inf120, inf121, inf122, inf123, inf124, inf125, inf126, inf127, inf128, inf129, inf130, inf131, inf132, inf133, inf134, inf135, inf136, trivial⟩
instance : Tab Go.Proofs.Try.prog where
  und := atL undL
  mix := by kernel_rfl
  inf := atL infL
  hund := fun t d h => by simpa using undOk.get h
  hinf := fun t s b z h => by simpa using infOk.get h
end Go.X
