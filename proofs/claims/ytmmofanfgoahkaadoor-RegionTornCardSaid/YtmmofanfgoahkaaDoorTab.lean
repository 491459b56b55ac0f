/- The table of the types of the program. Made by mktab.py. -/
import Derived.Test.YtmmofanfgoahkaaDoorProg
import Derived.Test.YtmmofanfgoahkaaDoorWalk
namespace Go.X
open Go
def atL {α : Type} : List (Option α) → Nat → Option α
  | [], _ => none
  | o :: _, 0 => o
  | _ :: l, k + 1 => atL l k
def AllU (P : Program) : List (Option TypeDesc) → Nat → Prop
  | [], _ => True
  | none :: l, k => AllU P l (k + 1)
  | some d :: l, k => P.underlying k = some d ∧ AllU P l (k + 1)
theorem AllU.get {P : Program} : ∀ {l : List (Option TypeDesc)} {k i : Nat} {d : TypeDesc}, AllU P l k → atL l i = some d → P.underlying (k + i) = some d
  | [], k, i, d, _, h => by simp [atL] at h
  | o :: l, k, 0, d, ha, h => by
    simp only [atL] at h; subst h
    exact ha.1
  | o :: l, k, i + 1, d, ha, h => by
    simp only [atL] at h
    have : AllU P l (k + 1) := by cases o with
      | none => exact ha
      | some _ => exact ha.2
    have := AllU.get this h
    rwa [show k + 1 + i = k + (i + 1) by omega] at this
def AllI (P : Program) : List (Option (Nat × Nat × Value)) → Nat → Prop
  | [], _ => True
  | none :: l, k => AllI P l (k + 1)
  | some (s, b, z) :: l, k => (P.info? k).map (fun i => (i.size, i.bytes, i.zero)) = some (s, b, some z) ∧ AllI P l (k + 1)
theorem AllI.get {P : Program} : ∀ {l : List (Option (Nat × Nat × Value))} {k i : Nat} {s b : Nat} {z : Value}, AllI P l k → atL l i = some (s, b, z) → ∃ j, P.info? (k + i) = some j ∧ j.size = s ∧ j.bytes = b ∧ j.zero = some z
  | [], k, i, s, b, z, _, h => by simp [atL] at h
  | o :: l, k, 0, s, b, z, ha, h => by
    simp only [atL] at h; subst h
    have h1 := ha.1
    cases hi : P.info? k with
    | none => rw [hi] at h1; cases h1
    | some j => rw [hi] at h1; simp at h1; exact ⟨j, rfl, h1.1, h1.2.1, h1.2.2⟩
  | o :: l, k, i + 1, s, b, z, ha, h => by
    simp only [atL] at h
    have : AllI P l (k + 1) := by cases o with
      | none => exact ha
      | some x => obtain ⟨s', b', z'⟩ := x; exact ha.2
    have := AllI.get this h
    rwa [show k + 1 + i = k + (i + 1) by omega] at this
def undL : List (Option TypeDesc) := [
  some (Go.TypeDesc.tuple #[]),
  some (Go.TypeDesc.func #[] #[] false),
  some (Go.TypeDesc.int Go.IntKind.i64),
  some (Go.TypeDesc.int Go.IntKind.i64),
  some Go.TypeDesc.bool,
  some (Go.TypeDesc.int Go.IntKind.u8),
  some (Go.TypeDesc.int Go.IntKind.u8),
  some (Go.TypeDesc.struct #[{ name := "x", type := 2, offset := 0, embedded := false, tag := "", pkgPath := "runtime", byteOffset := 0 }, { name := "y", type := 3, offset := 1, embedded := false, tag := "", pkgPath := "runtime", byteOffset := 8 }, { name := "signed", type := 4, offset := 2, embedded := false, tag := "", pkgPath := "runtime", byteOffset := 16 }, { name := "code", type := 6, offset := 3, embedded := false, tag := "", pkgPath := "runtime", byteOffset := 17 }]),
  some (Go.TypeDesc.struct #[{ name := "x", type := 2, offset := 0, embedded := false, tag := "", pkgPath := "runtime", byteOffset := 0 }, { name := "y", type := 3, offset := 1, embedded := false, tag := "", pkgPath := "runtime", byteOffset := 8 }, { name := "signed", type := 4, offset := 2, embedded := false, tag := "", pkgPath := "runtime", byteOffset := 16 }, { name := "code", type := 6, offset := 3, embedded := false, tag := "", pkgPath := "runtime", byteOffset := 17 }]),
  some Go.TypeDesc.string,
  some Go.TypeDesc.string,
  some Go.TypeDesc.string,
  some (Go.TypeDesc.int Go.IntKind.u64),
  some (Go.TypeDesc.struct #[{ name := "msg", type := 9, offset := 0, embedded := false, tag := "", pkgPath := "runtime", byteOffset := 0 }, { name := "addr", type := 12, offset := 1, embedded := false, tag := "", pkgPath := "runtime", byteOffset := 16 }]),
  some (Go.TypeDesc.struct #[{ name := "msg", type := 9, offset := 0, embedded := false, tag := "", pkgPath := "runtime", byteOffset := 0 }, { name := "addr", type := 12, offset := 1, embedded := false, tag := "", pkgPath := "runtime", byteOffset := 16 }]),
  some (Go.TypeDesc.pointer 151),
  some (Go.TypeDesc.pointer 154),
  some (Go.TypeDesc.pointer 161),
  some (Go.TypeDesc.struct #[{ name := "typ", type := 17, offset := 0, embedded := false, tag := "", pkgPath := "internal/runtime/maps", byteOffset := 0 }]),
  some (Go.TypeDesc.struct #[{ name := "typ", type := 17, offset := 0, embedded := false, tag := "", pkgPath := "internal/runtime/maps", byteOffset := 0 }]),
  some (Go.TypeDesc.interface #[]),
  some (Go.TypeDesc.int Go.IntKind.i32),
  some (Go.TypeDesc.pointer 60),
  some (Go.TypeDesc.func #[3] #[22] false),
  some (Go.TypeDesc.pointer 63),
  some (Go.TypeDesc.func #[22, 3, 48] #[24] false),
  some (Go.TypeDesc.pointer 43),
  some (Go.TypeDesc.int Go.IntKind.i64),
  some (Go.TypeDesc.tuple #[26, 27]),
  some (Go.TypeDesc.func #[24, 3, 3] #[26, 27] false),
  some (Go.TypeDesc.func #[9, 3] #[9] false),
  some (Go.TypeDesc.func #[3] #[3] false),
  some (Go.TypeDesc.func #[24, 33, 39] #[4] true),
  some (Go.TypeDesc.int Go.IntKind.u32),
  some (Go.TypeDesc.func #[9] #[27] false),
  some (Go.TypeDesc.func #[] #[3] false),
  some (Go.TypeDesc.tuple #[9, 27]),
  some (Go.TypeDesc.func #[3] #[9, 27] false),
  some (Go.TypeDesc.func #[33] #[27] false),
  some (Go.TypeDesc.slice 9),
  some (Go.TypeDesc.tuple #[33, 39, 27]),
  some (Go.TypeDesc.func #[24, 3, 3] #[33, 39, 27] false),
  some (Go.TypeDesc.struct #[{ name := "l", type := 24, offset := 0, embedded := false, tag := "", pkgPath := "revert/region", byteOffset := 0 }, { name := "at", type := 3, offset := 1, embedded := false, tag := "", pkgPath := "revert/region", byteOffset := 8 }, { name := "n", type := 3, offset := 2, embedded := false, tag := "", pkgPath := "revert/region", byteOffset := 16 }, { name := "used", type := 3, offset := 3, embedded := false, tag := "", pkgPath := "revert/region", byteOffset := 24 }, { name := "broken", type := 4, offset := 4, embedded := false, tag := "", pkgPath := "revert/region", byteOffset := 32 }, { name := "made", type := 4, offset := 5, embedded := false, tag := "", pkgPath := "revert/region", byteOffset := 33 }]),
  some (Go.TypeDesc.struct #[{ name := "l", type := 24, offset := 0, embedded := false, tag := "", pkgPath := "revert/region", byteOffset := 0 }, { name := "at", type := 3, offset := 1, embedded := false, tag := "", pkgPath := "revert/region", byteOffset := 8 }, { name := "n", type := 3, offset := 2, embedded := false, tag := "", pkgPath := "revert/region", byteOffset := 16 }, { name := "used", type := 3, offset := 3, embedded := false, tag := "", pkgPath := "revert/region", byteOffset := 24 }, { name := "broken", type := 4, offset := 4, embedded := false, tag := "", pkgPath := "revert/region", byteOffset := 32 }, { name := "made", type := 4, offset := 5, embedded := false, tag := "", pkgPath := "revert/region", byteOffset := 33 }]),
  some (Go.TypeDesc.func #[] #[27] false),
  some (Go.TypeDesc.func #[] #[4] false),
  some (Go.TypeDesc.slice 53),
  some (Go.TypeDesc.int Go.IntKind.u16),
  some (Go.TypeDesc.slice 3),
  some (Go.TypeDesc.func #[46] #[4] false),
  some (Go.TypeDesc.func #[3, 9] #[27] false),
  some (Go.TypeDesc.slice 33),
  some (Go.TypeDesc.struct #[{ name := "What", type := 5, offset := 0, embedded := false, tag := "", pkgPath := "", byteOffset := 0 }, { name := "S", type := 9, offset := 1, embedded := false, tag := "", pkgPath := "", byteOffset := 8 }, { name := "Gen", type := 33, offset := 2, embedded := false, tag := "", pkgPath := "", byteOffset := 24 }, { name := "At", type := 3, offset := 3, embedded := false, tag := "", pkgPath := "", byteOffset := 32 }, { name := "N", type := 3, offset := 4, embedded := false, tag := "", pkgPath := "", byteOffset := 40 }]),
  some (Go.TypeDesc.struct #[{ name := "What", type := 5, offset := 0, embedded := false, tag := "", pkgPath := "", byteOffset := 0 }, { name := "S", type := 9, offset := 1, embedded := false, tag := "", pkgPath := "", byteOffset := 8 }, { name := "Gen", type := 33, offset := 2, embedded := false, tag := "", pkgPath := "", byteOffset := 24 }, { name := "At", type := 3, offset := 3, embedded := false, tag := "", pkgPath := "", byteOffset := 32 }, { name := "N", type := 3, offset := 4, embedded := false, tag := "", pkgPath := "", byteOffset := 40 }]),
  some (Go.TypeDesc.func #[46, 47, 48] #[4] false),
  some (Go.TypeDesc.func #[39, 9] #[9] false),
  some (Go.TypeDesc.func #[39] #[4] false),
  some (Go.TypeDesc.func #[] #[22] false),
  some (Go.TypeDesc.slice 89),
  some (Go.TypeDesc.struct #[{ name := "l", type := 58, offset := 0, embedded := false, tag := "", pkgPath := "revert/device", byteOffset := 0 }]),
  some (Go.TypeDesc.struct #[{ name := "l", type := 58, offset := 0, embedded := false, tag := "", pkgPath := "revert/device", byteOffset := 0 }]),
  some (Go.TypeDesc.func #[48] #[48] false),
  some (Go.TypeDesc.struct #[{ name := "d", type := 22, offset := 0, embedded := false, tag := "", pkgPath := "revert/line", byteOffset := 0 }, { name := "cut", type := 3, offset := 1, embedded := false, tag := "", pkgPath := "revert/line", byteOffset := 8 }, { name := "choices", type := 48, offset := 2, embedded := false, tag := "", pkgPath := "revert/line", byteOffset := 16 }, { name := "acts", type := 3, offset := 3, embedded := false, tag := "", pkgPath := "revert/line", byteOffset := 40 }, { name := "down", type := 4, offset := 4, embedded := false, tag := "", pkgPath := "revert/line", byteOffset := 48 }]),
  some (Go.TypeDesc.struct #[{ name := "d", type := 22, offset := 0, embedded := false, tag := "", pkgPath := "revert/line", byteOffset := 0 }, { name := "cut", type := 3, offset := 1, embedded := false, tag := "", pkgPath := "revert/line", byteOffset := 8 }, { name := "choices", type := 48, offset := 2, embedded := false, tag := "", pkgPath := "revert/line", byteOffset := 16 }, { name := "acts", type := 3, offset := 3, embedded := false, tag := "", pkgPath := "revert/line", byteOffset := 40 }, { name := "down", type := 4, offset := 4, embedded := false, tag := "", pkgPath := "revert/line", byteOffset := 48 }]),
  some (Go.TypeDesc.func #[24, 3, 3] #[27] false),
  some (Go.TypeDesc.int Go.IntKind.u64),
  some (Go.TypeDesc.tuple #[65, 65]),
  some (Go.TypeDesc.func #[65, 65] #[65, 65] false),
  some (Go.TypeDesc.func #[9, 9] #[4] false),
  some (Go.TypeDesc.pointer 72),
  some (Go.TypeDesc.slice 5),
  some (Go.TypeDesc.struct #[{ name := "addr", type := 69, offset := 0, embedded := false, tag := "", pkgPath := "strings", byteOffset := 0 }, { name := "buf", type := 70, offset := 1, embedded := false, tag := "", pkgPath := "strings", byteOffset := 8 }]),
  some (Go.TypeDesc.struct #[{ name := "addr", type := 69, offset := 0, embedded := false, tag := "", pkgPath := "strings", byteOffset := 0 }, { name := "buf", type := 70, offset := 1, embedded := false, tag := "", pkgPath := "strings", byteOffset := 8 }]),
  some (Go.TypeDesc.func #[3] #[] false),
  some (Go.TypeDesc.interface #[("Error", 78)]),
  some (Go.TypeDesc.interface #[("Error", 78)]),
  some (Go.TypeDesc.tuple #[3, 75]),
  some (Go.TypeDesc.func #[9] #[3, 75] false),
  some (Go.TypeDesc.func #[] #[9] false),
  some (Go.TypeDesc.func #[107] #[] false),
  some (Go.TypeDesc.func #[107] #[] false),
  some (Go.TypeDesc.func #[3, 9] #[80] false),
  some (Go.TypeDesc.func #[27] #[27] false),
  some (Go.TypeDesc.pointer 89),
  some (Go.TypeDesc.tuple #[83, 27]),
  some (Go.TypeDesc.func #[3] #[83, 27] false),
  some (Go.TypeDesc.array 64 5),
  some (Go.TypeDesc.array 64 5),
  some (Go.TypeDesc.struct #[{ name := "firm", type := 87, offset := 0, embedded := false, tag := "", pkgPath := "revert/device", byteOffset := 0 }, { name := "read", type := 87, offset := 64, embedded := false, tag := "", pkgPath := "revert/device", byteOffset := 64 }, { name := "fresh", type := 4, offset := 128, embedded := false, tag := "", pkgPath := "revert/device", byteOffset := 128 }]),
  some (Go.TypeDesc.struct #[{ name := "firm", type := 87, offset := 0, embedded := false, tag := "", pkgPath := "revert/device", byteOffset := 0 }, { name := "read", type := 87, offset := 64, embedded := false, tag := "", pkgPath := "revert/device", byteOffset := 64 }, { name := "fresh", type := 4, offset := 128, embedded := false, tag := "", pkgPath := "revert/device", byteOffset := 128 }]),
  some (Go.TypeDesc.struct #[{ name := "b", type := 70, offset := 0, embedded := false, tag := "", pkgPath := "revert/codec", byteOffset := 0 }]),
  some (Go.TypeDesc.struct #[{ name := "b", type := 70, offset := 0, embedded := false, tag := "", pkgPath := "revert/codec", byteOffset := 0 }]),
  some (Go.TypeDesc.func #[33] #[] false),
  some (Go.TypeDesc.func #[9] #[] false),
  some (Go.TypeDesc.func #[3] #[9] false),
  some (Go.TypeDesc.func #[9] #[33] false),
  some (Go.TypeDesc.tuple #[9, 4, 4]),
  some (Go.TypeDesc.func #[3, 9] #[9, 4, 4] false),
  some (Go.TypeDesc.func #[48] #[] false),
  some (Go.TypeDesc.func #[44] #[27] false),
  some (Go.TypeDesc.func #[58] #[58] false),
  some (Go.TypeDesc.tuple #[33, 33]),
  some (Go.TypeDesc.func #[33, 33] #[33, 33] false),
  some (Go.TypeDesc.int Go.IntKind.u64),
  some (Go.TypeDesc.tuple #[103, 103]),
  some (Go.TypeDesc.func #[103, 103] #[103, 103] false),
  some (Go.TypeDesc.pointer 5),
  some (Go.TypeDesc.func #[3, 9] #[4] false),
  some (Go.TypeDesc.func #[47] #[] false),
  some (Go.TypeDesc.func #[5] #[] false),
  some (Go.TypeDesc.pointer 91),
  some (Go.TypeDesc.func #[110, 33, 3] #[] false),
  some (Go.TypeDesc.func #[70] #[] true),
  some (Go.TypeDesc.pointer 126),
  some (Go.TypeDesc.func #[9] #[113] false),
  some (Go.TypeDesc.func #[] #[33] false),
  some (Go.TypeDesc.func #[9, 9] #[9] false),
  some (Go.TypeDesc.func #[] #[47] false),
  some (Go.TypeDesc.func #[] #[5] false),
  some (Go.TypeDesc.func #[31] #[3] false),
  some Go.TypeDesc.unsafePointer,
  some (Go.TypeDesc.func #[120] #[120] false),
  some (Go.TypeDesc.func #[3] #[70] false),
  some (Go.TypeDesc.func #[110, 47, 3] #[] false),
  some (Go.TypeDesc.func #[110, 5, 3] #[] false),
  some (Go.TypeDesc.struct #[{ name := "rest", type := 9, offset := 0, embedded := false, tag := "", pkgPath := "revert/codec", byteOffset := 0 }, { name := "e", type := 27, offset := 1, embedded := false, tag := "", pkgPath := "revert/codec", byteOffset := 16 }]),
  some (Go.TypeDesc.struct #[{ name := "rest", type := 9, offset := 0, embedded := false, tag := "", pkgPath := "revert/codec", byteOffset := 0 }, { name := "e", type := 27, offset := 1, embedded := false, tag := "", pkgPath := "revert/codec", byteOffset := 16 }]),
  some (Go.TypeDesc.func #[113, 3] #[33] false),
  some (Go.TypeDesc.func #[27] #[] false),
  some (Go.TypeDesc.func #[9, 5] #[9] false),
  some (Go.TypeDesc.array 256 4),
  some (Go.TypeDesc.array 256 4),
  some (Go.TypeDesc.tuple #[131, 4]),
  some (Go.TypeDesc.func #[9] #[131, 4] false),
  some (Go.TypeDesc.func #[9, 135] #[9] false),
  some (Go.TypeDesc.pointer 131),
  some (Go.TypeDesc.func #[113, 3] #[47] false),
  some (Go.TypeDesc.func #[113, 3] #[5] false),
  some (Go.TypeDesc.func #[5] #[4] false),
  some (Go.TypeDesc.tuple #[21, 3]),
  some (Go.TypeDesc.func #[9] #[21, 3] false),
  some (Go.TypeDesc.func #[9, 21] #[4] false),
  some (Go.TypeDesc.func #[9, 21] #[3] false),
  some (Go.TypeDesc.array 256 5),
  some (Go.TypeDesc.struct #[{ name := "lo", type := 5, offset := 0, embedded := false, tag := "", pkgPath := "unicode/utf8", byteOffset := 0 }, { name := "hi", type := 5, offset := 1, embedded := false, tag := "", pkgPath := "unicode/utf8", byteOffset := 1 }]),
  some (Go.TypeDesc.struct #[{ name := "lo", type := 5, offset := 0, embedded := false, tag := "", pkgPath := "unicode/utf8", byteOffset := 0 }, { name := "hi", type := 5, offset := 1, embedded := false, tag := "", pkgPath := "unicode/utf8", byteOffset := 1 }]),
  some (Go.TypeDesc.array 16 145),
  some (Go.TypeDesc.func #[9, 5] #[3] false),
  some (Go.TypeDesc.func #[21] #[4] false),
  some (Go.TypeDesc.func #[9, 9] #[3] false),
  some (Go.TypeDesc.struct #[{ name := "_interface", type := 17, offset := 0, embedded := false, tag := "", pkgPath := "runtime", byteOffset := 0 }, { name := "concrete", type := 17, offset := 1, embedded := false, tag := "", pkgPath := "runtime", byteOffset := 8 }, { name := "asserted", type := 17, offset := 2, embedded := false, tag := "", pkgPath := "runtime", byteOffset := 16 }, { name := "missingMethod", type := 9, offset := 3, embedded := false, tag := "", pkgPath := "runtime", byteOffset := 24 }]),
  some (Go.TypeDesc.struct #[{ name := "_interface", type := 17, offset := 0, embedded := false, tag := "", pkgPath := "runtime", byteOffset := 0 }, { name := "concrete", type := 17, offset := 1, embedded := false, tag := "", pkgPath := "runtime", byteOffset := 8 }, { name := "asserted", type := 17, offset := 2, embedded := false, tag := "", pkgPath := "runtime", byteOffset := 16 }, { name := "missingMethod", type := 9, offset := 3, embedded := false, tag := "", pkgPath := "runtime", byteOffset := 24 }]),
  some (Go.TypeDesc.array 0 16),
  some (Go.TypeDesc.struct #[{ name := "_", type := 152, offset := 0, embedded := false, tag := "", pkgPath := "runtime", byteOffset := 0 }]),
  some (Go.TypeDesc.struct #[{ name := "_", type := 152, offset := 0, embedded := false, tag := "", pkgPath := "runtime", byteOffset := 0 }]),
  some (Go.TypeDesc.int Go.IntKind.u8),
  some (Go.TypeDesc.int Go.IntKind.u8),
  some (Go.TypeDesc.func #[120, 120] #[4] false),
  some (Go.TypeDesc.int Go.IntKind.i32),
  some (Go.TypeDesc.int Go.IntKind.i32),
  some (Go.TypeDesc.struct #[{ name := "Size_", type := 12, offset := 0, embedded := false, tag := "", pkgPath := "", byteOffset := 0 }, { name := "PtrBytes", type := 12, offset := 1, embedded := false, tag := "", pkgPath := "", byteOffset := 8 }, { name := "Hash", type := 33, offset := 2, embedded := false, tag := "", pkgPath := "", byteOffset := 16 }, { name := "TFlag", type := 155, offset := 3, embedded := false, tag := "", pkgPath := "", byteOffset := 20 }, { name := "Align_", type := 5, offset := 4, embedded := false, tag := "", pkgPath := "", byteOffset := 21 }, { name := "FieldAlign_", type := 5, offset := 5, embedded := false, tag := "", pkgPath := "", byteOffset := 22 }, { name := "Kind_", type := 156, offset := 6, embedded := false, tag := "", pkgPath := "", byteOffset := 23 }, { name := "Equal", type := 157, offset := 7, embedded := false, tag := "", pkgPath := "", byteOffset := 24 }, { name := "GCData", type := 106, offset := 8, embedded := false, tag := "", pkgPath := "", byteOffset := 32 }, { name := "Str", type := 158, offset := 9, embedded := false, tag := "", pkgPath := "", byteOffset := 40 }, { name := "PtrToThis", type := 159, offset := 10, embedded := false, tag := "", pkgPath := "", byteOffset := 44 }]),
  some (Go.TypeDesc.struct #[{ name := "Size_", type := 12, offset := 0, embedded := false, tag := "", pkgPath := "", byteOffset := 0 }, { name := "PtrBytes", type := 12, offset := 1, embedded := false, tag := "", pkgPath := "", byteOffset := 8 }, { name := "Hash", type := 33, offset := 2, embedded := false, tag := "", pkgPath := "", byteOffset := 16 }, { name := "TFlag", type := 155, offset := 3, embedded := false, tag := "", pkgPath := "", byteOffset := 20 }, { name := "Align_", type := 5, offset := 4, embedded := false, tag := "", pkgPath := "", byteOffset := 21 }, { name := "FieldAlign_", type := 5, offset := 5, embedded := false, tag := "", pkgPath := "", byteOffset := 22 }, { name := "Kind_", type := 156, offset := 6, embedded := false, tag := "", pkgPath := "", byteOffset := 23 }, { name := "Equal", type := 157, offset := 7, embedded := false, tag := "", pkgPath := "", byteOffset := 24 }, { name := "GCData", type := 106, offset := 8, embedded := false, tag := "", pkgPath := "", byteOffset := 32 }, { name := "Str", type := 158, offset := 9, embedded := false, tag := "", pkgPath := "", byteOffset := 40 }, { name := "PtrToThis", type := 159, offset := 10, embedded := false, tag := "", pkgPath := "", byteOffset := 44 }])]
theorem inf0 : (Go.Proofs.Tryd.prog.info? 0).map (fun i => (i.size, i.bytes, i.zero)) = some (1, 0, some (.tuple #[])) := by kernel_rfl
theorem inf1 : (Go.Proofs.Tryd.prog.info? 1).map (fun i => (i.size, i.bytes, i.zero)) = some (1, 8, some .nilFunc) := by kernel_rfl
theorem inf2 : (Go.Proofs.Tryd.prog.info? 2).map (fun i => (i.size, i.bytes, i.zero)) = some (1, 8, some (.int .i64 0)) := by kernel_rfl
theorem inf3 : (Go.Proofs.Tryd.prog.info? 3).map (fun i => (i.size, i.bytes, i.zero)) = some (1, 8, some (.int .i64 0)) := by kernel_rfl
theorem inf4 : (Go.Proofs.Tryd.prog.info? 4).map (fun i => (i.size, i.bytes, i.zero)) = some (1, 1, some (.bool false)) := by kernel_rfl
theorem inf5 : (Go.Proofs.Tryd.prog.info? 5).map (fun i => (i.size, i.bytes, i.zero)) = some (1, 1, some (.int .u8 0)) := by kernel_rfl
theorem inf6 : (Go.Proofs.Tryd.prog.info? 6).map (fun i => (i.size, i.bytes, i.zero)) = some (1, 1, some (.int .u8 0)) := by kernel_rfl
theorem inf7 : (Go.Proofs.Tryd.prog.info? 7).map (fun i => (i.size, i.bytes, i.zero)) = some (4, 24, some (.agg #[(.int .i64 0), (.int .i64 0), (.bool false), (.int .u8 0)])) := by kernel_rfl
theorem inf8 : (Go.Proofs.Tryd.prog.info? 8).map (fun i => (i.size, i.bytes, i.zero)) = some (4, 24, some (.agg #[(.int .i64 0), (.int .i64 0), (.bool false), (.int .u8 0)])) := by kernel_rfl
theorem inf9 : (Go.Proofs.Tryd.prog.info? 9).map (fun i => (i.size, i.bytes, i.zero)) = some (1, 16, some (.string ⟨⟨[]⟩⟩)) := by kernel_rfl
theorem inf10 : (Go.Proofs.Tryd.prog.info? 10).map (fun i => (i.size, i.bytes, i.zero)) = some (1, 16, some (.string ⟨⟨[]⟩⟩)) := by kernel_rfl
theorem inf11 : (Go.Proofs.Tryd.prog.info? 11).map (fun i => (i.size, i.bytes, i.zero)) = some (1, 16, some (.string ⟨⟨[]⟩⟩)) := by kernel_rfl
theorem inf12 : (Go.Proofs.Tryd.prog.info? 12).map (fun i => (i.size, i.bytes, i.zero)) = some (1, 8, some (.int .u64 0)) := by kernel_rfl
theorem inf13 : (Go.Proofs.Tryd.prog.info? 13).map (fun i => (i.size, i.bytes, i.zero)) = some (2, 24, some (.agg #[(.string ⟨⟨[]⟩⟩), (.int .u64 0)])) := by kernel_rfl
theorem inf14 : (Go.Proofs.Tryd.prog.info? 14).map (fun i => (i.size, i.bytes, i.zero)) = some (2, 24, some (.agg #[(.string ⟨⟨[]⟩⟩), (.int .u64 0)])) := by kernel_rfl
theorem inf15 : (Go.Proofs.Tryd.prog.info? 15).map (fun i => (i.size, i.bytes, i.zero)) = some (1, 8, some (.pointer none)) := by kernel_rfl
theorem inf16 : (Go.Proofs.Tryd.prog.info? 16).map (fun i => (i.size, i.bytes, i.zero)) = some (1, 8, some (.pointer none)) := by kernel_rfl
theorem inf17 : (Go.Proofs.Tryd.prog.info? 17).map (fun i => (i.size, i.bytes, i.zero)) = some (1, 8, some (.pointer none)) := by kernel_rfl
theorem inf18 : (Go.Proofs.Tryd.prog.info? 18).map (fun i => (i.size, i.bytes, i.zero)) = some (1, 8, some (.agg #[(.pointer none)])) := by kernel_rfl
theorem inf19 : (Go.Proofs.Tryd.prog.info? 19).map (fun i => (i.size, i.bytes, i.zero)) = some (1, 8, some (.agg #[(.pointer none)])) := by kernel_rfl
theorem inf20 : (Go.Proofs.Tryd.prog.info? 20).map (fun i => (i.size, i.bytes, i.zero)) = some (1, 16, some .nilIface) := by kernel_rfl
theorem inf21 : (Go.Proofs.Tryd.prog.info? 21).map (fun i => (i.size, i.bytes, i.zero)) = some (1, 4, some (.int .i32 0)) := by kernel_rfl
theorem inf22 : (Go.Proofs.Tryd.prog.info? 22).map (fun i => (i.size, i.bytes, i.zero)) = some (1, 8, some (.pointer none)) := by kernel_rfl
theorem inf23 : (Go.Proofs.Tryd.prog.info? 23).map (fun i => (i.size, i.bytes, i.zero)) = some (1, 8, some .nilFunc) := by kernel_rfl
theorem inf24 : (Go.Proofs.Tryd.prog.info? 24).map (fun i => (i.size, i.bytes, i.zero)) = some (1, 8, some (.pointer none)) := by kernel_rfl
theorem inf25 : (Go.Proofs.Tryd.prog.info? 25).map (fun i => (i.size, i.bytes, i.zero)) = some (1, 8, some .nilFunc) := by kernel_rfl
theorem inf26 : (Go.Proofs.Tryd.prog.info? 26).map (fun i => (i.size, i.bytes, i.zero)) = some (1, 8, some (.pointer none)) := by kernel_rfl
theorem inf27 : (Go.Proofs.Tryd.prog.info? 27).map (fun i => (i.size, i.bytes, i.zero)) = some (1, 8, some (.int .i64 0)) := by kernel_rfl
theorem inf28 : (Go.Proofs.Tryd.prog.info? 28).map (fun i => (i.size, i.bytes, i.zero)) = some (1, 0, some (.tuple #[(.pointer none), (.int .i64 0)])) := by kernel_rfl
theorem inf29 : (Go.Proofs.Tryd.prog.info? 29).map (fun i => (i.size, i.bytes, i.zero)) = some (1, 8, some .nilFunc) := by kernel_rfl
theorem inf30 : (Go.Proofs.Tryd.prog.info? 30).map (fun i => (i.size, i.bytes, i.zero)) = some (1, 8, some .nilFunc) := by kernel_rfl
theorem inf31 : (Go.Proofs.Tryd.prog.info? 31).map (fun i => (i.size, i.bytes, i.zero)) = some (1, 8, some .nilFunc) := by kernel_rfl
theorem inf32 : (Go.Proofs.Tryd.prog.info? 32).map (fun i => (i.size, i.bytes, i.zero)) = some (1, 8, some .nilFunc) := by kernel_rfl
theorem inf33 : (Go.Proofs.Tryd.prog.info? 33).map (fun i => (i.size, i.bytes, i.zero)) = some (1, 4, some (.int .u32 0)) := by kernel_rfl
theorem inf34 : (Go.Proofs.Tryd.prog.info? 34).map (fun i => (i.size, i.bytes, i.zero)) = some (1, 8, some .nilFunc) := by kernel_rfl
theorem inf35 : (Go.Proofs.Tryd.prog.info? 35).map (fun i => (i.size, i.bytes, i.zero)) = some (1, 8, some .nilFunc) := by kernel_rfl
theorem inf36 : (Go.Proofs.Tryd.prog.info? 36).map (fun i => (i.size, i.bytes, i.zero)) = some (1, 0, some (.tuple #[(.string ⟨⟨[]⟩⟩), (.int .i64 0)])) := by kernel_rfl
theorem inf37 : (Go.Proofs.Tryd.prog.info? 37).map (fun i => (i.size, i.bytes, i.zero)) = some (1, 8, some .nilFunc) := by kernel_rfl
theorem inf38 : (Go.Proofs.Tryd.prog.info? 38).map (fun i => (i.size, i.bytes, i.zero)) = some (1, 8, some .nilFunc) := by kernel_rfl
theorem inf39 : (Go.Proofs.Tryd.prog.info? 39).map (fun i => (i.size, i.bytes, i.zero)) = some (1, 24, some (.slice none 0 0)) := by kernel_rfl
theorem inf40 : (Go.Proofs.Tryd.prog.info? 40).map (fun i => (i.size, i.bytes, i.zero)) = some (1, 0, some (.tuple #[(.int .u32 0), (.slice none 0 0), (.int .i64 0)])) := by kernel_rfl
theorem inf41 : (Go.Proofs.Tryd.prog.info? 41).map (fun i => (i.size, i.bytes, i.zero)) = some (1, 8, some .nilFunc) := by kernel_rfl
theorem inf42 : (Go.Proofs.Tryd.prog.info? 42).map (fun i => (i.size, i.bytes, i.zero)) = some (6, 40, some (.agg #[(.pointer none), (.int .i64 0), (.int .i64 0), (.int .i64 0), (.bool false), (.bool false)])) := by kernel_rfl
theorem inf43 : (Go.Proofs.Tryd.prog.info? 43).map (fun i => (i.size, i.bytes, i.zero)) = some (6, 40, some (.agg #[(.pointer none), (.int .i64 0), (.int .i64 0), (.int .i64 0), (.bool false), (.bool false)])) := by kernel_rfl
theorem inf44 : (Go.Proofs.Tryd.prog.info? 44).map (fun i => (i.size, i.bytes, i.zero)) = some (1, 8, some .nilFunc) := by kernel_rfl
theorem inf45 : (Go.Proofs.Tryd.prog.info? 45).map (fun i => (i.size, i.bytes, i.zero)) = some (1, 8, some .nilFunc) := by kernel_rfl
theorem inf46 : (Go.Proofs.Tryd.prog.info? 46).map (fun i => (i.size, i.bytes, i.zero)) = some (1, 24, some (.slice none 0 0)) := by kernel_rfl
theorem inf47 : (Go.Proofs.Tryd.prog.info? 47).map (fun i => (i.size, i.bytes, i.zero)) = some (1, 2, some (.int .u16 0)) := by kernel_rfl
theorem inf48 : (Go.Proofs.Tryd.prog.info? 48).map (fun i => (i.size, i.bytes, i.zero)) = some (1, 24, some (.slice none 0 0)) := by kernel_rfl
theorem inf49 : (Go.Proofs.Tryd.prog.info? 49).map (fun i => (i.size, i.bytes, i.zero)) = some (1, 8, some .nilFunc) := by kernel_rfl
theorem inf50 : (Go.Proofs.Tryd.prog.info? 50).map (fun i => (i.size, i.bytes, i.zero)) = some (1, 8, some .nilFunc) := by kernel_rfl
theorem inf51 : (Go.Proofs.Tryd.prog.info? 51).map (fun i => (i.size, i.bytes, i.zero)) = some (1, 24, some (.slice none 0 0)) := by kernel_rfl
theorem inf52 : (Go.Proofs.Tryd.prog.info? 52).map (fun i => (i.size, i.bytes, i.zero)) = some (5, 48, some (.agg #[(.int .u8 0), (.string ⟨⟨[]⟩⟩), (.int .u32 0), (.int .i64 0), (.int .i64 0)])) := by kernel_rfl
theorem inf53 : (Go.Proofs.Tryd.prog.info? 53).map (fun i => (i.size, i.bytes, i.zero)) = some (5, 48, some (.agg #[(.int .u8 0), (.string ⟨⟨[]⟩⟩), (.int .u32 0), (.int .i64 0), (.int .i64 0)])) := by kernel_rfl
theorem inf54 : (Go.Proofs.Tryd.prog.info? 54).map (fun i => (i.size, i.bytes, i.zero)) = some (1, 8, some .nilFunc) := by kernel_rfl
theorem inf55 : (Go.Proofs.Tryd.prog.info? 55).map (fun i => (i.size, i.bytes, i.zero)) = some (1, 8, some .nilFunc) := by kernel_rfl
theorem inf56 : (Go.Proofs.Tryd.prog.info? 56).map (fun i => (i.size, i.bytes, i.zero)) = some (1, 8, some .nilFunc) := by kernel_rfl
theorem inf57 : (Go.Proofs.Tryd.prog.info? 57).map (fun i => (i.size, i.bytes, i.zero)) = some (1, 8, some .nilFunc) := by kernel_rfl
theorem inf58 : (Go.Proofs.Tryd.prog.info? 58).map (fun i => (i.size, i.bytes, i.zero)) = some (1, 24, some (.slice none 0 0)) := by kernel_rfl
theorem inf59 : (Go.Proofs.Tryd.prog.info? 59).map (fun i => (i.size, i.bytes, i.zero)) = some (1, 24, some (.agg #[(.slice none 0 0)])) := by kernel_rfl
theorem inf60 : (Go.Proofs.Tryd.prog.info? 60).map (fun i => (i.size, i.bytes, i.zero)) = some (1, 24, some (.agg #[(.slice none 0 0)])) := by kernel_rfl
theorem inf61 : (Go.Proofs.Tryd.prog.info? 61).map (fun i => (i.size, i.bytes, i.zero)) = some (1, 8, some .nilFunc) := by kernel_rfl
theorem inf62 : (Go.Proofs.Tryd.prog.info? 62).map (fun i => (i.size, i.bytes, i.zero)) = some (5, 56, some (.agg #[(.pointer none), (.int .i64 0), (.slice none 0 0), (.int .i64 0), (.bool false)])) := by kernel_rfl
theorem inf63 : (Go.Proofs.Tryd.prog.info? 63).map (fun i => (i.size, i.bytes, i.zero)) = some (5, 56, some (.agg #[(.pointer none), (.int .i64 0), (.slice none 0 0), (.int .i64 0), (.bool false)])) := by kernel_rfl
theorem inf64 : (Go.Proofs.Tryd.prog.info? 64).map (fun i => (i.size, i.bytes, i.zero)) = some (1, 8, some .nilFunc) := by kernel_rfl
theorem inf65 : (Go.Proofs.Tryd.prog.info? 65).map (fun i => (i.size, i.bytes, i.zero)) = some (1, 8, some (.int .u64 0)) := by kernel_rfl
theorem inf66 : (Go.Proofs.Tryd.prog.info? 66).map (fun i => (i.size, i.bytes, i.zero)) = some (1, 0, some (.tuple #[(.int .u64 0), (.int .u64 0)])) := by kernel_rfl
theorem inf67 : (Go.Proofs.Tryd.prog.info? 67).map (fun i => (i.size, i.bytes, i.zero)) = some (1, 8, some .nilFunc) := by kernel_rfl
theorem inf68 : (Go.Proofs.Tryd.prog.info? 68).map (fun i => (i.size, i.bytes, i.zero)) = some (1, 8, some .nilFunc) := by kernel_rfl
theorem inf69 : (Go.Proofs.Tryd.prog.info? 69).map (fun i => (i.size, i.bytes, i.zero)) = some (1, 8, some (.pointer none)) := by kernel_rfl
theorem inf70 : (Go.Proofs.Tryd.prog.info? 70).map (fun i => (i.size, i.bytes, i.zero)) = some (1, 24, some (.slice none 0 0)) := by kernel_rfl
theorem inf71 : (Go.Proofs.Tryd.prog.info? 71).map (fun i => (i.size, i.bytes, i.zero)) = some (2, 32, some (.agg #[(.pointer none), (.slice none 0 0)])) := by kernel_rfl
theorem inf72 : (Go.Proofs.Tryd.prog.info? 72).map (fun i => (i.size, i.bytes, i.zero)) = some (2, 32, some (.agg #[(.pointer none), (.slice none 0 0)])) := by kernel_rfl
theorem inf73 : (Go.Proofs.Tryd.prog.info? 73).map (fun i => (i.size, i.bytes, i.zero)) = some (1, 8, some .nilFunc) := by kernel_rfl
theorem inf74 : (Go.Proofs.Tryd.prog.info? 74).map (fun i => (i.size, i.bytes, i.zero)) = some (1, 16, some .nilIface) := by kernel_rfl
theorem inf75 : (Go.Proofs.Tryd.prog.info? 75).map (fun i => (i.size, i.bytes, i.zero)) = some (1, 16, some .nilIface) := by kernel_rfl
theorem inf76 : (Go.Proofs.Tryd.prog.info? 76).map (fun i => (i.size, i.bytes, i.zero)) = some (1, 0, some (.tuple #[(.int .i64 0), .nilIface])) := by kernel_rfl
theorem inf77 : (Go.Proofs.Tryd.prog.info? 77).map (fun i => (i.size, i.bytes, i.zero)) = some (1, 8, some .nilFunc) := by kernel_rfl
theorem inf78 : (Go.Proofs.Tryd.prog.info? 78).map (fun i => (i.size, i.bytes, i.zero)) = some (1, 8, some .nilFunc) := by kernel_rfl
theorem inf79 : (Go.Proofs.Tryd.prog.info? 79).map (fun i => (i.size, i.bytes, i.zero)) = some (1, 8, some .nilFunc) := by kernel_rfl
theorem inf80 : (Go.Proofs.Tryd.prog.info? 80).map (fun i => (i.size, i.bytes, i.zero)) = some (1, 8, some .nilFunc) := by kernel_rfl
theorem inf81 : (Go.Proofs.Tryd.prog.info? 81).map (fun i => (i.size, i.bytes, i.zero)) = some (1, 8, some .nilFunc) := by kernel_rfl
theorem inf82 : (Go.Proofs.Tryd.prog.info? 82).map (fun i => (i.size, i.bytes, i.zero)) = some (1, 8, some .nilFunc) := by kernel_rfl
theorem inf83 : (Go.Proofs.Tryd.prog.info? 83).map (fun i => (i.size, i.bytes, i.zero)) = some (1, 8, some (.pointer none)) := by kernel_rfl
theorem inf84 : (Go.Proofs.Tryd.prog.info? 84).map (fun i => (i.size, i.bytes, i.zero)) = some (1, 0, some (.tuple #[(.pointer none), (.int .i64 0)])) := by kernel_rfl
theorem inf85 : (Go.Proofs.Tryd.prog.info? 85).map (fun i => (i.size, i.bytes, i.zero)) = some (1, 8, some .nilFunc) := by kernel_rfl
theorem inf86 : (Go.Proofs.Tryd.prog.info? 86).map (fun i => (i.size, i.bytes, i.zero)) = some (64, 64, some (.agg #[(.int .u8 0), (.int .u8 0), (.int .u8 0), (.int .u8 0), (.int .u8 0), (.int .u8 0), (.int .u8 0), (.int .u8 0), (.int .u8 0), (.int .u8 0), (.int .u8 0), (.int .u8 0), (.int .u8 0), (.int .u8 0), (.int .u8 0), (.int .u8 0), (.int .u8 0), (.int .u8 0), (.int .u8 0), (.int .u8 0), (.int .u8 0), (.int .u8 0), (.int .u8 0), (.int .u8 0), (.int .u8 0), (.int .u8 0), (.int .u8 0), (.int .u8 0), (.int .u8 0), (.int .u8 0), (.int .u8 0), (.int .u8 0), (.int .u8 0), (.int .u8 0), (.int .u8 0), (.int .u8 0), (.int .u8 0), (.int .u8 0), (.int .u8 0), (.int .u8 0), (.int .u8 0), (.int .u8 0), (.int .u8 0), (.int .u8 0), (.int .u8 0), (.int .u8 0), (.int .u8 0), (.int .u8 0), (.int .u8 0), (.int .u8 0), (.int .u8 0), (.int .u8 0), (.int .u8 0), (.int .u8 0), (.int .u8 0), (.int .u8 0), (.int .u8 0), (.int .u8 0), (.int .u8 0), (.int .u8 0), (.int .u8 0), (.int .u8 0), (.int .u8 0), (.int .u8 0)])) := by kernel_rfl
theorem inf87 : (Go.Proofs.Tryd.prog.info? 87).map (fun i => (i.size, i.bytes, i.zero)) = some (64, 64, some (.agg #[(.int .u8 0), (.int .u8 0), (.int .u8 0), (.int .u8 0), (.int .u8 0), (.int .u8 0), (.int .u8 0), (.int .u8 0), (.int .u8 0), (.int .u8 0), (.int .u8 0), (.int .u8 0), (.int .u8 0), (.int .u8 0), (.int .u8 0), (.int .u8 0), (.int .u8 0), (.int .u8 0), (.int .u8 0), (.int .u8 0), (.int .u8 0), (.int .u8 0), (.int .u8 0), (.int .u8 0), (.int .u8 0), (.int .u8 0), (.int .u8 0), (.int .u8 0), (.int .u8 0), (.int .u8 0), (.int .u8 0), (.int .u8 0), (.int .u8 0), (.int .u8 0), (.int .u8 0), (.int .u8 0), (.int .u8 0), (.int .u8 0), (.int .u8 0), (.int .u8 0), (.int .u8 0), (.int .u8 0), (.int .u8 0), (.int .u8 0), (.int .u8 0), (.int .u8 0), (.int .u8 0), (.int .u8 0), (.int .u8 0), (.int .u8 0), (.int .u8 0), (.int .u8 0), (.int .u8 0), (.int .u8 0), (.int .u8 0), (.int .u8 0), (.int .u8 0), (.int .u8 0), (.int .u8 0), (.int .u8 0), (.int .u8 0), (.int .u8 0), (.int .u8 0), (.int .u8 0)])) := by kernel_rfl
theorem inf88 : (Go.Proofs.Tryd.prog.info? 88).map (fun i => (i.size, i.bytes, i.zero)) = some (129, 129, some (.agg #[(.int .u8 0), (.int .u8 0), (.int .u8 0), (.int .u8 0), (.int .u8 0), (.int .u8 0), (.int .u8 0), (.int .u8 0), (.int .u8 0), (.int .u8 0), (.int .u8 0), (.int .u8 0), (.int .u8 0), (.int .u8 0), (.int .u8 0), (.int .u8 0), (.int .u8 0), (.int .u8 0), (.int .u8 0), (.int .u8 0), (.int .u8 0), (.int .u8 0), (.int .u8 0), (.int .u8 0), (.int .u8 0), (.int .u8 0), (.int .u8 0), (.int .u8 0), (.int .u8 0), (.int .u8 0), (.int .u8 0), (.int .u8 0), (.int .u8 0), (.int .u8 0), (.int .u8 0), (.int .u8 0), (.int .u8 0), (.int .u8 0), (.int .u8 0), (.int .u8 0), (.int .u8 0), (.int .u8 0), (.int .u8 0), (.int .u8 0), (.int .u8 0), (.int .u8 0), (.int .u8 0), (.int .u8 0), (.int .u8 0), (.int .u8 0), (.int .u8 0), (.int .u8 0), (.int .u8 0), (.int .u8 0), (.int .u8 0), (.int .u8 0), (.int .u8 0), (.int .u8 0), (.int .u8 0), (.int .u8 0), (.int .u8 0), (.int .u8 0), (.int .u8 0), (.int .u8 0), (.int .u8 0), (.int .u8 0), (.int .u8 0), (.int .u8 0), (.int .u8 0), (.int .u8 0), (.int .u8 0), (.int .u8 0), (.int .u8 0), (.int .u8 0), (.int .u8 0), (.int .u8 0), (.int .u8 0), (.int .u8 0), (.int .u8 0), (.int .u8 0), (.int .u8 0), (.int .u8 0), (.int .u8 0), (.int .u8 0), (.int .u8 0), (.int .u8 0), (.int .u8 0), (.int .u8 0), (.int .u8 0), (.int .u8 0), (.int .u8 0), (.int .u8 0), (.int .u8 0), (.int .u8 0), (.int .u8 0), (.int .u8 0), (.int .u8 0), (.int .u8 0), (.int .u8 0), (.int .u8 0), (.int .u8 0), (.int .u8 0), (.int .u8 0), (.int .u8 0), (.int .u8 0), (.int .u8 0), (.int .u8 0), (.int .u8 0), (.int .u8 0), (.int .u8 0), (.int .u8 0), (.int .u8 0), (.int .u8 0), (.int .u8 0), (.int .u8 0), (.int .u8 0), (.int .u8 0), (.int .u8 0), (.int .u8 0), (.int .u8 0), (.int .u8 0), (.int .u8 0), (.int .u8 0), (.int .u8 0), (.int .u8 0), (.int .u8 0), (.int .u8 0), (.int .u8 0), (.bool false)])) := by kernel_rfl
theorem inf89 : (Go.Proofs.Tryd.prog.info? 89).map (fun i => (i.size, i.bytes, i.zero)) = some (129, 129, some (.agg #[(.int .u8 0), (.int .u8 0), (.int .u8 0), (.int .u8 0), (.int .u8 0), (.int .u8 0), (.int .u8 0), (.int .u8 0), (.int .u8 0), (.int .u8 0), (.int .u8 0), (.int .u8 0), (.int .u8 0), (.int .u8 0), (.int .u8 0), (.int .u8 0), (.int .u8 0), (.int .u8 0), (.int .u8 0), (.int .u8 0), (.int .u8 0), (.int .u8 0), (.int .u8 0), (.int .u8 0), (.int .u8 0), (.int .u8 0), (.int .u8 0), (.int .u8 0), (.int .u8 0), (.int .u8 0), (.int .u8 0), (.int .u8 0), (.int .u8 0), (.int .u8 0), (.int .u8 0), (.int .u8 0), (.int .u8 0), (.int .u8 0), (.int .u8 0), (.int .u8 0), (.int .u8 0), (.int .u8 0), (.int .u8 0), (.int .u8 0), (.int .u8 0), (.int .u8 0), (.int .u8 0), (.int .u8 0), (.int .u8 0), (.int .u8 0), (.int .u8 0), (.int .u8 0), (.int .u8 0), (.int .u8 0), (.int .u8 0), (.int .u8 0), (.int .u8 0), (.int .u8 0), (.int .u8 0), (.int .u8 0), (.int .u8 0), (.int .u8 0), (.int .u8 0), (.int .u8 0), (.int .u8 0), (.int .u8 0), (.int .u8 0), (.int .u8 0), (.int .u8 0), (.int .u8 0), (.int .u8 0), (.int .u8 0), (.int .u8 0), (.int .u8 0), (.int .u8 0), (.int .u8 0), (.int .u8 0), (.int .u8 0), (.int .u8 0), (.int .u8 0), (.int .u8 0), (.int .u8 0), (.int .u8 0), (.int .u8 0), (.int .u8 0), (.int .u8 0), (.int .u8 0), (.int .u8 0), (.int .u8 0), (.int .u8 0), (.int .u8 0), (.int .u8 0), (.int .u8 0), (.int .u8 0), (.int .u8 0), (.int .u8 0), (.int .u8 0), (.int .u8 0), (.int .u8 0), (.int .u8 0), (.int .u8 0), (.int .u8 0), (.int .u8 0), (.int .u8 0), (.int .u8 0), (.int .u8 0), (.int .u8 0), (.int .u8 0), (.int .u8 0), (.int .u8 0), (.int .u8 0), (.int .u8 0), (.int .u8 0), (.int .u8 0), (.int .u8 0), (.int .u8 0), (.int .u8 0), (.int .u8 0), (.int .u8 0), (.int .u8 0), (.int .u8 0), (.int .u8 0), (.int .u8 0), (.int .u8 0), (.int .u8 0), (.int .u8 0), (.int .u8 0), (.int .u8 0), (.bool false)])) := by kernel_rfl
theorem inf90 : (Go.Proofs.Tryd.prog.info? 90).map (fun i => (i.size, i.bytes, i.zero)) = some (1, 24, some (.agg #[(.slice none 0 0)])) := by kernel_rfl
theorem inf91 : (Go.Proofs.Tryd.prog.info? 91).map (fun i => (i.size, i.bytes, i.zero)) = some (1, 24, some (.agg #[(.slice none 0 0)])) := by kernel_rfl
theorem inf92 : (Go.Proofs.Tryd.prog.info? 92).map (fun i => (i.size, i.bytes, i.zero)) = some (1, 8, some .nilFunc) := by kernel_rfl
theorem inf93 : (Go.Proofs.Tryd.prog.info? 93).map (fun i => (i.size, i.bytes, i.zero)) = some (1, 8, some .nilFunc) := by kernel_rfl
theorem inf94 : (Go.Proofs.Tryd.prog.info? 94).map (fun i => (i.size, i.bytes, i.zero)) = some (1, 8, some .nilFunc) := by kernel_rfl
theorem inf95 : (Go.Proofs.Tryd.prog.info? 95).map (fun i => (i.size, i.bytes, i.zero)) = some (1, 8, some .nilFunc) := by kernel_rfl
theorem inf96 : (Go.Proofs.Tryd.prog.info? 96).map (fun i => (i.size, i.bytes, i.zero)) = some (1, 0, some (.tuple #[(.string ⟨⟨[]⟩⟩), (.bool false), (.bool false)])) := by kernel_rfl
theorem inf97 : (Go.Proofs.Tryd.prog.info? 97).map (fun i => (i.size, i.bytes, i.zero)) = some (1, 8, some .nilFunc) := by kernel_rfl
theorem inf98 : (Go.Proofs.Tryd.prog.info? 98).map (fun i => (i.size, i.bytes, i.zero)) = some (1, 8, some .nilFunc) := by kernel_rfl
theorem inf99 : (Go.Proofs.Tryd.prog.info? 99).map (fun i => (i.size, i.bytes, i.zero)) = some (1, 8, some .nilFunc) := by kernel_rfl
theorem inf100 : (Go.Proofs.Tryd.prog.info? 100).map (fun i => (i.size, i.bytes, i.zero)) = some (1, 8, some .nilFunc) := by kernel_rfl
theorem inf101 : (Go.Proofs.Tryd.prog.info? 101).map (fun i => (i.size, i.bytes, i.zero)) = some (1, 0, some (.tuple #[(.int .u32 0), (.int .u32 0)])) := by kernel_rfl
theorem inf102 : (Go.Proofs.Tryd.prog.info? 102).map (fun i => (i.size, i.bytes, i.zero)) = some (1, 8, some .nilFunc) := by kernel_rfl
theorem inf103 : (Go.Proofs.Tryd.prog.info? 103).map (fun i => (i.size, i.bytes, i.zero)) = some (1, 8, some (.int .u64 0)) := by kernel_rfl
theorem inf104 : (Go.Proofs.Tryd.prog.info? 104).map (fun i => (i.size, i.bytes, i.zero)) = some (1, 0, some (.tuple #[(.int .u64 0), (.int .u64 0)])) := by kernel_rfl
theorem inf105 : (Go.Proofs.Tryd.prog.info? 105).map (fun i => (i.size, i.bytes, i.zero)) = some (1, 8, some .nilFunc) := by kernel_rfl
theorem inf106 : (Go.Proofs.Tryd.prog.info? 106).map (fun i => (i.size, i.bytes, i.zero)) = some (1, 8, some (.pointer none)) := by kernel_rfl
theorem inf107 : (Go.Proofs.Tryd.prog.info? 107).map (fun i => (i.size, i.bytes, i.zero)) = some (1, 8, some .nilFunc) := by kernel_rfl
theorem inf108 : (Go.Proofs.Tryd.prog.info? 108).map (fun i => (i.size, i.bytes, i.zero)) = some (1, 8, some .nilFunc) := by kernel_rfl
theorem inf109 : (Go.Proofs.Tryd.prog.info? 109).map (fun i => (i.size, i.bytes, i.zero)) = some (1, 8, some .nilFunc) := by kernel_rfl
theorem inf110 : (Go.Proofs.Tryd.prog.info? 110).map (fun i => (i.size, i.bytes, i.zero)) = some (1, 8, some (.pointer none)) := by kernel_rfl
theorem inf111 : (Go.Proofs.Tryd.prog.info? 111).map (fun i => (i.size, i.bytes, i.zero)) = some (1, 8, some .nilFunc) := by kernel_rfl
theorem inf112 : (Go.Proofs.Tryd.prog.info? 112).map (fun i => (i.size, i.bytes, i.zero)) = some (1, 8, some .nilFunc) := by kernel_rfl
theorem inf113 : (Go.Proofs.Tryd.prog.info? 113).map (fun i => (i.size, i.bytes, i.zero)) = some (1, 8, some (.pointer none)) := by kernel_rfl
theorem inf114 : (Go.Proofs.Tryd.prog.info? 114).map (fun i => (i.size, i.bytes, i.zero)) = some (1, 8, some .nilFunc) := by kernel_rfl
theorem inf115 : (Go.Proofs.Tryd.prog.info? 115).map (fun i => (i.size, i.bytes, i.zero)) = some (1, 8, some .nilFunc) := by kernel_rfl
theorem inf116 : (Go.Proofs.Tryd.prog.info? 116).map (fun i => (i.size, i.bytes, i.zero)) = some (1, 8, some .nilFunc) := by kernel_rfl
theorem inf117 : (Go.Proofs.Tryd.prog.info? 117).map (fun i => (i.size, i.bytes, i.zero)) = some (1, 8, some .nilFunc) := by kernel_rfl
theorem inf118 : (Go.Proofs.Tryd.prog.info? 118).map (fun i => (i.size, i.bytes, i.zero)) = some (1, 8, some .nilFunc) := by kernel_rfl
theorem inf119 : (Go.Proofs.Tryd.prog.info? 119).map (fun i => (i.size, i.bytes, i.zero)) = some (1, 8, some .nilFunc) := by kernel_rfl
theorem inf120 : (Go.Proofs.Tryd.prog.info? 120).map (fun i => (i.size, i.bytes, i.zero)) = some (1, 8, some (.pointer none)) := by kernel_rfl
theorem inf121 : (Go.Proofs.Tryd.prog.info? 121).map (fun i => (i.size, i.bytes, i.zero)) = some (1, 8, some .nilFunc) := by kernel_rfl
theorem inf122 : (Go.Proofs.Tryd.prog.info? 122).map (fun i => (i.size, i.bytes, i.zero)) = some (1, 8, some .nilFunc) := by kernel_rfl
theorem inf123 : (Go.Proofs.Tryd.prog.info? 123).map (fun i => (i.size, i.bytes, i.zero)) = some (1, 8, some .nilFunc) := by kernel_rfl
theorem inf124 : (Go.Proofs.Tryd.prog.info? 124).map (fun i => (i.size, i.bytes, i.zero)) = some (1, 8, some .nilFunc) := by kernel_rfl
theorem inf125 : (Go.Proofs.Tryd.prog.info? 125).map (fun i => (i.size, i.bytes, i.zero)) = some (2, 24, some (.agg #[(.string ⟨⟨[]⟩⟩), (.int .i64 0)])) := by kernel_rfl
theorem inf126 : (Go.Proofs.Tryd.prog.info? 126).map (fun i => (i.size, i.bytes, i.zero)) = some (2, 24, some (.agg #[(.string ⟨⟨[]⟩⟩), (.int .i64 0)])) := by kernel_rfl
theorem inf127 : (Go.Proofs.Tryd.prog.info? 127).map (fun i => (i.size, i.bytes, i.zero)) = some (1, 8, some .nilFunc) := by kernel_rfl
theorem inf128 : (Go.Proofs.Tryd.prog.info? 128).map (fun i => (i.size, i.bytes, i.zero)) = some (1, 8, some .nilFunc) := by kernel_rfl
theorem inf129 : (Go.Proofs.Tryd.prog.info? 129).map (fun i => (i.size, i.bytes, i.zero)) = some (1, 8, some .nilFunc) := by kernel_rfl
theorem inf130 : (Go.Proofs.Tryd.prog.info? 130).map (fun i => (i.size, i.bytes, i.zero)) = some (256, 256, some (.agg #[(.bool false), (.bool false), (.bool false), (.bool false), (.bool false), (.bool false), (.bool false), (.bool false), (.bool false), (.bool false), (.bool false), (.bool false), (.bool false), (.bool false), (.bool false), (.bool false), (.bool false), (.bool false), (.bool false), (.bool false), (.bool false), (.bool false), (.bool false), (.bool false), (.bool false), (.bool false), (.bool false), (.bool false), (.bool false), (.bool false), (.bool false), (.bool false), (.bool false), (.bool false), (.bool false), (.bool false), (.bool false), (.bool false), (.bool false), (.bool false), (.bool false), (.bool false), (.bool false), (.bool false), (.bool false), (.bool false), (.bool false), (.bool false), (.bool false), (.bool false), (.bool false), (.bool false), (.bool false), (.bool false), (.bool false), (.bool false), (.bool false), (.bool false), (.bool false), (.bool false), (.bool false), (.bool false), (.bool false), (.bool false), (.bool false), (.bool false), (.bool false), (.bool false), (.bool false), (.bool false), (.bool false), (.bool false), (.bool false), (.bool false), (.bool false), (.bool false), (.bool false), (.bool false), (.bool false), (.bool false), (.bool false), (.bool false), (.bool false), (.bool false), (.bool false), (.bool false), (.bool false), (.bool false), (.bool false), (.bool false), (.bool false), (.bool false), (.bool false), (.bool false), (.bool false), (.bool false), (.bool false), (.bool false), (.bool false), (.bool false), (.bool false), (.bool false), (.bool false), (.bool false), (.bool false), (.bool false), (.bool false), (.bool false), (.bool false), (.bool false), (.bool false), (.bool false), (.bool false), (.bool false), (.bool false), (.bool false), (.bool false), (.bool false), (.bool false), (.bool false), (.bool false), (.bool false), (.bool false), (.bool false), (.bool false), (.bool false), (.bool false), (.bool false), (.bool false), (.bool false), (.bool false), (.bool false), (.bool false), (.bool false), (.bool false), (.bool false), (.bool false), (.bool false), (.bool false), (.bool false), (.bool false), (.bool false), (.bool false), (.bool false), (.bool false), (.bool false), (.bool false), (.bool false), (.bool false), (.bool false), (.bool false), (.bool false), (.bool false), (.bool false), (.bool false), (.bool false), (.bool false), (.bool false), (.bool false), (.bool false), (.bool false), (.bool false), (.bool false), (.bool false), (.bool false), (.bool false), (.bool false), (.bool false), (.bool false), (.bool false), (.bool false), (.bool false), (.bool false), (.bool false), (.bool false), (.bool false), (.bool false), (.bool false), (.bool false), (.bool false), (.bool false), (.bool false), (.bool false), (.bool false), (.bool false), (.bool false), (.bool false), (.bool false), (.bool false), (.bool false), (.bool false), (.bool false), (.bool false), (.bool false), (.bool false), (.bool false), (.bool false), (.bool false), (.bool false), (.bool false), (.bool false), (.bool false), (.bool false), (.bool false), (.bool false), (.bool false), (.bool false), (.bool false), (.bool false), (.bool false), (.bool false), (.bool false), (.bool false), (.bool false), (.bool false), (.bool false), (.bool false), (.bool false), (.bool false), (.bool false), (.bool false), (.bool false), (.bool false), (.bool false), (.bool false), (.bool false), (.bool false), (.bool false), (.bool false), (.bool false), (.bool false), (.bool false), (.bool false), (.bool false), (.bool false), (.bool false), (.bool false), (.bool false), (.bool false), (.bool false), (.bool false), (.bool false), (.bool false), (.bool false), (.bool false), (.bool false), (.bool false), (.bool false), (.bool false), (.bool false), (.bool false), (.bool false), (.bool false), (.bool false), (.bool false), (.bool false)])) := by kernel_rfl
theorem inf131 : (Go.Proofs.Tryd.prog.info? 131).map (fun i => (i.size, i.bytes, i.zero)) = some (256, 256, some (.agg #[(.bool false), (.bool false), (.bool false), (.bool false), (.bool false), (.bool false), (.bool false), (.bool false), (.bool false), (.bool false), (.bool false), (.bool false), (.bool false), (.bool false), (.bool false), (.bool false), (.bool false), (.bool false), (.bool false), (.bool false), (.bool false), (.bool false), (.bool false), (.bool false), (.bool false), (.bool false), (.bool false), (.bool false), (.bool false), (.bool false), (.bool false), (.bool false), (.bool false), (.bool false), (.bool false), (.bool false), (.bool false), (.bool false), (.bool false), (.bool false), (.bool false), (.bool false), (.bool false), (.bool false), (.bool false), (.bool false), (.bool false), (.bool false), (.bool false), (.bool false), (.bool false), (.bool false), (.bool false), (.bool false), (.bool false), (.bool false), (.bool false), (.bool false), (.bool false), (.bool false), (.bool false), (.bool false), (.bool false), (.bool false), (.bool false), (.bool false), (.bool false), (.bool false), (.bool false), (.bool false), (.bool false), (.bool false), (.bool false), (.bool false), (.bool false), (.bool false), (.bool false), (.bool false), (.bool false), (.bool false), (.bool false), (.bool false), (.bool false), (.bool false), (.bool false), (.bool false), (.bool false), (.bool false), (.bool false), (.bool false), (.bool false), (.bool false), (.bool false), (.bool false), (.bool false), (.bool false), (.bool false), (.bool false), (.bool false), (.bool false), (.bool false), (.bool false), (.bool false), (.bool false), (.bool false), (.bool false), (.bool false), (.bool false), (.bool false), (.bool false), (.bool false), (.bool false), (.bool false), (.bool false), (.bool false), (.bool false), (.bool false), (.bool false), (.bool false), (.bool false), (.bool false), (.bool false), (.bool false), (.bool false), (.bool false), (.bool false), (.bool false), (.bool false), (.bool false), (.bool false), (.bool false), (.bool false), (.bool false), (.bool false), (.bool false), (.bool false), (.bool false), (.bool false), (.bool false), (.bool false), (.bool false), (.bool false), (.bool false), (.bool false), (.bool false), (.bool false), (.bool false), (.bool false), (.bool false), (.bool false), (.bool false), (.bool false), (.bool false), (.bool false), (.bool false), (.bool false), (.bool false), (.bool false), (.bool false), (.bool false), (.bool false), (.bool false), (.bool false), (.bool false), (.bool false), (.bool false), (.bool false), (.bool false), (.bool false), (.bool false), (.bool false), (.bool false), (.bool false), (.bool false), (.bool false), (.bool false), (.bool false), (.bool false), (.bool false), (.bool false), (.bool false), (.bool false), (.bool false), (.bool false), (.bool false), (.bool false), (.bool false), (.bool false), (.bool false), (.bool false), (.bool false), (.bool false), (.bool false), (.bool false), (.bool false), (.bool false), (.bool false), (.bool false), (.bool false), (.bool false), (.bool false), (.bool false), (.bool false), (.bool false), (.bool false), (.bool false), (.bool false), (.bool false), (.bool false), (.bool false), (.bool false), (.bool false), (.bool false), (.bool false), (.bool false), (.bool false), (.bool false), (.bool false), (.bool false), (.bool false), (.bool false), (.bool false), (.bool false), (.bool false), (.bool false), (.bool false), (.bool false), (.bool false), (.bool false), (.bool false), (.bool false), (.bool false), (.bool false), (.bool false), (.bool false), (.bool false), (.bool false), (.bool false), (.bool false), (.bool false), (.bool false), (.bool false), (.bool false), (.bool false), (.bool false), (.bool false), (.bool false), (.bool false), (.bool false), (.bool false), (.bool false), (.bool false), (.bool false), (.bool false), (.bool false), (.bool false)])) := by kernel_rfl
theorem inf132 : (Go.Proofs.Tryd.prog.info? 132).map (fun i => (i.size, i.bytes, i.zero)) = some (1, 0, some (.tuple #[(.agg #[(.bool false), (.bool false), (.bool false), (.bool false), (.bool false), (.bool false), (.bool false), (.bool false), (.bool false), (.bool false), (.bool false), (.bool false), (.bool false), (.bool false), (.bool false), (.bool false), (.bool false), (.bool false), (.bool false), (.bool false), (.bool false), (.bool false), (.bool false), (.bool false), (.bool false), (.bool false), (.bool false), (.bool false), (.bool false), (.bool false), (.bool false), (.bool false), (.bool false), (.bool false), (.bool false), (.bool false), (.bool false), (.bool false), (.bool false), (.bool false), (.bool false), (.bool false), (.bool false), (.bool false), (.bool false), (.bool false), (.bool false), (.bool false), (.bool false), (.bool false), (.bool false), (.bool false), (.bool false), (.bool false), (.bool false), (.bool false), (.bool false), (.bool false), (.bool false), (.bool false), (.bool false), (.bool false), (.bool false), (.bool false), (.bool false), (.bool false), (.bool false), (.bool false), (.bool false), (.bool false), (.bool false), (.bool false), (.bool false), (.bool false), (.bool false), (.bool false), (.bool false), (.bool false), (.bool false), (.bool false), (.bool false), (.bool false), (.bool false), (.bool false), (.bool false), (.bool false), (.bool false), (.bool false), (.bool false), (.bool false), (.bool false), (.bool false), (.bool false), (.bool false), (.bool false), (.bool false), (.bool false), (.bool false), (.bool false), (.bool false), (.bool false), (.bool false), (.bool false), (.bool false), (.bool false), (.bool false), (.bool false), (.bool false), (.bool false), (.bool false), (.bool false), (.bool false), (.bool false), (.bool false), (.bool false), (.bool false), (.bool false), (.bool false), (.bool false), (.bool false), (.bool false), (.bool false), (.bool false), (.bool false), (.bool false), (.bool false), (.bool false), (.bool false), (.bool false), (.bool false), (.bool false), (.bool false), (.bool false), (.bool false), (.bool false), (.bool false), (.bool false), (.bool false), (.bool false), (.bool false), (.bool false), (.bool false), (.bool false), (.bool false), (.bool false), (.bool false), (.bool false), (.bool false), (.bool false), (.bool false), (.bool false), (.bool false), (.bool false), (.bool false), (.bool false), (.bool false), (.bool false), (.bool false), (.bool false), (.bool false), (.bool false), (.bool false), (.bool false), (.bool false), (.bool false), (.bool false), (.bool false), (.bool false), (.bool false), (.bool false), (.bool false), (.bool false), (.bool false), (.bool false), (.bool false), (.bool false), (.bool false), (.bool false), (.bool false), (.bool false), (.bool false), (.bool false), (.bool false), (.bool false), (.bool false), (.bool false), (.bool false), (.bool false), (.bool false), (.bool false), (.bool false), (.bool false), (.bool false), (.bool false), (.bool false), (.bool false), (.bool false), (.bool false), (.bool false), (.bool false), (.bool false), (.bool false), (.bool false), (.bool false), (.bool false), (.bool false), (.bool false), (.bool false), (.bool false), (.bool false), (.bool false), (.bool false), (.bool false), (.bool false), (.bool false), (.bool false), (.bool false), (.bool false), (.bool false), (.bool false), (.bool false), (.bool false), (.bool false), (.bool false), (.bool false), (.bool false), (.bool false), (.bool false), (.bool false), (.bool false), (.bool false), (.bool false), (.bool false), (.bool false), (.bool false), (.bool false), (.bool false), (.bool false), (.bool false), (.bool false), (.bool false), (.bool false), (.bool false), (.bool false), (.bool false), (.bool false), (.bool false), (.bool false), (.bool false), (.bool false), (.bool false), (.bool false), (.bool false), (.bool false), (.bool false), (.bool false)]), (.bool false)])) := by kernel_rfl
theorem inf133 : (Go.Proofs.Tryd.prog.info? 133).map (fun i => (i.size, i.bytes, i.zero)) = some (1, 8, some .nilFunc) := by kernel_rfl
theorem inf134 : (Go.Proofs.Tryd.prog.info? 134).map (fun i => (i.size, i.bytes, i.zero)) = some (1, 8, some .nilFunc) := by kernel_rfl
theorem inf135 : (Go.Proofs.Tryd.prog.info? 135).map (fun i => (i.size, i.bytes, i.zero)) = some (1, 8, some (.pointer none)) := by kernel_rfl
theorem inf136 : (Go.Proofs.Tryd.prog.info? 136).map (fun i => (i.size, i.bytes, i.zero)) = some (1, 8, some .nilFunc) := by kernel_rfl
theorem inf137 : (Go.Proofs.Tryd.prog.info? 137).map (fun i => (i.size, i.bytes, i.zero)) = some (1, 8, some .nilFunc) := by kernel_rfl
theorem inf138 : (Go.Proofs.Tryd.prog.info? 138).map (fun i => (i.size, i.bytes, i.zero)) = some (1, 8, some .nilFunc) := by kernel_rfl
theorem inf139 : (Go.Proofs.Tryd.prog.info? 139).map (fun i => (i.size, i.bytes, i.zero)) = some (1, 0, some (.tuple #[(.int .i32 0), (.int .i64 0)])) := by kernel_rfl
theorem inf140 : (Go.Proofs.Tryd.prog.info? 140).map (fun i => (i.size, i.bytes, i.zero)) = some (1, 8, some .nilFunc) := by kernel_rfl
theorem inf141 : (Go.Proofs.Tryd.prog.info? 141).map (fun i => (i.size, i.bytes, i.zero)) = some (1, 8, some .nilFunc) := by kernel_rfl
theorem inf142 : (Go.Proofs.Tryd.prog.info? 142).map (fun i => (i.size, i.bytes, i.zero)) = some (1, 8, some .nilFunc) := by kernel_rfl
theorem inf143 : (Go.Proofs.Tryd.prog.info? 143).map (fun i => (i.size, i.bytes, i.zero)) = some (256, 256, some (.agg #[(.int .u8 0), (.int .u8 0), (.int .u8 0), (.int .u8 0), (.int .u8 0), (.int .u8 0), (.int .u8 0), (.int .u8 0), (.int .u8 0), (.int .u8 0), (.int .u8 0), (.int .u8 0), (.int .u8 0), (.int .u8 0), (.int .u8 0), (.int .u8 0), (.int .u8 0), (.int .u8 0), (.int .u8 0), (.int .u8 0), (.int .u8 0), (.int .u8 0), (.int .u8 0), (.int .u8 0), (.int .u8 0), (.int .u8 0), (.int .u8 0), (.int .u8 0), (.int .u8 0), (.int .u8 0), (.int .u8 0), (.int .u8 0), (.int .u8 0), (.int .u8 0), (.int .u8 0), (.int .u8 0), (.int .u8 0), (.int .u8 0), (.int .u8 0), (.int .u8 0), (.int .u8 0), (.int .u8 0), (.int .u8 0), (.int .u8 0), (.int .u8 0), (.int .u8 0), (.int .u8 0), (.int .u8 0), (.int .u8 0), (.int .u8 0), (.int .u8 0), (.int .u8 0), (.int .u8 0), (.int .u8 0), (.int .u8 0), (.int .u8 0), (.int .u8 0), (.int .u8 0), (.int .u8 0), (.int .u8 0), (.int .u8 0), (.int .u8 0), (.int .u8 0), (.int .u8 0), (.int .u8 0), (.int .u8 0), (.int .u8 0), (.int .u8 0), (.int .u8 0), (.int .u8 0), (.int .u8 0), (.int .u8 0), (.int .u8 0), (.int .u8 0), (.int .u8 0), (.int .u8 0), (.int .u8 0), (.int .u8 0), (.int .u8 0), (.int .u8 0), (.int .u8 0), (.int .u8 0), (.int .u8 0), (.int .u8 0), (.int .u8 0), (.int .u8 0), (.int .u8 0), (.int .u8 0), (.int .u8 0), (.int .u8 0), (.int .u8 0), (.int .u8 0), (.int .u8 0), (.int .u8 0), (.int .u8 0), (.int .u8 0), (.int .u8 0), (.int .u8 0), (.int .u8 0), (.int .u8 0), (.int .u8 0), (.int .u8 0), (.int .u8 0), (.int .u8 0), (.int .u8 0), (.int .u8 0), (.int .u8 0), (.int .u8 0), (.int .u8 0), (.int .u8 0), (.int .u8 0), (.int .u8 0), (.int .u8 0), (.int .u8 0), (.int .u8 0), (.int .u8 0), (.int .u8 0), (.int .u8 0), (.int .u8 0), (.int .u8 0), (.int .u8 0), (.int .u8 0), (.int .u8 0), (.int .u8 0), (.int .u8 0), (.int .u8 0), (.int .u8 0), (.int .u8 0), (.int .u8 0), (.int .u8 0), (.int .u8 0), (.int .u8 0), (.int .u8 0), (.int .u8 0), (.int .u8 0), (.int .u8 0), (.int .u8 0), (.int .u8 0), (.int .u8 0), (.int .u8 0), (.int .u8 0), (.int .u8 0), (.int .u8 0), (.int .u8 0), (.int .u8 0), (.int .u8 0), (.int .u8 0), (.int .u8 0), (.int .u8 0), (.int .u8 0), (.int .u8 0), (.int .u8 0), (.int .u8 0), (.int .u8 0), (.int .u8 0), (.int .u8 0), (.int .u8 0), (.int .u8 0), (.int .u8 0), (.int .u8 0), (.int .u8 0), (.int .u8 0), (.int .u8 0), (.int .u8 0), (.int .u8 0), (.int .u8 0), (.int .u8 0), (.int .u8 0), (.int .u8 0), (.int .u8 0), (.int .u8 0), (.int .u8 0), (.int .u8 0), (.int .u8 0), (.int .u8 0), (.int .u8 0), (.int .u8 0), (.int .u8 0), (.int .u8 0), (.int .u8 0), (.int .u8 0), (.int .u8 0), (.int .u8 0), (.int .u8 0), (.int .u8 0), (.int .u8 0), (.int .u8 0), (.int .u8 0), (.int .u8 0), (.int .u8 0), (.int .u8 0), (.int .u8 0), (.int .u8 0), (.int .u8 0), (.int .u8 0), (.int .u8 0), (.int .u8 0), (.int .u8 0), (.int .u8 0), (.int .u8 0), (.int .u8 0), (.int .u8 0), (.int .u8 0), (.int .u8 0), (.int .u8 0), (.int .u8 0), (.int .u8 0), (.int .u8 0), (.int .u8 0), (.int .u8 0), (.int .u8 0), (.int .u8 0), (.int .u8 0), (.int .u8 0), (.int .u8 0), (.int .u8 0), (.int .u8 0), (.int .u8 0), (.int .u8 0), (.int .u8 0), (.int .u8 0), (.int .u8 0), (.int .u8 0), (.int .u8 0), (.int .u8 0), (.int .u8 0), (.int .u8 0), (.int .u8 0), (.int .u8 0), (.int .u8 0), (.int .u8 0), (.int .u8 0), (.int .u8 0), (.int .u8 0), (.int .u8 0), (.int .u8 0), (.int .u8 0), (.int .u8 0), (.int .u8 0), (.int .u8 0), (.int .u8 0), (.int .u8 0), (.int .u8 0), (.int .u8 0), (.int .u8 0), (.int .u8 0), (.int .u8 0), (.int .u8 0), (.int .u8 0), (.int .u8 0), (.int .u8 0), (.int .u8 0), (.int .u8 0), (.int .u8 0), (.int .u8 0), (.int .u8 0)])) := by kernel_rfl
theorem inf144 : (Go.Proofs.Tryd.prog.info? 144).map (fun i => (i.size, i.bytes, i.zero)) = some (2, 2, some (.agg #[(.int .u8 0), (.int .u8 0)])) := by kernel_rfl
theorem inf145 : (Go.Proofs.Tryd.prog.info? 145).map (fun i => (i.size, i.bytes, i.zero)) = some (2, 2, some (.agg #[(.int .u8 0), (.int .u8 0)])) := by kernel_rfl
theorem inf146 : (Go.Proofs.Tryd.prog.info? 146).map (fun i => (i.size, i.bytes, i.zero)) = some (32, 32, some (.agg #[(.int .u8 0), (.int .u8 0), (.int .u8 0), (.int .u8 0), (.int .u8 0), (.int .u8 0), (.int .u8 0), (.int .u8 0), (.int .u8 0), (.int .u8 0), (.int .u8 0), (.int .u8 0), (.int .u8 0), (.int .u8 0), (.int .u8 0), (.int .u8 0), (.int .u8 0), (.int .u8 0), (.int .u8 0), (.int .u8 0), (.int .u8 0), (.int .u8 0), (.int .u8 0), (.int .u8 0), (.int .u8 0), (.int .u8 0), (.int .u8 0), (.int .u8 0), (.int .u8 0), (.int .u8 0), (.int .u8 0), (.int .u8 0)])) := by kernel_rfl
theorem inf147 : (Go.Proofs.Tryd.prog.info? 147).map (fun i => (i.size, i.bytes, i.zero)) = some (1, 8, some .nilFunc) := by kernel_rfl
theorem inf148 : (Go.Proofs.Tryd.prog.info? 148).map (fun i => (i.size, i.bytes, i.zero)) = some (1, 8, some .nilFunc) := by kernel_rfl
theorem inf149 : (Go.Proofs.Tryd.prog.info? 149).map (fun i => (i.size, i.bytes, i.zero)) = some (1, 8, some .nilFunc) := by kernel_rfl
theorem inf150 : (Go.Proofs.Tryd.prog.info? 150).map (fun i => (i.size, i.bytes, i.zero)) = some (4, 40, some (.agg #[(.pointer none), (.pointer none), (.pointer none), (.string ⟨⟨[]⟩⟩)])) := by kernel_rfl
theorem inf151 : (Go.Proofs.Tryd.prog.info? 151).map (fun i => (i.size, i.bytes, i.zero)) = some (4, 40, some (.agg #[(.pointer none), (.pointer none), (.pointer none), (.string ⟨⟨[]⟩⟩)])) := by kernel_rfl
theorem inf152 : (Go.Proofs.Tryd.prog.info? 152).map (fun i => (i.size, i.bytes, i.zero)) = some (0, 0, some (.agg #[])) := by kernel_rfl
theorem inf153 : (Go.Proofs.Tryd.prog.info? 153).map (fun i => (i.size, i.bytes, i.zero)) = some (0, 0, some (.agg #[])) := by kernel_rfl
theorem inf154 : (Go.Proofs.Tryd.prog.info? 154).map (fun i => (i.size, i.bytes, i.zero)) = some (0, 0, some (.agg #[])) := by kernel_rfl
theorem inf155 : (Go.Proofs.Tryd.prog.info? 155).map (fun i => (i.size, i.bytes, i.zero)) = some (1, 1, some (.int .u8 0)) := by kernel_rfl
theorem inf156 : (Go.Proofs.Tryd.prog.info? 156).map (fun i => (i.size, i.bytes, i.zero)) = some (1, 1, some (.int .u8 0)) := by kernel_rfl
theorem inf157 : (Go.Proofs.Tryd.prog.info? 157).map (fun i => (i.size, i.bytes, i.zero)) = some (1, 8, some .nilFunc) := by kernel_rfl
theorem inf158 : (Go.Proofs.Tryd.prog.info? 158).map (fun i => (i.size, i.bytes, i.zero)) = some (1, 4, some (.int .i32 0)) := by kernel_rfl
theorem inf159 : (Go.Proofs.Tryd.prog.info? 159).map (fun i => (i.size, i.bytes, i.zero)) = some (1, 4, some (.int .i32 0)) := by kernel_rfl
theorem inf160 : (Go.Proofs.Tryd.prog.info? 160).map (fun i => (i.size, i.bytes, i.zero)) = some (11, 48, some (.agg #[(.int .u64 0), (.int .u64 0), (.int .u32 0), (.int .u8 0), (.int .u8 0), (.int .u8 0), (.int .u8 0), .nilFunc, (.pointer none), (.int .i32 0), (.int .i32 0)])) := by kernel_rfl
theorem inf161 : (Go.Proofs.Tryd.prog.info? 161).map (fun i => (i.size, i.bytes, i.zero)) = some (11, 48, some (.agg #[(.int .u64 0), (.int .u64 0), (.int .u32 0), (.int .u8 0), (.int .u8 0), (.int .u8 0), (.int .u8 0), .nilFunc, (.pointer none), (.int .i32 0), (.int .i32 0)])) := by kernel_rfl
def infL : List (Option (Nat × Nat × Value)) := [
  some (1, 0, (.tuple #[])),
  some (1, 8, .nilFunc),
  some (1, 8, (.int .i64 0)),
  some (1, 8, (.int .i64 0)),
  some (1, 1, (.bool false)),
  some (1, 1, (.int .u8 0)),
  some (1, 1, (.int .u8 0)),
  some (4, 24, (.agg #[(.int .i64 0), (.int .i64 0), (.bool false), (.int .u8 0)])),
  some (4, 24, (.agg #[(.int .i64 0), (.int .i64 0), (.bool false), (.int .u8 0)])),
  some (1, 16, (.string ⟨⟨[]⟩⟩)),
  some (1, 16, (.string ⟨⟨[]⟩⟩)),
  some (1, 16, (.string ⟨⟨[]⟩⟩)),
  some (1, 8, (.int .u64 0)),
  some (2, 24, (.agg #[(.string ⟨⟨[]⟩⟩), (.int .u64 0)])),
  some (2, 24, (.agg #[(.string ⟨⟨[]⟩⟩), (.int .u64 0)])),
  some (1, 8, (.pointer none)),
  some (1, 8, (.pointer none)),
  some (1, 8, (.pointer none)),
  some (1, 8, (.agg #[(.pointer none)])),
  some (1, 8, (.agg #[(.pointer none)])),
  some (1, 16, .nilIface),
  some (1, 4, (.int .i32 0)),
  some (1, 8, (.pointer none)),
  some (1, 8, .nilFunc),
  some (1, 8, (.pointer none)),
  some (1, 8, .nilFunc),
  some (1, 8, (.pointer none)),
  some (1, 8, (.int .i64 0)),
  some (1, 0, (.tuple #[(.pointer none), (.int .i64 0)])),
  some (1, 8, .nilFunc),
  some (1, 8, .nilFunc),
  some (1, 8, .nilFunc),
  some (1, 8, .nilFunc),
  some (1, 4, (.int .u32 0)),
  some (1, 8, .nilFunc),
  some (1, 8, .nilFunc),
  some (1, 0, (.tuple #[(.string ⟨⟨[]⟩⟩), (.int .i64 0)])),
  some (1, 8, .nilFunc),
  some (1, 8, .nilFunc),
  some (1, 24, (.slice none 0 0)),
  some (1, 0, (.tuple #[(.int .u32 0), (.slice none 0 0), (.int .i64 0)])),
  some (1, 8, .nilFunc),
  some (6, 40, (.agg #[(.pointer none), (.int .i64 0), (.int .i64 0), (.int .i64 0), (.bool false), (.bool false)])),
  some (6, 40, (.agg #[(.pointer none), (.int .i64 0), (.int .i64 0), (.int .i64 0), (.bool false), (.bool false)])),
  some (1, 8, .nilFunc),
  some (1, 8, .nilFunc),
  some (1, 24, (.slice none 0 0)),
  some (1, 2, (.int .u16 0)),
  some (1, 24, (.slice none 0 0)),
  some (1, 8, .nilFunc),
  some (1, 8, .nilFunc),
  some (1, 24, (.slice none 0 0)),
  some (5, 48, (.agg #[(.int .u8 0), (.string ⟨⟨[]⟩⟩), (.int .u32 0), (.int .i64 0), (.int .i64 0)])),
  some (5, 48, (.agg #[(.int .u8 0), (.string ⟨⟨[]⟩⟩), (.int .u32 0), (.int .i64 0), (.int .i64 0)])),
  some (1, 8, .nilFunc),
  some (1, 8, .nilFunc),
  some (1, 8, .nilFunc),
  some (1, 8, .nilFunc),
  some (1, 24, (.slice none 0 0)),
  some (1, 24, (.agg #[(.slice none 0 0)])),
  some (1, 24, (.agg #[(.slice none 0 0)])),
  some (1, 8, .nilFunc),
  some (5, 56, (.agg #[(.pointer none), (.int .i64 0), (.slice none 0 0), (.int .i64 0), (.bool false)])),
  some (5, 56, (.agg #[(.pointer none), (.int .i64 0), (.slice none 0 0), (.int .i64 0), (.bool false)])),
  some (1, 8, .nilFunc),
  some (1, 8, (.int .u64 0)),
  some (1, 0, (.tuple #[(.int .u64 0), (.int .u64 0)])),
  some (1, 8, .nilFunc),
  some (1, 8, .nilFunc),
  some (1, 8, (.pointer none)),
  some (1, 24, (.slice none 0 0)),
  some (2, 32, (.agg #[(.pointer none), (.slice none 0 0)])),
  some (2, 32, (.agg #[(.pointer none), (.slice none 0 0)])),
  some (1, 8, .nilFunc),
  some (1, 16, .nilIface),
  some (1, 16, .nilIface),
  some (1, 0, (.tuple #[(.int .i64 0), .nilIface])),
  some (1, 8, .nilFunc),
  some (1, 8, .nilFunc),
  some (1, 8, .nilFunc),
  some (1, 8, .nilFunc),
  some (1, 8, .nilFunc),
  some (1, 8, .nilFunc),
  some (1, 8, (.pointer none)),
  some (1, 0, (.tuple #[(.pointer none), (.int .i64 0)])),
  some (1, 8, .nilFunc),
  some (64, 64, (.agg #[(.int .u8 0), (.int .u8 0), (.int .u8 0), (.int .u8 0), (.int .u8 0), (.int .u8 0), (.int .u8 0), (.int .u8 0), (.int .u8 0), (.int .u8 0), (.int .u8 0), (.int .u8 0), (.int .u8 0), (.int .u8 0), (.int .u8 0), (.int .u8 0), (.int .u8 0), (.int .u8 0), (.int .u8 0), (.int .u8 0), (.int .u8 0), (.int .u8 0), (.int .u8 0), (.int .u8 0), (.int .u8 0), (.int .u8 0), (.int .u8 0), (.int .u8 0), (.int .u8 0), (.int .u8 0), (.int .u8 0), (.int .u8 0), (.int .u8 0), (.int .u8 0), (.int .u8 0), (.int .u8 0), (.int .u8 0), (.int .u8 0), (.int .u8 0), (.int .u8 0), (.int .u8 0), (.int .u8 0), (.int .u8 0), (.int .u8 0), (.int .u8 0), (.int .u8 0), (.int .u8 0), (.int .u8 0), (.int .u8 0), (.int .u8 0), (.int .u8 0), (.int .u8 0), (.int .u8 0), (.int .u8 0), (.int .u8 0), (.int .u8 0), (.int .u8 0), (.int .u8 0), (.int .u8 0), (.int .u8 0), (.int .u8 0), (.int .u8 0), (.int .u8 0), (.int .u8 0)])),
  some (64, 64, (.agg #[(.int .u8 0), (.int .u8 0), (.int .u8 0), (.int .u8 0), (.int .u8 0), (.int .u8 0), (.int .u8 0), (.int .u8 0), (.int .u8 0), (.int .u8 0), (.int .u8 0), (.int .u8 0), (.int .u8 0), (.int .u8 0), (.int .u8 0), (.int .u8 0), (.int .u8 0), (.int .u8 0), (.int .u8 0), (.int .u8 0), (.int .u8 0), (.int .u8 0), (.int .u8 0), (.int .u8 0), (.int .u8 0), (.int .u8 0), (.int .u8 0), (.int .u8 0), (.int .u8 0), (.int .u8 0), (.int .u8 0), (.int .u8 0), (.int .u8 0), (.int .u8 0), (.int .u8 0), (.int .u8 0), (.int .u8 0), (.int .u8 0), (.int .u8 0), (.int .u8 0), (.int .u8 0), (.int .u8 0), (.int .u8 0), (.int .u8 0), (.int .u8 0), (.int .u8 0), (.int .u8 0), (.int .u8 0), (.int .u8 0), (.int .u8 0), (.int .u8 0), (.int .u8 0), (.int .u8 0), (.int .u8 0), (.int .u8 0), (.int .u8 0), (.int .u8 0), (.int .u8 0), (.int .u8 0), (.int .u8 0), (.int .u8 0), (.int .u8 0), (.int .u8 0), (.int .u8 0)])),
  some (129, 129, (.agg #[(.int .u8 0), (.int .u8 0), (.int .u8 0), (.int .u8 0), (.int .u8 0), (.int .u8 0), (.int .u8 0), (.int .u8 0), (.int .u8 0), (.int .u8 0), (.int .u8 0), (.int .u8 0), (.int .u8 0), (.int .u8 0), (.int .u8 0), (.int .u8 0), (.int .u8 0), (.int .u8 0), (.int .u8 0), (.int .u8 0), (.int .u8 0), (.int .u8 0), (.int .u8 0), (.int .u8 0), (.int .u8 0), (.int .u8 0), (.int .u8 0), (.int .u8 0), (.int .u8 0), (.int .u8 0), (.int .u8 0), (.int .u8 0), (.int .u8 0), (.int .u8 0), (.int .u8 0), (.int .u8 0), (.int .u8 0), (.int .u8 0), (.int .u8 0), (.int .u8 0), (.int .u8 0), (.int .u8 0), (.int .u8 0), (.int .u8 0), (.int .u8 0), (.int .u8 0), (.int .u8 0), (.int .u8 0), (.int .u8 0), (.int .u8 0), (.int .u8 0), (.int .u8 0), (.int .u8 0), (.int .u8 0), (.int .u8 0), (.int .u8 0), (.int .u8 0), (.int .u8 0), (.int .u8 0), (.int .u8 0), (.int .u8 0), (.int .u8 0), (.int .u8 0), (.int .u8 0), (.int .u8 0), (.int .u8 0), (.int .u8 0), (.int .u8 0), (.int .u8 0), (.int .u8 0), (.int .u8 0), (.int .u8 0), (.int .u8 0), (.int .u8 0), (.int .u8 0), (.int .u8 0), (.int .u8 0), (.int .u8 0), (.int .u8 0), (.int .u8 0), (.int .u8 0), (.int .u8 0), (.int .u8 0), (.int .u8 0), (.int .u8 0), (.int .u8 0), (.int .u8 0), (.int .u8 0), (.int .u8 0), (.int .u8 0), (.int .u8 0), (.int .u8 0), (.int .u8 0), (.int .u8 0), (.int .u8 0), (.int .u8 0), (.int .u8 0), (.int .u8 0), (.int .u8 0), (.int .u8 0), (.int .u8 0), (.int .u8 0), (.int .u8 0), (.int .u8 0), (.int .u8 0), (.int .u8 0), (.int .u8 0), (.int .u8 0), (.int .u8 0), (.int .u8 0), (.int .u8 0), (.int .u8 0), (.int .u8 0), (.int .u8 0), (.int .u8 0), (.int .u8 0), (.int .u8 0), (.int .u8 0), (.int .u8 0), (.int .u8 0), (.int .u8 0), (.int .u8 0), (.int .u8 0), (.int .u8 0), (.int .u8 0), (.int .u8 0), (.int .u8 0), (.int .u8 0), (.bool false)])),
  some (129, 129, (.agg #[(.int .u8 0), (.int .u8 0), (.int .u8 0), (.int .u8 0), (.int .u8 0), (.int .u8 0), (.int .u8 0), (.int .u8 0), (.int .u8 0), (.int .u8 0), (.int .u8 0), (.int .u8 0), (.int .u8 0), (.int .u8 0), (.int .u8 0), (.int .u8 0), (.int .u8 0), (.int .u8 0), (.int .u8 0), (.int .u8 0), (.int .u8 0), (.int .u8 0), (.int .u8 0), (.int .u8 0), (.int .u8 0), (.int .u8 0), (.int .u8 0), (.int .u8 0), (.int .u8 0), (.int .u8 0), (.int .u8 0), (.int .u8 0), (.int .u8 0), (.int .u8 0), (.int .u8 0), (.int .u8 0), (.int .u8 0), (.int .u8 0), (.int .u8 0), (.int .u8 0), (.int .u8 0), (.int .u8 0), (.int .u8 0), (.int .u8 0), (.int .u8 0), (.int .u8 0), (.int .u8 0), (.int .u8 0), (.int .u8 0), (.int .u8 0), (.int .u8 0), (.int .u8 0), (.int .u8 0), (.int .u8 0), (.int .u8 0), (.int .u8 0), (.int .u8 0), (.int .u8 0), (.int .u8 0), (.int .u8 0), (.int .u8 0), (.int .u8 0), (.int .u8 0), (.int .u8 0), (.int .u8 0), (.int .u8 0), (.int .u8 0), (.int .u8 0), (.int .u8 0), (.int .u8 0), (.int .u8 0), (.int .u8 0), (.int .u8 0), (.int .u8 0), (.int .u8 0), (.int .u8 0), (.int .u8 0), (.int .u8 0), (.int .u8 0), (.int .u8 0), (.int .u8 0), (.int .u8 0), (.int .u8 0), (.int .u8 0), (.int .u8 0), (.int .u8 0), (.int .u8 0), (.int .u8 0), (.int .u8 0), (.int .u8 0), (.int .u8 0), (.int .u8 0), (.int .u8 0), (.int .u8 0), (.int .u8 0), (.int .u8 0), (.int .u8 0), (.int .u8 0), (.int .u8 0), (.int .u8 0), (.int .u8 0), (.int .u8 0), (.int .u8 0), (.int .u8 0), (.int .u8 0), (.int .u8 0), (.int .u8 0), (.int .u8 0), (.int .u8 0), (.int .u8 0), (.int .u8 0), (.int .u8 0), (.int .u8 0), (.int .u8 0), (.int .u8 0), (.int .u8 0), (.int .u8 0), (.int .u8 0), (.int .u8 0), (.int .u8 0), (.int .u8 0), (.int .u8 0), (.int .u8 0), (.int .u8 0), (.int .u8 0), (.int .u8 0), (.int .u8 0), (.int .u8 0), (.bool false)])),
  some (1, 24, (.agg #[(.slice none 0 0)])),
  some (1, 24, (.agg #[(.slice none 0 0)])),
  some (1, 8, .nilFunc),
  some (1, 8, .nilFunc),
  some (1, 8, .nilFunc),
  some (1, 8, .nilFunc),
  some (1, 0, (.tuple #[(.string ⟨⟨[]⟩⟩), (.bool false), (.bool false)])),
  some (1, 8, .nilFunc),
  some (1, 8, .nilFunc),
  some (1, 8, .nilFunc),
  some (1, 8, .nilFunc),
  some (1, 0, (.tuple #[(.int .u32 0), (.int .u32 0)])),
  some (1, 8, .nilFunc),
  some (1, 8, (.int .u64 0)),
  some (1, 0, (.tuple #[(.int .u64 0), (.int .u64 0)])),
  some (1, 8, .nilFunc),
  some (1, 8, (.pointer none)),
  some (1, 8, .nilFunc),
  some (1, 8, .nilFunc),
  some (1, 8, .nilFunc),
  some (1, 8, (.pointer none)),
  some (1, 8, .nilFunc),
  some (1, 8, .nilFunc),
  some (1, 8, (.pointer none)),
  some (1, 8, .nilFunc),
  some (1, 8, .nilFunc),
  some (1, 8, .nilFunc),
  some (1, 8, .nilFunc),
  some (1, 8, .nilFunc),
  some (1, 8, .nilFunc),
  some (1, 8, (.pointer none)),
  some (1, 8, .nilFunc),
  some (1, 8, .nilFunc),
  some (1, 8, .nilFunc),
  some (1, 8, .nilFunc),
  some (2, 24, (.agg #[(.string ⟨⟨[]⟩⟩), (.int .i64 0)])),
  some (2, 24, (.agg #[(.string ⟨⟨[]⟩⟩), (.int .i64 0)])),
  some (1, 8, .nilFunc),
  some (1, 8, .nilFunc),
  some (1, 8, .nilFunc),
  some (256, 256, (.agg #[(.bool false), (.bool false), (.bool false), (.bool false), (.bool false), (.bool false), (.bool false), (.bool false), (.bool false), (.bool false), (.bool false), (.bool false), (.bool false), (.bool false), (.bool false), (.bool false), (.bool false), (.bool false), (.bool false), (.bool false), (.bool false), (.bool false), (.bool false), (.bool false), (.bool false), (.bool false), (.bool false), (.bool false), (.bool false), (.bool false), (.bool false), (.bool false), (.bool false), (.bool false), (.bool false), (.bool false), (.bool false), (.bool false), (.bool false), (.bool false), (.bool false), (.bool false), (.bool false), (.bool false), (.bool false), (.bool false), (.bool false), (.bool false), (.bool false), (.bool false), (.bool false), (.bool false), (.bool false), (.bool false), (.bool false), (.bool false), (.bool false), (.bool false), (.bool false), (.bool false), (.bool false), (.bool false), (.bool false), (.bool false), (.bool false), (.bool false), (.bool false), (.bool false), (.bool false), (.bool false), (.bool false), (.bool false), (.bool false), (.bool false), (.bool false), (.bool false), (.bool false), (.bool false), (.bool false), (.bool false), (.bool false), (.bool false), (.bool false), (.bool false), (.bool false), (.bool false), (.bool false), (.bool false), (.bool false), (.bool false), (.bool false), (.bool false), (.bool false), (.bool false), (.bool false), (.bool false), (.bool false), (.bool false), (.bool false), (.bool false), (.bool false), (.bool false), (.bool false), (.bool false), (.bool false), (.bool false), (.bool false), (.bool false), (.bool false), (.bool false), (.bool false), (.bool false), (.bool false), (.bool false), (.bool false), (.bool false), (.bool false), (.bool false), (.bool false), (.bool false), (.bool false), (.bool false), (.bool false), (.bool false), (.bool false), (.bool false), (.bool false), (.bool false), (.bool false), (.bool false), (.bool false), (.bool false), (.bool false), (.bool false), (.bool false), (.bool false), (.bool false), (.bool false), (.bool false), (.bool false), (.bool false), (.bool false), (.bool false), (.bool false), (.bool false), (.bool false), (.bool false), (.bool false), (.bool false), (.bool false), (.bool false), (.bool false), (.bool false), (.bool false), (.bool false), (.bool false), (.bool false), (.bool false), (.bool false), (.bool false), (.bool false), (.bool false), (.bool false), (.bool false), (.bool false), (.bool false), (.bool false), (.bool false), (.bool false), (.bool false), (.bool false), (.bool false), (.bool false), (.bool false), (.bool false), (.bool false), (.bool false), (.bool false), (.bool false), (.bool false), (.bool false), (.bool false), (.bool false), (.bool false), (.bool false), (.bool false), (.bool false), (.bool false), (.bool false), (.bool false), (.bool false), (.bool false), (.bool false), (.bool false), (.bool false), (.bool false), (.bool false), (.bool false), (.bool false), (.bool false), (.bool false), (.bool false), (.bool false), (.bool false), (.bool false), (.bool false), (.bool false), (.bool false), (.bool false), (.bool false), (.bool false), (.bool false), (.bool false), (.bool false), (.bool false), (.bool false), (.bool false), (.bool false), (.bool false), (.bool false), (.bool false), (.bool false), (.bool false), (.bool false), (.bool false), (.bool false), (.bool false), (.bool false), (.bool false), (.bool false), (.bool false), (.bool false), (.bool false), (.bool false), (.bool false), (.bool false), (.bool false), (.bool false), (.bool false), (.bool false), (.bool false), (.bool false), (.bool false), (.bool false), (.bool false), (.bool false), (.bool false), (.bool false), (.bool false), (.bool false), (.bool false), (.bool false), (.bool false), (.bool false), (.bool false), (.bool false)])),
  some (256, 256, (.agg #[(.bool false), (.bool false), (.bool false), (.bool false), (.bool false), (.bool false), (.bool false), (.bool false), (.bool false), (.bool false), (.bool false), (.bool false), (.bool false), (.bool false), (.bool false), (.bool false), (.bool false), (.bool false), (.bool false), (.bool false), (.bool false), (.bool false), (.bool false), (.bool false), (.bool false), (.bool false), (.bool false), (.bool false), (.bool false), (.bool false), (.bool false), (.bool false), (.bool false), (.bool false), (.bool false), (.bool false), (.bool false), (.bool false), (.bool false), (.bool false), (.bool false), (.bool false), (.bool false), (.bool false), (.bool false), (.bool false), (.bool false), (.bool false), (.bool false), (.bool false), (.bool false), (.bool false), (.bool false), (.bool false), (.bool false), (.bool false), (.bool false), (.bool false), (.bool false), (.bool false), (.bool false), (.bool false), (.bool false), (.bool false), (.bool false), (.bool false), (.bool false), (.bool false), (.bool false), (.bool false), (.bool false), (.bool false), (.bool false), (.bool false), (.bool false), (.bool false), (.bool false), (.bool false), (.bool false), (.bool false), (.bool false), (.bool false), (.bool false), (.bool false), (.bool false), (.bool false), (.bool false), (.bool false), (.bool false), (.bool false), (.bool false), (.bool false), (.bool false), (.bool false), (.bool false), (.bool false), (.bool false), (.bool false), (.bool false), (.bool false), (.bool false), (.bool false), (.bool false), (.bool false), (.bool false), (.bool false), (.bool false), (.bool false), (.bool false), (.bool false), (.bool false), (.bool false), (.bool false), (.bool false), (.bool false), (.bool false), (.bool false), (.bool false), (.bool false), (.bool false), (.bool false), (.bool false), (.bool false), (.bool false), (.bool false), (.bool false), (.bool false), (.bool false), (.bool false), (.bool false), (.bool false), (.bool false), (.bool false), (.bool false), (.bool false), (.bool false), (.bool false), (.bool false), (.bool false), (.bool false), (.bool false), (.bool false), (.bool false), (.bool false), (.bool false), (.bool false), (.bool false), (.bool false), (.bool false), (.bool false), (.bool false), (.bool false), (.bool false), (.bool false), (.bool false), (.bool false), (.bool false), (.bool false), (.bool false), (.bool false), (.bool false), (.bool false), (.bool false), (.bool false), (.bool false), (.bool false), (.bool false), (.bool false), (.bool false), (.bool false), (.bool false), (.bool false), (.bool false), (.bool false), (.bool false), (.bool false), (.bool false), (.bool false), (.bool false), (.bool false), (.bool false), (.bool false), (.bool false), (.bool false), (.bool false), (.bool false), (.bool false), (.bool false), (.bool false), (.bool false), (.bool false), (.bool false), (.bool false), (.bool false), (.bool false), (.bool false), (.bool false), (.bool false), (.bool false), (.bool false), (.bool false), (.bool false), (.bool false), (.bool false), (.bool false), (.bool false), (.bool false), (.bool false), (.bool false), (.bool false), (.bool false), (.bool false), (.bool false), (.bool false), (.bool false), (.bool false), (.bool false), (.bool false), (.bool false), (.bool false), (.bool false), (.bool false), (.bool false), (.bool false), (.bool false), (.bool false), (.bool false), (.bool false), (.bool false), (.bool false), (.bool false), (.bool false), (.bool false), (.bool false), (.bool false), (.bool false), (.bool false), (.bool false), (.bool false), (.bool false), (.bool false), (.bool false), (.bool false), (.bool false), (.bool false), (.bool false), (.bool false), (.bool false), (.bool false), (.bool false), (.bool false), (.bool false), (.bool false), (.bool false), (.bool false), (.bool false)])),
  some (1, 0, (.tuple #[(.agg #[(.bool false), (.bool false), (.bool false), (.bool false), (.bool false), (.bool false), (.bool false), (.bool false), (.bool false), (.bool false), (.bool false), (.bool false), (.bool false), (.bool false), (.bool false), (.bool false), (.bool false), (.bool false), (.bool false), (.bool false), (.bool false), (.bool false), (.bool false), (.bool false), (.bool false), (.bool false), (.bool false), (.bool false), (.bool false), (.bool false), (.bool false), (.bool false), (.bool false), (.bool false), (.bool false), (.bool false), (.bool false), (.bool false), (.bool false), (.bool false), (.bool false), (.bool false), (.bool false), (.bool false), (.bool false), (.bool false), (.bool false), (.bool false), (.bool false), (.bool false), (.bool false), (.bool false), (.bool false), (.bool false), (.bool false), (.bool false), (.bool false), (.bool false), (.bool false), (.bool false), (.bool false), (.bool false), (.bool false), (.bool false), (.bool false), (.bool false), (.bool false), (.bool false), (.bool false), (.bool false), (.bool false), (.bool false), (.bool false), (.bool false), (.bool false), (.bool false), (.bool false), (.bool false), (.bool false), (.bool false), (.bool false), (.bool false), (.bool false), (.bool false), (.bool false), (.bool false), (.bool false), (.bool false), (.bool false), (.bool false), (.bool false), (.bool false), (.bool false), (.bool false), (.bool false), (.bool false), (.bool false), (.bool false), (.bool false), (.bool false), (.bool false), (.bool false), (.bool false), (.bool false), (.bool false), (.bool false), (.bool false), (.bool false), (.bool false), (.bool false), (.bool false), (.bool false), (.bool false), (.bool false), (.bool false), (.bool false), (.bool false), (.bool false), (.bool false), (.bool false), (.bool false), (.bool false), (.bool false), (.bool false), (.bool false), (.bool false), (.bool false), (.bool false), (.bool false), (.bool false), (.bool false), (.bool false), (.bool false), (.bool false), (.bool false), (.bool false), (.bool false), (.bool false), (.bool false), (.bool false), (.bool false), (.bool false), (.bool false), (.bool false), (.bool false), (.bool false), (.bool false), (.bool false), (.bool false), (.bool false), (.bool false), (.bool false), (.bool false), (.bool false), (.bool false), (.bool false), (.bool false), (.bool false), (.bool false), (.bool false), (.bool false), (.bool false), (.bool false), (.bool false), (.bool false), (.bool false), (.bool false), (.bool false), (.bool false), (.bool false), (.bool false), (.bool false), (.bool false), (.bool false), (.bool false), (.bool false), (.bool false), (.bool false), (.bool false), (.bool false), (.bool false), (.bool false), (.bool false), (.bool false), (.bool false), (.bool false), (.bool false), (.bool false), (.bool false), (.bool false), (.bool false), (.bool false), (.bool false), (.bool false), (.bool false), (.bool false), (.bool false), (.bool false), (.bool false), (.bool false), (.bool false), (.bool false), (.bool false), (.bool false), (.bool false), (.bool false), (.bool false), (.bool false), (.bool false), (.bool false), (.bool false), (.bool false), (.bool false), (.bool false), (.bool false), (.bool false), (.bool false), (.bool false), (.bool false), (.bool false), (.bool false), (.bool false), (.bool false), (.bool false), (.bool false), (.bool false), (.bool false), (.bool false), (.bool false), (.bool false), (.bool false), (.bool false), (.bool false), (.bool false), (.bool false), (.bool false), (.bool false), (.bool false), (.bool false), (.bool false), (.bool false), (.bool false), (.bool false), (.bool false), (.bool false), (.bool false), (.bool false), (.bool false), (.bool false), (.bool false), (.bool false), (.bool false), (.bool false), (.bool false), (.bool false), (.bool false)]), (.bool false)])),
  some (1, 8, .nilFunc),
  some (1, 8, .nilFunc),
  some (1, 8, (.pointer none)),
  some (1, 8, .nilFunc),
  some (1, 8, .nilFunc),
  some (1, 8, .nilFunc),
  some (1, 0, (.tuple #[(.int .i32 0), (.int .i64 0)])),
  some (1, 8, .nilFunc),
  some (1, 8, .nilFunc),
  some (1, 8, .nilFunc),
  some (256, 256, (.agg #[(.int .u8 0), (.int .u8 0), (.int .u8 0), (.int .u8 0), (.int .u8 0), (.int .u8 0), (.int .u8 0), (.int .u8 0), (.int .u8 0), (.int .u8 0), (.int .u8 0), (.int .u8 0), (.int .u8 0), (.int .u8 0), (.int .u8 0), (.int .u8 0), (.int .u8 0), (.int .u8 0), (.int .u8 0), (.int .u8 0), (.int .u8 0), (.int .u8 0), (.int .u8 0), (.int .u8 0), (.int .u8 0), (.int .u8 0), (.int .u8 0), (.int .u8 0), (.int .u8 0), (.int .u8 0), (.int .u8 0), (.int .u8 0), (.int .u8 0), (.int .u8 0), (.int .u8 0), (.int .u8 0), (.int .u8 0), (.int .u8 0), (.int .u8 0), (.int .u8 0), (.int .u8 0), (.int .u8 0), (.int .u8 0), (.int .u8 0), (.int .u8 0), (.int .u8 0), (.int .u8 0), (.int .u8 0), (.int .u8 0), (.int .u8 0), (.int .u8 0), (.int .u8 0), (.int .u8 0), (.int .u8 0), (.int .u8 0), (.int .u8 0), (.int .u8 0), (.int .u8 0), (.int .u8 0), (.int .u8 0), (.int .u8 0), (.int .u8 0), (.int .u8 0), (.int .u8 0), (.int .u8 0), (.int .u8 0), (.int .u8 0), (.int .u8 0), (.int .u8 0), (.int .u8 0), (.int .u8 0), (.int .u8 0), (.int .u8 0), (.int .u8 0), (.int .u8 0), (.int .u8 0), (.int .u8 0), (.int .u8 0), (.int .u8 0), (.int .u8 0), (.int .u8 0), (.int .u8 0), (.int .u8 0), (.int .u8 0), (.int .u8 0), (.int .u8 0), (.int .u8 0), (.int .u8 0), (.int .u8 0), (.int .u8 0), (.int .u8 0), (.int .u8 0), (.int .u8 0), (.int .u8 0), (.int .u8 0), (.int .u8 0), (.int .u8 0), (.int .u8 0), (.int .u8 0), (.int .u8 0), (.int .u8 0), (.int .u8 0), (.int .u8 0), (.int .u8 0), (.int .u8 0), (.int .u8 0), (.int .u8 0), (.int .u8 0), (.int .u8 0), (.int .u8 0), (.int .u8 0), (.int .u8 0), (.int .u8 0), (.int .u8 0), (.int .u8 0), (.int .u8 0), (.int .u8 0), (.int .u8 0), (.int .u8 0), (.int .u8 0), (.int .u8 0), (.int .u8 0), (.int .u8 0), (.int .u8 0), (.int .u8 0), (.int .u8 0), (.int .u8 0), (.int .u8 0), (.int .u8 0), (.int .u8 0), (.int .u8 0), (.int .u8 0), (.int .u8 0), (.int .u8 0), (.int .u8 0), (.int .u8 0), (.int .u8 0), (.int .u8 0), (.int .u8 0), (.int .u8 0), (.int .u8 0), (.int .u8 0), (.int .u8 0), (.int .u8 0), (.int .u8 0), (.int .u8 0), (.int .u8 0), (.int .u8 0), (.int .u8 0), (.int .u8 0), (.int .u8 0), (.int .u8 0), (.int .u8 0), (.int .u8 0), (.int .u8 0), (.int .u8 0), (.int .u8 0), (.int .u8 0), (.int .u8 0), (.int .u8 0), (.int .u8 0), (.int .u8 0), (.int .u8 0), (.int .u8 0), (.int .u8 0), (.int .u8 0), (.int .u8 0), (.int .u8 0), (.int .u8 0), (.int .u8 0), (.int .u8 0), (.int .u8 0), (.int .u8 0), (.int .u8 0), (.int .u8 0), (.int .u8 0), (.int .u8 0), (.int .u8 0), (.int .u8 0), (.int .u8 0), (.int .u8 0), (.int .u8 0), (.int .u8 0), (.int .u8 0), (.int .u8 0), (.int .u8 0), (.int .u8 0), (.int .u8 0), (.int .u8 0), (.int .u8 0), (.int .u8 0), (.int .u8 0), (.int .u8 0), (.int .u8 0), (.int .u8 0), (.int .u8 0), (.int .u8 0), (.int .u8 0), (.int .u8 0), (.int .u8 0), (.int .u8 0), (.int .u8 0), (.int .u8 0), (.int .u8 0), (.int .u8 0), (.int .u8 0), (.int .u8 0), (.int .u8 0), (.int .u8 0), (.int .u8 0), (.int .u8 0), (.int .u8 0), (.int .u8 0), (.int .u8 0), (.int .u8 0), (.int .u8 0), (.int .u8 0), (.int .u8 0), (.int .u8 0), (.int .u8 0), (.int .u8 0), (.int .u8 0), (.int .u8 0), (.int .u8 0), (.int .u8 0), (.int .u8 0), (.int .u8 0), (.int .u8 0), (.int .u8 0), (.int .u8 0), (.int .u8 0), (.int .u8 0), (.int .u8 0), (.int .u8 0), (.int .u8 0), (.int .u8 0), (.int .u8 0), (.int .u8 0), (.int .u8 0), (.int .u8 0), (.int .u8 0), (.int .u8 0), (.int .u8 0), (.int .u8 0), (.int .u8 0), (.int .u8 0), (.int .u8 0), (.int .u8 0), (.int .u8 0), (.int .u8 0), (.int .u8 0), (.int .u8 0), (.int .u8 0), (.int .u8 0), (.int .u8 0), (.int .u8 0)])),
  some (2, 2, (.agg #[(.int .u8 0), (.int .u8 0)])),
  some (2, 2, (.agg #[(.int .u8 0), (.int .u8 0)])),
  some (32, 32, (.agg #[(.int .u8 0), (.int .u8 0), (.int .u8 0), (.int .u8 0), (.int .u8 0), (.int .u8 0), (.int .u8 0), (.int .u8 0), (.int .u8 0), (.int .u8 0), (.int .u8 0), (.int .u8 0), (.int .u8 0), (.int .u8 0), (.int .u8 0), (.int .u8 0), (.int .u8 0), (.int .u8 0), (.int .u8 0), (.int .u8 0), (.int .u8 0), (.int .u8 0), (.int .u8 0), (.int .u8 0), (.int .u8 0), (.int .u8 0), (.int .u8 0), (.int .u8 0), (.int .u8 0), (.int .u8 0), (.int .u8 0), (.int .u8 0)])),
  some (1, 8, .nilFunc),
  some (1, 8, .nilFunc),
  some (1, 8, .nilFunc),
  some (4, 40, (.agg #[(.pointer none), (.pointer none), (.pointer none), (.string ⟨⟨[]⟩⟩)])),
  some (4, 40, (.agg #[(.pointer none), (.pointer none), (.pointer none), (.string ⟨⟨[]⟩⟩)])),
  some (0, 0, (.agg #[])),
  some (0, 0, (.agg #[])),
  some (0, 0, (.agg #[])),
  some (1, 1, (.int .u8 0)),
  some (1, 1, (.int .u8 0)),
  some (1, 8, .nilFunc),
  some (1, 4, (.int .i32 0)),
  some (1, 4, (.int .i32 0)),
  some (11, 48, (.agg #[(.int .u64 0), (.int .u64 0), (.int .u32 0), (.int .u8 0), (.int .u8 0), (.int .u8 0), (.int .u8 0), .nilFunc, (.pointer none), (.int .i32 0), (.int .i32 0)])),
  some (11, 48, (.agg #[(.int .u64 0), (.int .u64 0), (.int .u32 0), (.int .u8 0), (.int .u8 0), (.int .u8 0), (.int .u8 0), .nilFunc, (.pointer none), (.int .i32 0), (.int .i32 0)]))]
theorem undOk : AllU Go.Proofs.Tryd.prog undL 0 := ⟨Go.Proofs.Tryd.underlying0, Go.Proofs.Tryd.underlying1, Go.Proofs.Tryd.underlying2, Go.Proofs.Tryd.underlying3, Go.Proofs.Tryd.underlying4, Go.Proofs.Tryd.underlying5, Go.Proofs.Tryd.underlying6, Go.Proofs.Tryd.underlying7, Go.Proofs.Tryd.underlying8, Go.Proofs.Tryd.underlying9, Go.Proofs.Tryd.underlying10, Go.Proofs.Tryd.underlying11, Go.Proofs.Tryd.underlying12, Go.Proofs.Tryd.underlying13, Go.Proofs.Tryd.underlying14, Go.Proofs.Tryd.underlying15, Go.Proofs.Tryd.underlying16, Go.Proofs.Tryd.underlying17, Go.Proofs.Tryd.underlying18, Go.Proofs.Tryd.underlying19, Go.Proofs.Tryd.underlying20, Go.Proofs.Tryd.underlying21, Go.Proofs.Tryd.underlying22, Go.Proofs.Tryd.underlying23, Go.Proofs.Tryd.underlying24, Go.Proofs.Tryd.underlying25, Go.Proofs.Tryd.underlying26, Go.Proofs.Tryd.underlying27, Go.Proofs.Tryd.underlying28, Go.Proofs.Tryd.underlying29, Go.Proofs.Tryd.underlying30, Go.Proofs.Tryd.underlying31, Go.Proofs.Tryd.underlying32, Go.Proofs.Tryd.underlying33, Go.Proofs.Tryd.underlying34, Go.Proofs.Tryd.underlying35, Go.Proofs.Tryd.underlying36, Go.Proofs.Tryd.underlying37, Go.Proofs.Tryd.underlying38, Go.Proofs.Tryd.underlying39, Go.Proofs.Tryd.underlying40, Go.Proofs.Tryd.underlying41, Go.Proofs.Tryd.underlying42, Go.Proofs.Tryd.underlying43, Go.Proofs.Tryd.underlying44, Go.Proofs.Tryd.underlying45, Go.Proofs.Tryd.underlying46, Go.Proofs.Tryd.underlying47, Go.Proofs.Tryd.underlying48, Go.Proofs.Tryd.underlying49, Go.Proofs.Tryd.underlying50, Go.Proofs.Tryd.underlying51, Go.Proofs.Tryd.underlying52, Go.Proofs.Tryd.underlying53, Go.Proofs.Tryd.underlying54, Go.Proofs.Tryd.underlying55, Go.Proofs.Tryd.underlying56, Go.Proofs.Tryd.underlying57, Go.Proofs.Tryd.underlying58, Go.Proofs.Tryd.underlying59, Go.Proofs.Tryd.underlying60, Go.Proofs.Tryd.underlying61, Go.Proofs.Tryd.underlying62, Go.Proofs.Tryd.underlying63, Go.Proofs.Tryd.underlying64, Go.Proofs.Tryd.underlying65, Go.Proofs.Tryd.underlying66, Go.Proofs.Tryd.underlying67, Go.Proofs.Tryd.underlying68, Go.Proofs.Tryd.underlying69, Go.Proofs.Tryd.underlying70, Go.Proofs.Tryd.underlying71, Go.Proofs.Tryd.underlying72, Go.Proofs.Tryd.underlying73, Go.Proofs.Tryd.underlying74, Go.Proofs.Tryd.underlying75, Go.Proofs.Tryd.underlying76, Go.Proofs.Tryd.underlying77, Go.Proofs.Tryd.underlying78, Go.Proofs.Tryd.underlying79, Go.Proofs.Tryd.underlying80, Go.Proofs.Tryd.underlying81, Go.Proofs.Tryd.underlying82, Go.Proofs.Tryd.underlying83, Go.Proofs.Tryd.underlying84, Go.Proofs.Tryd.underlying85, Go.Proofs.Tryd.underlying86, Go.Proofs.Tryd.underlying87, Go.Proofs.Tryd.underlying88, Go.Proofs.Tryd.underlying89, Go.Proofs.Tryd.underlying90, Go.Proofs.Tryd.underlying91, Go.Proofs.Tryd.underlying92, Go.Proofs.Tryd.underlying93, Go.Proofs.Tryd.underlying94, Go.Proofs.Tryd.underlying95, Go.Proofs.Tryd.underlying96, Go.Proofs.Tryd.underlying97, Go.Proofs.Tryd.underlying98, Go.Proofs.Tryd.underlying99, Go.Proofs.Tryd.underlying100, Go.Proofs.Tryd.underlying101, Go.Proofs.Tryd.underlying102, Go.Proofs.Tryd.underlying103, Go.Proofs.Tryd.underlying104, Go.Proofs.Tryd.underlying105, Go.Proofs.Tryd.underlying106, Go.Proofs.Tryd.underlying107, Go.Proofs.Tryd.underlying108, Go.Proofs.Tryd.underlying109, Go.Proofs.Tryd.underlying110, Go.Proofs.Tryd.underlying111, Go.Proofs.Tryd.underlying112, Go.Proofs.Tryd.underlying113, Go.Proofs.Tryd.underlying114, Go.Proofs.Tryd.underlying115, Go.Proofs.Tryd.underlying116, Go.Proofs.Tryd.underlying117, Go.Proofs.Tryd.underlying118, Go.Proofs.Tryd.underlying119, Go.Proofs.Tryd.underlying120, Go.Proofs.Tryd.underlying121, Go.Proofs.Tryd.underlying122, Go.Proofs.Tryd.underlying123, Go.Proofs.Tryd.underlying124, Go.Proofs.Tryd.underlying125, Go.Proofs.Tryd.underlying126, Go.Proofs.Tryd.underlying127, Go.Proofs.Tryd.underlying128, Go.Proofs.Tryd.underlying129, Go.Proofs.Tryd.underlying130, Go.Proofs.Tryd.underlying131, Go.Proofs.Tryd.underlying132, Go.Proofs.Tryd.underlying133, Go.Proofs.Tryd.underlying134, Go.Proofs.Tryd.underlying135, Go.Proofs.Tryd.underlying136, Go.Proofs.Tryd.underlying137, Go.Proofs.Tryd.underlying138, Go.Proofs.Tryd.underlying139, Go.Proofs.Tryd.underlying140, Go.Proofs.Tryd.underlying141, Go.Proofs.Tryd.underlying142, Go.Proofs.Tryd.underlying143, Go.Proofs.Tryd.underlying144, Go.Proofs.Tryd.underlying145, Go.Proofs.Tryd.underlying146, Go.Proofs.Tryd.underlying147, Go.Proofs.Tryd.underlying148, Go.Proofs.Tryd.underlying149, Go.Proofs.Tryd.underlying150, Go.Proofs.Tryd.underlying151, Go.Proofs.Tryd.underlying152, Go.Proofs.Tryd.underlying153, Go.Proofs.Tryd.underlying154, Go.Proofs.Tryd.underlying155, Go.Proofs.Tryd.underlying156, Go.Proofs.Tryd.underlying157, Go.Proofs.Tryd.underlying158, Go.Proofs.Tryd.underlying159, Go.Proofs.Tryd.underlying160, Go.Proofs.Tryd.underlying161, trivial⟩
theorem infOk : AllI Go.Proofs.Tryd.prog infL 0 := ⟨inf0, inf1, inf2, inf3, inf4, inf5, inf6, inf7, inf8, inf9, inf10, inf11, inf12, inf13, inf14, inf15, inf16, inf17, inf18, inf19, inf20, inf21, inf22, inf23, inf24, inf25, inf26, inf27, inf28, inf29, inf30, inf31, inf32, inf33, inf34, inf35, inf36, inf37, inf38, inf39, inf40, inf41, inf42, inf43, inf44, inf45, inf46, inf47, inf48, inf49, inf50, inf51, inf52, inf53, inf54, inf55, inf56, inf57, inf58, inf59, inf60, inf61, inf62, inf63, inf64, inf65, inf66, inf67, inf68, inf69, inf70, inf71, inf72, inf73, inf74, inf75, inf76, inf77, inf78, inf79, inf80, inf81, inf82, inf83, inf84, inf85, inf86, inf87, inf88, inf89, inf90, inf91, inf92, inf93, inf94, inf95, inf96, inf97, inf98, inf99, inf100, inf101, inf102, inf103, inf104, inf105, inf106, inf107, inf108, inf109, inf110, inf111, inf112, inf113, inf114, inf115, inf116, inf117, inf118, inf119, inf120, inf121, inf122, inf123, inf124, inf125, inf126, inf127, inf128, inf129, inf130, inf131, inf132, inf133, inf134, inf135, inf136, inf137, inf138, inf139, inf140, inf141, inf142, inf143, inf144, inf145, inf146, inf147, inf148, inf149, inf150, inf151, inf152, inf153, inf154, inf155, inf156, inf157, inf158, inf159, inf160, inf161, trivial⟩
instance : Tab Go.Proofs.Tryd.prog where
  und := atL undL
  mix := by kernel_rfl
  inf := atL infL
  hund := fun t d h => by simpa using undOk.get h
  hinf := fun t s b z h => by simpa using infOk.get h
end Go.X
