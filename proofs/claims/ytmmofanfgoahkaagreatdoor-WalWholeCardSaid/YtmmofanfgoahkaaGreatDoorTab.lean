/- The table of the types of the program. Made by mktab.py. -/
import Derived.Test.YtmmofanfgoahkaaGreatDoorProg
import Derived.Test.YtmmofanfgoahkaaGreatDoorWalk
namespace Go.X
open Go
def atL {α : Type} : List (Option α) → Nat → Option α
  | [], _ => none
  | o :: _, 0 => o
  | _ :: l, k + 1 => atL l k
def AllU (P : Program) : List (Option TypeDesc) → Nat → Prop
  | [], _ => True
  | none :: l, k => AllU P l (k + 1)
  | some d :: l, k => P.underlying k = some d ∧ AllU P l (k + 1)
theorem AllU.get {P : Program} : ∀ {l : List (Option TypeDesc)} {k i : Nat} {d : TypeDesc}, AllU P l k → atL l i = some d → P.underlying (k + i) = some d
  | [], k, i, d, _, h => by simp [atL] at h
  | o :: l, k, 0, d, ha, h => by
    simp only [atL] at h; subst h
    exact ha.1
  | o :: l, k, i + 1, d, ha, h => by
    simp only [atL] at h
    have : AllU P l (k + 1) := by cases o with
      | none => exact ha
      | some _ => exact ha.2
    have := AllU.get this h
    rwa [show k + 1 + i = k + (i + 1) by omega] at this
def AllI (P : Program) : List (Option (Nat × Nat × Value)) → Nat → Prop
  | [], _ => True
  | none :: l, k => AllI P l (k + 1)
  | some (s, b, z) :: l, k => (P.info? k).map (fun i => (i.size, i.bytes, i.zero)) = some (s, b, some z) ∧ AllI P l (k + 1)
theorem AllI.get {P : Program} : ∀ {l : List (Option (Nat × Nat × Value))} {k i : Nat} {s b : Nat} {z : Value}, AllI P l k → atL l i = some (s, b, z) → ∃ j, P.info? (k + i) = some j ∧ j.size = s ∧ j.bytes = b ∧ j.zero = some z
  | [], k, i, s, b, z, _, h => by simp [atL] at h
  | o :: l, k, 0, s, b, z, ha, h => by
    simp only [atL] at h; subst h
    have h1 := ha.1
    cases hi : P.info? k with
    | none => rw [hi] at h1; cases h1
    | some j => rw [hi] at h1; simp at h1; exact ⟨j, rfl, h1.1, h1.2.1, h1.2.2⟩
  | o :: l, k, i + 1, s, b, z, ha, h => by
    simp only [atL] at h
    have : AllI P l (k + 1) := by cases o with
      | none => exact ha
      | some x => obtain ⟨s', b', z'⟩ := x; exact ha.2
    have := AllI.get this h
    rwa [show k + 1 + i = k + (i + 1) by omega] at this
def undL : List (Option TypeDesc) := [
  some (Go.TypeDesc.tuple #[]),
  some (Go.TypeDesc.func #[] #[] false),
  some (Go.TypeDesc.int Go.IntKind.i64),
  some (Go.TypeDesc.int Go.IntKind.i64),
  some Go.TypeDesc.bool,
  some (Go.TypeDesc.int Go.IntKind.u8),
  some (Go.TypeDesc.int Go.IntKind.u8),
  some (Go.TypeDesc.struct #[{ name := "x", type := 2, offset := 0, embedded := false, tag := "", pkgPath := "runtime", byteOffset := 0 }, { name := "y", type := 3, offset := 1, embedded := false, tag := "", pkgPath := "runtime", byteOffset := 8 }, { name := "signed", type := 4, offset := 2, embedded := false, tag := "", pkgPath := "runtime", byteOffset := 16 }, { name := "code", type := 6, offset := 3, embedded := false, tag := "", pkgPath := "runtime", byteOffset := 17 }]),
  some (Go.TypeDesc.struct #[{ name := "x", type := 2, offset := 0, embedded := false, tag := "", pkgPath := "runtime", byteOffset := 0 }, { name := "y", type := 3, offset := 1, embedded := false, tag := "", pkgPath := "runtime", byteOffset := 8 }, { name := "signed", type := 4, offset := 2, embedded := false, tag := "", pkgPath := "runtime", byteOffset := 16 }, { name := "code", type := 6, offset := 3, embedded := false, tag := "", pkgPath := "runtime", byteOffset := 17 }]),
  some Go.TypeDesc.string,
  some Go.TypeDesc.string,
  some Go.TypeDesc.string,
  some (Go.TypeDesc.int Go.IntKind.u64),
  some (Go.TypeDesc.struct #[{ name := "msg", type := 9, offset := 0, embedded := false, tag := "", pkgPath := "runtime", byteOffset := 0 }, { name := "addr", type := 12, offset := 1, embedded := false, tag := "", pkgPath := "runtime", byteOffset := 16 }]),
  some (Go.TypeDesc.struct #[{ name := "msg", type := 9, offset := 0, embedded := false, tag := "", pkgPath := "runtime", byteOffset := 0 }, { name := "addr", type := 12, offset := 1, embedded := false, tag := "", pkgPath := "runtime", byteOffset := 16 }]),
  some (Go.TypeDesc.pointer 211),
  some (Go.TypeDesc.pointer 214),
  some (Go.TypeDesc.pointer 221),
  some (Go.TypeDesc.struct #[{ name := "typ", type := 17, offset := 0, embedded := false, tag := "", pkgPath := "internal/runtime/maps", byteOffset := 0 }]),
  some (Go.TypeDesc.struct #[{ name := "typ", type := 17, offset := 0, embedded := false, tag := "", pkgPath := "internal/runtime/maps", byteOffset := 0 }]),
  some (Go.TypeDesc.interface #[]),
  some (Go.TypeDesc.int Go.IntKind.i32),
  some (Go.TypeDesc.slice 46),
  some (Go.TypeDesc.slice 3),
  some (Go.TypeDesc.struct #[{ name := "Cut", type := 3, offset := 0, embedded := false, tag := "", pkgPath := "", byteOffset := 0 }, { name := "Choices", type := 23, offset := 1, embedded := false, tag := "", pkgPath := "", byteOffset := 8 }]),
  some (Go.TypeDesc.struct #[{ name := "Cut", type := 3, offset := 0, embedded := false, tag := "", pkgPath := "", byteOffset := 0 }, { name := "Choices", type := 23, offset := 1, embedded := false, tag := "", pkgPath := "", byteOffset := 8 }]),
  some (Go.TypeDesc.func #[22] #[4] false),
  some (Go.TypeDesc.func #[] #[4] false),
  some (Go.TypeDesc.pointer 84),
  some (Go.TypeDesc.func #[3] #[28] false),
  some (Go.TypeDesc.pointer 87),
  some (Go.TypeDesc.func #[3] #[30] false),
  some (Go.TypeDesc.pointer 91),
  some (Go.TypeDesc.func #[28, 3, 23] #[32] false),
  some (Go.TypeDesc.pointer 36),
  some (Go.TypeDesc.struct #[{ name := "D", type := 30, offset := 0, embedded := false, tag := "", pkgPath := "", byteOffset := 0 }, { name := "Number", type := 3, offset := 1, embedded := false, tag := "", pkgPath := "", byteOffset := 8 }, { name := "Choices", type := 23, offset := 2, embedded := false, tag := "", pkgPath := "", byteOffset := 16 }, { name := "Acts", type := 3, offset := 3, embedded := false, tag := "", pkgPath := "", byteOffset := 40 }, { name := "Cut", type := 4, offset := 4, embedded := false, tag := "", pkgPath := "", byteOffset := 48 }]),
  some (Go.TypeDesc.struct #[{ name := "D", type := 30, offset := 0, embedded := false, tag := "", pkgPath := "", byteOffset := 0 }, { name := "Number", type := 3, offset := 1, embedded := false, tag := "", pkgPath := "", byteOffset := 8 }, { name := "Choices", type := 23, offset := 2, embedded := false, tag := "", pkgPath := "", byteOffset := 16 }, { name := "Acts", type := 3, offset := 3, embedded := false, tag := "", pkgPath := "", byteOffset := 40 }, { name := "Cut", type := 4, offset := 4, embedded := false, tag := "", pkgPath := "", byteOffset := 48 }]),
  some (Go.TypeDesc.pointer 95),
  some (Go.TypeDesc.int Go.IntKind.i64),
  some (Go.TypeDesc.tuple #[37, 38]),
  some (Go.TypeDesc.func #[32, 3, 3] #[37, 38] false),
  some (Go.TypeDesc.pointer 98),
  some (Go.TypeDesc.tuple #[41, 3]),
  some (Go.TypeDesc.func #[34, 3, 3] #[41, 3] false),
  some (Go.TypeDesc.int Go.IntKind.u32),
  some (Go.TypeDesc.struct #[{ name := "What", type := 5, offset := 0, embedded := false, tag := "", pkgPath := "", byteOffset := 0 }, { name := "S", type := 9, offset := 1, embedded := false, tag := "", pkgPath := "", byteOffset := 8 }, { name := "Gen", type := 44, offset := 2, embedded := false, tag := "", pkgPath := "", byteOffset := 24 }, { name := "At", type := 3, offset := 3, embedded := false, tag := "", pkgPath := "", byteOffset := 32 }, { name := "N", type := 3, offset := 4, embedded := false, tag := "", pkgPath := "", byteOffset := 40 }]),
  some (Go.TypeDesc.struct #[{ name := "What", type := 5, offset := 0, embedded := false, tag := "", pkgPath := "", byteOffset := 0 }, { name := "S", type := 9, offset := 1, embedded := false, tag := "", pkgPath := "", byteOffset := 8 }, { name := "Gen", type := 44, offset := 2, embedded := false, tag := "", pkgPath := "", byteOffset := 24 }, { name := "At", type := 3, offset := 3, embedded := false, tag := "", pkgPath := "", byteOffset := 32 }, { name := "N", type := 3, offset := 4, embedded := false, tag := "", pkgPath := "", byteOffset := 40 }]),
  some (Go.TypeDesc.func #[32, 34, 3, 3] #[4] false),
  some (Go.TypeDesc.func #[3, 9] #[38] false),
  some (Go.TypeDesc.func #[3, 9] #[3] false),
  some (Go.TypeDesc.func #[37, 41, 46] #[4] false),
  some (Go.TypeDesc.func #[] #[3] false),
  some (Go.TypeDesc.func #[3] #[3] false),
  some (Go.TypeDesc.func #[22, 25] #[4] false),
  some (Go.TypeDesc.slice 66),
  some (Go.TypeDesc.pointer 78),
  some (Go.TypeDesc.tuple #[55, 38]),
  some (Go.TypeDesc.func #[32, 9] #[55, 38] false),
  some (Go.TypeDesc.pointer 62),
  some (Go.TypeDesc.slice 9),
  some (Go.TypeDesc.slice 59),
  some (Go.TypeDesc.struct #[{ name := "sure", type := 59, offset := 0, embedded := false, tag := "", pkgPath := "revert/revertlaw14", byteOffset := 0 }, { name := "may", type := 60, offset := 1, embedded := false, tag := "", pkgPath := "revert/revertlaw14", byteOffset := 24 }]),
  some (Go.TypeDesc.struct #[{ name := "sure", type := 59, offset := 0, embedded := false, tag := "", pkgPath := "revert/revertlaw14", byteOffset := 0 }, { name := "may", type := 60, offset := 1, embedded := false, tag := "", pkgPath := "revert/revertlaw14", byteOffset := 24 }]),
  some (Go.TypeDesc.func #[66] #[4] false),
  some (Go.TypeDesc.int Go.IntKind.u16),
  some (Go.TypeDesc.struct #[{ name := "Dump", type := 9, offset := 0, embedded := false, tag := "", pkgPath := "", byteOffset := 0 }, { name := "L", type := 59, offset := 1, embedded := false, tag := "", pkgPath := "", byteOffset := 16 }, { name := "Again", type := 5, offset := 2, embedded := false, tag := "", pkgPath := "", byteOffset := 40 }, { name := "Next", type := 9, offset := 3, embedded := false, tag := "", pkgPath := "", byteOffset := 48 }, { name := "Cut", type := 64, offset := 4, embedded := false, tag := "", pkgPath := "", byteOffset := 64 }, { name := "Choice", type := 23, offset := 5, embedded := false, tag := "", pkgPath := "", byteOffset := 72 }]),
  some (Go.TypeDesc.struct #[{ name := "Dump", type := 9, offset := 0, embedded := false, tag := "", pkgPath := "", byteOffset := 0 }, { name := "L", type := 59, offset := 1, embedded := false, tag := "", pkgPath := "", byteOffset := 16 }, { name := "Again", type := 5, offset := 2, embedded := false, tag := "", pkgPath := "", byteOffset := 40 }, { name := "Next", type := 9, offset := 3, embedded := false, tag := "", pkgPath := "", byteOffset := 48 }, { name := "Cut", type := 64, offset := 4, embedded := false, tag := "", pkgPath := "", byteOffset := 64 }, { name := "Choice", type := 23, offset := 5, embedded := false, tag := "", pkgPath := "", byteOffset := 72 }]),
  some (Go.TypeDesc.tuple #[55, 59, 38]),
  some (Go.TypeDesc.func #[32] #[55, 59, 38] false),
  some (Go.TypeDesc.func #[59] #[4] false),
  some (Go.TypeDesc.func #[28, 44, 59] #[4] true),
  some (Go.TypeDesc.func #[] #[44] false),
  some (Go.TypeDesc.func #[55, 66] #[4] false),
  some (Go.TypeDesc.func #[54] #[4] false),
  some (Go.TypeDesc.func #[9] #[38] false),
  some (Go.TypeDesc.func #[3] #[4] false),
  some (Go.TypeDesc.func #[9, 3] #[9] false),
  some (Go.TypeDesc.struct #[{ name := "l", type := 32, offset := 0, embedded := false, tag := "", pkgPath := "revert/wal", byteOffset := 0 }, { name := "n", type := 3, offset := 1, embedded := false, tag := "", pkgPath := "revert/wal", byteOffset := 8 }, { name := "at", type := 3, offset := 2, embedded := false, tag := "", pkgPath := "revert/wal", byteOffset := 16 }, { name := "gen", type := 44, offset := 3, embedded := false, tag := "", pkgPath := "revert/wal", byteOffset := 24 }, { name := "r", type := 37, offset := 4, embedded := false, tag := "", pkgPath := "revert/wal", byteOffset := 32 }, { name := "broken", type := 4, offset := 5, embedded := false, tag := "", pkgPath := "revert/wal", byteOffset := 40 }]),
  some (Go.TypeDesc.struct #[{ name := "l", type := 32, offset := 0, embedded := false, tag := "", pkgPath := "revert/wal", byteOffset := 0 }, { name := "n", type := 3, offset := 1, embedded := false, tag := "", pkgPath := "revert/wal", byteOffset := 8 }, { name := "at", type := 3, offset := 2, embedded := false, tag := "", pkgPath := "revert/wal", byteOffset := 16 }, { name := "gen", type := 44, offset := 3, embedded := false, tag := "", pkgPath := "revert/wal", byteOffset := 24 }, { name := "r", type := 37, offset := 4, embedded := false, tag := "", pkgPath := "revert/wal", byteOffset := 32 }, { name := "broken", type := 4, offset := 5, embedded := false, tag := "", pkgPath := "revert/wal", byteOffset := 40 }]),
  some (Go.TypeDesc.func #[59, 9] #[59] false),
  some (Go.TypeDesc.func #[59, 5] #[4] false),
  some (Go.TypeDesc.func #[32, 44, 59] #[4] true),
  some (Go.TypeDesc.slice 150),
  some (Go.TypeDesc.struct #[{ name := "l", type := 82, offset := 0, embedded := false, tag := "", pkgPath := "revert/device", byteOffset := 0 }]),
  some (Go.TypeDesc.struct #[{ name := "l", type := 82, offset := 0, embedded := false, tag := "", pkgPath := "revert/device", byteOffset := 0 }]),
  some (Go.TypeDesc.slice 154),
  some (Go.TypeDesc.struct #[{ name := "Firm", type := 59, offset := 0, embedded := false, tag := "", pkgPath := "", byteOffset := 0 }, { name := "L", type := 85, offset := 1, embedded := false, tag := "", pkgPath := "", byteOffset := 24 }]),
  some (Go.TypeDesc.struct #[{ name := "Firm", type := 59, offset := 0, embedded := false, tag := "", pkgPath := "", byteOffset := 0 }, { name := "L", type := 85, offset := 1, embedded := false, tag := "", pkgPath := "", byteOffset := 24 }]),
  some (Go.TypeDesc.slice 5),
  some (Go.TypeDesc.func #[23] #[23] false),
  some (Go.TypeDesc.struct #[{ name := "d", type := 28, offset := 0, embedded := false, tag := "", pkgPath := "revert/line", byteOffset := 0 }, { name := "cut", type := 3, offset := 1, embedded := false, tag := "", pkgPath := "revert/line", byteOffset := 8 }, { name := "choices", type := 23, offset := 2, embedded := false, tag := "", pkgPath := "revert/line", byteOffset := 16 }, { name := "acts", type := 3, offset := 3, embedded := false, tag := "", pkgPath := "revert/line", byteOffset := 40 }, { name := "down", type := 4, offset := 4, embedded := false, tag := "", pkgPath := "revert/line", byteOffset := 48 }]),
  some (Go.TypeDesc.struct #[{ name := "d", type := 28, offset := 0, embedded := false, tag := "", pkgPath := "revert/line", byteOffset := 0 }, { name := "cut", type := 3, offset := 1, embedded := false, tag := "", pkgPath := "revert/line", byteOffset := 8 }, { name := "choices", type := 23, offset := 2, embedded := false, tag := "", pkgPath := "revert/line", byteOffset := 16 }, { name := "acts", type := 3, offset := 3, embedded := false, tag := "", pkgPath := "revert/line", byteOffset := 40 }, { name := "down", type := 4, offset := 4, embedded := false, tag := "", pkgPath := "revert/line", byteOffset := 48 }]),
  some (Go.TypeDesc.func #[32, 3, 3] #[38] false),
  some (Go.TypeDesc.func #[] #[38] false),
  some (Go.TypeDesc.struct #[{ name := "l", type := 32, offset := 0, embedded := false, tag := "", pkgPath := "revert/region", byteOffset := 0 }, { name := "at", type := 3, offset := 1, embedded := false, tag := "", pkgPath := "revert/region", byteOffset := 8 }, { name := "n", type := 3, offset := 2, embedded := false, tag := "", pkgPath := "revert/region", byteOffset := 16 }, { name := "used", type := 3, offset := 3, embedded := false, tag := "", pkgPath := "revert/region", byteOffset := 24 }, { name := "broken", type := 4, offset := 4, embedded := false, tag := "", pkgPath := "revert/region", byteOffset := 32 }, { name := "made", type := 4, offset := 5, embedded := false, tag := "", pkgPath := "revert/region", byteOffset := 33 }]),
  some (Go.TypeDesc.struct #[{ name := "l", type := 32, offset := 0, embedded := false, tag := "", pkgPath := "revert/region", byteOffset := 0 }, { name := "at", type := 3, offset := 1, embedded := false, tag := "", pkgPath := "revert/region", byteOffset := 8 }, { name := "n", type := 3, offset := 2, embedded := false, tag := "", pkgPath := "revert/region", byteOffset := 16 }, { name := "used", type := 3, offset := 3, embedded := false, tag := "", pkgPath := "revert/region", byteOffset := 24 }, { name := "broken", type := 4, offset := 4, embedded := false, tag := "", pkgPath := "revert/region", byteOffset := 32 }, { name := "made", type := 4, offset := 5, embedded := false, tag := "", pkgPath := "revert/region", byteOffset := 33 }]),
  some (Go.TypeDesc.func #[34, 3, 3] #[4] false),
  some (Go.TypeDesc.struct #[{ name := "L", type := 34, offset := 0, embedded := false, tag := "", pkgPath := "", byteOffset := 0 }, { name := "At", type := 3, offset := 1, embedded := false, tag := "", pkgPath := "", byteOffset := 8 }, { name := "N", type := 3, offset := 2, embedded := false, tag := "", pkgPath := "", byteOffset := 16 }, { name := "Used", type := 3, offset := 3, embedded := false, tag := "", pkgPath := "", byteOffset := 24 }, { name := "Broken", type := 4, offset := 4, embedded := false, tag := "", pkgPath := "", byteOffset := 32 }]),
  some (Go.TypeDesc.struct #[{ name := "L", type := 34, offset := 0, embedded := false, tag := "", pkgPath := "", byteOffset := 0 }, { name := "At", type := 3, offset := 1, embedded := false, tag := "", pkgPath := "", byteOffset := 8 }, { name := "N", type := 3, offset := 2, embedded := false, tag := "", pkgPath := "", byteOffset := 16 }, { name := "Used", type := 3, offset := 3, embedded := false, tag := "", pkgPath := "", byteOffset := 24 }, { name := "Broken", type := 4, offset := 4, embedded := false, tag := "", pkgPath := "", byteOffset := 32 }]),
  some (Go.TypeDesc.tuple #[44, 59, 38]),
  some (Go.TypeDesc.func #[32, 3, 3] #[44, 59, 38] false),
  some (Go.TypeDesc.tuple #[44, 59, 3]),
  some (Go.TypeDesc.func #[34, 3, 3] #[44, 59, 3] false),
  some (Go.TypeDesc.func #[59, 59] #[4] false),
  some (Go.TypeDesc.func #[93] #[38] false),
  some (Go.TypeDesc.func #[9] #[3] false),
  some (Go.TypeDesc.func #[44] #[38] false),
  some (Go.TypeDesc.func #[44] #[3] false),
  some (Go.TypeDesc.func #[23] #[] false),
  some (Go.TypeDesc.func #[32] #[55] false),
  some (Go.TypeDesc.func #[3, 44, 9] #[38] false),
  some (Go.TypeDesc.func #[38, 59] #[4] false),
  some (Go.TypeDesc.func #[161] #[38] true),
  some (Go.TypeDesc.int Go.IntKind.u64),
  some (Go.TypeDesc.tuple #[113, 113]),
  some (Go.TypeDesc.func #[113, 113] #[113, 113] false),
  some (Go.TypeDesc.func #[9, 9] #[4] false),
  some (Go.TypeDesc.pointer 119),
  some (Go.TypeDesc.struct #[{ name := "addr", type := 117, offset := 0, embedded := false, tag := "", pkgPath := "strings", byteOffset := 0 }, { name := "buf", type := 88, offset := 1, embedded := false, tag := "", pkgPath := "strings", byteOffset := 8 }]),
  some (Go.TypeDesc.struct #[{ name := "addr", type := 117, offset := 0, embedded := false, tag := "", pkgPath := "strings", byteOffset := 0 }, { name := "buf", type := 88, offset := 1, embedded := false, tag := "", pkgPath := "strings", byteOffset := 8 }]),
  some (Go.TypeDesc.func #[3] #[] false),
  some (Go.TypeDesc.interface #[("Error", 125)]),
  some (Go.TypeDesc.interface #[("Error", 125)]),
  some (Go.TypeDesc.tuple #[3, 122]),
  some (Go.TypeDesc.func #[9] #[3, 122] false),
  some (Go.TypeDesc.func #[] #[9] false),
  some (Go.TypeDesc.func #[168] #[] false),
  some (Go.TypeDesc.func #[168] #[] false),
  some (Go.TypeDesc.func #[3, 9] #[127] false),
  some (Go.TypeDesc.func #[38] #[38] false),
  some (Go.TypeDesc.func #[] #[28] false),
  some (Go.TypeDesc.tuple #[9, 38]),
  some (Go.TypeDesc.func #[3] #[9, 38] false),
  some (Go.TypeDesc.func #[9] #[44] false),
  some (Go.TypeDesc.tuple #[9, 4, 4]),
  some (Go.TypeDesc.func #[3, 9] #[9, 4, 4] false),
  some (Go.TypeDesc.tuple #[9, 3]),
  some (Go.TypeDesc.func #[3] #[9, 3] false),
  some (Go.TypeDesc.pointer 140),
  some (Go.TypeDesc.struct #[{ name := "S", type := 9, offset := 0, embedded := false, tag := "", pkgPath := "", byteOffset := 0 }, { name := "At", type := 3, offset := 1, embedded := false, tag := "", pkgPath := "", byteOffset := 16 }, { name := "E", type := 3, offset := 2, embedded := false, tag := "", pkgPath := "", byteOffset := 24 }]),
  some (Go.TypeDesc.struct #[{ name := "S", type := 9, offset := 0, embedded := false, tag := "", pkgPath := "", byteOffset := 0 }, { name := "At", type := 3, offset := 1, embedded := false, tag := "", pkgPath := "", byteOffset := 16 }, { name := "E", type := 3, offset := 2, embedded := false, tag := "", pkgPath := "", byteOffset := 24 }]),
  some (Go.TypeDesc.func #[3] #[44] false),
  some (Go.TypeDesc.func #[44] #[9] false),
  some (Go.TypeDesc.func #[3, 3, 9] #[9] false),
  some (Go.TypeDesc.pointer 150),
  some (Go.TypeDesc.tuple #[144, 38]),
  some (Go.TypeDesc.func #[3] #[144, 38] false),
  some (Go.TypeDesc.array 64 5),
  some (Go.TypeDesc.array 64 5),
  some (Go.TypeDesc.struct #[{ name := "firm", type := 148, offset := 0, embedded := false, tag := "", pkgPath := "revert/device", byteOffset := 0 }, { name := "read", type := 148, offset := 64, embedded := false, tag := "", pkgPath := "revert/device", byteOffset := 64 }, { name := "fresh", type := 4, offset := 128, embedded := false, tag := "", pkgPath := "revert/device", byteOffset := 128 }]),
  some (Go.TypeDesc.struct #[{ name := "firm", type := 148, offset := 0, embedded := false, tag := "", pkgPath := "revert/device", byteOffset := 0 }, { name := "read", type := 148, offset := 64, embedded := false, tag := "", pkgPath := "revert/device", byteOffset := 64 }, { name := "fresh", type := 4, offset := 128, embedded := false, tag := "", pkgPath := "revert/device", byteOffset := 128 }]),
  some (Go.TypeDesc.tuple #[3, 4]),
  some (Go.TypeDesc.func #[3] #[3, 4] false),
  some (Go.TypeDesc.struct #[{ name := "At", type := 3, offset := 0, embedded := false, tag := "", pkgPath := "", byteOffset := 0 }, { name := "S", type := 9, offset := 1, embedded := false, tag := "", pkgPath := "", byteOffset := 8 }]),
  some (Go.TypeDesc.struct #[{ name := "At", type := 3, offset := 0, embedded := false, tag := "", pkgPath := "", byteOffset := 0 }, { name := "S", type := 9, offset := 1, embedded := false, tag := "", pkgPath := "", byteOffset := 8 }]),
  some (Go.TypeDesc.struct #[{ name := "b", type := 88, offset := 0, embedded := false, tag := "", pkgPath := "revert/codec", byteOffset := 0 }]),
  some (Go.TypeDesc.struct #[{ name := "b", type := 88, offset := 0, embedded := false, tag := "", pkgPath := "revert/codec", byteOffset := 0 }]),
  some (Go.TypeDesc.func #[44] #[] false),
  some (Go.TypeDesc.func #[9] #[] false),
  some (Go.TypeDesc.func #[3] #[9] false),
  some (Go.TypeDesc.func #[52] #[3] false),
  some (Go.TypeDesc.slice 93),
  some (Go.TypeDesc.tuple #[44, 44]),
  some (Go.TypeDesc.func #[44, 44] #[44, 44] false),
  some (Go.TypeDesc.int Go.IntKind.u64),
  some (Go.TypeDesc.tuple #[164, 164]),
  some (Go.TypeDesc.func #[164, 164] #[164, 164] false),
  some (Go.TypeDesc.pointer 5),
  some (Go.TypeDesc.func #[3, 9] #[4] false),
  some (Go.TypeDesc.func #[64] #[] false),
  some (Go.TypeDesc.func #[5] #[] false),
  some (Go.TypeDesc.pointer 186),
  some (Go.TypeDesc.func #[9] #[171] false),
  some (Go.TypeDesc.func #[9, 9] #[9] false),
  some (Go.TypeDesc.func #[] #[64] false),
  some (Go.TypeDesc.func #[] #[5] false),
  some (Go.TypeDesc.func #[44, 3] #[9] false),
  some (Go.TypeDesc.pointer 156),
  some (Go.TypeDesc.func #[177, 44, 3] #[] false),
  some (Go.TypeDesc.func #[88] #[] true),
  some Go.TypeDesc.unsafePointer,
  some (Go.TypeDesc.func #[180] #[180] false),
  some (Go.TypeDesc.func #[3] #[88] false),
  some (Go.TypeDesc.func #[177, 64, 3] #[] false),
  some (Go.TypeDesc.func #[177, 5, 3] #[] false),
  some (Go.TypeDesc.struct #[{ name := "rest", type := 9, offset := 0, embedded := false, tag := "", pkgPath := "revert/codec", byteOffset := 0 }, { name := "e", type := 38, offset := 1, embedded := false, tag := "", pkgPath := "revert/codec", byteOffset := 16 }]),
  some (Go.TypeDesc.struct #[{ name := "rest", type := 9, offset := 0, embedded := false, tag := "", pkgPath := "revert/codec", byteOffset := 0 }, { name := "e", type := 38, offset := 1, embedded := false, tag := "", pkgPath := "revert/codec", byteOffset := 16 }]),
  some (Go.TypeDesc.func #[171, 3] #[44] false),
  some (Go.TypeDesc.func #[38] #[] false),
  some (Go.TypeDesc.func #[9, 5] #[9] false),
  some (Go.TypeDesc.array 256 4),
  some (Go.TypeDesc.array 256 4),
  some (Go.TypeDesc.tuple #[191, 4]),
  some (Go.TypeDesc.func #[9] #[191, 4] false),
  some (Go.TypeDesc.func #[9, 195] #[9] false),
  some (Go.TypeDesc.pointer 191),
  some (Go.TypeDesc.func #[171, 3] #[64] false),
  some (Go.TypeDesc.func #[171, 3] #[5] false),
  some (Go.TypeDesc.func #[5] #[4] false),
  some (Go.TypeDesc.tuple #[21, 3]),
  some (Go.TypeDesc.func #[9] #[21, 3] false),
  some (Go.TypeDesc.func #[9, 21] #[4] false),
  some (Go.TypeDesc.func #[9, 21] #[3] false),
  some (Go.TypeDesc.array 256 5),
  some (Go.TypeDesc.struct #[{ name := "lo", type := 5, offset := 0, embedded := false, tag := "", pkgPath := "unicode/utf8", byteOffset := 0 }, { name := "hi", type := 5, offset := 1, embedded := false, tag := "", pkgPath := "unicode/utf8", byteOffset := 1 }]),
  some (Go.TypeDesc.struct #[{ name := "lo", type := 5, offset := 0, embedded := false, tag := "", pkgPath := "unicode/utf8", byteOffset := 0 }, { name := "hi", type := 5, offset := 1, embedded := false, tag := "", pkgPath := "unicode/utf8", byteOffset := 1 }]),
  some (Go.TypeDesc.array 16 205),
  some (Go.TypeDesc.func #[9, 5] #[3] false),
  some (Go.TypeDesc.func #[21] #[4] false),
  some (Go.TypeDesc.func #[9, 9] #[3] false),
  some (Go.TypeDesc.struct #[{ name := "_interface", type := 17, offset := 0, embedded := false, tag := "", pkgPath := "runtime", byteOffset := 0 }, { name := "concrete", type := 17, offset := 1, embedded := false, tag := "", pkgPath := "runtime", byteOffset := 8 }, { name := "asserted", type := 17, offset := 2, embedded := false, tag := "", pkgPath := "runtime", byteOffset := 16 }, { name := "missingMethod", type := 9, offset := 3, embedded := false, tag := "", pkgPath := "runtime", byteOffset := 24 }]),
  some (Go.TypeDesc.struct #[{ name := "_interface", type := 17, offset := 0, embedded := false, tag := "", pkgPath := "runtime", byteOffset := 0 }, { name := "concrete", type := 17, offset := 1, embedded := false, tag := "", pkgPath := "runtime", byteOffset := 8 }, { name := "asserted", type := 17, offset := 2, embedded := false, tag := "", pkgPath := "runtime", byteOffset := 16 }, { name := "missingMethod", type := 9, offset := 3, embedded := false, tag := "", pkgPath := "runtime", byteOffset := 24 }]),
  some (Go.TypeDesc.array 0 16),
  some (Go.TypeDesc.struct #[{ name := "_", type := 212, offset := 0, embedded := false, tag := "", pkgPath := "runtime", byteOffset := 0 }]),
  some (Go.TypeDesc.struct #[{ name := "_", type := 212, offset := 0, embedded := false, tag := "", pkgPath := "runtime", byteOffset := 0 }]),
  some (Go.TypeDesc.int Go.IntKind.u8),
  some (Go.TypeDesc.int Go.IntKind.u8),
  some (Go.TypeDesc.func #[180, 180] #[4] false),
  some (Go.TypeDesc.int Go.IntKind.i32),
  some (Go.TypeDesc.int Go.IntKind.i32),
  some (Go.TypeDesc.struct #[{ name := "Size_", type := 12, offset := 0, embedded := false, tag := "", pkgPath := "", byteOffset := 0 }, { name := "PtrBytes", type := 12, offset := 1, embedded := false, tag := "", pkgPath := "", byteOffset := 8 }, { name := "Hash", type := 44, offset := 2, embedded := false, tag := "", pkgPath := "", byteOffset := 16 }, { name := "TFlag", type := 215, offset := 3, embedded := false, tag := "", pkgPath := "", byteOffset := 20 }, { name := "Align_", type := 5, offset := 4, embedded := false, tag := "", pkgPath := "", byteOffset := 21 }, { name := "FieldAlign_", type := 5, offset := 5, embedded := false, tag := "", pkgPath := "", byteOffset := 22 }, { name := "Kind_", type := 216, offset := 6, embedded := false, tag := "", pkgPath := "", byteOffset := 23 }, { name := "Equal", type := 217, offset := 7, embedded := false, tag := "", pkgPath := "", byteOffset := 24 }, { name := "GCData", type := 167, offset := 8, embedded := false, tag := "", pkgPath := "", byteOffset := 32 }, { name := "Str", type := 218, offset := 9, embedded := false, tag := "", pkgPath := "", byteOffset := 40 }, { name := "PtrToThis", type := 219, offset := 10, embedded := false, tag := "", pkgPath := "", byteOffset := 44 }]),
  some (Go.TypeDesc.struct #[{ name := "Size_", type := 12, offset := 0, embedded := false, tag := "", pkgPath := "", byteOffset := 0 }, { name := "PtrBytes", type := 12, offset := 1, embedded := false, tag := "", pkgPath := "", byteOffset := 8 }, { name := "Hash", type := 44, offset := 2, embedded := false, tag := "", pkgPath := "", byteOffset := 16 }, { name := "TFlag", type := 215, offset := 3, embedded := false, tag := "", pkgPath := "", byteOffset := 20 }, { name := "Align_", type := 5, offset := 4, embedded := false, tag := "", pkgPath := "", byteOffset := 21 }, { name := "FieldAlign_", type := 5, offset := 5, embedded := false, tag := "", pkgPath := "", byteOffset := 22 }, { name := "Kind_", type := 216, offset := 6, embedded := false, tag := "", pkgPath := "", byteOffset := 23 }, { name := "Equal", type := 217, offset := 7, embedded := false, tag := "", pkgPath := "", byteOffset := 24 }, { name := "GCData", type := 167, offset := 8, embedded := false, tag := "", pkgPath := "", byteOffset := 32 }, { name := "Str", type := 218, offset := 9, embedded := false, tag := "", pkgPath := "", byteOffset := 40 }, { name := "PtrToThis", type := 219, offset := 10, embedded := false, tag := "", pkgPath := "", byteOffset := 44 }])]
theorem inf0 : (Go.Proofs.Tryz.prog.info? 0).map (fun i => (i.size, i.bytes, i.zero)) = some (1, 0, some (.tuple #[])) := by kernel_rfl
theorem inf1 : (Go.Proofs.Tryz.prog.info? 1).map (fun i => (i.size, i.bytes, i.zero)) = some (1, 8, some .nilFunc) := by kernel_rfl
theorem inf2 : (Go.Proofs.Tryz.prog.info? 2).map (fun i => (i.size, i.bytes, i.zero)) = some (1, 8, some (.int .i64 0)) := by kernel_rfl
theorem inf3 : (Go.Proofs.Tryz.prog.info? 3).map (fun i => (i.size, i.bytes, i.zero)) = some (1, 8, some (.int .i64 0)) := by kernel_rfl
theorem inf4 : (Go.Proofs.Tryz.prog.info? 4).map (fun i => (i.size, i.bytes, i.zero)) = some (1, 1, some (.bool false)) := by kernel_rfl
theorem inf5 : (Go.Proofs.Tryz.prog.info? 5).map (fun i => (i.size, i.bytes, i.zero)) = some (1, 1, some (.int .u8 0)) := by kernel_rfl
theorem inf6 : (Go.Proofs.Tryz.prog.info? 6).map (fun i => (i.size, i.bytes, i.zero)) = some (1, 1, some (.int .u8 0)) := by kernel_rfl
theorem inf7 : (Go.Proofs.Tryz.prog.info? 7).map (fun i => (i.size, i.bytes, i.zero)) = some (4, 24, some (.agg #[(.int .i64 0), (.int .i64 0), (.bool false), (.int .u8 0)])) := by kernel_rfl
theorem inf8 : (Go.Proofs.Tryz.prog.info? 8).map (fun i => (i.size, i.bytes, i.zero)) = some (4, 24, some (.agg #[(.int .i64 0), (.int .i64 0), (.bool false), (.int .u8 0)])) := by kernel_rfl
theorem inf9 : (Go.Proofs.Tryz.prog.info? 9).map (fun i => (i.size, i.bytes, i.zero)) = some (1, 16, some (.string ⟨⟨[]⟩⟩)) := by kernel_rfl
theorem inf10 : (Go.Proofs.Tryz.prog.info? 10).map (fun i => (i.size, i.bytes, i.zero)) = some (1, 16, some (.string ⟨⟨[]⟩⟩)) := by kernel_rfl
theorem inf11 : (Go.Proofs.Tryz.prog.info? 11).map (fun i => (i.size, i.bytes, i.zero)) = some (1, 16, some (.string ⟨⟨[]⟩⟩)) := by kernel_rfl
theorem inf12 : (Go.Proofs.Tryz.prog.info? 12).map (fun i => (i.size, i.bytes, i.zero)) = some (1, 8, some (.int .u64 0)) := by kernel_rfl
theorem inf13 : (Go.Proofs.Tryz.prog.info? 13).map (fun i => (i.size, i.bytes, i.zero)) = some (2, 24, some (.agg #[(.string ⟨⟨[]⟩⟩), (.int .u64 0)])) := by kernel_rfl
theorem inf14 : (Go.Proofs.Tryz.prog.info? 14).map (fun i => (i.size, i.bytes, i.zero)) = some (2, 24, some (.agg #[(.string ⟨⟨[]⟩⟩), (.int .u64 0)])) := by kernel_rfl
theorem inf15 : (Go.Proofs.Tryz.prog.info? 15).map (fun i => (i.size, i.bytes, i.zero)) = some (1, 8, some (.pointer none)) := by kernel_rfl
theorem inf16 : (Go.Proofs.Tryz.prog.info? 16).map (fun i => (i.size, i.bytes, i.zero)) = some (1, 8, some (.pointer none)) := by kernel_rfl
theorem inf17 : (Go.Proofs.Tryz.prog.info? 17).map (fun i => (i.size, i.bytes, i.zero)) = some (1, 8, some (.pointer none)) := by kernel_rfl
theorem inf18 : (Go.Proofs.Tryz.prog.info? 18).map (fun i => (i.size, i.bytes, i.zero)) = some (1, 8, some (.agg #[(.pointer none)])) := by kernel_rfl
theorem inf19 : (Go.Proofs.Tryz.prog.info? 19).map (fun i => (i.size, i.bytes, i.zero)) = some (1, 8, some (.agg #[(.pointer none)])) := by kernel_rfl
theorem inf20 : (Go.Proofs.Tryz.prog.info? 20).map (fun i => (i.size, i.bytes, i.zero)) = some (1, 16, some .nilIface) := by kernel_rfl
theorem inf21 : (Go.Proofs.Tryz.prog.info? 21).map (fun i => (i.size, i.bytes, i.zero)) = some (1, 4, some (.int .i32 0)) := by kernel_rfl
theorem inf22 : (Go.Proofs.Tryz.prog.info? 22).map (fun i => (i.size, i.bytes, i.zero)) = some (1, 24, some (.slice none 0 0)) := by kernel_rfl
theorem inf23 : (Go.Proofs.Tryz.prog.info? 23).map (fun i => (i.size, i.bytes, i.zero)) = some (1, 24, some (.slice none 0 0)) := by kernel_rfl
theorem inf24 : (Go.Proofs.Tryz.prog.info? 24).map (fun i => (i.size, i.bytes, i.zero)) = some (2, 32, some (.agg #[(.int .i64 0), (.slice none 0 0)])) := by kernel_rfl
theorem inf25 : (Go.Proofs.Tryz.prog.info? 25).map (fun i => (i.size, i.bytes, i.zero)) = some (2, 32, some (.agg #[(.int .i64 0), (.slice none 0 0)])) := by kernel_rfl
theorem inf26 : (Go.Proofs.Tryz.prog.info? 26).map (fun i => (i.size, i.bytes, i.zero)) = some (1, 8, some .nilFunc) := by kernel_rfl
theorem inf27 : (Go.Proofs.Tryz.prog.info? 27).map (fun i => (i.size, i.bytes, i.zero)) = some (1, 8, some .nilFunc) := by kernel_rfl
theorem inf28 : (Go.Proofs.Tryz.prog.info? 28).map (fun i => (i.size, i.bytes, i.zero)) = some (1, 8, some (.pointer none)) := by kernel_rfl
theorem inf29 : (Go.Proofs.Tryz.prog.info? 29).map (fun i => (i.size, i.bytes, i.zero)) = some (1, 8, some .nilFunc) := by kernel_rfl
theorem inf30 : (Go.Proofs.Tryz.prog.info? 30).map (fun i => (i.size, i.bytes, i.zero)) = some (1, 8, some (.pointer none)) := by kernel_rfl
theorem inf31 : (Go.Proofs.Tryz.prog.info? 31).map (fun i => (i.size, i.bytes, i.zero)) = some (1, 8, some .nilFunc) := by kernel_rfl
theorem inf32 : (Go.Proofs.Tryz.prog.info? 32).map (fun i => (i.size, i.bytes, i.zero)) = some (1, 8, some (.pointer none)) := by kernel_rfl
theorem inf33 : (Go.Proofs.Tryz.prog.info? 33).map (fun i => (i.size, i.bytes, i.zero)) = some (1, 8, some .nilFunc) := by kernel_rfl
theorem inf34 : (Go.Proofs.Tryz.prog.info? 34).map (fun i => (i.size, i.bytes, i.zero)) = some (1, 8, some (.pointer none)) := by kernel_rfl
theorem inf35 : (Go.Proofs.Tryz.prog.info? 35).map (fun i => (i.size, i.bytes, i.zero)) = some (5, 56, some (.agg #[(.pointer none), (.int .i64 0), (.slice none 0 0), (.int .i64 0), (.bool false)])) := by kernel_rfl
theorem inf36 : (Go.Proofs.Tryz.prog.info? 36).map (fun i => (i.size, i.bytes, i.zero)) = some (5, 56, some (.agg #[(.pointer none), (.int .i64 0), (.slice none 0 0), (.int .i64 0), (.bool false)])) := by kernel_rfl
theorem inf37 : (Go.Proofs.Tryz.prog.info? 37).map (fun i => (i.size, i.bytes, i.zero)) = some (1, 8, some (.pointer none)) := by kernel_rfl
theorem inf38 : (Go.Proofs.Tryz.prog.info? 38).map (fun i => (i.size, i.bytes, i.zero)) = some (1, 8, some (.int .i64 0)) := by kernel_rfl
theorem inf39 : (Go.Proofs.Tryz.prog.info? 39).map (fun i => (i.size, i.bytes, i.zero)) = some (1, 0, some (.tuple #[(.pointer none), (.int .i64 0)])) := by kernel_rfl
theorem inf40 : (Go.Proofs.Tryz.prog.info? 40).map (fun i => (i.size, i.bytes, i.zero)) = some (1, 8, some .nilFunc) := by kernel_rfl
theorem inf41 : (Go.Proofs.Tryz.prog.info? 41).map (fun i => (i.size, i.bytes, i.zero)) = some (1, 8, some (.pointer none)) := by kernel_rfl
theorem inf42 : (Go.Proofs.Tryz.prog.info? 42).map (fun i => (i.size, i.bytes, i.zero)) = some (1, 0, some (.tuple #[(.pointer none), (.int .i64 0)])) := by kernel_rfl
theorem inf43 : (Go.Proofs.Tryz.prog.info? 43).map (fun i => (i.size, i.bytes, i.zero)) = some (1, 8, some .nilFunc) := by kernel_rfl
theorem inf44 : (Go.Proofs.Tryz.prog.info? 44).map (fun i => (i.size, i.bytes, i.zero)) = some (1, 4, some (.int .u32 0)) := by kernel_rfl
theorem inf45 : (Go.Proofs.Tryz.prog.info? 45).map (fun i => (i.size, i.bytes, i.zero)) = some (5, 48, some (.agg #[(.int .u8 0), (.string ⟨⟨[]⟩⟩), (.int .u32 0), (.int .i64 0), (.int .i64 0)])) := by kernel_rfl
theorem inf46 : (Go.Proofs.Tryz.prog.info? 46).map (fun i => (i.size, i.bytes, i.zero)) = some (5, 48, some (.agg #[(.int .u8 0), (.string ⟨⟨[]⟩⟩), (.int .u32 0), (.int .i64 0), (.int .i64 0)])) := by kernel_rfl
theorem inf47 : (Go.Proofs.Tryz.prog.info? 47).map (fun i => (i.size, i.bytes, i.zero)) = some (1, 8, some .nilFunc) := by kernel_rfl
theorem inf48 : (Go.Proofs.Tryz.prog.info? 48).map (fun i => (i.size, i.bytes, i.zero)) = some (1, 8, some .nilFunc) := by kernel_rfl
theorem inf49 : (Go.Proofs.Tryz.prog.info? 49).map (fun i => (i.size, i.bytes, i.zero)) = some (1, 8, some .nilFunc) := by kernel_rfl
theorem inf50 : (Go.Proofs.Tryz.prog.info? 50).map (fun i => (i.size, i.bytes, i.zero)) = some (1, 8, some .nilFunc) := by kernel_rfl
theorem inf51 : (Go.Proofs.Tryz.prog.info? 51).map (fun i => (i.size, i.bytes, i.zero)) = some (1, 8, some .nilFunc) := by kernel_rfl
theorem inf52 : (Go.Proofs.Tryz.prog.info? 52).map (fun i => (i.size, i.bytes, i.zero)) = some (1, 8, some .nilFunc) := by kernel_rfl
theorem inf53 : (Go.Proofs.Tryz.prog.info? 53).map (fun i => (i.size, i.bytes, i.zero)) = some (1, 8, some .nilFunc) := by kernel_rfl
theorem inf54 : (Go.Proofs.Tryz.prog.info? 54).map (fun i => (i.size, i.bytes, i.zero)) = some (1, 24, some (.slice none 0 0)) := by kernel_rfl
theorem inf55 : (Go.Proofs.Tryz.prog.info? 55).map (fun i => (i.size, i.bytes, i.zero)) = some (1, 8, some (.pointer none)) := by kernel_rfl
theorem inf56 : (Go.Proofs.Tryz.prog.info? 56).map (fun i => (i.size, i.bytes, i.zero)) = some (1, 0, some (.tuple #[(.pointer none), (.int .i64 0)])) := by kernel_rfl
theorem inf57 : (Go.Proofs.Tryz.prog.info? 57).map (fun i => (i.size, i.bytes, i.zero)) = some (1, 8, some .nilFunc) := by kernel_rfl
theorem inf58 : (Go.Proofs.Tryz.prog.info? 58).map (fun i => (i.size, i.bytes, i.zero)) = some (1, 8, some (.pointer none)) := by kernel_rfl
theorem inf59 : (Go.Proofs.Tryz.prog.info? 59).map (fun i => (i.size, i.bytes, i.zero)) = some (1, 24, some (.slice none 0 0)) := by kernel_rfl
theorem inf60 : (Go.Proofs.Tryz.prog.info? 60).map (fun i => (i.size, i.bytes, i.zero)) = some (1, 24, some (.slice none 0 0)) := by kernel_rfl
theorem inf61 : (Go.Proofs.Tryz.prog.info? 61).map (fun i => (i.size, i.bytes, i.zero)) = some (2, 48, some (.agg #[(.slice none 0 0), (.slice none 0 0)])) := by kernel_rfl
theorem inf62 : (Go.Proofs.Tryz.prog.info? 62).map (fun i => (i.size, i.bytes, i.zero)) = some (2, 48, some (.agg #[(.slice none 0 0), (.slice none 0 0)])) := by kernel_rfl
theorem inf63 : (Go.Proofs.Tryz.prog.info? 63).map (fun i => (i.size, i.bytes, i.zero)) = some (1, 8, some .nilFunc) := by kernel_rfl
theorem inf64 : (Go.Proofs.Tryz.prog.info? 64).map (fun i => (i.size, i.bytes, i.zero)) = some (1, 2, some (.int .u16 0)) := by kernel_rfl
theorem inf65 : (Go.Proofs.Tryz.prog.info? 65).map (fun i => (i.size, i.bytes, i.zero)) = some (6, 96, some (.agg #[(.string ⟨⟨[]⟩⟩), (.slice none 0 0), (.int .u8 0), (.string ⟨⟨[]⟩⟩), (.int .u16 0), (.slice none 0 0)])) := by kernel_rfl
theorem inf66 : (Go.Proofs.Tryz.prog.info? 66).map (fun i => (i.size, i.bytes, i.zero)) = some (6, 96, some (.agg #[(.string ⟨⟨[]⟩⟩), (.slice none 0 0), (.int .u8 0), (.string ⟨⟨[]⟩⟩), (.int .u16 0), (.slice none 0 0)])) := by kernel_rfl
theorem inf67 : (Go.Proofs.Tryz.prog.info? 67).map (fun i => (i.size, i.bytes, i.zero)) = some (1, 0, some (.tuple #[(.pointer none), (.slice none 0 0), (.int .i64 0)])) := by kernel_rfl
theorem inf68 : (Go.Proofs.Tryz.prog.info? 68).map (fun i => (i.size, i.bytes, i.zero)) = some (1, 8, some .nilFunc) := by kernel_rfl
theorem inf69 : (Go.Proofs.Tryz.prog.info? 69).map (fun i => (i.size, i.bytes, i.zero)) = some (1, 8, some .nilFunc) := by kernel_rfl
theorem inf70 : (Go.Proofs.Tryz.prog.info? 70).map (fun i => (i.size, i.bytes, i.zero)) = some (1, 8, some .nilFunc) := by kernel_rfl
theorem inf71 : (Go.Proofs.Tryz.prog.info? 71).map (fun i => (i.size, i.bytes, i.zero)) = some (1, 8, some .nilFunc) := by kernel_rfl
theorem inf72 : (Go.Proofs.Tryz.prog.info? 72).map (fun i => (i.size, i.bytes, i.zero)) = some (1, 8, some .nilFunc) := by kernel_rfl
theorem inf73 : (Go.Proofs.Tryz.prog.info? 73).map (fun i => (i.size, i.bytes, i.zero)) = some (1, 8, some .nilFunc) := by kernel_rfl
theorem inf74 : (Go.Proofs.Tryz.prog.info? 74).map (fun i => (i.size, i.bytes, i.zero)) = some (1, 8, some .nilFunc) := by kernel_rfl
theorem inf75 : (Go.Proofs.Tryz.prog.info? 75).map (fun i => (i.size, i.bytes, i.zero)) = some (1, 8, some .nilFunc) := by kernel_rfl
theorem inf76 : (Go.Proofs.Tryz.prog.info? 76).map (fun i => (i.size, i.bytes, i.zero)) = some (1, 8, some .nilFunc) := by kernel_rfl
theorem inf77 : (Go.Proofs.Tryz.prog.info? 77).map (fun i => (i.size, i.bytes, i.zero)) = some (6, 48, some (.agg #[(.pointer none), (.int .i64 0), (.int .i64 0), (.int .u32 0), (.pointer none), (.bool false)])) := by kernel_rfl
theorem inf78 : (Go.Proofs.Tryz.prog.info? 78).map (fun i => (i.size, i.bytes, i.zero)) = some (6, 48, some (.agg #[(.pointer none), (.int .i64 0), (.int .i64 0), (.int .u32 0), (.pointer none), (.bool false)])) := by kernel_rfl
theorem inf79 : (Go.Proofs.Tryz.prog.info? 79).map (fun i => (i.size, i.bytes, i.zero)) = some (1, 8, some .nilFunc) := by kernel_rfl
theorem inf80 : (Go.Proofs.Tryz.prog.info? 80).map (fun i => (i.size, i.bytes, i.zero)) = some (1, 8, some .nilFunc) := by kernel_rfl
theorem inf81 : (Go.Proofs.Tryz.prog.info? 81).map (fun i => (i.size, i.bytes, i.zero)) = some (1, 8, some .nilFunc) := by kernel_rfl
theorem inf82 : (Go.Proofs.Tryz.prog.info? 82).map (fun i => (i.size, i.bytes, i.zero)) = some (1, 24, some (.slice none 0 0)) := by kernel_rfl
theorem inf83 : (Go.Proofs.Tryz.prog.info? 83).map (fun i => (i.size, i.bytes, i.zero)) = some (1, 24, some (.agg #[(.slice none 0 0)])) := by kernel_rfl
theorem inf84 : (Go.Proofs.Tryz.prog.info? 84).map (fun i => (i.size, i.bytes, i.zero)) = some (1, 24, some (.agg #[(.slice none 0 0)])) := by kernel_rfl
theorem inf85 : (Go.Proofs.Tryz.prog.info? 85).map (fun i => (i.size, i.bytes, i.zero)) = some (1, 24, some (.slice none 0 0)) := by kernel_rfl
theorem inf86 : (Go.Proofs.Tryz.prog.info? 86).map (fun i => (i.size, i.bytes, i.zero)) = some (2, 48, some (.agg #[(.slice none 0 0), (.slice none 0 0)])) := by kernel_rfl
theorem inf87 : (Go.Proofs.Tryz.prog.info? 87).map (fun i => (i.size, i.bytes, i.zero)) = some (2, 48, some (.agg #[(.slice none 0 0), (.slice none 0 0)])) := by kernel_rfl
theorem inf88 : (Go.Proofs.Tryz.prog.info? 88).map (fun i => (i.size, i.bytes, i.zero)) = some (1, 24, some (.slice none 0 0)) := by kernel_rfl
theorem inf89 : (Go.Proofs.Tryz.prog.info? 89).map (fun i => (i.size, i.bytes, i.zero)) = some (1, 8, some .nilFunc) := by kernel_rfl
theorem inf90 : (Go.Proofs.Tryz.prog.info? 90).map (fun i => (i.size, i.bytes, i.zero)) = some (5, 56, some (.agg #[(.pointer none), (.int .i64 0), (.slice none 0 0), (.int .i64 0), (.bool false)])) := by kernel_rfl
theorem inf91 : (Go.Proofs.Tryz.prog.info? 91).map (fun i => (i.size, i.bytes, i.zero)) = some (5, 56, some (.agg #[(.pointer none), (.int .i64 0), (.slice none 0 0), (.int .i64 0), (.bool false)])) := by kernel_rfl
theorem inf92 : (Go.Proofs.Tryz.prog.info? 92).map (fun i => (i.size, i.bytes, i.zero)) = some (1, 8, some .nilFunc) := by kernel_rfl
theorem inf93 : (Go.Proofs.Tryz.prog.info? 93).map (fun i => (i.size, i.bytes, i.zero)) = some (1, 8, some .nilFunc) := by kernel_rfl
theorem inf94 : (Go.Proofs.Tryz.prog.info? 94).map (fun i => (i.size, i.bytes, i.zero)) = some (6, 40, some (.agg #[(.pointer none), (.int .i64 0), (.int .i64 0), (.int .i64 0), (.bool false), (.bool false)])) := by kernel_rfl
theorem inf95 : (Go.Proofs.Tryz.prog.info? 95).map (fun i => (i.size, i.bytes, i.zero)) = some (6, 40, some (.agg #[(.pointer none), (.int .i64 0), (.int .i64 0), (.int .i64 0), (.bool false), (.bool false)])) := by kernel_rfl
theorem inf96 : (Go.Proofs.Tryz.prog.info? 96).map (fun i => (i.size, i.bytes, i.zero)) = some (1, 8, some .nilFunc) := by kernel_rfl
theorem inf97 : (Go.Proofs.Tryz.prog.info? 97).map (fun i => (i.size, i.bytes, i.zero)) = some (5, 40, some (.agg #[(.pointer none), (.int .i64 0), (.int .i64 0), (.int .i64 0), (.bool false)])) := by kernel_rfl
theorem inf98 : (Go.Proofs.Tryz.prog.info? 98).map (fun i => (i.size, i.bytes, i.zero)) = some (5, 40, some (.agg #[(.pointer none), (.int .i64 0), (.int .i64 0), (.int .i64 0), (.bool false)])) := by kernel_rfl
theorem inf99 : (Go.Proofs.Tryz.prog.info? 99).map (fun i => (i.size, i.bytes, i.zero)) = some (1, 0, some (.tuple #[(.int .u32 0), (.slice none 0 0), (.int .i64 0)])) := by kernel_rfl
theorem inf100 : (Go.Proofs.Tryz.prog.info? 100).map (fun i => (i.size, i.bytes, i.zero)) = some (1, 8, some .nilFunc) := by kernel_rfl
theorem inf101 : (Go.Proofs.Tryz.prog.info? 101).map (fun i => (i.size, i.bytes, i.zero)) = some (1, 0, some (.tuple #[(.int .u32 0), (.slice none 0 0), (.int .i64 0)])) := by kernel_rfl
theorem inf102 : (Go.Proofs.Tryz.prog.info? 102).map (fun i => (i.size, i.bytes, i.zero)) = some (1, 8, some .nilFunc) := by kernel_rfl
theorem inf103 : (Go.Proofs.Tryz.prog.info? 103).map (fun i => (i.size, i.bytes, i.zero)) = some (1, 8, some .nilFunc) := by kernel_rfl
theorem inf104 : (Go.Proofs.Tryz.prog.info? 104).map (fun i => (i.size, i.bytes, i.zero)) = some (1, 8, some .nilFunc) := by kernel_rfl
theorem inf105 : (Go.Proofs.Tryz.prog.info? 105).map (fun i => (i.size, i.bytes, i.zero)) = some (1, 8, some .nilFunc) := by kernel_rfl
theorem inf106 : (Go.Proofs.Tryz.prog.info? 106).map (fun i => (i.size, i.bytes, i.zero)) = some (1, 8, some .nilFunc) := by kernel_rfl
theorem inf107 : (Go.Proofs.Tryz.prog.info? 107).map (fun i => (i.size, i.bytes, i.zero)) = some (1, 8, some .nilFunc) := by kernel_rfl
theorem inf108 : (Go.Proofs.Tryz.prog.info? 108).map (fun i => (i.size, i.bytes, i.zero)) = some (1, 8, some .nilFunc) := by kernel_rfl
theorem inf109 : (Go.Proofs.Tryz.prog.info? 109).map (fun i => (i.size, i.bytes, i.zero)) = some (1, 8, some .nilFunc) := by kernel_rfl
theorem inf110 : (Go.Proofs.Tryz.prog.info? 110).map (fun i => (i.size, i.bytes, i.zero)) = some (1, 8, some .nilFunc) := by kernel_rfl
theorem inf111 : (Go.Proofs.Tryz.prog.info? 111).map (fun i => (i.size, i.bytes, i.zero)) = some (1, 8, some .nilFunc) := by kernel_rfl
theorem inf112 : (Go.Proofs.Tryz.prog.info? 112).map (fun i => (i.size, i.bytes, i.zero)) = some (1, 8, some .nilFunc) := by kernel_rfl
theorem inf113 : (Go.Proofs.Tryz.prog.info? 113).map (fun i => (i.size, i.bytes, i.zero)) = some (1, 8, some (.int .u64 0)) := by kernel_rfl
theorem inf114 : (Go.Proofs.Tryz.prog.info? 114).map (fun i => (i.size, i.bytes, i.zero)) = some (1, 0, some (.tuple #[(.int .u64 0), (.int .u64 0)])) := by kernel_rfl
theorem inf115 : (Go.Proofs.Tryz.prog.info? 115).map (fun i => (i.size, i.bytes, i.zero)) = some (1, 8, some .nilFunc) := by kernel_rfl
theorem inf116 : (Go.Proofs.Tryz.prog.info? 116).map (fun i => (i.size, i.bytes, i.zero)) = some (1, 8, some .nilFunc) := by kernel_rfl
theorem inf117 : (Go.Proofs.Tryz.prog.info? 117).map (fun i => (i.size, i.bytes, i.zero)) = some (1, 8, some (.pointer none)) := by kernel_rfl
theorem inf118 : (Go.Proofs.Tryz.prog.info? 118).map (fun i => (i.size, i.bytes, i.zero)) = some (2, 32, some (.agg #[(.pointer none), (.slice none 0 0)])) := by kernel_rfl
theorem inf119 : (Go.Proofs.Tryz.prog.info? 119).map (fun i => (i.size, i.bytes, i.zero)) = some (2, 32, some (.agg #[(.pointer none), (.slice none 0 0)])) := by kernel_rfl
theorem inf120 : (Go.Proofs.Tryz.prog.info? 120).map (fun i => (i.size, i.bytes, i.zero)) = some (1, 8, some .nilFunc) := by kernel_rfl
theorem inf121 : (Go.Proofs.Tryz.prog.info? 121).map (fun i => (i.size, i.bytes, i.zero)) = some (1, 16, some .nilIface) := by kernel_rfl
theorem inf122 : (Go.Proofs.Tryz.prog.info? 122).map (fun i => (i.size, i.bytes, i.zero)) = some (1, 16, some .nilIface) := by kernel_rfl
theorem inf123 : (Go.Proofs.Tryz.prog.info? 123).map (fun i => (i.size, i.bytes, i.zero)) = some (1, 0, some (.tuple #[(.int .i64 0), .nilIface])) := by kernel_rfl
theorem inf124 : (Go.Proofs.Tryz.prog.info? 124).map (fun i => (i.size, i.bytes, i.zero)) = some (1, 8, some .nilFunc) := by kernel_rfl
theorem inf125 : (Go.Proofs.Tryz.prog.info? 125).map (fun i => (i.size, i.bytes, i.zero)) = some (1, 8, some .nilFunc) := by kernel_rfl
theorem inf126 : (Go.Proofs.Tryz.prog.info? 126).map (fun i => (i.size, i.bytes, i.zero)) = some (1, 8, some .nilFunc) := by kernel_rfl
theorem inf127 : (Go.Proofs.Tryz.prog.info? 127).map (fun i => (i.size, i.bytes, i.zero)) = some (1, 8, some .nilFunc) := by kernel_rfl
theorem inf128 : (Go.Proofs.Tryz.prog.info? 128).map (fun i => (i.size, i.bytes, i.zero)) = some (1, 8, some .nilFunc) := by kernel_rfl
theorem inf129 : (Go.Proofs.Tryz.prog.info? 129).map (fun i => (i.size, i.bytes, i.zero)) = some (1, 8, some .nilFunc) := by kernel_rfl
theorem inf130 : (Go.Proofs.Tryz.prog.info? 130).map (fun i => (i.size, i.bytes, i.zero)) = some (1, 8, some .nilFunc) := by kernel_rfl
theorem inf131 : (Go.Proofs.Tryz.prog.info? 131).map (fun i => (i.size, i.bytes, i.zero)) = some (1, 0, some (.tuple #[(.string ⟨⟨[]⟩⟩), (.int .i64 0)])) := by kernel_rfl
theorem inf132 : (Go.Proofs.Tryz.prog.info? 132).map (fun i => (i.size, i.bytes, i.zero)) = some (1, 8, some .nilFunc) := by kernel_rfl
theorem inf133 : (Go.Proofs.Tryz.prog.info? 133).map (fun i => (i.size, i.bytes, i.zero)) = some (1, 8, some .nilFunc) := by kernel_rfl
theorem inf134 : (Go.Proofs.Tryz.prog.info? 134).map (fun i => (i.size, i.bytes, i.zero)) = some (1, 0, some (.tuple #[(.string ⟨⟨[]⟩⟩), (.bool false), (.bool false)])) := by kernel_rfl
theorem inf135 : (Go.Proofs.Tryz.prog.info? 135).map (fun i => (i.size, i.bytes, i.zero)) = some (1, 8, some .nilFunc) := by kernel_rfl
theorem inf136 : (Go.Proofs.Tryz.prog.info? 136).map (fun i => (i.size, i.bytes, i.zero)) = some (1, 0, some (.tuple #[(.string ⟨⟨[]⟩⟩), (.int .i64 0)])) := by kernel_rfl
theorem inf137 : (Go.Proofs.Tryz.prog.info? 137).map (fun i => (i.size, i.bytes, i.zero)) = some (1, 8, some .nilFunc) := by kernel_rfl
theorem inf138 : (Go.Proofs.Tryz.prog.info? 138).map (fun i => (i.size, i.bytes, i.zero)) = some (1, 8, some (.pointer none)) := by kernel_rfl
theorem inf139 : (Go.Proofs.Tryz.prog.info? 139).map (fun i => (i.size, i.bytes, i.zero)) = some (3, 32, some (.agg #[(.string ⟨⟨[]⟩⟩), (.int .i64 0), (.int .i64 0)])) := by kernel_rfl
theorem inf140 : (Go.Proofs.Tryz.prog.info? 140).map (fun i => (i.size, i.bytes, i.zero)) = some (3, 32, some (.agg #[(.string ⟨⟨[]⟩⟩), (.int .i64 0), (.int .i64 0)])) := by kernel_rfl
theorem inf141 : (Go.Proofs.Tryz.prog.info? 141).map (fun i => (i.size, i.bytes, i.zero)) = some (1, 8, some .nilFunc) := by kernel_rfl
theorem inf142 : (Go.Proofs.Tryz.prog.info? 142).map (fun i => (i.size, i.bytes, i.zero)) = some (1, 8, some .nilFunc) := by kernel_rfl
theorem inf143 : (Go.Proofs.Tryz.prog.info? 143).map (fun i => (i.size, i.bytes, i.zero)) = some (1, 8, some .nilFunc) := by kernel_rfl
theorem inf144 : (Go.Proofs.Tryz.prog.info? 144).map (fun i => (i.size, i.bytes, i.zero)) = some (1, 8, some (.pointer none)) := by kernel_rfl
theorem inf145 : (Go.Proofs.Tryz.prog.info? 145).map (fun i => (i.size, i.bytes, i.zero)) = some (1, 0, some (.tuple #[(.pointer none), (.int .i64 0)])) := by kernel_rfl
theorem inf146 : (Go.Proofs.Tryz.prog.info? 146).map (fun i => (i.size, i.bytes, i.zero)) = some (1, 8, some .nilFunc) := by kernel_rfl
theorem inf147 : (Go.Proofs.Tryz.prog.info? 147).map (fun i => (i.size, i.bytes, i.zero)) = some (64, 64, some (.agg #[(.int .u8 0), (.int .u8 0), (.int .u8 0), (.int .u8 0), (.int .u8 0), (.int .u8 0), (.int .u8 0), (.int .u8 0), (.int .u8 0), (.int .u8 0), (.int .u8 0), (.int .u8 0), (.int .u8 0), (.int .u8 0), (.int .u8 0), (.int .u8 0), (.int .u8 0), (.int .u8 0), (.int .u8 0), (.int .u8 0), (.int .u8 0), (.int .u8 0), (.int .u8 0), (.int .u8 0), (.int .u8 0), (.int .u8 0), (.int .u8 0), (.int .u8 0), (.int .u8 0), (.int .u8 0), (.int .u8 0), (.int .u8 0), (.int .u8 0), (.int .u8 0), (.int .u8 0), (.int .u8 0), (.int .u8 0), (.int .u8 0), (.int .u8 0), (.int .u8 0), (.int .u8 0), (.int .u8 0), (.int .u8 0), (.int .u8 0), (.int .u8 0), (.int .u8 0), (.int .u8 0), (.int .u8 0), (.int .u8 0), (.int .u8 0), (.int .u8 0), (.int .u8 0), (.int .u8 0), (.int .u8 0), (.int .u8 0), (.int .u8 0), (.int .u8 0), (.int .u8 0), (.int .u8 0), (.int .u8 0), (.int .u8 0), (.int .u8 0), (.int .u8 0), (.int .u8 0)])) := by kernel_rfl
theorem inf148 : (Go.Proofs.Tryz.prog.info? 148).map (fun i => (i.size, i.bytes, i.zero)) = some (64, 64, some (.agg #[(.int .u8 0), (.int .u8 0), (.int .u8 0), (.int .u8 0), (.int .u8 0), (.int .u8 0), (.int .u8 0), (.int .u8 0), (.int .u8 0), (.int .u8 0), (.int .u8 0), (.int .u8 0), (.int .u8 0), (.int .u8 0), (.int .u8 0), (.int .u8 0), (.int .u8 0), (.int .u8 0), (.int .u8 0), (.int .u8 0), (.int .u8 0), (.int .u8 0), (.int .u8 0), (.int .u8 0), (.int .u8 0), (.int .u8 0), (.int .u8 0), (.int .u8 0), (.int .u8 0), (.int .u8 0), (.int .u8 0), (.int .u8 0), (.int .u8 0), (.int .u8 0), (.int .u8 0), (.int .u8 0), (.int .u8 0), (.int .u8 0), (.int .u8 0), (.int .u8 0), (.int .u8 0), (.int .u8 0), (.int .u8 0), (.int .u8 0), (.int .u8 0), (.int .u8 0), (.int .u8 0), (.int .u8 0), (.int .u8 0), (.int .u8 0), (.int .u8 0), (.int .u8 0), (.int .u8 0), (.int .u8 0), (.int .u8 0), (.int .u8 0), (.int .u8 0), (.int .u8 0), (.int .u8 0), (.int .u8 0), (.int .u8 0), (.int .u8 0), (.int .u8 0), (.int .u8 0)])) := by kernel_rfl
theorem inf149 : (Go.Proofs.Tryz.prog.info? 149).map (fun i => (i.size, i.bytes, i.zero)) = some (129, 129, some (.agg #[(.int .u8 0), (.int .u8 0), (.int .u8 0), (.int .u8 0), (.int .u8 0), (.int .u8 0), (.int .u8 0), (.int .u8 0), (.int .u8 0), (.int .u8 0), (.int .u8 0), (.int .u8 0), (.int .u8 0), (.int .u8 0), (.int .u8 0), (.int .u8 0), (.int .u8 0), (.int .u8 0), (.int .u8 0), (.int .u8 0), (.int .u8 0), (.int .u8 0), (.int .u8 0), (.int .u8 0), (.int .u8 0), (.int .u8 0), (.int .u8 0), (.int .u8 0), (.int .u8 0), (.int .u8 0), (.int .u8 0), (.int .u8 0), (.int .u8 0), (.int .u8 0), (.int .u8 0), (.int .u8 0), (.int .u8 0), (.int .u8 0), (.int .u8 0), (.int .u8 0), (.int .u8 0), (.int .u8 0), (.int .u8 0), (.int .u8 0), (.int .u8 0), (.int .u8 0), (.int .u8 0), (.int .u8 0), (.int .u8 0), (.int .u8 0), (.int .u8 0), (.int .u8 0), (.int .u8 0), (.int .u8 0), (.int .u8 0), (.int .u8 0), (.int .u8 0), (.int .u8 0), (.int .u8 0), (.int .u8 0), (.int .u8 0), (.int .u8 0), (.int .u8 0), (.int .u8 0), (.int .u8 0), (.int .u8 0), (.int .u8 0), (.int .u8 0), (.int .u8 0), (.int .u8 0), (.int .u8 0), (.int .u8 0), (.int .u8 0), (.int .u8 0), (.int .u8 0), (.int .u8 0), (.int .u8 0), (.int .u8 0), (.int .u8 0), (.int .u8 0), (.int .u8 0), (.int .u8 0), (.int .u8 0), (.int .u8 0), (.int .u8 0), (.int .u8 0), (.int .u8 0), (.int .u8 0), (.int .u8 0), (.int .u8 0), (.int .u8 0), (.int .u8 0), (.int .u8 0), (.int .u8 0), (.int .u8 0), (.int .u8 0), (.int .u8 0), (.int .u8 0), (.int .u8 0), (.int .u8 0), (.int .u8 0), (.int .u8 0), (.int .u8 0), (.int .u8 0), (.int .u8 0), (.int .u8 0), (.int .u8 0), (.int .u8 0), (.int .u8 0), (.int .u8 0), (.int .u8 0), (.int .u8 0), (.int .u8 0), (.int .u8 0), (.int .u8 0), (.int .u8 0), (.int .u8 0), (.int .u8 0), (.int .u8 0), (.int .u8 0), (.int .u8 0), (.int .u8 0), (.int .u8 0), (.int .u8 0), (.int .u8 0), (.int .u8 0), (.int .u8 0), (.int .u8 0), (.bool false)])) := by kernel_rfl
theorem inf150 : (Go.Proofs.Tryz.prog.info? 150).map (fun i => (i.size, i.bytes, i.zero)) = some (129, 129, some (.agg #[(.int .u8 0), (.int .u8 0), (.int .u8 0), (.int .u8 0), (.int .u8 0), (.int .u8 0), (.int .u8 0), (.int .u8 0), (.int .u8 0), (.int .u8 0), (.int .u8 0), (.int .u8 0), (.int .u8 0), (.int .u8 0), (.int .u8 0), (.int .u8 0), (.int .u8 0), (.int .u8 0), (.int .u8 0), (.int .u8 0), (.int .u8 0), (.int .u8 0), (.int .u8 0), (.int .u8 0), (.int .u8 0), (.int .u8 0), (.int .u8 0), (.int .u8 0), (.int .u8 0), (.int .u8 0), (.int .u8 0), (.int .u8 0), (.int .u8 0), (.int .u8 0), (.int .u8 0), (.int .u8 0), (.int .u8 0), (.int .u8 0), (.int .u8 0), (.int .u8 0), (.int .u8 0), (.int .u8 0), (.int .u8 0), (.int .u8 0), (.int .u8 0), (.int .u8 0), (.int .u8 0), (.int .u8 0), (.int .u8 0), (.int .u8 0), (.int .u8 0), (.int .u8 0), (.int .u8 0), (.int .u8 0), (.int .u8 0), (.int .u8 0), (.int .u8 0), (.int .u8 0), (.int .u8 0), (.int .u8 0), (.int .u8 0), (.int .u8 0), (.int .u8 0), (.int .u8 0), (.int .u8 0), (.int .u8 0), (.int .u8 0), (.int .u8 0), (.int .u8 0), (.int .u8 0), (.int .u8 0), (.int .u8 0), (.int .u8 0), (.int .u8 0), (.int .u8 0), (.int .u8 0), (.int .u8 0), (.int .u8 0), (.int .u8 0), (.int .u8 0), (.int .u8 0), (.int .u8 0), (.int .u8 0), (.int .u8 0), (.int .u8 0), (.int .u8 0), (.int .u8 0), (.int .u8 0), (.int .u8 0), (.int .u8 0), (.int .u8 0), (.int .u8 0), (.int .u8 0), (.int .u8 0), (.int .u8 0), (.int .u8 0), (.int .u8 0), (.int .u8 0), (.int .u8 0), (.int .u8 0), (.int .u8 0), (.int .u8 0), (.int .u8 0), (.int .u8 0), (.int .u8 0), (.int .u8 0), (.int .u8 0), (.int .u8 0), (.int .u8 0), (.int .u8 0), (.int .u8 0), (.int .u8 0), (.int .u8 0), (.int .u8 0), (.int .u8 0), (.int .u8 0), (.int .u8 0), (.int .u8 0), (.int .u8 0), (.int .u8 0), (.int .u8 0), (.int .u8 0), (.int .u8 0), (.int .u8 0), (.int .u8 0), (.int .u8 0), (.int .u8 0), (.int .u8 0), (.bool false)])) := by kernel_rfl
theorem inf151 : (Go.Proofs.Tryz.prog.info? 151).map (fun i => (i.size, i.bytes, i.zero)) = some (1, 0, some (.tuple #[(.int .i64 0), (.bool false)])) := by kernel_rfl
theorem inf152 : (Go.Proofs.Tryz.prog.info? 152).map (fun i => (i.size, i.bytes, i.zero)) = some (1, 8, some .nilFunc) := by kernel_rfl
theorem inf153 : (Go.Proofs.Tryz.prog.info? 153).map (fun i => (i.size, i.bytes, i.zero)) = some (2, 24, some (.agg #[(.int .i64 0), (.string ⟨⟨[]⟩⟩)])) := by kernel_rfl
theorem inf154 : (Go.Proofs.Tryz.prog.info? 154).map (fun i => (i.size, i.bytes, i.zero)) = some (2, 24, some (.agg #[(.int .i64 0), (.string ⟨⟨[]⟩⟩)])) := by kernel_rfl
theorem inf155 : (Go.Proofs.Tryz.prog.info? 155).map (fun i => (i.size, i.bytes, i.zero)) = some (1, 24, some (.agg #[(.slice none 0 0)])) := by kernel_rfl
theorem inf156 : (Go.Proofs.Tryz.prog.info? 156).map (fun i => (i.size, i.bytes, i.zero)) = some (1, 24, some (.agg #[(.slice none 0 0)])) := by kernel_rfl
theorem inf157 : (Go.Proofs.Tryz.prog.info? 157).map (fun i => (i.size, i.bytes, i.zero)) = some (1, 8, some .nilFunc) := by kernel_rfl
theorem inf158 : (Go.Proofs.Tryz.prog.info? 158).map (fun i => (i.size, i.bytes, i.zero)) = some (1, 8, some .nilFunc) := by kernel_rfl
theorem inf159 : (Go.Proofs.Tryz.prog.info? 159).map (fun i => (i.size, i.bytes, i.zero)) = some (1, 8, some .nilFunc) := by kernel_rfl
theorem inf160 : (Go.Proofs.Tryz.prog.info? 160).map (fun i => (i.size, i.bytes, i.zero)) = some (1, 8, some .nilFunc) := by kernel_rfl
theorem inf161 : (Go.Proofs.Tryz.prog.info? 161).map (fun i => (i.size, i.bytes, i.zero)) = some (1, 24, some (.slice none 0 0)) := by kernel_rfl
theorem inf162 : (Go.Proofs.Tryz.prog.info? 162).map (fun i => (i.size, i.bytes, i.zero)) = some (1, 0, some (.tuple #[(.int .u32 0), (.int .u32 0)])) := by kernel_rfl
theorem inf163 : (Go.Proofs.Tryz.prog.info? 163).map (fun i => (i.size, i.bytes, i.zero)) = some (1, 8, some .nilFunc) := by kernel_rfl
theorem inf164 : (Go.Proofs.Tryz.prog.info? 164).map (fun i => (i.size, i.bytes, i.zero)) = some (1, 8, some (.int .u64 0)) := by kernel_rfl
theorem inf165 : (Go.Proofs.Tryz.prog.info? 165).map (fun i => (i.size, i.bytes, i.zero)) = some (1, 0, some (.tuple #[(.int .u64 0), (.int .u64 0)])) := by kernel_rfl
theorem inf166 : (Go.Proofs.Tryz.prog.info? 166).map (fun i => (i.size, i.bytes, i.zero)) = some (1, 8, some .nilFunc) := by kernel_rfl
theorem inf167 : (Go.Proofs.Tryz.prog.info? 167).map (fun i => (i.size, i.bytes, i.zero)) = some (1, 8, some (.pointer none)) := by kernel_rfl
theorem inf168 : (Go.Proofs.Tryz.prog.info? 168).map (fun i => (i.size, i.bytes, i.zero)) = some (1, 8, some .nilFunc) := by kernel_rfl
theorem inf169 : (Go.Proofs.Tryz.prog.info? 169).map (fun i => (i.size, i.bytes, i.zero)) = some (1, 8, some .nilFunc) := by kernel_rfl
theorem inf170 : (Go.Proofs.Tryz.prog.info? 170).map (fun i => (i.size, i.bytes, i.zero)) = some (1, 8, some .nilFunc) := by kernel_rfl
theorem inf171 : (Go.Proofs.Tryz.prog.info? 171).map (fun i => (i.size, i.bytes, i.zero)) = some (1, 8, some (.pointer none)) := by kernel_rfl
theorem inf172 : (Go.Proofs.Tryz.prog.info? 172).map (fun i => (i.size, i.bytes, i.zero)) = some (1, 8, some .nilFunc) := by kernel_rfl
theorem inf173 : (Go.Proofs.Tryz.prog.info? 173).map (fun i => (i.size, i.bytes, i.zero)) = some (1, 8, some .nilFunc) := by kernel_rfl
theorem inf174 : (Go.Proofs.Tryz.prog.info? 174).map (fun i => (i.size, i.bytes, i.zero)) = some (1, 8, some .nilFunc) := by kernel_rfl
theorem inf175 : (Go.Proofs.Tryz.prog.info? 175).map (fun i => (i.size, i.bytes, i.zero)) = some (1, 8, some .nilFunc) := by kernel_rfl
theorem inf176 : (Go.Proofs.Tryz.prog.info? 176).map (fun i => (i.size, i.bytes, i.zero)) = some (1, 8, some .nilFunc) := by kernel_rfl
theorem inf177 : (Go.Proofs.Tryz.prog.info? 177).map (fun i => (i.size, i.bytes, i.zero)) = some (1, 8, some (.pointer none)) := by kernel_rfl
theorem inf178 : (Go.Proofs.Tryz.prog.info? 178).map (fun i => (i.size, i.bytes, i.zero)) = some (1, 8, some .nilFunc) := by kernel_rfl
theorem inf179 : (Go.Proofs.Tryz.prog.info? 179).map (fun i => (i.size, i.bytes, i.zero)) = some (1, 8, some .nilFunc) := by kernel_rfl
theorem inf180 : (Go.Proofs.Tryz.prog.info? 180).map (fun i => (i.size, i.bytes, i.zero)) = some (1, 8, some (.pointer none)) := by kernel_rfl
theorem inf181 : (Go.Proofs.Tryz.prog.info? 181).map (fun i => (i.size, i.bytes, i.zero)) = some (1, 8, some .nilFunc) := by kernel_rfl
theorem inf182 : (Go.Proofs.Tryz.prog.info? 182).map (fun i => (i.size, i.bytes, i.zero)) = some (1, 8, some .nilFunc) := by kernel_rfl
theorem inf183 : (Go.Proofs.Tryz.prog.info? 183).map (fun i => (i.size, i.bytes, i.zero)) = some (1, 8, some .nilFunc) := by kernel_rfl
theorem inf184 : (Go.Proofs.Tryz.prog.info? 184).map (fun i => (i.size, i.bytes, i.zero)) = some (1, 8, some .nilFunc) := by kernel_rfl
theorem inf185 : (Go.Proofs.Tryz.prog.info? 185).map (fun i => (i.size, i.bytes, i.zero)) = some (2, 24, some (.agg #[(.string ⟨⟨[]⟩⟩), (.int .i64 0)])) := by kernel_rfl
theorem inf186 : (Go.Proofs.Tryz.prog.info? 186).map (fun i => (i.size, i.bytes, i.zero)) = some (2, 24, some (.agg #[(.string ⟨⟨[]⟩⟩), (.int .i64 0)])) := by kernel_rfl
theorem inf187 : (Go.Proofs.Tryz.prog.info? 187).map (fun i => (i.size, i.bytes, i.zero)) = some (1, 8, some .nilFunc) := by kernel_rfl
theorem inf188 : (Go.Proofs.Tryz.prog.info? 188).map (fun i => (i.size, i.bytes, i.zero)) = some (1, 8, some .nilFunc) := by kernel_rfl
theorem inf189 : (Go.Proofs.Tryz.prog.info? 189).map (fun i => (i.size, i.bytes, i.zero)) = some (1, 8, some .nilFunc) := by kernel_rfl
theorem inf190 : (Go.Proofs.Tryz.prog.info? 190).map (fun i => (i.size, i.bytes, i.zero)) = some (256, 256, some (.agg #[(.bool false), (.bool false), (.bool false), (.bool false), (.bool false), (.bool false), (.bool false), (.bool false), (.bool false), (.bool false), (.bool false), (.bool false), (.bool false), (.bool false), (.bool false), (.bool false), (.bool false), (.bool false), (.bool false), (.bool false), (.bool false), (.bool false), (.bool false), (.bool false), (.bool false), (.bool false), (.bool false), (.bool false), (.bool false), (.bool false), (.bool false), (.bool false), (.bool false), (.bool false), (.bool false), (.bool false), (.bool false), (.bool false), (.bool false), (.bool false), (.bool false), (.bool false), (.bool false), (.bool false), (.bool false), (.bool false), (.bool false), (.bool false), (.bool false), (.bool false), (.bool false), (.bool false), (.bool false), (.bool false), (.bool false), (.bool false), (.bool false), (.bool false), (.bool false), (.bool false), (.bool false), (.bool false), (.bool false), (.bool false), (.bool false), (.bool false), (.bool false), (.bool false), (.bool false), (.bool false), (.bool false), (.bool false), (.bool false), (.bool false), (.bool false), (.bool false), (.bool false), (.bool false), (.bool false), (.bool false), (.bool false), (.bool false), (.bool false), (.bool false), (.bool false), (.bool false), (.bool false), (.bool false), (.bool false), (.bool false), (.bool false), (.bool false), (.bool false), (.bool false), (.bool false), (.bool false), (.bool false), (.bool false), (.bool false), (.bool false), (.bool false), (.bool false), (.bool false), (.bool false), (.bool false), (.bool false), (.bool false), (.bool false), (.bool false), (.bool false), (.bool false), (.bool false), (.bool false), (.bool false), (.bool false), (.bool false), (.bool false), (.bool false), (.bool false), (.bool false), (.bool false), (.bool false), (.bool false), (.bool false), (.bool false), (.bool false), (.bool false), (.bool false), (.bool false), (.bool false), (.bool false), (.bool false), (.bool false), (.bool false), (.bool false), (.bool false), (.bool false), (.bool false), (.bool false), (.bool false), (.bool false), (.bool false), (.bool false), (.bool false), (.bool false), (.bool false), (.bool false), (.bool false), (.bool false), (.bool false), (.bool false), (.bool false), (.bool false), (.bool false), (.bool false), (.bool false), (.bool false), (.bool false), (.bool false), (.bool false), (.bool false), (.bool false), (.bool false), (.bool false), (.bool false), (.bool false), (.bool false), (.bool false), (.bool false), (.bool false), (.bool false), (.bool false), (.bool false), (.bool false), (.bool false), (.bool false), (.bool false), (.bool false), (.bool false), (.bool false), (.bool false), (.bool false), (.bool false), (.bool false), (.bool false), (.bool false), (.bool false), (.bool false), (.bool false), (.bool false), (.bool false), (.bool false), (.bool false), (.bool false), (.bool false), (.bool false), (.bool false), (.bool false), (.bool false), (.bool false), (.bool false), (.bool false), (.bool false), (.bool false), (.bool false), (.bool false), (.bool false), (.bool false), (.bool false), (.bool false), (.bool false), (.bool false), (.bool false), (.bool false), (.bool false), (.bool false), (.bool false), (.bool false), (.bool false), (.bool false), (.bool false), (.bool false), (.bool false), (.bool false), (.bool false), (.bool false), (.bool false), (.bool false), (.bool false), (.bool false), (.bool false), (.bool false), (.bool false), (.bool false), (.bool false), (.bool false), (.bool false), (.bool false), (.bool false), (.bool false), (.bool false), (.bool false), (.bool false), (.bool false), (.bool false), (.bool false), (.bool false), (.bool false), (.bool false), (.bool false), (.bool false), (.bool false), (.bool false), (.bool false), (.bool false), (.bool false)])) := by kernel_rfl
theorem inf191 : (Go.Proofs.Tryz.prog.info? 191).map (fun i => (i.size, i.bytes, i.zero)) = some (256, 256, some (.agg #[(.bool false), (.bool false), (.bool false), (.bool false), (.bool false), (.bool false), (.bool false), (.bool false), (.bool false), (.bool false), (.bool false), (.bool false), (.bool false), (.bool false), (.bool false), (.bool false), (.bool false), (.bool false), (.bool false), (.bool false), (.bool false), (.bool false), (.bool false), (.bool false), (.bool false), (.bool false), (.bool false), (.bool false), (.bool false), (.bool false), (.bool false), (.bool false), (.bool false), (.bool false), (.bool false), (.bool false), (.bool false), (.bool false), (.bool false), (.bool false), (.bool false), (.bool false), (.bool false), (.bool false), (.bool false), (.bool false), (.bool false), (.bool false), (.bool false), (.bool false), (.bool false), (.bool false), (.bool false), (.bool false), (.bool false), (.bool false), (.bool false), (.bool false), (.bool false), (.bool false), (.bool false), (.bool false), (.bool false), (.bool false), (.bool false), (.bool false), (.bool false), (.bool false), (.bool false), (.bool false), (.bool false), (.bool false), (.bool false), (.bool false), (.bool false), (.bool false), (.bool false), (.bool false), (.bool false), (.bool false), (.bool false), (.bool false), (.bool false), (.bool false), (.bool false), (.bool false), (.bool false), (.bool false), (.bool false), (.bool false), (.bool false), (.bool false), (.bool false), (.bool false), (.bool false), (.bool false), (.bool false), (.bool false), (.bool false), (.bool false), (.bool false), (.bool false), (.bool false), (.bool false), (.bool false), (.bool false), (.bool false), (.bool false), (.bool false), (.bool false), (.bool false), (.bool false), (.bool false), (.bool false), (.bool false), (.bool false), (.bool false), (.bool false), (.bool false), (.bool false), (.bool false), (.bool false), (.bool false), (.bool false), (.bool false), (.bool false), (.bool false), (.bool false), (.bool false), (.bool false), (.bool false), (.bool false), (.bool false), (.bool false), (.bool false), (.bool false), (.bool false), (.bool false), (.bool false), (.bool false), (.bool false), (.bool false), (.bool false), (.bool false), (.bool false), (.bool false), (.bool false), (.bool false), (.bool false), (.bool false), (.bool false), (.bool false), (.bool false), (.bool false), (.bool false), (.bool false), (.bool false), (.bool false), (.bool false), (.bool false), (.bool false), (.bool false), (.bool false), (.bool false), (.bool false), (.bool false), (.bool false), (.bool false), (.bool false), (.bool false), (.bool false), (.bool false), (.bool false), (.bool false), (.bool false), (.bool false), (.bool false), (.bool false), (.bool false), (.bool false), (.bool false), (.bool false), (.bool false), (.bool false), (.bool false), (.bool false), (.bool false), (.bool false), (.bool false), (.bool false), (.bool false), (.bool false), (.bool false), (.bool false), (.bool false), (.bool false), (.bool false), (.bool false), (.bool false), (.bool false), (.bool false), (.bool false), (.bool false), (.bool false), (.bool false), (.bool false), (.bool false), (.bool false), (.bool false), (.bool false), (.bool false), (.bool false), (.bool false), (.bool false), (.bool false), (.bool false), (.bool false), (.bool false), (.bool false), (.bool false), (.bool false), (.bool false), (.bool false), (.bool false), (.bool false), (.bool false), (.bool false), (.bool false), (.bool false), (.bool false), (.bool false), (.bool false), (.bool false), (.bool false), (.bool false), (.bool false), (.bool false), (.bool false), (.bool false), (.bool false), (.bool false), (.bool false), (.bool false), (.bool false), (.bool false), (.bool false), (.bool false), (.bool false), (.bool false), (.bool false), (.bool false), (.bool false), (.bool false), (.bool false), (.bool false), (.bool false)])) := by kernel_rfl
theorem inf192 : (Go.Proofs.Tryz.prog.info? 192).map (fun i => (i.size, i.bytes, i.zero)) = some (1, 0, some (.tuple #[(.agg #[(.bool false), (.bool false), (.bool false), (.bool false), (.bool false), (.bool false), (.bool false), (.bool false), (.bool false), (.bool false), (.bool false), (.bool false), (.bool false), (.bool false), (.bool false), (.bool false), (.bool false), (.bool false), (.bool false), (.bool false), (.bool false), (.bool false), (.bool false), (.bool false), (.bool false), (.bool false), (.bool false), (.bool false), (.bool false), (.bool false), (.bool false), (.bool false), (.bool false), (.bool false), (.bool false), (.bool false), (.bool false), (.bool false), (.bool false), (.bool false), (.bool false), (.bool false), (.bool false), (.bool false), (.bool false), (.bool false), (.bool false), (.bool false), (.bool false), (.bool false), (.bool false), (.bool false), (.bool false), (.bool false), (.bool false), (.bool false), (.bool false), (.bool false), (.bool false), (.bool false), (.bool false), (.bool false), (.bool false), (.bool false), (.bool false), (.bool false), (.bool false), (.bool false), (.bool false), (.bool false), (.bool false), (.bool false), (.bool false), (.bool false), (.bool false), (.bool false), (.bool false), (.bool false), (.bool false), (.bool false), (.bool false), (.bool false), (.bool false), (.bool false), (.bool false), (.bool false), (.bool false), (.bool false), (.bool false), (.bool false), (.bool false), (.bool false), (.bool false), (.bool false), (.bool false), (.bool false), (.bool false), (.bool false), (.bool false), (.bool false), (.bool false), (.bool false), (.bool false), (.bool false), (.bool false), (.bool false), (.bool false), (.bool false), (.bool false), (.bool false), (.bool false), (.bool false), (.bool false), (.bool false), (.bool false), (.bool false), (.bool false), (.bool false), (.bool false), (.bool false), (.bool false), (.bool false), (.bool false), (.bool false), (.bool false), (.bool false), (.bool false), (.bool false), (.bool false), (.bool false), (.bool false), (.bool false), (.bool false), (.bool false), (.bool false), (.bool false), (.bool false), (.bool false), (.bool false), (.bool false), (.bool false), (.bool false), (.bool false), (.bool false), (.bool false), (.bool false), (.bool false), (.bool false), (.bool false), (.bool false), (.bool false), (.bool false), (.bool false), (.bool false), (.bool false), (.bool false), (.bool false), (.bool false), (.bool false), (.bool false), (.bool false), (.bool false), (.bool false), (.bool false), (.bool false), (.bool false), (.bool false), (.bool false), (.bool false), (.bool false), (.bool false), (.bool false), (.bool false), (.bool false), (.bool false), (.bool false), (.bool false), (.bool false), (.bool false), (.bool false), (.bool false), (.bool false), (.bool false), (.bool false), (.bool false), (.bool false), (.bool false), (.bool false), (.bool false), (.bool false), (.bool false), (.bool false), (.bool false), (.bool false), (.bool false), (.bool false), (.bool false), (.bool false), (.bool false), (.bool false), (.bool false), (.bool false), (.bool false), (.bool false), (.bool false), (.bool false), (.bool false), (.bool false), (.bool false), (.bool false), (.bool false), (.bool false), (.bool false), (.bool false), (.bool false), (.bool false), (.bool false), (.bool false), (.bool false), (.bool false), (.bool false), (.bool false), (.bool false), (.bool false), (.bool false), (.bool false), (.bool false), (.bool false), (.bool false), (.bool false), (.bool false), (.bool false), (.bool false), (.bool false), (.bool false), (.bool false), (.bool false), (.bool false), (.bool false), (.bool false), (.bool false), (.bool false), (.bool false), (.bool false), (.bool false), (.bool false), (.bool false), (.bool false), (.bool false), (.bool false), (.bool false), (.bool false), (.bool false), (.bool false), (.bool false), (.bool false)]), (.bool false)])) := by kernel_rfl
theorem inf193 : (Go.Proofs.Tryz.prog.info? 193).map (fun i => (i.size, i.bytes, i.zero)) = some (1, 8, some .nilFunc) := by kernel_rfl
theorem inf194 : (Go.Proofs.Tryz.prog.info? 194).map (fun i => (i.size, i.bytes, i.zero)) = some (1, 8, some .nilFunc) := by kernel_rfl
theorem inf195 : (Go.Proofs.Tryz.prog.info? 195).map (fun i => (i.size, i.bytes, i.zero)) = some (1, 8, some (.pointer none)) := by kernel_rfl
theorem inf196 : (Go.Proofs.Tryz.prog.info? 196).map (fun i => (i.size, i.bytes, i.zero)) = some (1, 8, some .nilFunc) := by kernel_rfl
theorem inf197 : (Go.Proofs.Tryz.prog.info? 197).map (fun i => (i.size, i.bytes, i.zero)) = some (1, 8, some .nilFunc) := by kernel_rfl
theorem inf198 : (Go.Proofs.Tryz.prog.info? 198).map (fun i => (i.size, i.bytes, i.zero)) = some (1, 8, some .nilFunc) := by kernel_rfl
theorem inf199 : (Go.Proofs.Tryz.prog.info? 199).map (fun i => (i.size, i.bytes, i.zero)) = some (1, 0, some (.tuple #[(.int .i32 0), (.int .i64 0)])) := by kernel_rfl
theorem inf200 : (Go.Proofs.Tryz.prog.info? 200).map (fun i => (i.size, i.bytes, i.zero)) = some (1, 8, some .nilFunc) := by kernel_rfl
theorem inf201 : (Go.Proofs.Tryz.prog.info? 201).map (fun i => (i.size, i.bytes, i.zero)) = some (1, 8, some .nilFunc) := by kernel_rfl
theorem inf202 : (Go.Proofs.Tryz.prog.info? 202).map (fun i => (i.size, i.bytes, i.zero)) = some (1, 8, some .nilFunc) := by kernel_rfl
theorem inf203 : (Go.Proofs.Tryz.prog.info? 203).map (fun i => (i.size, i.bytes, i.zero)) = some (256, 256, some (.agg #[(.int .u8 0), (.int .u8 0), (.int .u8 0), (.int .u8 0), (.int .u8 0), (.int .u8 0), (.int .u8 0), (.int .u8 0), (.int .u8 0), (.int .u8 0), (.int .u8 0), (.int .u8 0), (.int .u8 0), (.int .u8 0), (.int .u8 0), (.int .u8 0), (.int .u8 0), (.int .u8 0), (.int .u8 0), (.int .u8 0), (.int .u8 0), (.int .u8 0), (.int .u8 0), (.int .u8 0), (.int .u8 0), (.int .u8 0), (.int .u8 0), (.int .u8 0), (.int .u8 0), (.int .u8 0), (.int .u8 0), (.int .u8 0), (.int .u8 0), (.int .u8 0), (.int .u8 0), (.int .u8 0), (.int .u8 0), (.int .u8 0), (.int .u8 0), (.int .u8 0), (.int .u8 0), (.int .u8 0), (.int .u8 0), (.int .u8 0), (.int .u8 0), (.int .u8 0), (.int .u8 0), (.int .u8 0), (.int .u8 0), (.int .u8 0), (.int .u8 0), (.int .u8 0), (.int .u8 0), (.int .u8 0), (.int .u8 0), (.int .u8 0), (.int .u8 0), (.int .u8 0), (.int .u8 0), (.int .u8 0), (.int .u8 0), (.int .u8 0), (.int .u8 0), (.int .u8 0), (.int .u8 0), (.int .u8 0), (.int .u8 0), (.int .u8 0), (.int .u8 0), (.int .u8 0), (.int .u8 0), (.int .u8 0), (.int .u8 0), (.int .u8 0), (.int .u8 0), (.int .u8 0), (.int .u8 0), (.int .u8 0), (.int .u8 0), (.int .u8 0), (.int .u8 0), (.int .u8 0), (.int .u8 0), (.int .u8 0), (.int .u8 0), (.int .u8 0), (.int .u8 0), (.int .u8 0), (.int .u8 0), (.int .u8 0), (.int .u8 0), (.int .u8 0), (.int .u8 0), (.int .u8 0), (.int .u8 0), (.int .u8 0), (.int .u8 0), (.int .u8 0), (.int .u8 0), (.int .u8 0), (.int .u8 0), (.int .u8 0), (.int .u8 0), (.int .u8 0), (.int .u8 0), (.int .u8 0), (.int .u8 0), (.int .u8 0), (.int .u8 0), (.int .u8 0), (.int .u8 0), (.int .u8 0), (.int .u8 0), (.int .u8 0), (.int .u8 0), (.int .u8 0), (.int .u8 0), (.int .u8 0), (.int .u8 0), (.int .u8 0), (.int .u8 0), (.int .u8 0), (.int .u8 0), (.int .u8 0), (.int .u8 0), (.int .u8 0), (.int .u8 0), (.int .u8 0), (.int .u8 0), (.int .u8 0), (.int .u8 0), (.int .u8 0), (.int .u8 0), (.int .u8 0), (.int .u8 0), (.int .u8 0), (.int .u8 0), (.int .u8 0), (.int .u8 0), (.int .u8 0), (.int .u8 0), (.int .u8 0), (.int .u8 0), (.int .u8 0), (.int .u8 0), (.int .u8 0), (.int .u8 0), (.int .u8 0), (.int .u8 0), (.int .u8 0), (.int .u8 0), (.int .u8 0), (.int .u8 0), (.int .u8 0), (.int .u8 0), (.int .u8 0), (.int .u8 0), (.int .u8 0), (.int .u8 0), (.int .u8 0), (.int .u8 0), (.int .u8 0), (.int .u8 0), (.int .u8 0), (.int .u8 0), (.int .u8 0), (.int .u8 0), (.int .u8 0), (.int .u8 0), (.int .u8 0), (.int .u8 0), (.int .u8 0), (.int .u8 0), (.int .u8 0), (.int .u8 0), (.int .u8 0), (.int .u8 0), (.int .u8 0), (.int .u8 0), (.int .u8 0), (.int .u8 0), (.int .u8 0), (.int .u8 0), (.int .u8 0), (.int .u8 0), (.int .u8 0), (.int .u8 0), (.int .u8 0), (.int .u8 0), (.int .u8 0), (.int .u8 0), (.int .u8 0), (.int .u8 0), (.int .u8 0), (.int .u8 0), (.int .u8 0), (.int .u8 0), (.int .u8 0), (.int .u8 0), (.int .u8 0), (.int .u8 0), (.int .u8 0), (.int .u8 0), (.int .u8 0), (.int .u8 0), (.int .u8 0), (.int .u8 0), (.int .u8 0), (.int .u8 0), (.int .u8 0), (.int .u8 0), (.int .u8 0), (.int .u8 0), (.int .u8 0), (.int .u8 0), (.int .u8 0), (.int .u8 0), (.int .u8 0), (.int .u8 0), (.int .u8 0), (.int .u8 0), (.int .u8 0), (.int .u8 0), (.int .u8 0), (.int .u8 0), (.int .u8 0), (.int .u8 0), (.int .u8 0), (.int .u8 0), (.int .u8 0), (.int .u8 0), (.int .u8 0), (.int .u8 0), (.int .u8 0), (.int .u8 0), (.int .u8 0), (.int .u8 0), (.int .u8 0), (.int .u8 0), (.int .u8 0), (.int .u8 0), (.int .u8 0), (.int .u8 0), (.int .u8 0), (.int .u8 0), (.int .u8 0), (.int .u8 0), (.int .u8 0), (.int .u8 0), (.int .u8 0), (.int .u8 0), (.int .u8 0), (.int .u8 0), (.int .u8 0), (.int .u8 0), (.int .u8 0)])) := by kernel_rfl
theorem inf204 : (Go.Proofs.Tryz.prog.info? 204).map (fun i => (i.size, i.bytes, i.zero)) = some (2, 2, some (.agg #[(.int .u8 0), (.int .u8 0)])) := by kernel_rfl
theorem inf205 : (Go.Proofs.Tryz.prog.info? 205).map (fun i => (i.size, i.bytes, i.zero)) = some (2, 2, some (.agg #[(.int .u8 0), (.int .u8 0)])) := by kernel_rfl
theorem inf206 : (Go.Proofs.Tryz.prog.info? 206).map (fun i => (i.size, i.bytes, i.zero)) = some (32, 32, some (.agg #[(.int .u8 0), (.int .u8 0), (.int .u8 0), (.int .u8 0), (.int .u8 0), (.int .u8 0), (.int .u8 0), (.int .u8 0), (.int .u8 0), (.int .u8 0), (.int .u8 0), (.int .u8 0), (.int .u8 0), (.int .u8 0), (.int .u8 0), (.int .u8 0), (.int .u8 0), (.int .u8 0), (.int .u8 0), (.int .u8 0), (.int .u8 0), (.int .u8 0), (.int .u8 0), (.int .u8 0), (.int .u8 0), (.int .u8 0), (.int .u8 0), (.int .u8 0), (.int .u8 0), (.int .u8 0), (.int .u8 0), (.int .u8 0)])) := by kernel_rfl
theorem inf207 : (Go.Proofs.Tryz.prog.info? 207).map (fun i => (i.size, i.bytes, i.zero)) = some (1, 8, some .nilFunc) := by kernel_rfl
theorem inf208 : (Go.Proofs.Tryz.prog.info? 208).map (fun i => (i.size, i.bytes, i.zero)) = some (1, 8, some .nilFunc) := by kernel_rfl
theorem inf209 : (Go.Proofs.Tryz.prog.info? 209).map (fun i => (i.size, i.bytes, i.zero)) = some (1, 8, some .nilFunc) := by kernel_rfl
theorem inf210 : (Go.Proofs.Tryz.prog.info? 210).map (fun i => (i.size, i.bytes, i.zero)) = some (4, 40, some (.agg #[(.pointer none), (.pointer none), (.pointer none), (.string ⟨⟨[]⟩⟩)])) := by kernel_rfl
theorem inf211 : (Go.Proofs.Tryz.prog.info? 211).map (fun i => (i.size, i.bytes, i.zero)) = some (4, 40, some (.agg #[(.pointer none), (.pointer none), (.pointer none), (.string ⟨⟨[]⟩⟩)])) := by kernel_rfl
theorem inf212 : (Go.Proofs.Tryz.prog.info? 212).map (fun i => (i.size, i.bytes, i.zero)) = some (0, 0, some (.agg #[])) := by kernel_rfl
theorem inf213 : (Go.Proofs.Tryz.prog.info? 213).map (fun i => (i.size, i.bytes, i.zero)) = some (0, 0, some (.agg #[])) := by kernel_rfl
theorem inf214 : (Go.Proofs.Tryz.prog.info? 214).map (fun i => (i.size, i.bytes, i.zero)) = some (0, 0, some (.agg #[])) := by kernel_rfl
theorem inf215 : (Go.Proofs.Tryz.prog.info? 215).map (fun i => (i.size, i.bytes, i.zero)) = some (1, 1, some (.int .u8 0)) := by kernel_rfl
theorem inf216 : (Go.Proofs.Tryz.prog.info? 216).map (fun i => (i.size, i.bytes, i.zero)) = some (1, 1, some (.int .u8 0)) := by kernel_rfl
theorem inf217 : (Go.Proofs.Tryz.prog.info? 217).map (fun i => (i.size, i.bytes, i.zero)) = some (1, 8, some .nilFunc) := by kernel_rfl
theorem inf218 : (Go.Proofs.Tryz.prog.info? 218).map (fun i => (i.size, i.bytes, i.zero)) = some (1, 4, some (.int .i32 0)) := by kernel_rfl
theorem inf219 : (Go.Proofs.Tryz.prog.info? 219).map (fun i => (i.size, i.bytes, i.zero)) = some (1, 4, some (.int .i32 0)) := by kernel_rfl
theorem inf220 : (Go.Proofs.Tryz.prog.info? 220).map (fun i => (i.size, i.bytes, i.zero)) = some (11, 48, some (.agg #[(.int .u64 0), (.int .u64 0), (.int .u32 0), (.int .u8 0), (.int .u8 0), (.int .u8 0), (.int .u8 0), .nilFunc, (.pointer none), (.int .i32 0), (.int .i32 0)])) := by kernel_rfl
theorem inf221 : (Go.Proofs.Tryz.prog.info? 221).map (fun i => (i.size, i.bytes, i.zero)) = some (11, 48, some (.agg #[(.int .u64 0), (.int .u64 0), (.int .u32 0), (.int .u8 0), (.int .u8 0), (.int .u8 0), (.int .u8 0), .nilFunc, (.pointer none), (.int .i32 0), (.int .i32 0)])) := by kernel_rfl
def infL : List (Option (Nat × Nat × Value)) := [
  some (1, 0, (.tuple #[])),
  some (1, 8, .nilFunc),
  some (1, 8, (.int .i64 0)),
  some (1, 8, (.int .i64 0)),
  some (1, 1, (.bool false)),
  some (1, 1, (.int .u8 0)),
  some (1, 1, (.int .u8 0)),
  some (4, 24, (.agg #[(.int .i64 0), (.int .i64 0), (.bool false), (.int .u8 0)])),
  some (4, 24, (.agg #[(.int .i64 0), (.int .i64 0), (.bool false), (.int .u8 0)])),
  some (1, 16, (.string ⟨⟨[]⟩⟩)),
  some (1, 16, (.string ⟨⟨[]⟩⟩)),
  some (1, 16, (.string ⟨⟨[]⟩⟩)),
  some (1, 8, (.int .u64 0)),
  some (2, 24, (.agg #[(.string ⟨⟨[]⟩⟩), (.int .u64 0)])),
  some (2, 24, (.agg #[(.string ⟨⟨[]⟩⟩), (.int .u64 0)])),
  some (1, 8, (.pointer none)),
  some (1, 8, (.pointer none)),
  some (1, 8, (.pointer none)),
  some (1, 8, (.agg #[(.pointer none)])),
  some (1, 8, (.agg #[(.pointer none)])),
  some (1, 16, .nilIface),
  some (1, 4, (.int .i32 0)),
  some (1, 24, (.slice none 0 0)),
  some (1, 24, (.slice none 0 0)),
  some (2, 32, (.agg #[(.int .i64 0), (.slice none 0 0)])),
  some (2, 32, (.agg #[(.int .i64 0), (.slice none 0 0)])),
  some (1, 8, .nilFunc),
  some (1, 8, .nilFunc),
  some (1, 8, (.pointer none)),
  some (1, 8, .nilFunc),
  some (1, 8, (.pointer none)),
  some (1, 8, .nilFunc),
  some (1, 8, (.pointer none)),
  some (1, 8, .nilFunc),
  some (1, 8, (.pointer none)),
  some (5, 56, (.agg #[(.pointer none), (.int .i64 0), (.slice none 0 0), (.int .i64 0), (.bool false)])),
  some (5, 56, (.agg #[(.pointer none), (.int .i64 0), (.slice none 0 0), (.int .i64 0), (.bool false)])),
  some (1, 8, (.pointer none)),
  some (1, 8, (.int .i64 0)),
  some (1, 0, (.tuple #[(.pointer none), (.int .i64 0)])),
  some (1, 8, .nilFunc),
  some (1, 8, (.pointer none)),
  some (1, 0, (.tuple #[(.pointer none), (.int .i64 0)])),
  some (1, 8, .nilFunc),
  some (1, 4, (.int .u32 0)),
  some (5, 48, (.agg #[(.int .u8 0), (.string ⟨⟨[]⟩⟩), (.int .u32 0), (.int .i64 0), (.int .i64 0)])),
  some (5, 48, (.agg #[(.int .u8 0), (.string ⟨⟨[]⟩⟩), (.int .u32 0), (.int .i64 0), (.int .i64 0)])),
  some (1, 8, .nilFunc),
  some (1, 8, .nilFunc),
  some (1, 8, .nilFunc),
  some (1, 8, .nilFunc),
  some (1, 8, .nilFunc),
  some (1, 8, .nilFunc),
  some (1, 8, .nilFunc),
  some (1, 24, (.slice none 0 0)),
  some (1, 8, (.pointer none)),
  some (1, 0, (.tuple #[(.pointer none), (.int .i64 0)])),
  some (1, 8, .nilFunc),
  some (1, 8, (.pointer none)),
  some (1, 24, (.slice none 0 0)),
  some (1, 24, (.slice none 0 0)),
  some (2, 48, (.agg #[(.slice none 0 0), (.slice none 0 0)])),
  some (2, 48, (.agg #[(.slice none 0 0), (.slice none 0 0)])),
  some (1, 8, .nilFunc),
  some (1, 2, (.int .u16 0)),
  some (6, 96, (.agg #[(.string ⟨⟨[]⟩⟩), (.slice none 0 0), (.int .u8 0), (.string ⟨⟨[]⟩⟩), (.int .u16 0), (.slice none 0 0)])),
  some (6, 96, (.agg #[(.string ⟨⟨[]⟩⟩), (.slice none 0 0), (.int .u8 0), (.string ⟨⟨[]⟩⟩), (.int .u16 0), (.slice none 0 0)])),
  some (1, 0, (.tuple #[(.pointer none), (.slice none 0 0), (.int .i64 0)])),
  some (1, 8, .nilFunc),
  some (1, 8, .nilFunc),
  some (1, 8, .nilFunc),
  some (1, 8, .nilFunc),
  some (1, 8, .nilFunc),
  some (1, 8, .nilFunc),
  some (1, 8, .nilFunc),
  some (1, 8, .nilFunc),
  some (1, 8, .nilFunc),
  some (6, 48, (.agg #[(.pointer none), (.int .i64 0), (.int .i64 0), (.int .u32 0), (.pointer none), (.bool false)])),
  some (6, 48, (.agg #[(.pointer none), (.int .i64 0), (.int .i64 0), (.int .u32 0), (.pointer none), (.bool false)])),
  some (1, 8, .nilFunc),
  some (1, 8, .nilFunc),
  some (1, 8, .nilFunc),
  some (1, 24, (.slice none 0 0)),
  some (1, 24, (.agg #[(.slice none 0 0)])),
  some (1, 24, (.agg #[(.slice none 0 0)])),
  some (1, 24, (.slice none 0 0)),
  some (2, 48, (.agg #[(.slice none 0 0), (.slice none 0 0)])),
  some (2, 48, (.agg #[(.slice none 0 0), (.slice none 0 0)])),
  some (1, 24, (.slice none 0 0)),
  some (1, 8, .nilFunc),
  some (5, 56, (.agg #[(.pointer none), (.int .i64 0), (.slice none 0 0), (.int .i64 0), (.bool false)])),
  some (5, 56, (.agg #[(.pointer none), (.int .i64 0), (.slice none 0 0), (.int .i64 0), (.bool false)])),
  some (1, 8, .nilFunc),
  some (1, 8, .nilFunc),
  some (6, 40, (.agg #[(.pointer none), (.int .i64 0), (.int .i64 0), (.int .i64 0), (.bool false), (.bool false)])),
  some (6, 40, (.agg #[(.pointer none), (.int .i64 0), (.int .i64 0), (.int .i64 0), (.bool false), (.bool false)])),
  some (1, 8, .nilFunc),
  some (5, 40, (.agg #[(.pointer none), (.int .i64 0), (.int .i64 0), (.int .i64 0), (.bool false)])),
  some (5, 40, (.agg #[(.pointer none), (.int .i64 0), (.int .i64 0), (.int .i64 0), (.bool false)])),
  some (1, 0, (.tuple #[(.int .u32 0), (.slice none 0 0), (.int .i64 0)])),
  some (1, 8, .nilFunc),
  some (1, 0, (.tuple #[(.int .u32 0), (.slice none 0 0), (.int .i64 0)])),
  some (1, 8, .nilFunc),
  some (1, 8, .nilFunc),
  some (1, 8, .nilFunc),
  some (1, 8, .nilFunc),
  some (1, 8, .nilFunc),
  some (1, 8, .nilFunc),
  some (1, 8, .nilFunc),
  some (1, 8, .nilFunc),
  some (1, 8, .nilFunc),
  some (1, 8, .nilFunc),
  some (1, 8, .nilFunc),
  some (1, 8, (.int .u64 0)),
  some (1, 0, (.tuple #[(.int .u64 0), (.int .u64 0)])),
  some (1, 8, .nilFunc),
  some (1, 8, .nilFunc),
  some (1, 8, (.pointer none)),
  some (2, 32, (.agg #[(.pointer none), (.slice none 0 0)])),
  some (2, 32, (.agg #[(.pointer none), (.slice none 0 0)])),
  some (1, 8, .nilFunc),
  some (1, 16, .nilIface),
  some (1, 16, .nilIface),
  some (1, 0, (.tuple #[(.int .i64 0), .nilIface])),
  some (1, 8, .nilFunc),
  some (1, 8, .nilFunc),
  some (1, 8, .nilFunc),
  some (1, 8, .nilFunc),
  some (1, 8, .nilFunc),
  some (1, 8, .nilFunc),
  some (1, 8, .nilFunc),
  some (1, 0, (.tuple #[(.string ⟨⟨[]⟩⟩), (.int .i64 0)])),
  some (1, 8, .nilFunc),
  some (1, 8, .nilFunc),
  some (1, 0, (.tuple #[(.string ⟨⟨[]⟩⟩), (.bool false), (.bool false)])),
  some (1, 8, .nilFunc),
  some (1, 0, (.tuple #[(.string ⟨⟨[]⟩⟩), (.int .i64 0)])),
  some (1, 8, .nilFunc),
  some (1, 8, (.pointer none)),
  some (3, 32, (.agg #[(.string ⟨⟨[]⟩⟩), (.int .i64 0), (.int .i64 0)])),
  some (3, 32, (.agg #[(.string ⟨⟨[]⟩⟩), (.int .i64 0), (.int .i64 0)])),
  some (1, 8, .nilFunc),
  some (1, 8, .nilFunc),
  some (1, 8, .nilFunc),
  some (1, 8, (.pointer none)),
  some (1, 0, (.tuple #[(.pointer none), (.int .i64 0)])),
  some (1, 8, .nilFunc),
  some (64, 64, (.agg #[(.int .u8 0), (.int .u8 0), (.int .u8 0), (.int .u8 0), (.int .u8 0), (.int .u8 0), (.int .u8 0), (.int .u8 0), (.int .u8 0), (.int .u8 0), (.int .u8 0), (.int .u8 0), (.int .u8 0), (.int .u8 0), (.int .u8 0), (.int .u8 0), (.int .u8 0), (.int .u8 0), (.int .u8 0), (.int .u8 0), (.int .u8 0), (.int .u8 0), (.int .u8 0), (.int .u8 0), (.int .u8 0), (.int .u8 0), (.int .u8 0), (.int .u8 0), (.int .u8 0), (.int .u8 0), (.int .u8 0), (.int .u8 0), (.int .u8 0), (.int .u8 0), (.int .u8 0), (.int .u8 0), (.int .u8 0), (.int .u8 0), (.int .u8 0), (.int .u8 0), (.int .u8 0), (.int .u8 0), (.int .u8 0), (.int .u8 0), (.int .u8 0), (.int .u8 0), (.int .u8 0), (.int .u8 0), (.int .u8 0), (.int .u8 0), (.int .u8 0), (.int .u8 0), (.int .u8 0), (.int .u8 0), (.int .u8 0), (.int .u8 0), (.int .u8 0), (.int .u8 0), (.int .u8 0), (.int .u8 0), (.int .u8 0), (.int .u8 0), (.int .u8 0), (.int .u8 0)])),
  some (64, 64, (.agg #[(.int .u8 0), (.int .u8 0), (.int .u8 0), (.int .u8 0), (.int .u8 0), (.int .u8 0), (.int .u8 0), (.int .u8 0), (.int .u8 0), (.int .u8 0), (.int .u8 0), (.int .u8 0), (.int .u8 0), (.int .u8 0), (.int .u8 0), (.int .u8 0), (.int .u8 0), (.int .u8 0), (.int .u8 0), (.int .u8 0), (.int .u8 0), (.int .u8 0), (.int .u8 0), (.int .u8 0), (.int .u8 0), (.int .u8 0), (.int .u8 0), (.int .u8 0), (.int .u8 0), (.int .u8 0), (.int .u8 0), (.int .u8 0), (.int .u8 0), (.int .u8 0), (.int .u8 0), (.int .u8 0), (.int .u8 0), (.int .u8 0), (.int .u8 0), (.int .u8 0), (.int .u8 0), (.int .u8 0), (.int .u8 0), (.int .u8 0), (.int .u8 0), (.int .u8 0), (.int .u8 0), (.int .u8 0), (.int .u8 0), (.int .u8 0), (.int .u8 0), (.int .u8 0), (.int .u8 0), (.int .u8 0), (.int .u8 0), (.int .u8 0), (.int .u8 0), (.int .u8 0), (.int .u8 0), (.int .u8 0), (.int .u8 0), (.int .u8 0), (.int .u8 0), (.int .u8 0)])),
  some (129, 129, (.agg #[(.int .u8 0), (.int .u8 0), (.int .u8 0), (.int .u8 0), (.int .u8 0), (.int .u8 0), (.int .u8 0), (.int .u8 0), (.int .u8 0), (.int .u8 0), (.int .u8 0), (.int .u8 0), (.int .u8 0), (.int .u8 0), (.int .u8 0), (.int .u8 0), (.int .u8 0), (.int .u8 0), (.int .u8 0), (.int .u8 0), (.int .u8 0), (.int .u8 0), (.int .u8 0), (.int .u8 0), (.int .u8 0), (.int .u8 0), (.int .u8 0), (.int .u8 0), (.int .u8 0), (.int .u8 0), (.int .u8 0), (.int .u8 0), (.int .u8 0), (.int .u8 0), (.int .u8 0), (.int .u8 0), (.int .u8 0), (.int .u8 0), (.int .u8 0), (.int .u8 0), (.int .u8 0), (.int .u8 0), (.int .u8 0), (.int .u8 0), (.int .u8 0), (.int .u8 0), (.int .u8 0), (.int .u8 0), (.int .u8 0), (.int .u8 0), (.int .u8 0), (.int .u8 0), (.int .u8 0), (.int .u8 0), (.int .u8 0), (.int .u8 0), (.int .u8 0), (.int .u8 0), (.int .u8 0), (.int .u8 0), (.int .u8 0), (.int .u8 0), (.int .u8 0), (.int .u8 0), (.int .u8 0), (.int .u8 0), (.int .u8 0), (.int .u8 0), (.int .u8 0), (.int .u8 0), (.int .u8 0), (.int .u8 0), (.int .u8 0), (.int .u8 0), (.int .u8 0), (.int .u8 0), (.int .u8 0), (.int .u8 0), (.int .u8 0), (.int .u8 0), (.int .u8 0), (.int .u8 0), (.int .u8 0), (.int .u8 0), (.int .u8 0), (.int .u8 0), (.int .u8 0), (.int .u8 0), (.int .u8 0), (.int .u8 0), (.int .u8 0), (.int .u8 0), (.int .u8 0), (.int .u8 0), (.int .u8 0), (.int .u8 0), (.int .u8 0), (.int .u8 0), (.int .u8 0), (.int .u8 0), (.int .u8 0), (.int .u8 0), (.int .u8 0), (.int .u8 0), (.int .u8 0), (.int .u8 0), (.int .u8 0), (.int .u8 0), (.int .u8 0), (.int .u8 0), (.int .u8 0), (.int .u8 0), (.int .u8 0), (.int .u8 0), (.int .u8 0), (.int .u8 0), (.int .u8 0), (.int .u8 0), (.int .u8 0), (.int .u8 0), (.int .u8 0), (.int .u8 0), (.int .u8 0), (.int .u8 0), (.int .u8 0), (.int .u8 0), (.int .u8 0), (.int .u8 0), (.bool false)])),
  some (129, 129, (.agg #[(.int .u8 0), (.int .u8 0), (.int .u8 0), (.int .u8 0), (.int .u8 0), (.int .u8 0), (.int .u8 0), (.int .u8 0), (.int .u8 0), (.int .u8 0), (.int .u8 0), (.int .u8 0), (.int .u8 0), (.int .u8 0), (.int .u8 0), (.int .u8 0), (.int .u8 0), (.int .u8 0), (.int .u8 0), (.int .u8 0), (.int .u8 0), (.int .u8 0), (.int .u8 0), (.int .u8 0), (.int .u8 0), (.int .u8 0), (.int .u8 0), (.int .u8 0), (.int .u8 0), (.int .u8 0), (.int .u8 0), (.int .u8 0), (.int .u8 0), (.int .u8 0), (.int .u8 0), (.int .u8 0), (.int .u8 0), (.int .u8 0), (.int .u8 0), (.int .u8 0), (.int .u8 0), (.int .u8 0), (.int .u8 0), (.int .u8 0), (.int .u8 0), (.int .u8 0), (.int .u8 0), (.int .u8 0), (.int .u8 0), (.int .u8 0), (.int .u8 0), (.int .u8 0), (.int .u8 0), (.int .u8 0), (.int .u8 0), (.int .u8 0), (.int .u8 0), (.int .u8 0), (.int .u8 0), (.int .u8 0), (.int .u8 0), (.int .u8 0), (.int .u8 0), (.int .u8 0), (.int .u8 0), (.int .u8 0), (.int .u8 0), (.int .u8 0), (.int .u8 0), (.int .u8 0), (.int .u8 0), (.int .u8 0), (.int .u8 0), (.int .u8 0), (.int .u8 0), (.int .u8 0), (.int .u8 0), (.int .u8 0), (.int .u8 0), (.int .u8 0), (.int .u8 0), (.int .u8 0), (.int .u8 0), (.int .u8 0), (.int .u8 0), (.int .u8 0), (.int .u8 0), (.int .u8 0), (.int .u8 0), (.int .u8 0), (.int .u8 0), (.int .u8 0), (.int .u8 0), (.int .u8 0), (.int .u8 0), (.int .u8 0), (.int .u8 0), (.int .u8 0), (.int .u8 0), (.int .u8 0), (.int .u8 0), (.int .u8 0), (.int .u8 0), (.int .u8 0), (.int .u8 0), (.int .u8 0), (.int .u8 0), (.int .u8 0), (.int .u8 0), (.int .u8 0), (.int .u8 0), (.int .u8 0), (.int .u8 0), (.int .u8 0), (.int .u8 0), (.int .u8 0), (.int .u8 0), (.int .u8 0), (.int .u8 0), (.int .u8 0), (.int .u8 0), (.int .u8 0), (.int .u8 0), (.int .u8 0), (.int .u8 0), (.int .u8 0), (.int .u8 0), (.int .u8 0), (.bool false)])),
  some (1, 0, (.tuple #[(.int .i64 0), (.bool false)])),
  some (1, 8, .nilFunc),
  some (2, 24, (.agg #[(.int .i64 0), (.string ⟨⟨[]⟩⟩)])),
  some (2, 24, (.agg #[(.int .i64 0), (.string ⟨⟨[]⟩⟩)])),
  some (1, 24, (.agg #[(.slice none 0 0)])),
  some (1, 24, (.agg #[(.slice none 0 0)])),
  some (1, 8, .nilFunc),
  some (1, 8, .nilFunc),
  some (1, 8, .nilFunc),
  some (1, 8, .nilFunc),
  some (1, 24, (.slice none 0 0)),
  some (1, 0, (.tuple #[(.int .u32 0), (.int .u32 0)])),
  some (1, 8, .nilFunc),
  some (1, 8, (.int .u64 0)),
  some (1, 0, (.tuple #[(.int .u64 0), (.int .u64 0)])),
  some (1, 8, .nilFunc),
  some (1, 8, (.pointer none)),
  some (1, 8, .nilFunc),
  some (1, 8, .nilFunc),
  some (1, 8, .nilFunc),
  some (1, 8, (.pointer none)),
  some (1, 8, .nilFunc),
  some (1, 8, .nilFunc),
  some (1, 8, .nilFunc),
  some (1, 8, .nilFunc),
  some (1, 8, .nilFunc),
  some (1, 8, (.pointer none)),
  some (1, 8, .nilFunc),
  some (1, 8, .nilFunc),
  some (1, 8, (.pointer none)),
  some (1, 8, .nilFunc),
  some (1, 8, .nilFunc),
  some (1, 8, .nilFunc),
  some (1, 8, .nilFunc),
  some (2, 24, (.agg #[(.string ⟨⟨[]⟩⟩), (.int .i64 0)])),
  some (2, 24, (.agg #[(.string ⟨⟨[]⟩⟩), (.int .i64 0)])),
  some (1, 8, .nilFunc),
  some (1, 8, .nilFunc),
  some (1, 8, .nilFunc),
  some (256, 256, (.agg #[(.bool false), (.bool false), (.bool false), (.bool false), (.bool false), (.bool false), (.bool false), (.bool false), (.bool false), (.bool false), (.bool false), (.bool false), (.bool false), (.bool false), (.bool false), (.bool false), (.bool false), (.bool false), (.bool false), (.bool false), (.bool false), (.bool false), (.bool false), (.bool false), (.bool false), (.bool false), (.bool false), (.bool false), (.bool false), (.bool false), (.bool false), (.bool false), (.bool false), (.bool false), (.bool false), (.bool false), (.bool false), (.bool false), (.bool false), (.bool false), (.bool false), (.bool false), (.bool false), (.bool false), (.bool false), (.bool false), (.bool false), (.bool false), (.bool false), (.bool false), (.bool false), (.bool false), (.bool false), (.bool false), (.bool false), (.bool false), (.bool false), (.bool false), (.bool false), (.bool false), (.bool false), (.bool false), (.bool false), (.bool false), (.bool false), (.bool false), (.bool false), (.bool false), (.bool false), (.bool false), (.bool false), (.bool false), (.bool false), (.bool false), (.bool false), (.bool false), (.bool false), (.bool false), (.bool false), (.bool false), (.bool false), (.bool false), (.bool false), (.bool false), (.bool false), (.bool false), (.bool false), (.bool false), (.bool false), (.bool false), (.bool false), (.bool false), (.bool false), (.bool false), (.bool false), (.bool false), (.bool false), (.bool false), (.bool false), (.bool false), (.bool false), (.bool false), (.bool false), (.bool false), (.bool false), (.bool false), (.bool false), (.bool false), (.bool false), (.bool false), (.bool false), (.bool false), (.bool false), (.bool false), (.bool false), (.bool false), (.bool false), (.bool false), (.bool false), (.bool false), (.bool false), (.bool false), (.bool false), (.bool false), (.bool false), (.bool false), (.bool false), (.bool false), (.bool false), (.bool false), (.bool false), (.bool false), (.bool false), (.bool false), (.bool false), (.bool false), (.bool false), (.bool false), (.bool false), (.bool false), (.bool false), (.bool false), (.bool false), (.bool false), (.bool false), (.bool false), (.bool false), (.bool false), (.bool false), (.bool false), (.bool false), (.bool false), (.bool false), (.bool false), (.bool false), (.bool false), (.bool false), (.bool false), (.bool false), (.bool false), (.bool false), (.bool false), (.bool false), (.bool false), (.bool false), (.bool false), (.bool false), (.bool false), (.bool false), (.bool false), (.bool false), (.bool false), (.bool false), (.bool false), (.bool false), (.bool false), (.bool false), (.bool false), (.bool false), (.bool false), (.bool false), (.bool false), (.bool false), (.bool false), (.bool false), (.bool false), (.bool false), (.bool false), (.bool false), (.bool false), (.bool false), (.bool false), (.bool false), (.bool false), (.bool false), (.bool false), (.bool false), (.bool false), (.bool false), (.bool false), (.bool false), (.bool false), (.bool false), (.bool false), (.bool false), (.bool false), (.bool false), (.bool false), (.bool false), (.bool false), (.bool false), (.bool false), (.bool false), (.bool false), (.bool false), (.bool false), (.bool false), (.bool false), (.bool false), (.bool false), (.bool false), (.bool false), (.bool false), (.bool false), (.bool false), (.bool false), (.bool false), (.bool false), (.bool false), (.bool false), (.bool false), (.bool false), (.bool false), (.bool false), (.bool false), (.bool false), (.bool false), (.bool false), (.bool false), (.bool false), (.bool false), (.bool false), (.bool false), (.bool false), (.bool false), (.bool false), (.bool false), (.bool false), (.bool false), (.bool false), (.bool false), (.bool false), (.bool false), (.bool false), (.bool false), (.bool false)])),
  some (256, 256, (.agg #[(.bool false), (.bool false), (.bool false), (.bool false), (.bool false), (.bool false), (.bool false), (.bool false), (.bool false), (.bool false), (.bool false), (.bool false), (.bool false), (.bool false), (.bool false), (.bool false), (.bool false), (.bool false), (.bool false), (.bool false), (.bool false), (.bool false), (.bool false), (.bool false), (.bool false), (.bool false), (.bool false), (.bool false), (.bool false), (.bool false), (.bool false), (.bool false), (.bool false), (.bool false), (.bool false), (.bool false), (.bool false), (.bool false), (.bool false), (.bool false), (.bool false), (.bool false), (.bool false), (.bool false), (.bool false), (.bool false), (.bool false), (.bool false), (.bool false), (.bool false), (.bool false), (.bool false), (.bool false), (.bool false), (.bool false), (.bool false), (.bool false), (.bool false), (.bool false), (.bool false), (.bool false), (.bool false), (.bool false), (.bool false), (.bool false), (.bool false), (.bool false), (.bool false), (.bool false), (.bool false), (.bool false), (.bool false), (.bool false), (.bool false), (.bool false), (.bool false), (.bool false), (.bool false), (.bool false), (.bool false), (.bool false), (.bool false), (.bool false), (.bool false), (.bool false), (.bool false), (.bool false), (.bool false), (.bool false), (.bool false), (.bool false), (.bool false), (.bool false), (.bool false), (.bool false), (.bool false), (.bool false), (.bool false), (.bool false), (.bool false), (.bool false), (.bool false), (.bool false), (.bool false), (.bool false), (.bool false), (.bool false), (.bool false), (.bool false), (.bool false), (.bool false), (.bool false), (.bool false), (.bool false), (.bool false), (.bool false), (.bool false), (.bool false), (.bool false), (.bool false), (.bool false), (.bool false), (.bool false), (.bool false), (.bool false), (.bool false), (.bool false), (.bool false), (.bool false), (.bool false), (.bool false), (.bool false), (.bool false), (.bool false), (.bool false), (.bool false), (.bool false), (.bool false), (.bool false), (.bool false), (.bool false), (.bool false), (.bool false), (.bool false), (.bool false), (.bool false), (.bool false), (.bool false), (.bool false), (.bool false), (.bool false), (.bool false), (.bool false), (.bool false), (.bool false), (.bool false), (.bool false), (.bool false), (.bool false), (.bool false), (.bool false), (.bool false), (.bool false), (.bool false), (.bool false), (.bool false), (.bool false), (.bool false), (.bool false), (.bool false), (.bool false), (.bool false), (.bool false), (.bool false), (.bool false), (.bool false), (.bool false), (.bool false), (.bool false), (.bool false), (.bool false), (.bool false), (.bool false), (.bool false), (.bool false), (.bool false), (.bool false), (.bool false), (.bool false), (.bool false), (.bool false), (.bool false), (.bool false), (.bool false), (.bool false), (.bool false), (.bool false), (.bool false), (.bool false), (.bool false), (.bool false), (.bool false), (.bool false), (.bool false), (.bool false), (.bool false), (.bool false), (.bool false), (.bool false), (.bool false), (.bool false), (.bool false), (.bool false), (.bool false), (.bool false), (.bool false), (.bool false), (.bool false), (.bool false), (.bool false), (.bool false), (.bool false), (.bool false), (.bool false), (.bool false), (.bool false), (.bool false), (.bool false), (.bool false), (.bool false), (.bool false), (.bool false), (.bool false), (.bool false), (.bool false), (.bool false), (.bool false), (.bool false), (.bool false), (.bool false), (.bool false), (.bool false), (.bool false), (.bool false), (.bool false), (.bool false), (.bool false), (.bool false), (.bool false), (.bool false), (.bool false), (.bool false), (.bool false), (.bool false), (.bool false), (.bool false)])),
  some (1, 0, (.tuple #[(.agg #[(.bool false), (.bool false), (.bool false), (.bool false), (.bool false), (.bool false), (.bool false), (.bool false), (.bool false), (.bool false), (.bool false), (.bool false), (.bool false), (.bool false), (.bool false), (.bool false), (.bool false), (.bool false), (.bool false), (.bool false), (.bool false), (.bool false), (.bool false), (.bool false), (.bool false), (.bool false), (.bool false), (.bool false), (.bool false), (.bool false), (.bool false), (.bool false), (.bool false), (.bool false), (.bool false), (.bool false), (.bool false), (.bool false), (.bool false), (.bool false), (.bool false), (.bool false), (.bool false), (.bool false), (.bool false), (.bool false), (.bool false), (.bool false), (.bool false), (.bool false), (.bool false), (.bool false), (.bool false), (.bool false), (.bool false), (.bool false), (.bool false), (.bool false), (.bool false), (.bool false), (.bool false), (.bool false), (.bool false), (.bool false), (.bool false), (.bool false), (.bool false), (.bool false), (.bool false), (.bool false), (.bool false), (.bool false), (.bool false), (.bool false), (.bool false), (.bool false), (.bool false), (.bool false), (.bool false), (.bool false), (.bool false), (.bool false), (.bool false), (.bool false), (.bool false), (.bool false), (.bool false), (.bool false), (.bool false), (.bool false), (.bool false), (.bool false), (.bool false), (.bool false), (.bool false), (.bool false), (.bool false), (.bool false), (.bool false), (.bool false), (.bool false), (.bool false), (.bool false), (.bool false), (.bool false), (.bool false), (.bool false), (.bool false), (.bool false), (.bool false), (.bool false), (.bool false), (.bool false), (.bool false), (.bool false), (.bool false), (.bool false), (.bool false), (.bool false), (.bool false), (.bool false), (.bool false), (.bool false), (.bool false), (.bool false), (.bool false), (.bool false), (.bool false), (.bool false), (.bool false), (.bool false), (.bool false), (.bool false), (.bool false), (.bool false), (.bool false), (.bool false), (.bool false), (.bool false), (.bool false), (.bool false), (.bool false), (.bool false), (.bool false), (.bool false), (.bool false), (.bool false), (.bool false), (.bool false), (.bool false), (.bool false), (.bool false), (.bool false), (.bool false), (.bool false), (.bool false), (.bool false), (.bool false), (.bool false), (.bool false), (.bool false), (.bool false), (.bool false), (.bool false), (.bool false), (.bool false), (.bool false), (.bool false), (.bool false), (.bool false), (.bool false), (.bool false), (.bool false), (.bool false), (.bool false), (.bool false), (.bool false), (.bool false), (.bool false), (.bool false), (.bool false), (.bool false), (.bool false), (.bool false), (.bool false), (.bool false), (.bool false), (.bool false), (.bool false), (.bool false), (.bool false), (.bool false), (.bool false), (.bool false), (.bool false), (.bool false), (.bool false), (.bool false), (.bool false), (.bool false), (.bool false), (.bool false), (.bool false), (.bool false), (.bool false), (.bool false), (.bool false), (.bool false), (.bool false), (.bool false), (.bool false), (.bool false), (.bool false), (.bool false), (.bool false), (.bool false), (.bool false), (.bool false), (.bool false), (.bool false), (.bool false), (.bool false), (.bool false), (.bool false), (.bool false), (.bool false), (.bool false), (.bool false), (.bool false), (.bool false), (.bool false), (.bool false), (.bool false), (.bool false), (.bool false), (.bool false), (.bool false), (.bool false), (.bool false), (.bool false), (.bool false), (.bool false), (.bool false), (.bool false), (.bool false), (.bool false), (.bool false), (.bool false), (.bool false), (.bool false), (.bool false), (.bool false), (.bool false), (.bool false), (.bool false), (.bool false)]), (.bool false)])),
  some (1, 8, .nilFunc),
  some (1, 8, .nilFunc),
  some (1, 8, (.pointer none)),
  some (1, 8, .nilFunc),
  some (1, 8, .nilFunc),
  some (1, 8, .nilFunc),
  some (1, 0, (.tuple #[(.int .i32 0), (.int .i64 0)])),
  some (1, 8, .nilFunc),
  some (1, 8, .nilFunc),
  some (1, 8, .nilFunc),
  some (256, 256, (.agg #[(.int .u8 0), (.int .u8 0), (.int .u8 0), (.int .u8 0), (.int .u8 0), (.int .u8 0), (.int .u8 0), (.int .u8 0), (.int .u8 0), (.int .u8 0), (.int .u8 0), (.int .u8 0), (.int .u8 0), (.int .u8 0), (.int .u8 0), (.int .u8 0), (.int .u8 0), (.int .u8 0), (.int .u8 0), (.int .u8 0), (.int .u8 0), (.int .u8 0), (.int .u8 0), (.int .u8 0), (.int .u8 0), (.int .u8 0), (.int .u8 0), (.int .u8 0), (.int .u8 0), (.int .u8 0), (.int .u8 0), (.int .u8 0), (.int .u8 0), (.int .u8 0), (.int .u8 0), (.int .u8 0), (.int .u8 0), (.int .u8 0), (.int .u8 0), (.int .u8 0), (.int .u8 0), (.int .u8 0), (.int .u8 0), (.int .u8 0), (.int .u8 0), (.int .u8 0), (.int .u8 0), (.int .u8 0), (.int .u8 0), (.int .u8 0), (.int .u8 0), (.int .u8 0), (.int .u8 0), (.int .u8 0), (.int .u8 0), (.int .u8 0), (.int .u8 0), (.int .u8 0), (.int .u8 0), (.int .u8 0), (.int .u8 0), (.int .u8 0), (.int .u8 0), (.int .u8 0), (.int .u8 0), (.int .u8 0), (.int .u8 0), (.int .u8 0), (.int .u8 0), (.int .u8 0), (.int .u8 0), (.int .u8 0), (.int .u8 0), (.int .u8 0), (.int .u8 0), (.int .u8 0), (.int .u8 0), (.int .u8 0), (.int .u8 0), (.int .u8 0), (.int .u8 0), (.int .u8 0), (.int .u8 0), (.int .u8 0), (.int .u8 0), (.int .u8 0), (.int .u8 0), (.int .u8 0), (.int .u8 0), (.int .u8 0), (.int .u8 0), (.int .u8 0), (.int .u8 0), (.int .u8 0), (.int .u8 0), (.int .u8 0), (.int .u8 0), (.int .u8 0), (.int .u8 0), (.int .u8 0), (.int .u8 0), (.int .u8 0), (.int .u8 0), (.int .u8 0), (.int .u8 0), (.int .u8 0), (.int .u8 0), (.int .u8 0), (.int .u8 0), (.int .u8 0), (.int .u8 0), (.int .u8 0), (.int .u8 0), (.int .u8 0), (.int .u8 0), (.int .u8 0), (.int .u8 0), (.int .u8 0), (.int .u8 0), (.int .u8 0), (.int .u8 0), (.int .u8 0), (.int .u8 0), (.int .u8 0), (.int .u8 0), (.int .u8 0), (.int .u8 0), (.int .u8 0), (.int .u8 0), (.int .u8 0), (.int .u8 0), (.int .u8 0), (.int .u8 0), (.int .u8 0), (.int .u8 0), (.int .u8 0), (.int .u8 0), (.int .u8 0), (.int .u8 0), (.int .u8 0), (.int .u8 0), (.int .u8 0), (.int .u8 0), (.int .u8 0), (.int .u8 0), (.int .u8 0), (.int .u8 0), (.int .u8 0), (.int .u8 0), (.int .u8 0), (.int .u8 0), (.int .u8 0), (.int .u8 0), (.int .u8 0), (.int .u8 0), (.int .u8 0), (.int .u8 0), (.int .u8 0), (.int .u8 0), (.int .u8 0), (.int .u8 0), (.int .u8 0), (.int .u8 0), (.int .u8 0), (.int .u8 0), (.int .u8 0), (.int .u8 0), (.int .u8 0), (.int .u8 0), (.int .u8 0), (.int .u8 0), (.int .u8 0), (.int .u8 0), (.int .u8 0), (.int .u8 0), (.int .u8 0), (.int .u8 0), (.int .u8 0), (.int .u8 0), (.int .u8 0), (.int .u8 0), (.int .u8 0), (.int .u8 0), (.int .u8 0), (.int .u8 0), (.int .u8 0), (.int .u8 0), (.int .u8 0), (.int .u8 0), (.int .u8 0), (.int .u8 0), (.int .u8 0), (.int .u8 0), (.int .u8 0), (.int .u8 0), (.int .u8 0), (.int .u8 0), (.int .u8 0), (.int .u8 0), (.int .u8 0), (.int .u8 0), (.int .u8 0), (.int .u8 0), (.int .u8 0), (.int .u8 0), (.int .u8 0), (.int .u8 0), (.int .u8 0), (.int .u8 0), (.int .u8 0), (.int .u8 0), (.int .u8 0), (.int .u8 0), (.int .u8 0), (.int .u8 0), (.int .u8 0), (.int .u8 0), (.int .u8 0), (.int .u8 0), (.int .u8 0), (.int .u8 0), (.int .u8 0), (.int .u8 0), (.int .u8 0), (.int .u8 0), (.int .u8 0), (.int .u8 0), (.int .u8 0), (.int .u8 0), (.int .u8 0), (.int .u8 0), (.int .u8 0), (.int .u8 0), (.int .u8 0), (.int .u8 0), (.int .u8 0), (.int .u8 0), (.int .u8 0), (.int .u8 0), (.int .u8 0), (.int .u8 0), (.int .u8 0), (.int .u8 0), (.int .u8 0), (.int .u8 0), (.int .u8 0), (.int .u8 0), (.int .u8 0), (.int .u8 0), (.int .u8 0), (.int .u8 0), (.int .u8 0), (.int .u8 0), (.int .u8 0), (.int .u8 0), (.int .u8 0)])),
  some (2, 2, (.agg #[(.int .u8 0), (.int .u8 0)])),
  some (2, 2, (.agg #[(.int .u8 0), (.int .u8 0)])),
  some (32, 32, (.agg #[(.int .u8 0), (.int .u8 0), (.int .u8 0), (.int .u8 0), (.int .u8 0), (.int .u8 0), (.int .u8 0), (.int .u8 0), (.int .u8 0), (.int .u8 0), (.int .u8 0), (.int .u8 0), (.int .u8 0), (.int .u8 0), (.int .u8 0), (.int .u8 0), (.int .u8 0), (.int .u8 0), (.int .u8 0), (.int .u8 0), (.int .u8 0), (.int .u8 0), (.int .u8 0), (.int .u8 0), (.int .u8 0), (.int .u8 0), (.int .u8 0), (.int .u8 0), (.int .u8 0), (.int .u8 0), (.int .u8 0), (.int .u8 0)])),
  some (1, 8, .nilFunc),
  some (1, 8, .nilFunc),
  some (1, 8, .nilFunc),
  some (4, 40, (.agg #[(.pointer none), (.pointer none), (.pointer none), (.string ⟨⟨[]⟩⟩)])),
  some (4, 40, (.agg #[(.pointer none), (.pointer none), (.pointer none), (.string ⟨⟨[]⟩⟩)])),
  some (0, 0, (.agg #[])),
  some (0, 0, (.agg #[])),
  some (0, 0, (.agg #[])),
  some (1, 1, (.int .u8 0)),
  some (1, 1, (.int .u8 0)),
  some (1, 8, .nilFunc),
  some (1, 4, (.int .i32 0)),
  some (1, 4, (.int .i32 0)),
  some (11, 48, (.agg #[(.int .u64 0), (.int .u64 0), (.int .u32 0), (.int .u8 0), (.int .u8 0), (.int .u8 0), (.int .u8 0), .nilFunc, (.pointer none), (.int .i32 0), (.int .i32 0)])),
  some (11, 48, (.agg #[(.int .u64 0), (.int .u64 0), (.int .u32 0), (.int .u8 0), (.int .u8 0), (.int .u8 0), (.int .u8 0), .nilFunc, (.pointer none), (.int .i32 0), (.int .i32 0)]))]
theorem undOk : AllU Go.Proofs.Tryz.prog undL 0 := ⟨Go.Proofs.Tryz.underlying0, Go.Proofs.Tryz.underlying1, Go.Proofs.Tryz.underlying2, Go.Proofs.Tryz.underlying3, Go.Proofs.Tryz.underlying4, Go.Proofs.Tryz.underlying5, Go.Proofs.Tryz.underlying6, Go.Proofs.Tryz.underlying7, Go.Proofs.Tryz.underlying8, Go.Proofs.Tryz.underlying9, Go.Proofs.Tryz.underlying10, Go.Proofs.Tryz.underlying11, Go.Proofs.Tryz.underlying12, Go.Proofs.Tryz.underlying13, Go.Proofs.Tryz.underlying14, Go.Proofs.Tryz.underlying15, Go.Proofs.Tryz.underlying16, Go.Proofs.Tryz.underlying17, Go.Proofs.Tryz.underlying18, Go.Proofs.Tryz.underlying19, Go.Proofs.Tryz.underlying20, Go.Proofs.Tryz.underlying21, Go.Proofs.Tryz.underlying22, Go.Proofs.Tryz.underlying23, Go.Proofs.Tryz.underlying24, Go.Proofs.Tryz.underlying25, Go.Proofs.Tryz.underlying26, Go.Proofs.Tryz.underlying27, Go.Proofs.Tryz.underlying28, Go.Proofs.Tryz.underlying29, Go.Proofs.Tryz.underlying30, Go.Proofs.Tryz.underlying31, Go.Proofs.Tryz.underlying32, Go.Proofs.Tryz.underlying33, Go.Proofs.Tryz.underlying34, Go.Proofs.Tryz.underlying35, Go.Proofs.Tryz.underlying36, Go.Proofs.Tryz.underlying37, Go.Proofs.Tryz.underlying38, Go.Proofs.Tryz.underlying39, Go.Proofs.Tryz.underlying40, Go.Proofs.Tryz.underlying41, Go.Proofs.Tryz.underlying42, Go.Proofs.Tryz.underlying43, Go.Proofs.Tryz.underlying44, Go.Proofs.Tryz.underlying45, Go.Proofs.Tryz.underlying46, Go.Proofs.Tryz.underlying47, Go.Proofs.Tryz.underlying48, Go.Proofs.Tryz.underlying49, Go.Proofs.Tryz.underlying50, Go.Proofs.Tryz.underlying51, Go.Proofs.Tryz.underlying52, Go.Proofs.Tryz.underlying53, Go.Proofs.Tryz.underlying54, Go.Proofs.Tryz.underlying55, Go.Proofs.Tryz.underlying56, Go.Proofs.Tryz.underlying57, Go.Proofs.Tryz.underlying58, Go.Proofs.Tryz.underlying59, Go.Proofs.Tryz.underlying60, Go.Proofs.Tryz.underlying61, Go.Proofs.Tryz.underlying62, Go.Proofs.Tryz.underlying63, Go.Proofs.Tryz.underlying64, Go.Proofs.Tryz.underlying65, Go.Proofs.Tryz.underlying66, Go.Proofs.Tryz.underlying67, Go.Proofs.Tryz.underlying68, Go.Proofs.Tryz.underlying69, Go.Proofs.Tryz.underlying70, Go.Proofs.Tryz.underlying71, Go.Proofs.Tryz.underlying72, Go.Proofs.Tryz.underlying73, Go.Proofs.Tryz.underlying74, Go.Proofs.Tryz.underlying75, Go.Proofs.Tryz.underlying76, Go.Proofs.Tryz.underlying77, Go.Proofs.Tryz.underlying78, Go.Proofs.Tryz.underlying79, Go.Proofs.Tryz.underlying80, Go.Proofs.Tryz.underlying81, Go.Proofs.Tryz.underlying82, Go.Proofs.Tryz.underlying83, Go.Proofs.Tryz.underlying84, Go.Proofs.Tryz.underlying85, Go.Proofs.Tryz.underlying86, Go.Proofs.Tryz.underlying87, Go.Proofs.Tryz.underlying88, Go.Proofs.Tryz.underlying89, Go.Proofs.Tryz.underlying90, Go.Proofs.Tryz.underlying91, Go.Proofs.Tryz.underlying92, Go.Proofs.Tryz.underlying93, Go.Proofs.Tryz.underlying94, Go.Proofs.Tryz.underlying95, Go.Proofs.Tryz.underlying96, Go.Proofs.Tryz.underlying97, Go.Proofs.Tryz.underlying98, Go.Proofs.Tryz.underlying99, Go.Proofs.Tryz.underlying100, Go.Proofs.Tryz.underlying101, Go.Proofs.Tryz.underlying102, Go.Proofs.Tryz.underlying103, Go.Proofs.Tryz.underlying104, Go.Proofs.Tryz.underlying105, Go.Proofs.Tryz.underlying106, Go.Proofs.Tryz.underlying107, Go.Proofs.Tryz.underlying108, Go.Proofs.Tryz.underlying109, Go.Proofs.Tryz.underlying110, Go.Proofs.Tryz.underlying111, Go.Proofs.Tryz.underlying112, Go.Proofs.Tryz.underlying113, Go.Proofs.Tryz.underlying114, Go.Proofs.Tryz.underlying115, Go.Proofs.Tryz.underlying116, Go.Proofs.Tryz.underlying117, Go.Proofs.Tryz.underlying118, Go.Proofs.Tryz.underlying119, Go.Proofs.Tryz.underlying120, Go.Proofs.Tryz.underlying121, Go.Proofs.Tryz.underlying122, Go.Proofs.Tryz.underlying123, Go.Proofs.Tryz.underlying124, Go.Proofs.Tryz.underlying125, Go.Proofs.Tryz.underlying126, Go.Proofs.Tryz.underlying127, Go.Proofs.Tryz.underlying128, Go.Proofs.Tryz.underlying129, Go.Proofs.Tryz.underlying130, Go.Proofs.Tryz.underlying131, Go.Proofs.Tryz.underlying132, Go.Proofs.Tryz.underlying133, Go.Proofs.Tryz.underlying134, Go.Proofs.Tryz.underlying135, Go.Proofs.Tryz.underlying136, Go.Proofs.Tryz.underlying137, Go.Proofs.Tryz.underlying138, Go.Proofs.Tryz.underlying139, Go.Proofs.Tryz.underlying140, Go.Proofs.Tryz.underlying141, Go.Proofs.Tryz.underlying142, Go.Proofs.Tryz.underlying143, Go.Proofs.Tryz.underlying144, Go.Proofs.Tryz.underlying145, Go.Proofs.Tryz.underlying146, Go.Proofs.Tryz.underlying147, Go.Proofs.Tryz.underlying148, Go.Proofs.Tryz.underlying149, Go.Proofs.Tryz.underlying150, Go.Proofs.Tryz.underlying151, Go.Proofs.Tryz.underlying152, Go.Proofs.Tryz.underlying153, Go.Proofs.Tryz.underlying154, Go.Proofs.Tryz.underlying155, Go.Proofs.Tryz.underlying156, Go.Proofs.Tryz.underlying157, Go.Proofs.Tryz.underlying158, Go.Proofs.Tryz.underlying159, Go.Proofs.Tryz.underlying160, Go.Proofs.Tryz.underlying161, Go.Proofs.Tryz.underlying162, Go.Proofs.Tryz.underlying163, Go.Proofs.Tryz.underlying164, Go.Proofs.Tryz.underlying165, Go.Proofs.Tryz.underlying166, Go.Proofs.Tryz.underlying167, Go.Proofs.Tryz.underlying168, Go.Proofs.Tryz.underlying169, Go.Proofs.Tryz.underlying170, Go.Proofs.Tryz.underlying171, Go.Proofs.Tryz.underlying172, Go.Proofs.Tryz.underlying173, Go.Proofs.Tryz.underlying174, Go.Proofs.Tryz.underlying175, Go.Proofs.Tryz.underlying176, Go.Proofs.Tryz.underlying177, Go.Proofs.Tryz.underlying178, Go.Proofs.Tryz.underlying179, Go.Proofs.Tryz.underlying180, Go.Proofs.Tryz.underlying181, Go.Proofs.Tryz.underlying182, Go.Proofs.Tryz.underlying183, Go.Proofs.Tryz.underlying184, Go.Proofs.Tryz.underlying185, Go.Proofs.Tryz.underlying186, Go.Proofs.Tryz.underlying187, Go.Proofs.Tryz.underlying188, Go.Proofs.Tryz.underlying189, Go.Proofs.Tryz.underlying190, Go.Proofs.Tryz.underlying191, Go.Proofs.Tryz.underlying192, Go.Proofs.Tryz.underlying193, Go.Proofs.Tryz.underlying194, Go.Proofs.Tryz.underlying195, Go.Proofs.Tryz.underlying196, Go.Proofs.Tryz.underlying197, Go.Proofs.Tryz.underlying198, Go.Proofs.Tryz.underlying199, Go.Proofs.Tryz.underlying200, Go.Proofs.Tryz.underlying201, Go.Proofs.Tryz.underlying202, Go.Proofs.Tryz.underlying203, Go.Proofs.Tryz.underlying204, Go.Proofs.Tryz.underlying205, Go.Proofs.Tryz.underlying206, Go.Proofs.Tryz.underlying207, Go.Proofs.Tryz.underlying208, Go.Proofs.Tryz.underlying209, Go.Proofs.Tryz.underlying210, Go.Proofs.Tryz.underlying211, Go.Proofs.Tryz.underlying212, Go.Proofs.Tryz.underlying213, Go.Proofs.Tryz.underlying214, Go.Proofs.Tryz.underlying215, Go.Proofs.Tryz.underlying216, Go.Proofs.Tryz.underlying217, Go.Proofs.Tryz.underlying218, Go.Proofs.Tryz.underlying219, Go.Proofs.Tryz.underlying220, Go.Proofs.Tryz.underlying221, trivial⟩
theorem infOk : AllI Go.Proofs.Tryz.prog infL 0 := ⟨inf0, inf1, inf2, inf3, inf4, inf5, inf6, inf7, inf8, inf9, inf10, inf11, inf12, inf13, inf14, inf15, inf16, inf17, inf18, inf19, inf20, inf21, inf22, inf23, inf24, inf25, inf26, inf27, inf28, inf29, inf30, inf31, inf32, inf33, inf34, inf35, inf36, inf37, inf38, inf39, inf40, inf41, inf42, inf43, inf44, inf45, inf46, inf47, inf48, inf49, inf50, inf51, inf52, inf53, inf54, inf55, inf56, inf57, inf58, inf59, inf60, inf61, inf62, inf63, inf64, inf65, inf66, inf67, inf68, inf69, inf70, inf71, inf72, inf73, inf74, inf75, inf76, inf77, inf78, inf79, inf80, inf81, inf82, inf83, inf84, inf85, inf86, inf87, inf88, inf89, inf90, inf91, inf92, inf93, inf94, inf95, inf96, inf97, inf98, inf99, inf100, inf101, inf102, inf103, inf104, inf105, inf106, inf107, inf108, inf109, inf110, inf111, inf112, inf113, inf114, inf115, inf116, inf117, inf118, inf119, inf120, inf121, inf122, inf123, inf124, inf125, inf126, inf127, inf128, inf129, inf130, inf131, inf132, inf133, inf134, inf135, inf136, inf137, inf138, inf139, inf140, inf141, inf142, inf143, inf144, inf145, inf146, inf147, inf148, inf149, inf150, inf151, inf152, inf153, inf154, inf155, inf156, inf157, inf158, inf159, inf160, inf161, inf162, inf163, inf164, inf165, inf166, inf167, inf168, inf169, inf170, inf171, inf172, inf173, inf174, inf175, inf176, inf177, inf178, inf179, inf180, inf181, inf182, inf183, inf184, inf185, inf186, inf187, inf188, inf189, inf190, inf191, inf192, inf193, inf194, inf195, inf196, inf197, inf198, inf199, inf200, inf201, inf202, inf203, inf204, inf205, inf206, inf207, inf208, inf209, inf210, inf211, inf212, inf213, inf214, inf215, inf216, inf217, inf218, inf219, inf220, inf221, trivial⟩
instance : Tab Go.Proofs.Tryz.prog where
  und := atL undL
  mix := by kernel_rfl
  inf := atL infL
  hund := fun t d h => by simpa using undOk.get h
  hinf := fun t s b z h => by simpa using infOk.get h
end Go.X
