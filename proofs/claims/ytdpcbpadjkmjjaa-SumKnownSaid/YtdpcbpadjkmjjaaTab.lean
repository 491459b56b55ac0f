/- The table of the types of the program. Made by mktab.py. -/
import Derived.Test.YtdpcbpadjkmjjaaProg
import Derived.Test.YtdpcbpadjkmjjaaWalk
namespace Go.X
open Go
def atL {α : Type} : List (Option α) → Nat → Option α
  | [], _ => none
  | o :: _, 0 => o
  | _ :: l, k + 1 => atL l k
def AllU (P : Program) : List (Option TypeDesc) → Nat → Prop
  | [], _ => True
  | none :: l, k => AllU P l (k + 1)
  | some d :: l, k => P.underlying k = some d ∧ AllU P l (k + 1)
theorem AllU.get {P : Program} : ∀ {l : List (Option TypeDesc)} {k i : Nat} {d : TypeDesc}, AllU P l k → atL l i = some d → P.underlying (k + i) = some d
  | [], k, i, d, _, h => by simp [atL] at h
  | o :: l, k, 0, d, ha, h => by
    simp only [atL] at h; subst h
    exact ha.1
  | o :: l, k, i + 1, d, ha, h => by
    simp only [atL] at h
    have : AllU P l (k + 1) := by cases o with
      | none => exact ha
      | some _ => exact ha.2
    have := AllU.get this h
    rwa [show k + 1 + i = k + (i + 1) by omega] at this
def AllI (P : Program) : List (Option (Nat × Nat × Value)) → Nat → Prop
  | [], _ => True
  | none :: l, k => AllI P l (k + 1)
  | some (s, b, z) :: l, k => (P.info? k).map (fun i => (i.size, i.bytes, i.zero)) = some (s, b, some z) ∧ AllI P l (k + 1)
theorem AllI.get {P : Program} : ∀ {l : List (Option (Nat × Nat × Value))} {k i : Nat} {s b : Nat} {z : Value}, AllI P l k → atL l i = some (s, b, z) → ∃ j, P.info? (k + i) = some j ∧ j.size = s ∧ j.bytes = b ∧ j.zero = some z
  | [], k, i, s, b, z, _, h => by simp [atL] at h
  | o :: l, k, 0, s, b, z, ha, h => by
    simp only [atL] at h; subst h
    have h1 := ha.1
    cases hi : P.info? k with
    | none => rw [hi] at h1; cases h1
    | some j => rw [hi] at h1; simp at h1; exact ⟨j, rfl, h1.1, h1.2.1, h1.2.2⟩
  | o :: l, k, i + 1, s, b, z, ha, h => by
    simp only [atL] at h
    have : AllI P l (k + 1) := by cases o with
      | none => exact ha
      | some x => obtain ⟨s', b', z'⟩ := x; exact ha.2
    have := AllI.get this h
    rwa [show k + 1 + i = k + (i + 1) by omega] at this
def undL : List (Option TypeDesc) := [
  some (Go.TypeDesc.tuple #[]),
  some (Go.TypeDesc.func #[] #[] false),
  some (Go.TypeDesc.int Go.IntKind.i64),
  some (Go.TypeDesc.int Go.IntKind.i64),
  some Go.TypeDesc.bool,
  some (Go.TypeDesc.int Go.IntKind.u8),
  some (Go.TypeDesc.int Go.IntKind.u8),
  some (Go.TypeDesc.struct #[{ name := "x", type := 2, offset := 0, embedded := false, tag := "", pkgPath := "runtime", byteOffset := 0 }, { name := "y", type := 3, offset := 1, embedded := false, tag := "", pkgPath := "runtime", byteOffset := 8 }, { name := "signed", type := 4, offset := 2, embedded := false, tag := "", pkgPath := "runtime", byteOffset := 16 }, { name := "code", type := 6, offset := 3, embedded := false, tag := "", pkgPath := "runtime", byteOffset := 17 }]),
  some (Go.TypeDesc.struct #[{ name := "x", type := 2, offset := 0, embedded := false, tag := "", pkgPath := "runtime", byteOffset := 0 }, { name := "y", type := 3, offset := 1, embedded := false, tag := "", pkgPath := "runtime", byteOffset := 8 }, { name := "signed", type := 4, offset := 2, embedded := false, tag := "", pkgPath := "runtime", byteOffset := 16 }, { name := "code", type := 6, offset := 3, embedded := false, tag := "", pkgPath := "runtime", byteOffset := 17 }]),
  some Go.TypeDesc.string,
  some Go.TypeDesc.string,
  some Go.TypeDesc.string,
  some (Go.TypeDesc.int Go.IntKind.u64),
  some (Go.TypeDesc.struct #[{ name := "msg", type := 9, offset := 0, embedded := false, tag := "", pkgPath := "runtime", byteOffset := 0 }, { name := "addr", type := 12, offset := 1, embedded := false, tag := "", pkgPath := "runtime", byteOffset := 16 }]),
  some (Go.TypeDesc.struct #[{ name := "msg", type := 9, offset := 0, embedded := false, tag := "", pkgPath := "runtime", byteOffset := 0 }, { name := "addr", type := 12, offset := 1, embedded := false, tag := "", pkgPath := "runtime", byteOffset := 16 }]),
  some (Go.TypeDesc.pointer 66),
  some (Go.TypeDesc.pointer 69),
  some (Go.TypeDesc.pointer 76),
  some (Go.TypeDesc.struct #[{ name := "typ", type := 17, offset := 0, embedded := false, tag := "", pkgPath := "internal/runtime/maps", byteOffset := 0 }]),
  some (Go.TypeDesc.struct #[{ name := "typ", type := 17, offset := 0, embedded := false, tag := "", pkgPath := "internal/runtime/maps", byteOffset := 0 }]),
  some (Go.TypeDesc.interface #[]),
  some (Go.TypeDesc.int Go.IntKind.i32),
  some (Go.TypeDesc.int Go.IntKind.u32),
  some (Go.TypeDesc.func #[] #[4] false),
  some (Go.TypeDesc.func #[9] #[22] false),
  some (Go.TypeDesc.func #[22, 9] #[22] false),
  some (Go.TypeDesc.func #[9, 22] #[4] false),
  some (Go.TypeDesc.func #[22, 22, 3] #[22] false),
  some (Go.TypeDesc.func #[22, 22, 3] #[4] false),
  some (Go.TypeDesc.func #[9, 9] #[4] false),
  some (Go.TypeDesc.array 3 22),
  some (Go.TypeDesc.int Go.IntKind.u64),
  some (Go.TypeDesc.func #[30, 31, 31] #[4] false),
  some (Go.TypeDesc.array 2 22),
  some (Go.TypeDesc.slice 5),
  some (Go.TypeDesc.func #[9, 33, 5] #[4] false),
  some (Go.TypeDesc.func #[9, 3] #[9] false),
  some (Go.TypeDesc.array 2 31),
  some (Go.TypeDesc.array 2 31),
  some (Go.TypeDesc.func #[22] #[38] false),
  some (Go.TypeDesc.func #[9, 41] #[] false),
  some (Go.TypeDesc.func #[5] #[] false),
  some (Go.TypeDesc.func #[] #[22] false),
  some (Go.TypeDesc.int Go.IntKind.u64),
  some (Go.TypeDesc.tuple #[43, 43]),
  some (Go.TypeDesc.func #[43, 43] #[43, 43] false),
  some (Go.TypeDesc.pointer 48),
  some (Go.TypeDesc.struct #[{ name := "addr", type := 46, offset := 0, embedded := false, tag := "", pkgPath := "strings", byteOffset := 0 }, { name := "buf", type := 34, offset := 1, embedded := false, tag := "", pkgPath := "strings", byteOffset := 8 }]),
  some (Go.TypeDesc.struct #[{ name := "addr", type := 46, offset := 0, embedded := false, tag := "", pkgPath := "strings", byteOffset := 0 }, { name := "buf", type := 34, offset := 1, embedded := false, tag := "", pkgPath := "strings", byteOffset := 8 }]),
  some (Go.TypeDesc.func #[3] #[] false),
  some (Go.TypeDesc.interface #[("Error", 55)]),
  some (Go.TypeDesc.interface #[("Error", 55)]),
  some (Go.TypeDesc.tuple #[3, 51]),
  some (Go.TypeDesc.func #[9] #[3, 51] false),
  some (Go.TypeDesc.func #[] #[3] false),
  some (Go.TypeDesc.func #[] #[9] false),
  some (Go.TypeDesc.pointer 38),
  some (Go.TypeDesc.tuple #[22, 22]),
  some (Go.TypeDesc.func #[22, 22] #[22, 22] false),
  some (Go.TypeDesc.tuple #[31, 31]),
  some (Go.TypeDesc.func #[31, 31] #[31, 31] false),
  some (Go.TypeDesc.pointer 5),
  some Go.TypeDesc.unsafePointer,
  some (Go.TypeDesc.func #[62] #[62] false),
  some (Go.TypeDesc.func #[3] #[34] false),
  some (Go.TypeDesc.struct #[{ name := "_interface", type := 17, offset := 0, embedded := false, tag := "", pkgPath := "runtime", byteOffset := 0 }, { name := "concrete", type := 17, offset := 1, embedded := false, tag := "", pkgPath := "runtime", byteOffset := 8 }, { name := "asserted", type := 17, offset := 2, embedded := false, tag := "", pkgPath := "runtime", byteOffset := 16 }, { name := "missingMethod", type := 9, offset := 3, embedded := false, tag := "", pkgPath := "runtime", byteOffset := 24 }]),
  some (Go.TypeDesc.struct #[{ name := "_interface", type := 17, offset := 0, embedded := false, tag := "", pkgPath := "runtime", byteOffset := 0 }, { name := "concrete", type := 17, offset := 1, embedded := false, tag := "", pkgPath := "runtime", byteOffset := 8 }, { name := "asserted", type := 17, offset := 2, embedded := false, tag := "", pkgPath := "runtime", byteOffset := 16 }, { name := "missingMethod", type := 9, offset := 3, embedded := false, tag := "", pkgPath := "runtime", byteOffset := 24 }]),
  some (Go.TypeDesc.array 0 16),
  some (Go.TypeDesc.struct #[{ name := "_", type := 67, offset := 0, embedded := false, tag := "", pkgPath := "runtime", byteOffset := 0 }]),
  some (Go.TypeDesc.struct #[{ name := "_", type := 67, offset := 0, embedded := false, tag := "", pkgPath := "runtime", byteOffset := 0 }]),
  some (Go.TypeDesc.int Go.IntKind.u8),
  some (Go.TypeDesc.int Go.IntKind.u8),
  some (Go.TypeDesc.func #[62, 62] #[4] false),
  some (Go.TypeDesc.int Go.IntKind.i32),
  some (Go.TypeDesc.int Go.IntKind.i32),
  some (Go.TypeDesc.struct #[{ name := "Size_", type := 12, offset := 0, embedded := false, tag := "", pkgPath := "", byteOffset := 0 }, { name := "PtrBytes", type := 12, offset := 1, embedded := false, tag := "", pkgPath := "", byteOffset := 8 }, { name := "Hash", type := 22, offset := 2, embedded := false, tag := "", pkgPath := "", byteOffset := 16 }, { name := "TFlag", type := 70, offset := 3, embedded := false, tag := "", pkgPath := "", byteOffset := 20 }, { name := "Align_", type := 5, offset := 4, embedded := false, tag := "", pkgPath := "", byteOffset := 21 }, { name := "FieldAlign_", type := 5, offset := 5, embedded := false, tag := "", pkgPath := "", byteOffset := 22 }, { name := "Kind_", type := 71, offset := 6, embedded := false, tag := "", pkgPath := "", byteOffset := 23 }, { name := "Equal", type := 72, offset := 7, embedded := false, tag := "", pkgPath := "", byteOffset := 24 }, { name := "GCData", type := 61, offset := 8, embedded := false, tag := "", pkgPath := "", byteOffset := 32 }, { name := "Str", type := 73, offset := 9, embedded := false, tag := "", pkgPath := "", byteOffset := 40 }, { name := "PtrToThis", type := 74, offset := 10, embedded := false, tag := "", pkgPath := "", byteOffset := 44 }]),
  some (Go.TypeDesc.struct #[{ name := "Size_", type := 12, offset := 0, embedded := false, tag := "", pkgPath := "", byteOffset := 0 }, { name := "PtrBytes", type := 12, offset := 1, embedded := false, tag := "", pkgPath := "", byteOffset := 8 }, { name := "Hash", type := 22, offset := 2, embedded := false, tag := "", pkgPath := "", byteOffset := 16 }, { name := "TFlag", type := 70, offset := 3, embedded := false, tag := "", pkgPath := "", byteOffset := 20 }, { name := "Align_", type := 5, offset := 4, embedded := false, tag := "", pkgPath := "", byteOffset := 21 }, { name := "FieldAlign_", type := 5, offset := 5, embedded := false, tag := "", pkgPath := "", byteOffset := 22 }, { name := "Kind_", type := 71, offset := 6, embedded := false, tag := "", pkgPath := "", byteOffset := 23 }, { name := "Equal", type := 72, offset := 7, embedded := false, tag := "", pkgPath := "", byteOffset := 24 }, { name := "GCData", type := 61, offset := 8, embedded := false, tag := "", pkgPath := "", byteOffset := 32 }, { name := "Str", type := 73, offset := 9, embedded := false, tag := "", pkgPath := "", byteOffset := 40 }, { name := "PtrToThis", type := 74, offset := 10, embedded := false, tag := "", pkgPath := "", byteOffset := 44 }])]
theorem inf0 : (Go.Proofs.Try.prog.info? 0).map (fun i => (i.size, i.bytes, i.zero)) = some (1, 0, some (.tuple #[])) := by kernel_rfl
theorem inf1 : (Go.Proofs.Try.prog.info? 1).map (fun i => (i.size, i.bytes, i.zero)) = some (1, 8, some .nilFunc) := by kernel_rfl
theorem inf2 : (Go.Proofs.Try.prog.info? 2).map (fun i => (i.size, i.bytes, i.zero)) = some (1, 8, some (.int .i64 0)) := by kernel_rfl
theorem inf3 : (Go.Proofs.Try.prog.info? 3).map (fun i => (i.size, i.bytes, i.zero)) = some (1, 8, some (.int .i64 0)) := by kernel_rfl
theorem inf4 : (Go.Proofs.Try.prog.info? 4).map (fun i => (i.size, i.bytes, i.zero)) = some (1, 1, some (.bool false)) := by kernel_rfl
theorem inf5 : (Go.Proofs.Try.prog.info? 5).map (fun i => (i.size, i.bytes, i.zero)) = some (1, 1, some (.int .u8 0)) := by kernel_rfl
theorem inf6 : (Go.Proofs.Try.prog.info? 6).map (fun i => (i.size, i.bytes, i.zero)) = some (1, 1, some (.int .u8 0)) := by kernel_rfl
theorem inf7 : (Go.Proofs.Try.prog.info? 7).map (fun i => (i.size, i.bytes, i.zero)) = some (4, 24, some (.agg #[(.int .i64 0), (.int .i64 0), (.bool false), (.int .u8 0)])) := by kernel_rfl
theorem inf8 : (Go.Proofs.Try.prog.info? 8).map (fun i => (i.size, i.bytes, i.zero)) = some (4, 24, some (.agg #[(.int .i64 0), (.int .i64 0), (.bool false), (.int .u8 0)])) := by kernel_rfl
theorem inf9 : (Go.Proofs.Try.prog.info? 9).map (fun i => (i.size, i.bytes, i.zero)) = some (1, 16, some (.string ⟨⟨[]⟩⟩)) := by kernel_rfl
theorem inf10 : (Go.Proofs.Try.prog.info? 10).map (fun i => (i.size, i.bytes, i.zero)) = some (1, 16, some (.string ⟨⟨[]⟩⟩)) := by kernel_rfl
theorem inf11 : (Go.Proofs.Try.prog.info? 11).map (fun i => (i.size, i.bytes, i.zero)) = some (1, 16, some (.string ⟨⟨[]⟩⟩)) := by kernel_rfl
theorem inf12 : (Go.Proofs.Try.prog.info? 12).map (fun i => (i.size, i.bytes, i.zero)) = some (1, 8, some (.int .u64 0)) := by kernel_rfl
theorem inf13 : (Go.Proofs.Try.prog.info? 13).map (fun i => (i.size, i.bytes, i.zero)) = some (2, 24, some (.agg #[(.string ⟨⟨[]⟩⟩), (.int .u64 0)])) := by kernel_rfl
theorem inf14 : (Go.Proofs.Try.prog.info? 14).map (fun i => (i.size, i.bytes, i.zero)) = some (2, 24, some (.agg #[(.string ⟨⟨[]⟩⟩), (.int .u64 0)])) := by kernel_rfl
theorem inf15 : (Go.Proofs.Try.prog.info? 15).map (fun i => (i.size, i.bytes, i.zero)) = some (1, 8, some (.pointer none)) := by kernel_rfl
theorem inf16 : (Go.Proofs.Try.prog.info? 16).map (fun i => (i.size, i.bytes, i.zero)) = some (1, 8, some (.pointer none)) := by kernel_rfl
theorem inf17 : (Go.Proofs.Try.prog.info? 17).map (fun i => (i.size, i.bytes, i.zero)) = some (1, 8, some (.pointer none)) := by kernel_rfl
theorem inf18 : (Go.Proofs.Try.prog.info? 18).map (fun i => (i.size, i.bytes, i.zero)) = some (1, 8, some (.agg #[(.pointer none)])) := by kernel_rfl
theorem inf19 : (Go.Proofs.Try.prog.info? 19).map (fun i => (i.size, i.bytes, i.zero)) = some (1, 8, some (.agg #[(.pointer none)])) := by kernel_rfl
theorem inf20 : (Go.Proofs.Try.prog.info? 20).map (fun i => (i.size, i.bytes, i.zero)) = some (1, 16, some .nilIface) := by kernel_rfl
theorem inf21 : (Go.Proofs.Try.prog.info? 21).map (fun i => (i.size, i.bytes, i.zero)) = some (1, 4, some (.int .i32 0)) := by kernel_rfl
theorem inf22 : (Go.Proofs.Try.prog.info? 22).map (fun i => (i.size, i.bytes, i.zero)) = some (1, 4, some (.int .u32 0)) := by kernel_rfl
theorem inf23 : (Go.Proofs.Try.prog.info? 23).map (fun i => (i.size, i.bytes, i.zero)) = some (1, 8, some .nilFunc) := by kernel_rfl
theorem inf24 : (Go.Proofs.Try.prog.info? 24).map (fun i => (i.size, i.bytes, i.zero)) = some (1, 8, some .nilFunc) := by kernel_rfl
theorem inf25 : (Go.Proofs.Try.prog.info? 25).map (fun i => (i.size, i.bytes, i.zero)) = some (1, 8, some .nilFunc) := by kernel_rfl
theorem inf26 : (Go.Proofs.Try.prog.info? 26).map (fun i => (i.size, i.bytes, i.zero)) = some (1, 8, some .nilFunc) := by kernel_rfl
theorem inf27 : (Go.Proofs.Try.prog.info? 27).map (fun i => (i.size, i.bytes, i.zero)) = some (1, 8, some .nilFunc) := by kernel_rfl
theorem inf28 : (Go.Proofs.Try.prog.info? 28).map (fun i => (i.size, i.bytes, i.zero)) = some (1, 8, some .nilFunc) := by kernel_rfl
theorem inf29 : (Go.Proofs.Try.prog.info? 29).map (fun i => (i.size, i.bytes, i.zero)) = some (1, 8, some .nilFunc) := by kernel_rfl
theorem inf30 : (Go.Proofs.Try.prog.info? 30).map (fun i => (i.size, i.bytes, i.zero)) = some (3, 12, some (.agg #[(.int .u32 0), (.int .u32 0), (.int .u32 0)])) := by kernel_rfl
theorem inf31 : (Go.Proofs.Try.prog.info? 31).map (fun i => (i.size, i.bytes, i.zero)) = some (1, 8, some (.int .u64 0)) := by kernel_rfl
theorem inf32 : (Go.Proofs.Try.prog.info? 32).map (fun i => (i.size, i.bytes, i.zero)) = some (1, 8, some .nilFunc) := by kernel_rfl
theorem inf33 : (Go.Proofs.Try.prog.info? 33).map (fun i => (i.size, i.bytes, i.zero)) = some (2, 8, some (.agg #[(.int .u32 0), (.int .u32 0)])) := by kernel_rfl
theorem inf34 : (Go.Proofs.Try.prog.info? 34).map (fun i => (i.size, i.bytes, i.zero)) = some (1, 24, some (.slice none 0 0)) := by kernel_rfl
theorem inf35 : (Go.Proofs.Try.prog.info? 35).map (fun i => (i.size, i.bytes, i.zero)) = some (1, 8, some .nilFunc) := by kernel_rfl
theorem inf36 : (Go.Proofs.Try.prog.info? 36).map (fun i => (i.size, i.bytes, i.zero)) = some (1, 8, some .nilFunc) := by kernel_rfl
theorem inf37 : (Go.Proofs.Try.prog.info? 37).map (fun i => (i.size, i.bytes, i.zero)) = some (2, 16, some (.agg #[(.int .u64 0), (.int .u64 0)])) := by kernel_rfl
theorem inf38 : (Go.Proofs.Try.prog.info? 38).map (fun i => (i.size, i.bytes, i.zero)) = some (2, 16, some (.agg #[(.int .u64 0), (.int .u64 0)])) := by kernel_rfl
theorem inf39 : (Go.Proofs.Try.prog.info? 39).map (fun i => (i.size, i.bytes, i.zero)) = some (1, 8, some .nilFunc) := by kernel_rfl
theorem inf40 : (Go.Proofs.Try.prog.info? 40).map (fun i => (i.size, i.bytes, i.zero)) = some (1, 8, some .nilFunc) := by kernel_rfl
theorem inf41 : (Go.Proofs.Try.prog.info? 41).map (fun i => (i.size, i.bytes, i.zero)) = some (1, 8, some .nilFunc) := by kernel_rfl
theorem inf42 : (Go.Proofs.Try.prog.info? 42).map (fun i => (i.size, i.bytes, i.zero)) = some (1, 8, some .nilFunc) := by kernel_rfl
theorem inf43 : (Go.Proofs.Try.prog.info? 43).map (fun i => (i.size, i.bytes, i.zero)) = some (1, 8, some (.int .u64 0)) := by kernel_rfl
theorem inf44 : (Go.Proofs.Try.prog.info? 44).map (fun i => (i.size, i.bytes, i.zero)) = some (1, 0, some (.tuple #[(.int .u64 0), (.int .u64 0)])) := by kernel_rfl
theorem inf45 : (Go.Proofs.Try.prog.info? 45).map (fun i => (i.size, i.bytes, i.zero)) = some (1, 8, some .nilFunc) := by kernel_rfl
theorem inf46 : (Go.Proofs.Try.prog.info? 46).map (fun i => (i.size, i.bytes, i.zero)) = some (1, 8, some (.pointer none)) := by kernel_rfl
theorem inf47 : (Go.Proofs.Try.prog.info? 47).map (fun i => (i.size, i.bytes, i.zero)) = some (2, 32, some (.agg #[(.pointer none), (.slice none 0 0)])) := by kernel_rfl
theorem inf48 : (Go.Proofs.Try.prog.info? 48).map (fun i => (i.size, i.bytes, i.zero)) = some (2, 32, some (.agg #[(.pointer none), (.slice none 0 0)])) := by kernel_rfl
theorem inf49 : (Go.Proofs.Try.prog.info? 49).map (fun i => (i.size, i.bytes, i.zero)) = some (1, 8, some .nilFunc) := by kernel_rfl
theorem inf50 : (Go.Proofs.Try.prog.info? 50).map (fun i => (i.size, i.bytes, i.zero)) = some (1, 16, some .nilIface) := by kernel_rfl
theorem inf51 : (Go.Proofs.Try.prog.info? 51).map (fun i => (i.size, i.bytes, i.zero)) = some (1, 16, some .nilIface) := by kernel_rfl
theorem inf52 : (Go.Proofs.Try.prog.info? 52).map (fun i => (i.size, i.bytes, i.zero)) = some (1, 0, some (.tuple #[(.int .i64 0), .nilIface])) := by kernel_rfl
theorem inf53 : (Go.Proofs.Try.prog.info? 53).map (fun i => (i.size, i.bytes, i.zero)) = some (1, 8, some .nilFunc) := by kernel_rfl
theorem inf54 : (Go.Proofs.Try.prog.info? 54).map (fun i => (i.size, i.bytes, i.zero)) = some (1, 8, some .nilFunc) := by kernel_rfl
theorem inf55 : (Go.Proofs.Try.prog.info? 55).map (fun i => (i.size, i.bytes, i.zero)) = some (1, 8, some .nilFunc) := by kernel_rfl
theorem inf56 : (Go.Proofs.Try.prog.info? 56).map (fun i => (i.size, i.bytes, i.zero)) = some (1, 8, some (.pointer none)) := by kernel_rfl
theorem inf57 : (Go.Proofs.Try.prog.info? 57).map (fun i => (i.size, i.bytes, i.zero)) = some (1, 0, some (.tuple #[(.int .u32 0), (.int .u32 0)])) := by kernel_rfl
theorem inf58 : (Go.Proofs.Try.prog.info? 58).map (fun i => (i.size, i.bytes, i.zero)) = some (1, 8, some .nilFunc) := by kernel_rfl
theorem inf59 : (Go.Proofs.Try.prog.info? 59).map (fun i => (i.size, i.bytes, i.zero)) = some (1, 0, some (.tuple #[(.int .u64 0), (.int .u64 0)])) := by kernel_rfl
theorem inf60 : (Go.Proofs.Try.prog.info? 60).map (fun i => (i.size, i.bytes, i.zero)) = some (1, 8, some .nilFunc) := by kernel_rfl
theorem inf61 : (Go.Proofs.Try.prog.info? 61).map (fun i => (i.size, i.bytes, i.zero)) = some (1, 8, some (.pointer none)) := by kernel_rfl
theorem inf62 : (Go.Proofs.Try.prog.info? 62).map (fun i => (i.size, i.bytes, i.zero)) = some (1, 8, some (.pointer none)) := by kernel_rfl
theorem inf63 : (Go.Proofs.Try.prog.info? 63).map (fun i => (i.size, i.bytes, i.zero)) = some (1, 8, some .nilFunc) := by kernel_rfl
theorem inf64 : (Go.Proofs.Try.prog.info? 64).map (fun i => (i.size, i.bytes, i.zero)) = some (1, 8, some .nilFunc) := by kernel_rfl
theorem inf65 : (Go.Proofs.Try.prog.info? 65).map (fun i => (i.size, i.bytes, i.zero)) = some (4, 40, some (.agg #[(.pointer none), (.pointer none), (.pointer none), (.string ⟨⟨[]⟩⟩)])) := by kernel_rfl
theorem inf66 : (Go.Proofs.Try.prog.info? 66).map (fun i => (i.size, i.bytes, i.zero)) = some (4, 40, some (.agg #[(.pointer none), (.pointer none), (.pointer none), (.string ⟨⟨[]⟩⟩)])) := by kernel_rfl
theorem inf67 : (Go.Proofs.Try.prog.info? 67).map (fun i => (i.size, i.bytes, i.zero)) = some (0, 0, some (.agg #[])) := by kernel_rfl
theorem inf68 : (Go.Proofs.Try.prog.info? 68).map (fun i => (i.size, i.bytes, i.zero)) = some (0, 0, some (.agg #[])) := by kernel_rfl
theorem inf69 : (Go.Proofs.Try.prog.info? 69).map (fun i => (i.size, i.bytes, i.zero)) = some (0, 0, some (.agg #[])) := by kernel_rfl
theorem inf70 : (Go.Proofs.Try.prog.info? 70).map (fun i => (i.size, i.bytes, i.zero)) = some (1, 1, some (.int .u8 0)) := by kernel_rfl
theorem inf71 : (Go.Proofs.Try.prog.info? 71).map (fun i => (i.size, i.bytes, i.zero)) = some (1, 1, some (.int .u8 0)) := by kernel_rfl
theorem inf72 : (Go.Proofs.Try.prog.info? 72).map (fun i => (i.size, i.bytes, i.zero)) = some (1, 8, some .nilFunc) := by kernel_rfl
theorem inf73 : (Go.Proofs.Try.prog.info? 73).map (fun i => (i.size, i.bytes, i.zero)) = some (1, 4, some (.int .i32 0)) := by kernel_rfl
theorem inf74 : (Go.Proofs.Try.prog.info? 74).map (fun i => (i.size, i.bytes, i.zero)) = some (1, 4, some (.int .i32 0)) := by kernel_rfl
theorem inf75 : (Go.Proofs.Try.prog.info? 75).map (fun i => (i.size, i.bytes, i.zero)) = some (11, 48, some (.agg #[(.int .u64 0), (.int .u64 0), (.int .u32 0), (.int .u8 0), (.int .u8 0), (.int .u8 0), (.int .u8 0), .nilFunc, (.pointer none), (.int .i32 0), (.int .i32 0)])) := by kernel_rfl
theorem inf76 : (Go.Proofs.Try.prog.info? 76).map (fun i => (i.size, i.bytes, i.zero)) = some (11, 48, some (.agg #[(.int .u64 0), (.int .u64 0), (.int .u32 0), (.int .u8 0), (.int .u8 0), (.int .u8 0), (.int .u8 0), .nilFunc, (.pointer none), (.int .i32 0), (.int .i32 0)])) := by kernel_rfl
def infL : List (Option (Nat × Nat × Value)) := [
  some (1, 0, (.tuple #[])),
  some (1, 8, .nilFunc),
  some (1, 8, (.int .i64 0)),
  some (1, 8, (.int .i64 0)),
  some (1, 1, (.bool false)),
  some (1, 1, (.int .u8 0)),
  some (1, 1, (.int .u8 0)),
  some (4, 24, (.agg #[(.int .i64 0), (.int .i64 0), (.bool false), (.int .u8 0)])),
  some (4, 24, (.agg #[(.int .i64 0), (.int .i64 0), (.bool false), (.int .u8 0)])),
  some (1, 16, (.string ⟨⟨[]⟩⟩)),
  some (1, 16, (.string ⟨⟨[]⟩⟩)),
  some (1, 16, (.string ⟨⟨[]⟩⟩)),
  some (1, 8, (.int .u64 0)),
  some (2, 24, (.agg #[(.string ⟨⟨[]⟩⟩), (.int .u64 0)])),
  some (2, 24, (.agg #[(.string ⟨⟨[]⟩⟩), (.int .u64 0)])),
  some (1, 8, (.pointer none)),
  some (1, 8, (.pointer none)),
  some (1, 8, (.pointer none)),
  some (1, 8, (.agg #[(.pointer none)])),
  some (1, 8, (.agg #[(.pointer none)])),
  some (1, 16, .nilIface),
  some (1, 4, (.int .i32 0)),
  some (1, 4, (.int .u32 0)),
  some (1, 8, .nilFunc),
  some (1, 8, .nilFunc),
  some (1, 8, .nilFunc),
  some (1, 8, .nilFunc),
  some (1, 8, .nilFunc),
  some (1, 8, .nilFunc),
  some (1, 8, .nilFunc),
  some (3, 12, (.agg #[(.int .u32 0), (.int .u32 0), (.int .u32 0)])),
  some (1, 8, (.int .u64 0)),
  some (1, 8, .nilFunc),
  some (2, 8, (.agg #[(.int .u32 0), (.int .u32 0)])),
  some (1, 24, (.slice none 0 0)),
  some (1, 8, .nilFunc),
  some (1, 8, .nilFunc),
  some (2, 16, (.agg #[(.int .u64 0), (.int .u64 0)])),
  some (2, 16, (.agg #[(.int .u64 0), (.int .u64 0)])),
  some (1, 8, .nilFunc),
  some (1, 8, .nilFunc),
  some (1, 8, .nilFunc),
  some (1, 8, .nilFunc),
  some (1, 8, (.int .u64 0)),
  some (1, 0, (.tuple #[(.int .u64 0), (.int .u64 0)])),
  some (1, 8, .nilFunc),
  some (1, 8, (.pointer none)),
  some (2, 32, (.agg #[(.pointer none), (.slice none 0 0)])),
  some (2, 32, (.agg #[(.pointer none), (.slice none 0 0)])),
  some (1, 8, .nilFunc),
  some (1, 16, .nilIface),
  some (1, 16, .nilIface),
  some (1, 0, (.tuple #[(.int .i64 0), .nilIface])),
  some (1, 8, .nilFunc),
  some (1, 8, .nilFunc),
  some (1, 8, .nilFunc),
  some (1, 8, (.pointer none)),
  some (1, 0, (.tuple #[(.int .u32 0), (.int .u32 0)])),
  some (1, 8, .nilFunc),
  some (1, 0, (.tuple #[(.int .u64 0), (.int .u64 0)])),
  some (1, 8, .nilFunc),
  some (1, 8, (.pointer none)),
  some (1, 8, (.pointer none)),
  some (1, 8, .nilFunc),
  some (1, 8, .nilFunc),
  some (4, 40, (.agg #[(.pointer none), (.pointer none), (.pointer none), (.string ⟨⟨[]⟩⟩)])),
  some (4, 40, (.agg #[(.pointer none), (.pointer none), (.pointer none), (.string ⟨⟨[]⟩⟩)])),
  some (0, 0, (.agg #[])),
  some (0, 0, (.agg #[])),
  some (0, 0, (.agg #[])),
  some (1, 1, (.int .u8 0)),
  some (1, 1, (.int .u8 0)),
  some (1, 8, .nilFunc),
  some (1, 4, (.int .i32 0)),
  some (1, 4, (.int .i32 0)),
  some (11, 48, (.agg #[(.int .u64 0), (.int .u64 0), (.int .u32 0), (.int .u8 0), (.int .u8 0), (.int .u8 0), (.int .u8 0), .nilFunc, (.pointer none), (.int .i32 0), (.int .i32 0)])),
  some (11, 48, (.agg #[(.int .u64 0), (.int .u64 0), (.int .u32 0), (.int .u8 0), (.int .u8 0), (.int .u8 0), (.int .u8 0), .nilFunc, (.pointer none), (.int .i32 0), (.int .i32 0)]))]
theorem undOk : AllU Go.Proofs.Try.prog undL 0 := ⟨Go.Proofs.Try.underlying0, Go.Proofs.Try.underlying1, Go.Proofs.Try.underlying2, Go.Proofs.Try.underlying3, Go.Proofs.Try.underlying4, Go.Proofs.Try.underlying5, Go.Proofs.Try.underlying6, Go.Proofs.Try.underlying7, Go.Proofs.Try.underlying8, Go.Proofs.Try.underlying9, Go.Proofs.Try.underlying10, Go.Proofs.Try.underlying11, Go.Proofs.Try.underlying12, Go.Proofs.Try.underlying13, Go.Proofs.Try.underlying14, Go.Proofs.Try.underlying15, Go.Proofs.Try.underlying16, Go.Proofs.Try.underlying17, Go.Proofs.Try.underlying18, Go.Proofs.Try.underlying19, Go.Proofs.Try.underlying20, Go.Proofs.Try.underlying21, Go.Proofs.Try.underlying22, Go.Proofs.Try.underlying23, Go.Proofs.Try.underlying24, Go.Proofs.Try.underlying25, Go.Proofs.Try.underlying26, Go.Proofs.Try.underlying27, Go.Proofs.Try.underlying28, Go.Proofs.Try.underlying29, Go.Proofs.Try.underlying30, Go.Proofs.Try.underlying31, Go.Proofs.Try.underlying32, Go.Proofs.Try.underlying33, Go.Proofs.Try.underlying34, Go.Proofs.Try.underlying35, Go.Proofs.Try.underlying36, Go.Proofs.Try.underlying37, Go.Proofs.Try.underlying38, Go.Proofs.Try.underlying39, Go.Proofs.Try.underlying40, Go.Proofs.Try.underlying41, Go.Proofs.Try.underlying42, Go.Proofs.Try.underlying43, Go.Proofs.Try.underlying44, Go.Proofs.Try.underlying45, Go.Proofs.Try.underlying46, Go.Proofs.Try.underlying47, Go.Proofs.Try.underlying48, Go.Proofs.Try.underlying49, Go.Proofs.Try.underlying50, Go.Proofs.Try.underlying51, Go.Proofs.Try.underlying52, Go.Proofs.Try.underlying53, Go.Proofs.Try.underlying54, Go.Proofs.Try.underlying55, Go.Proofs.Try.underlying56, Go.Proofs.Try.underlying57, Go.Proofs.Try.underlying58, Go.Proofs.Try.underlying59, Go.Proofs.Try.underlying60, Go.Proofs.Try.underlying61, Go.Proofs.Try.underlying62, Go.Proofs.Try.underlying63, Go.Proofs.Try.underlying64, Go.Proofs.Try.underlying65, Go.Proofs.Try.underlying66, Go.Proofs.Try.underlying67, Go.Proofs.Try.underlying68, Go.Proofs.Try.underlying69, Go.Proofs.Try.underlying70, Go.Proofs.Try.underlying71, Go.Proofs.Try.underlying72, Go.Proofs.Try.underlying73, Go.Proofs.Try.underlying74, Go.Proofs.Try.underlying75, Go.Proofs.Try.underlying76, trivial⟩
theorem infOk : AllI Go.Proofs.Try.prog infL 0 := ⟨inf0, inf1, inf2, inf3, inf4, inf5, inf6, inf7, inf8, inf9, inf10, inf11, inf12, inf13, inf14, inf15, inf16, inf17, inf18, inf19, inf20, inf21, inf22, inf23, inf24, inf25, inf26, inf27, inf28, inf29, inf30, inf31, inf32, inf33, inf34, inf35, inf36, inf37, inf38, inf39, inf40, inf41, inf42, inf43, inf44, inf45, inf46, inf47, inf48, inf49, inf50, inf51, inf52, inf53, inf54, inf55, inf56, inf57, inf58, inf59, inf60, inf61, inf62, inf63, inf64, inf65, inf66, inf67, inf68, inf69, inf70, inf71, inf72, inf73, inf74, inf75, inf76, trivial⟩
instance : Tab Go.Proofs.Try.prog where
  und := atL undL
  mix := by kernel_rfl
  inf := atL infL
  hund := fun t d h => by simpa using undOk.get h
  hinf := fun t s b z h => by simpa using infOk.get h
end Go.X
