/- A string turned into bytes: a new row, read only. -/
import Derived.Test.YtmmofanfgoahkaaDoorMore2
import Derived.Lib.ConvBytes
namespace Go.X
open Go
section
variable {P : Program} [T : Tab P] {r : Option Nat} {w0 : World} {B : List Nat} {n : Nat} {Q : Post} {e : Env} {ds : List Deferred} {L : Heap}
/-- the row behind a conversion of bytes -/
abbrev rowB (b : Nat) (l : List UInt8) (pad : List Value) (t : TypeId) (m : Nat × Nat) : Ent := .obj b (.cells (bcells l ++ pad).toArray t m)
theorem Makes.strBytes {s d ty el : TypeId} {x : Operand} {l : List UInt8} (hx : ev e x = some (str l)) (hs : T.und s = some .string) (hd : T.und d = some (.slice el)) (he : T.und el = some (.int .u8)) :
    Makes P r w0 B n ds L (.convert s d x) ty e (fun v H => ∃ b c pad m, v = .slice (some ⟨b, 0, none⟩) l.length c ∧ l.length ≤ c ∧ H = [rowB b l pad el m]) := by
  refine .run (by simp) fun ρ d' pos af g w hρ _ _ => ?_
  have hsz : (⟨⟨l⟩⟩ : ByteArray).size = l.length := rfl
  have hge := grownCap_ge w l.length 0 el
  have hcells : Lib.bytesCells w el ⟨⟨l⟩⟩ = (bcells l ++ List.replicate (grownCap w l.length 0 el - l.length) (Value.int .u8 0)).toArray := by
    unfold Lib.bytesCells
    rw [hsz]
    apply Array.ext'
    simp [bcells]
  refine ⟨_, [rowB w.heap.size l (List.replicate (grownCap w l.length 0 el - l.length) (Value.int .u8 0)) el ((Lib.bytesCells w el ⟨⟨l⟩⟩).size, (Lib.bytesCells w el ⟨⟨l⟩⟩).size + 1)], Lib.bytesWorld w el ⟨⟨l⟩⟩, ?_, ⟨w.heap.size, grownCap w l.length 0 el, _, _, rfl, hge, rfl⟩, ?_, ?_, ?_⟩
  · simp only [execOp, hρ x (by simp [Op.operands]) _ hx, Sem.run_bind]
    rw [Lib.run_convert_string_bytes w s d el ⟨⟨l⟩⟩ (T.hund _ _ hs) (T.hund _ _ hd) (T.hund _ _ he)]
    rfl
  · refine ⟨rfl, rfl, rfl, ?_, fun b hb _ => Lib.bytesWorld_at_old w el _ b hb, fun a ha => ?_⟩
    · rw [Lib.bytesWorld_size]; omega
    · simp only [World.frozen?, Lib.bytesWorld_at_old w el _ a.block ha]
  · refine ⟨fun y hy => ?_, by simp [X.ids, Ent.ids]⟩
    obtain rfl := List.mem_singleton.1 hy
    show _ = some _
    rw [Lib.bytesWorld_at_new, ← hcells]
  · intro b hb
    simp [X.ids, Ent.ids] at hb
    omega
theorem Rd.rowB {b c m : Nat} {l : List UInt8} {pad : List Value} {t : TypeId} {f : Nat × Nat} (hm : X.rowB b l pad t f ∈ L) (hl : m = l.length) (hc : l.length ≤ c) : Rd w0 B L (.slice (some ⟨b, 0, none⟩) m c) 1 m (bcells l) := fun w ho _ => by
  subst hl
  have h : w.heap[b]? = some _ := ho.ok _ hm
  refine ⟨_, _, rfl, by simp, hc, .inr ⟨b, 0, bcells l ++ pad, t, f, rfl, h, ?_⟩⟩
  rw [cut_some (by simp)]
  simp
end
end Go.X
