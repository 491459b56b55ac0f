/- From a walk of this framework to the end that a row asks for. -/
import Derived.Test.YtmmofanfgoahkaaDoorCall
import Derived.RowKit3
namespace Go.X
open Go Go.RowKit

theorem Kept.keptBut {w w' : World} (k : Kept [] w w') (may : MemPlace → Prop) : w.keptBut w' may :=
  World.keptBut_mono (fun _ f => f.elim) (show w.keptBut w' (fun _ => False) from ⟨k.os, k.output, fun i hi => by
    rw [k.same i hi (by simp)]
    exact (World.keptBut_refl w fun _ => False).2.2 i hi⟩)
theorem Ret.kept {α : Type} {φ : α → Prop} {w w' : World} {v : Value} {e : Ending} (h : Ret w [] (fun _ : α => v) (fun _ => []) φ e w') : e = .returned v ∧ Kept [] w w' := by
  cases e with
  | returned u => obtain ⟨x, _, rfl, _, hk, _⟩ := h; exact ⟨rfl, hk⟩
  | panicked _ => exact h.elim
  | outgrown => exact h.elim
theorem wf_u8 {a : Int} (h : (Lit.int .u8 a).wf = true) : 0 ≤ a ∧ a ≤ 255 := by
  simp only [Lit.wf, decide_eq_true_eq, Bool.and_eq_true] at h
  exact ⟨h.1, h.2⟩
theorem wf_u16 {a : Int} (h : (Lit.int .u16 a).wf = true) : 0 ≤ a ∧ a ≤ 65535 := by
  simp only [Lit.wf, decide_eq_true_eq, Bool.and_eq_true] at h
  exact ⟨h.1, h.2⟩
theorem wf_u32 {a : Int} (h : (Lit.int .u32 a).wf = true) : 0 ≤ a ∧ a ≤ 4294967295 := by
  simp only [Lit.wf, decide_eq_true_eq, Bool.and_eq_true] at h
  exact ⟨h.1, h.2⟩
theorem wf_u64 {a : Int} (h : (Lit.int .u64 a).wf = true) : 0 ≤ a ∧ a ≤ 18446744073709551615 := by
  simp only [Lit.wf, decide_eq_true_eq, Bool.and_eq_true] at h
  exact ⟨h.1, h.2⟩
theorem wf_i8 {a : Int} (h : (Lit.int .i8 a).wf = true) : -128 ≤ a ∧ a ≤ 127 := by
  simp only [Lit.wf, decide_eq_true_eq, Bool.and_eq_true] at h
  exact ⟨h.1, h.2⟩
theorem wf_i16 {a : Int} (h : (Lit.int .i16 a).wf = true) : -32768 ≤ a ∧ a ≤ 32767 := by
  simp only [Lit.wf, decide_eq_true_eq, Bool.and_eq_true] at h
  exact ⟨h.1, h.2⟩
theorem wf_i32 {a : Int} (h : (Lit.int .i32 a).wf = true) : -2147483648 ≤ a ∧ a ≤ 2147483647 := by
  simp only [Lit.wf, decide_eq_true_eq, Bool.and_eq_true] at h
  exact ⟨h.1, h.2⟩
theorem wf_i64 {a : Int} (h : (Lit.int .i64 a).wf = true) : -9223372036854775808 ≤ a ∧ a ≤ 9223372036854775807 := by
  simp only [Lit.wf, decide_eq_true_eq, Bool.and_eq_true] at h
  exact ⟨h.1, h.2⟩
end Go.X
