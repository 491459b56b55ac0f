/- From a walk of this framework to the end that a row asks for. -/
import Derived.Test.YtckelpenodabdaaCall
import Derived.RowKit3
namespace Go.X
open Go Go.RowKit

theorem Kept.grown {w w' : World} (k : Kept [] w w') : Grown w w' := by
  refine ⟨⟨k.os, k.output, fun i hi => ?_⟩, k.frz, k.size⟩
  rw [k.same i hi (by simp)]
  have := (World.keptBut_refl w fun _ => False).2.2 i hi
  exact this
theorem Ret.grown {α : Type} {φ : α → Prop} {w w' : World} {v : Value} {e : Ending} (h : Ret w [] (fun _ : α => v) (fun _ => []) φ e w') : e = .returned v ∧ Grown w w' := by
  cases e with
  | returned u => obtain ⟨x, _, rfl, _, hk, _⟩ := h; exact ⟨rfl, hk.grown⟩
  | panicked _ => exact h.elim
  | outgrown => exact h.elim
theorem Ret.kept {α : Type} {φ : α → Prop} {w w' : World} {v : Value} {e : Ending} (h : Ret w [] (fun _ : α => v) (fun _ => []) φ e w') : e = .returned v ∧ Kept [] w w' := by
  cases e with
  | returned u => obtain ⟨x, _, rfl, _, hk, _⟩ := h; exact ⟨rfl, hk⟩
  | panicked _ => exact h.elim
  | outgrown => exact h.elim
theorem Fx.row {α : Type} {φ : α → Prop} {P : Program} {f : FuncId} {args : List Value} {w : World} {v : Value} (h : Fx P f args w (Ret w [] (fun _ : α => v) (fun _ => []) φ)) :
    Calls P f args.toArray w fun e w' => e = .returned v ∧ Grown w w' :=
  h.calls.mono fun _ _ => Ret.grown
theorem wf_u8 {a : Int} (h : (Lit.int .u8 a).wf = true) : 0 ≤ a ∧ a ≤ 255 := by
  simp only [Lit.wf, decide_eq_true_eq, Bool.and_eq_true] at h
  exact ⟨h.1, h.2⟩
theorem wf_u16 {a : Int} (h : (Lit.int .u16 a).wf = true) : 0 ≤ a ∧ a ≤ 65535 := by
  simp only [Lit.wf, decide_eq_true_eq, Bool.and_eq_true] at h
  exact ⟨h.1, h.2⟩
theorem wf_u32 {a : Int} (h : (Lit.int .u32 a).wf = true) : 0 ≤ a ∧ a ≤ 4294967295 := by
  simp only [Lit.wf, decide_eq_true_eq, Bool.and_eq_true] at h
  exact ⟨h.1, h.2⟩
theorem wf_u64 {a : Int} (h : (Lit.int .u64 a).wf = true) : 0 ≤ a ∧ a ≤ 18446744073709551615 := by
  simp only [Lit.wf, decide_eq_true_eq, Bool.and_eq_true] at h
  exact ⟨h.1, h.2⟩
theorem wf_i8 {a : Int} (h : (Lit.int .i8 a).wf = true) : -128 ≤ a ∧ a ≤ 127 := by
  simp only [Lit.wf, decide_eq_true_eq, Bool.and_eq_true] at h
  exact ⟨h.1, h.2⟩
theorem wf_i16 {a : Int} (h : (Lit.int .i16 a).wf = true) : -32768 ≤ a ∧ a ≤ 32767 := by
  simp only [Lit.wf, decide_eq_true_eq, Bool.and_eq_true] at h
  exact ⟨h.1, h.2⟩
theorem wf_i32 {a : Int} (h : (Lit.int .i32 a).wf = true) : -2147483648 ≤ a ∧ a ≤ 2147483647 := by
  simp only [Lit.wf, decide_eq_true_eq, Bool.and_eq_true] at h
  exact ⟨h.1, h.2⟩
theorem wf_i64 {a : Int} (h : (Lit.int .i64 a).wf = true) : -9223372036854775808 ≤ a ∧ a ≤ 9223372036854775807 := by
  simp only [Lit.wf, decide_eq_true_eq, Bool.and_eq_true] at h
  exact ⟨h.1, h.2⟩
end Go.X
