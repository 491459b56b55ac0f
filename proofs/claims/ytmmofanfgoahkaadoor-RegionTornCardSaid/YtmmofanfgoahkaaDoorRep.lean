/- strings.Repeat, by the shelf's contract. -/
import Derived.Test.YtmmofanfgoahkaaDoorMore2
import Derived.Test.YtmmofanfgoahkaaDoorShelf
namespace Go.X
open Go Go.Proofs
theorem Fx.ofBelow {P : Program} {f : FuncId} {fn : Func} {c : Code} {args : List Value} {w : World} {v : Value} (hf : P.funcs[f]? = some fn) (hb : fn.body = some c) (hname : (fn.name == "runtime.NumGoroutine") = false)
    (h : Calls P f args.toArray w fun e w' => e = .returned v ∧ Go.RowKit.Below w.heap.size w w') : Fx P f args w (Ret w [] (fun _ : Unit => v) (fun _ => []) (fun _ => True)) := by
  constructor
  · intro us w
    have hbn : fn.body.isNone = false := by rw [hb]; rfl
    simp only [callFunc, program, Sem.run_bind, Sem.run, Result.andThen, hf, hname, hbn, Bool.false_eq_true, if_false]
    rfl
  · refine h.mono fun e w' he => ?_
    obtain ⟨rfl, hk⟩ := he
    exact ⟨(), trivial, rfl, Owns.nil _, ⟨hk.os, hk.tape, hk.output, hk.size, fun b hb _ => hk.block b hb, fun a ha => by simp only [World.frozen?, hk.block a.block ha]⟩, fun b hb => by cases hb⟩
theorem repeat_ok (l : List UInt8) (c : Nat) (w : World) (h : l.length * c ≤ 1000000) (hc : c ≤ 1000000) :
    Fx Tryd.prog 10 [.string ⟨⟨l⟩⟩, .int .i64 c] w (Ret w [] (fun _ : Unit => .string ⟨⟨Lib.repeatL l c⟩⟩) (fun _ => []) (fun _ => True)) :=
  Fx.ofBelow Tryd.func10 rfl (by kernel_rfl) (Tryd.strings_Repeat ⟨⟨l⟩⟩ c w (by omega) (by show l.length * c ≤ _; omega))
end Go.X
