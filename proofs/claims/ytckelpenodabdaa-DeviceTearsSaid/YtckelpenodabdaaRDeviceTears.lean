/- The statement DeviceTears is proved, for every argument that the statement allows. -/
import Derived.Test.YtckelpenodabdaaRows
import Derived.Test.YtckelpenodabdaaDevH
import Derived.WalkKit
import Derived.ProofKit
import Derived.OpenShut
import Derived.ShutString
namespace Go.Proofs.Ytckelpenodabdaa.deviceTears
open Go.ChangeShapes Go.WideShapes Go.ChangeAt Go.RowKit
open Go.ChangeMaps (open_string shut_string)
theorem own : ownKnob Try.prog.godebug = none := by kernel_rfl
set_option maxRecDepth 100000 in
theorem lifted (os : Os) (started : os.Started) (H : Type) (enc : TypeId × Value → H) :
    ReturnsInHanded {} Try.checked os 5 .any (Rows.deviceTearsSpec.pre6 enc Try.prog Try.f5 Rows.deviceTearsRow.domain false) (Rows.deviceTearsSpec.post enc Try.prog Try.f5 false true false false) := by
  refine returnsInHanded_of_change (C := Try.checked) own started (by kernel_rfl) Try.func5
    (ChangeSpec.witness6 (enc := enc) (C := Try.checked) false ⟨#[], #[.slice none 0 0, .slice none 0 0], []⟩ 8 (by kernel_rfl) (by kernel_rfl) (by kernel_rfl) (by kernel_rfl)) ?_
  intro W base args ds gs before hval0 hW hcnd _
  have hval : ∀ (j : Nat) t v, Try.f5.params[j]? = some t → args[j]? = some v → Value.okWide Try.prog W .any base t v := hval0
  have hW' := hW
  obtain ⟨p, q, hA0, hV, rfl, hfz, hnd⟩ := hW
  have hA : DataW.TrodAll enc Try.prog W 0 (fun _ => true) true Try.f5.params.toList args.toList ds p := hA0
  rw [Try.params5] at hA hval
  obtain ⟨v0, vs0, d0, ds0, p0, q0, hargs, rfl, rfl, h0, r0⟩ := trodAll_cons hA
  obtain ⟨v1, vs1, d1, ds1, p1, q1, rfl, rfl, rfl, h1, r1⟩ := trodAll_cons r0
  obtain ⟨rfl, rfl, rfl⟩ := trodAll_nil r1
  obtain rfl : args = #[v0, v1] := by cases args; simp_all
  obtain ⟨rfl, rfl⟩ := trodVars_none hV
  have k0 := hval 0 37 v0 rfl rfl
  have k1 := hval 1 23 v1 rfl rfl
  clear hA0 hval0
  obtain ⟨l, hv, hl, hs⟩ := X.dacts_of (X.flat_slice Try.underlying37 k0 h0)
  obtain ⟨ch, hc, hcl, hcw⟩ := X.ints_of Try.underlying3 (by kernel_rfl) (X.flat_slice Try.underlying23 k1 h1)
  have hw := X.deviceTears_ok l ch v0 v1 W hv hl hs hc hcl (fun a ha => X.wf_i64 (hcw a ha))
  refine hw.calls.mono fun e W' he => ?_
  obtain ⟨rfl, hk⟩ := X.Ret.kept he
  exact ⟨_, rfl, X.row_post (by kernel_rfl) (by kernel_rfl) rfl rfl Try.underlying4 rfl hW' hk⟩

theorem over : Rows.deviceTearsRow.holds Try.pinned (OpenSpec.ofChange Rows.deviceTearsSpec) :=
  OpenClaim.holds_of_wide 5 Try.f5 rfl rfl rfl rfl rfl rfl rfl ⟨rfl, rfl, rfl, rfl, rfl⟩ rfl rfl rfl rfl rfl (by kernel_rfl) Try.func5 (by kernel_rfl)
    (of_decide_eq_true (by kernel_rfl)) (by unfold Func.isWrapper; first | (rw [if_pos (by decide +kernel)]; kernel_rfl) | (rw [if_neg (by decide +kernel)]; exact ⟨rfl, rfl⟩))
    (fun os started H enc _ => lifted os started H enc)

theorem proved : Rows.DeviceTearsSaid :=
  over
#print axioms proved
end Go.Proofs.Ytckelpenodabdaa.deviceTears
