/- The statement SpacePlays is proved, for every argument that the statement allows. -/
import Derived.Test.YtiofmbiapngnmaaRows
import Derived.Test.YtiofmbiapngnmaaSpaceH
import Derived.WalkKit
import Derived.ProofKit
import Derived.OpenShut
import Derived.ShutString
namespace Go.Proofs.Ytiofmbiapngnmaa.spacePlays
open Go.ChangeShapes Go.WideShapes Go.ChangeAt Go.RowKit
open Go.ChangeMaps (open_string shut_string)
theorem own : ownKnob Try.prog.godebug = none := by kernel_rfl
theorem lifted (os : Os) (started : os.Started) (H : Type) (enc : TypeId × Value → H) :
    ReturnsInHanded {} Try.checked os 4 .any (Rows.spacePlaysSpec.pre6 enc Try.prog Try.f4 Rows.spacePlaysRow.domain false) (Rows.spacePlaysSpec.post enc Try.prog Try.f4 false true false false) := by
  refine returnsInHanded_of_change (C := Try.checked) own started (by kernel_rfl) Try.func4
    (ChangeSpec.witness6 (enc := enc) (C := Try.checked) false ⟨#[], #[.agg #[.int .i64 0, .int .i64 0], .slice none 0 0, .slice none 0 0], []⟩ 8 (by kernel_rfl) (by kernel_rfl) (by kernel_rfl) (by kernel_rfl)) ?_
  intro W base args ds gs before hval0 hW hcnd _
  have hval : ∀ (j : Nat) t v, Try.f4.params[j]? = some t → args[j]? = some v → Value.okWide Try.prog W .any base t v := hval0
  have hW' := hW
  obtain ⟨p, q, hA0, hV, rfl, hfz, hnd⟩ := hW
  have hA : DataW.TrodAll enc Try.prog W 0 (fun _ => true) true Try.f4.params.toList args.toList ds p := hA0
  rw [Try.params4] at hA hval
  obtain ⟨v0, vs0, d0, ds0, p0, q0, hargs, rfl, rfl, h0, r0⟩ := trodAll_cons hA
  obtain ⟨v1, vs1, d1, ds1, p1, q1, rfl, rfl, rfl, h1, r1⟩ := trodAll_cons r0
  obtain ⟨v2, vs2, d2, ds2, p2, q2, rfl, rfl, rfl, h2, r2⟩ := trodAll_cons r1
  obtain ⟨rfl, rfl, rfl⟩ := trodAll_nil r2
  obtain rfl : args = #[v0, v1, v2] := by cases args; simp_all
  obtain ⟨rfl, rfl⟩ := trodVars_none hV
  have k0 := hval 0 39 v0 rfl rfl
  obtain ⟨a0, e0, z0⟩ := X.okWide_array Try.underlying39 k0
  subst e0
  have k1 := hval 1 27 v1 rfl rfl
  have k2 := hval 2 23 v2 rfl rfl
  clear hA0 hval0
  obtain ⟨l⟩ := a0
  obtain ⟨c0, c1, rfl⟩ := X.len2 (z0.trans (by kernel_rfl))
  have hc := X.flat_agg (l := [(0, .int .i64), (1, .int .i64)]) 3 (by kernel_rfl) h0
  obtain ⟨_, e0, n0, rfl, b0⟩ := hc (0, .int .i64) (.head _)
  obtain ⟨_, e1, n1, rfl, b1⟩ := hc (1, .int .i64) (.tail _ (.head _))
  obtain rfl := Option.some.inj e0
  obtain rfl := Option.some.inj e1
  obtain ⟨us, hu, hul, _⟩ := X.ints_of Try.underlying3 (by kernel_rfl) (X.flat_slice Try.underlying27 k1 h1)
  obtain ⟨acts, hr, hl, hs⟩ := X.sacts_of (X.flat_slice Try.underlying23 k2 h2)
  have hw := X.spacePlays_ok n0 n1 us acts v1 v2 W (X.wf_i64 b0) (X.wf_i64 b1) hu hul hr hl (fun a ha => (hs a ha).1)
  refine hw.calls.mono fun e W' he => ?_
  obtain ⟨rfl, hk⟩ := X.Ret.kept he
  exact ⟨_, rfl, X.row_post (by kernel_rfl) (by kernel_rfl) rfl rfl Try.underlying4 rfl hW' hk⟩

theorem over : Rows.spacePlaysRow.holds Try.pinned (OpenSpec.ofChange Rows.spacePlaysSpec) :=
  OpenClaim.holds_of_wide 4 Try.f4 rfl rfl rfl rfl rfl rfl rfl ⟨rfl, rfl, rfl, rfl, rfl⟩ rfl rfl rfl rfl rfl (by kernel_rfl) Try.func4 (by kernel_rfl)
    (of_decide_eq_true (by kernel_rfl)) (by unfold Func.isWrapper; first | (rw [if_pos (by decide +kernel)]; kernel_rfl) | (rw [if_neg (by decide +kernel)]; exact ⟨rfl, rfl⟩))
    (fun os started H enc _ => lifted os started H enc)

theorem proved : Rows.SpacePlaysSaid :=
  over
#print axioms proved
end Go.Proofs.Ytiofmbiapngnmaa.spacePlays
