/- The statement SumOrder is proved, for every argument that the statement allows. -/
import Derived.Test.YtdpcbpadjkmjjaaRows
import Derived.Test.YtdpcbpadjkmjjaaSumL
import Derived.Test.YtdpcbpadjkmjjaaArg
import Derived.WalkKit
import Derived.ProofKit
import Derived.OpenShut
import Derived.ShutString
namespace Go.Proofs.Ytdpcbpadjkmjjaa.sumOrder
open Go.ChangeShapes Go.WideShapes Go.ChangeAt Go.RowKit
open Go.ChangeMaps (open_string shut_string)
theorem own : ownKnob Try.prog.godebug = none := by kernel_rfl
theorem lifted (os : Os) (started : os.Started) (H : Type) (enc : TypeId × Value → H) :
    ReturnsInHanded {} Try.checked os 6 .any (Rows.sumOrderSpec.pre6 enc Try.prog Try.f6 Rows.sumOrderRow.domain false) (Rows.sumOrderSpec.post enc Try.prog Try.f6 false true false false) := by
  refine returnsInHanded_of_change (C := Try.checked) own started (by kernel_rfl) Try.func6
    (ChangeSpec.witness6 (enc := enc) (C := Try.checked) false ⟨#[], #[.agg #[.int .u32 0, .int .u32 0, .int .u32 0], .int .u64 0, .int .u64 0], []⟩ 8 (by kernel_rfl) (by kernel_rfl) (by kernel_rfl) (by kernel_rfl)) ?_
  intro W base args ds gs before hval0 hW hcnd _
  have hval : ∀ (j : Nat) t v, Try.f6.params[j]? = some t → args[j]? = some v → Value.okWide Try.prog W .any base t v := hval0
  have hW' := hW
  obtain ⟨p, q, hA0, hV, rfl, hfz, hnd⟩ := hW
  have hA : DataW.TrodAll enc Try.prog W 0 (fun _ => true) true Try.f6.params.toList args.toList ds p := hA0
  rw [Try.params6] at hA hval
  obtain ⟨v0, vs0, d0, ds0, p0, q0, hargs, rfl, rfl, h0, r0⟩ := trodAll_cons hA
  obtain ⟨v1, vs1, d1, ds1, p1, q1, rfl, rfl, rfl, h1, r1⟩ := trodAll_cons r0
  obtain ⟨v2, vs2, d2, ds2, p2, q2, rfl, rfl, rfl, h2, r2⟩ := trodAll_cons r1
  obtain ⟨rfl, rfl, rfl⟩ := trodAll_nil r2
  obtain rfl : args = #[v0, v1, v2] := by cases args; simp_all
  obtain ⟨rfl, rfl⟩ := trodVars_none hV
  have k0 := hval 0 30 v0 rfl rfl
  obtain ⟨a0, e0, z0⟩ := X.okWide_array Try.underlying30 k0
  subst e0
  have k1 := hval 1 31 v1 rfl rfl
  obtain ⟨a1, e1, -, -, w1⟩ := open_int Try.underlying31 k1 h1
  subst e1
  have k2 := hval 2 31 v2 rfl rfl
  obtain ⟨a2, e2, -, -, w2⟩ := open_int Try.underlying31 k2 h2
  subst e2
  clear hA0 hval0
  have hw1 := X.wf_u64 w1
  have hw2 := X.wf_u64 w2
  obtain ⟨l⟩ := a0
  obtain ⟨c0, c1, c2, rfl⟩ := X.len3 (z0.trans (by kernel_rfl))
  have hc := X.flat_agg (l := [(0, .int .u32), (1, .int .u32), (2, .int .u32)]) 3 (by kernel_rfl) h0
  obtain ⟨_, e0, n0, rfl, b0⟩ := hc (0, .int .u32) (.head _)
  obtain ⟨_, e1, n1, rfl, b1⟩ := hc (1, .int .u32) (.tail _ (.head _))
  obtain ⟨_, e2, n2, rfl, b2⟩ := hc (2, .int .u32) (.tail _ (.tail _ (.head _)))
  obtain rfl := Option.some.inj e0
  obtain rfl := Option.some.inj e1
  obtain rfl := Option.some.inj e2
  have b0' := X.wf_u32 b0
  have b1' := X.wf_u32 b1
  have b2' := X.wf_u32 b2
  have hw := X.sumOrder_ok n0 n1 n2 a1 a2 (by omega) (by omega) (by omega) (by omega) (by omega) W
  refine hw.calls.mono fun e W' he => ?_
  obtain ⟨rfl, hk⟩ := X.Ret.kept he
  exact ⟨_, rfl, X.row_post (by kernel_rfl) (by kernel_rfl) rfl rfl Try.underlying4 rfl hW' hk⟩

theorem over : Rows.sumOrderRow.holds Try.pinned (OpenSpec.ofChange Rows.sumOrderSpec) :=
  OpenClaim.holds_of_wide 6 Try.f6 rfl rfl rfl rfl rfl rfl rfl ⟨rfl, rfl, rfl, rfl, rfl⟩ rfl rfl rfl rfl rfl (by kernel_rfl) Try.func6 (by kernel_rfl)
    (of_decide_eq_true (by kernel_rfl)) (by unfold Func.isWrapper; first | (rw [if_pos (by decide +kernel)]; kernel_rfl) | (rw [if_neg (by decide +kernel)]; exact ⟨rfl, rfl⟩))
    (fun os started H enc _ => lifted os started H enc)

theorem proved : Rows.SumOrderSaid :=
  over
#print axioms proved
end Go.Proofs.Ytdpcbpadjkmjjaa.sumOrder
