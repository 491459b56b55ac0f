/- The statement SumTells is proved, for every argument that the statement allows. -/
import Derived.Test.YtdpcbpadjkmjjaaRows
import Derived.Test.YtdpcbpadjkmjjaaSumT
import Derived.Test.YtdpcbpadjkmjjaaArg
import Derived.WalkKit
import Derived.ProofKit
import Derived.OpenShut
import Derived.ShutString
namespace Go.Proofs.Ytdpcbpadjkmjjaa.sumTells
open Go.ChangeShapes Go.WideShapes Go.ChangeAt Go.RowKit
open Go.ChangeMaps (open_string shut_string)
theorem own : ownKnob Try.prog.godebug = none := by kernel_rfl
theorem lifted (os : Os) (started : os.Started) (H : Type) (enc : TypeId × Value → H) :
    ReturnsInHanded {} Try.checked os 7 .any (Rows.sumTellsSpec.pre6 enc Try.prog Try.f7 Rows.sumTellsRow.domain false) (Rows.sumTellsSpec.post enc Try.prog Try.f7 false true false false) := by
  refine returnsInHanded_of_change (C := Try.checked) own started (by kernel_rfl) Try.func7
    (ChangeSpec.witness6 (enc := enc) (C := Try.checked) false ⟨#[], #[.string ByteArray.empty, .agg #[.int .u32 0, .int .u32 0], .int .u8 0], []⟩ 8 (by kernel_rfl) (by kernel_rfl) (by kernel_rfl) (by kernel_rfl)) ?_
  intro W base args ds gs before hval0 hW hcnd _
  have hval : ∀ (j : Nat) t v, Try.f7.params[j]? = some t → args[j]? = some v → Value.okWide Try.prog W .any base t v := hval0
  have hW' := hW
  obtain ⟨p, q, hA0, hV, rfl, hfz, hnd⟩ := hW
  have hA : DataW.TrodAll enc Try.prog W 0 (fun _ => true) true Try.f7.params.toList args.toList ds p := hA0
  rw [Try.params7] at hA hval
  obtain ⟨v0, vs0, d0, ds0, p0, q0, hargs, rfl, rfl, h0, r0⟩ := trodAll_cons hA
  obtain ⟨v1, vs1, d1, ds1, p1, q1, rfl, rfl, rfl, h1, r1⟩ := trodAll_cons r0
  obtain ⟨v2, vs2, d2, ds2, p2, q2, rfl, rfl, rfl, h2, r2⟩ := trodAll_cons r1
  obtain ⟨rfl, rfl, rfl⟩ := trodAll_nil r2
  obtain rfl : args = #[v0, v1, v2] := by cases args; simp_all
  obtain ⟨rfl, rfl⟩ := trodVars_none hV
  have k0 := hval 0 9 v0 rfl rfl
  obtain ⟨a0, e0, -, -, w0⟩ := open_string Try.underlying9 k0 h0
  subst e0
  have k1 := hval 1 33 v1 rfl rfl
  obtain ⟨a1, e1, z1⟩ := X.okWide_array Try.underlying33 k1
  subst e1
  have k2 := hval 2 5 v2 rfl rfl
  obtain ⟨a2, e2, -, -, w2⟩ := open_int Try.underlying5 k2 h2
  subst e2
  clear hA0 hval0
  have w0' : a0.data.toList.length ≤ 9223372036854775807 := w0
  have hw2 := X.wf_u8 w2
  obtain ⟨l⟩ := a1
  obtain ⟨c0, c1, rfl⟩ := X.len2 (z1.trans (by kernel_rfl))
  have hc := X.flat_agg (l := [(0, .int .u32), (1, .int .u32)]) 3 (by kernel_rfl) h1
  obtain ⟨_, e0, n0, rfl, b0⟩ := hc (0, .int .u32) (.head _)
  obtain ⟨_, e1, n1, rfl, b1⟩ := hc (1, .int .u32) (.tail _ (.head _))
  obtain rfl := Option.some.inj e0
  obtain rfl := Option.some.inj e1
  have b0' := X.wf_u32 b0
  have b1' := X.wf_u32 b1
  obtain ⟨c, rfl⟩ : ∃ c : UInt8, a2 = (c.toNat : Int) := ⟨UInt8.ofNat a2.toNat, by simp only [UInt8.toNat_ofNat']; omega⟩
  have hw := X.sumTells_ok a0.data.toList w0' n0 n1 c (by omega) (by omega) W
  refine hw.calls.mono fun e W' he => ?_
  obtain ⟨rfl, hk⟩ := X.Ret.kept he
  exact ⟨_, rfl, X.row_post (by kernel_rfl) (by kernel_rfl) rfl rfl Try.underlying4 rfl hW' hk⟩

theorem over : Rows.sumTellsRow.holds Try.pinned (OpenSpec.ofChange Rows.sumTellsSpec) :=
  OpenClaim.holds_of_wide 7 Try.f7 rfl rfl rfl rfl rfl rfl rfl ⟨rfl, rfl, rfl, rfl, rfl⟩ rfl rfl rfl rfl rfl (by kernel_rfl) Try.func7 (by kernel_rfl)
    (of_decide_eq_true (by kernel_rfl)) (by unfold Func.isWrapper; first | (rw [if_pos (by decide +kernel)]; kernel_rfl) | (rw [if_neg (by decide +kernel)]; exact ⟨rfl, rfl⟩))
    (fun os started H enc _ => lifted os started H enc)

theorem proved : Rows.SumTellsSaid :=
  over
#print axioms proved
end Go.Proofs.Ytdpcbpadjkmjjaa.sumTells
