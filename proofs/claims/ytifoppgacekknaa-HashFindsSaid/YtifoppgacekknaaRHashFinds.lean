/- The statement HashFinds is proved, for every argument that the statement allows. -/
import Derived.Test.YtifoppgacekknaaRows
import Derived.Test.YtifoppgacekknaaHashM
import Derived.WalkKit
import Derived.ProofKit
import Derived.OpenShut
import Derived.ShutString
namespace Go.Proofs.Ytifoppgacekknaa.hashFinds
open Go.ChangeShapes Go.WideShapes Go.ChangeAt Go.RowKit
open Go.ChangeMaps (open_string shut_string)
theorem own : ownKnob Try.prog.godebug = none := by kernel_rfl
theorem lifted (os : Os) (started : os.Started) (H : Type) (enc : TypeId × Value → H) :
    ReturnsInHanded {} Try.checked os 6 .any (Rows.hashFindsSpec.pre6 enc Try.prog Try.f6 Rows.hashFindsRow.domain false) (Rows.hashFindsSpec.post enc Try.prog Try.f6 false true false false) := by
  refine returnsInHanded_of_change (C := Try.checked) own started (by kernel_rfl) Try.func6
    (ChangeSpec.witness6 (enc := enc) (C := Try.checked) false ⟨#[], #[.agg #[.string ByteArray.empty, .string ByteArray.empty, .string ByteArray.empty, .string ByteArray.empty, .string ByteArray.empty, .string ByteArray.empty, .string ByteArray.empty, .string ByteArray.empty], .slice none 0 0], []⟩ 8 (by kernel_rfl) (by kernel_rfl) (by kernel_rfl) (by kernel_rfl)) ?_
  intro W base args ds gs before hval0 hW hcnd _
  have hval : ∀ (j : Nat) t v, Try.f6.params[j]? = some t → args[j]? = some v → Value.okWide Try.prog W .any base t v := hval0
  have hW' := hW
  obtain ⟨p, q, hA0, hV, rfl, hfz, hnd⟩ := hW
  have hA : DataW.TrodAll enc Try.prog W 0 (fun _ => true) true Try.f6.params.toList args.toList ds p := hA0
  rw [Try.params6] at hA hval
  obtain ⟨v0, vs0, d0, ds0, p0, q0, hargs, rfl, rfl, h0, r0⟩ := trodAll_cons hA
  obtain ⟨v1, vs1, d1, ds1, p1, q1, rfl, rfl, rfl, h1, r1⟩ := trodAll_cons r0
  obtain ⟨rfl, rfl, rfl⟩ := trodAll_nil r1
  obtain rfl : args = #[v0, v1] := by cases args; simp_all
  obtain ⟨rfl, rfl⟩ := trodVars_none hV
  have k0 := hval 0 51 v0 rfl rfl
  obtain ⟨a0, e0, z0⟩ := X.okWide_array Try.underlying51 k0
  subst e0
  have k1 := hval 1 26 v1 rfl rfl
  clear hA0 hval0
  obtain ⟨l⟩ := a0
  obtain ⟨c0, c1, c2, c3, c4, c5, c6, c7, rfl⟩ := X.len8 (z0.trans (by kernel_rfl))
  have hc := X.flat_agg (l := [(0, .str), (1, .str), (2, .str), (3, .str), (4, .str), (5, .str), (6, .str), (7, .str)]) 3 (by kernel_rfl) h0
  obtain ⟨_, e0, n0, rfl, b0⟩ := hc (0, .str) (by simp)
  obtain ⟨_, e1, n1, rfl, b1⟩ := hc (1, .str) (by simp)
  obtain ⟨_, e2, n2, rfl, b2⟩ := hc (2, .str) (by simp)
  obtain ⟨_, e3, n3, rfl, b3⟩ := hc (3, .str) (by simp)
  obtain ⟨_, e4, n4, rfl, b4⟩ := hc (4, .str) (by simp)
  obtain ⟨_, e5, n5, rfl, b5⟩ := hc (5, .str) (by simp)
  obtain ⟨_, e6, n6, rfl, b6⟩ := hc (6, .str) (by simp)
  obtain ⟨_, e7, n7, rfl, b7⟩ := hc (7, .str) (by simp)
  obtain rfl := Option.some.inj e0
  obtain rfl := Option.some.inj e1
  obtain rfl := Option.some.inj e2
  obtain rfl := Option.some.inj e3
  obtain rfl := Option.some.inj e4
  obtain rfl := Option.some.inj e5
  obtain rfl := Option.some.inj e6
  obtain rfl := Option.some.inj e7
  obtain ⟨acts, hr, hl, hs⟩ := X.acts_of' (X.flat_slice Try.underlying26 k1 h1)
  have hw := X.hashFinds_ok (fun i => match i with
    | 0 => n0.data.toList
    | 1 => n1.data.toList
    | 2 => n2.data.toList
    | 3 => n3.data.toList
    | 4 => n4.data.toList
    | 5 => n5.data.toList
    | 6 => n6.data.toList
    | 7 => n7.data.toList
    | _ => []) v1 acts W (fun i => by
      match i with
      | 0 => exact b0
      | 1 => exact b1
      | 2 => exact b2
      | 3 => exact b3
      | 4 => exact b4
      | 5 => exact b5
      | 6 => exact b6
      | 7 => exact b7
      | _ + 8 => exact Nat.zero_le _) hr hl hs
  refine hw.calls.mono fun e W' he => ?_
  obtain ⟨rfl, hk⟩ := X.Ret.kept he
  exact ⟨_, rfl, X.row_post (by kernel_rfl) (by kernel_rfl) rfl rfl Try.underlying4 rfl hW' hk⟩

theorem over : Rows.hashFindsRow.holds Try.pinned (OpenSpec.ofChange Rows.hashFindsSpec) :=
  OpenClaim.holds_of_wide 6 Try.f6 rfl rfl rfl rfl rfl rfl rfl ⟨rfl, rfl, rfl, rfl, rfl⟩ rfl rfl rfl rfl rfl (by kernel_rfl) Try.func6 (by kernel_rfl)
    (of_decide_eq_true (by kernel_rfl)) (by unfold Func.isWrapper; first | (rw [if_pos (by decide +kernel)]; kernel_rfl) | (rw [if_neg (by decide +kernel)]; exact ⟨rfl, rfl⟩))
    (fun os started H enc _ => lifted os started H enc)

theorem proved : Rows.HashFindsSaid :=
  over
#print axioms proved
end Go.Proofs.Ytifoppgacekknaa.hashFinds
