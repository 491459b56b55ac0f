/- The statement RegionTorn is proved, for every argument that the statement allows. -/
import Derived.Test.YtmmofanfgoahkaaDoorRows
import Derived.Test.YtmmofanfgoahkaaDoorRegT
import Derived.Test.YtmmofanfgoahkaaDoorCards
import Derived.Test.YtmmofanfgoahkaaDoorTie
import Derived.WalkKit
import Derived.ProofKit
import Derived.OpenShut
import Derived.ShutString
import Derived.LaidMore
import Derived.Lay
import Derived.SevenTiedAt
import Derived.Stop.Joined
namespace Go.Proofs.YtmmofanfgoahkaaDoor.regionTorn
open Go.ChangeShapes Go.WideShapes Go.ChangeAt Go.RowKit
open Go.ChangeMaps (open_string shut_string)
theorem own : ownKnob Tryd.prog.godebug = none := by kernel_rfl
set_option maxRecDepth 100000 in
theorem lifted (os : Os) (started : os.Started) (H : Type) (enc : TypeId × Value → H) :
    ReturnsInHanded {} Tryd.checked os 4 .any (fun w args => (Rows.regionTornSpec.pre enc Tryd.prog Tryd.f4 Rows.regionTornRow.domain false w args ∧ laidMetH Tryd.prog Rows.regionTornRow.laid w) ∧ sizedMet enc Tryd.prog Tryd.f4 (OpenSpec.ofChange Rows.regionTornSpec) false w args)
      (Rows.regionTornSpec.post enc Tryd.prog Tryd.f4 false true false false) := by
  refine returnsInHanded_of_change_and (C := Tryd.checked) (X := fun w _ => laidMetH Tryd.prog Rows.regionTornRow.laid w) (fun _ _ _ hh h => h.of_heap hh) own started (by kernel_rfl) Tryd.func4
    (ChangeSpec.witness_shaped (enc := enc) (C := Tryd.checked) (os := os) (X := fun w _ => laidMetH Tryd.prog Rows.regionTornRow.laid w) false (World.laidAll Tryd.prog os Rows.regionTornRow.laid) #[.slice none 0 0, .int .u16 0, .slice none 0 0] 8 (World.laidAll_os _ _ _)
      (World.shaped_of_ZipB (by kernel_rfl) (by kernel_rfl)) (by kernel_rfl) (by kernel_rfl) (by kernel_rfl)
      (by rw [MakeChecks.laidMetH_plain _ _ _ (by kernel_rfl)]; exact laidMet_laidAll _ (by kernel_rfl) (by kernel_rfl))) ?_
  intro W base args ds gs before hval0 hW hcnd _ _ _
  have hval : ∀ (j : Nat) t v, Tryd.f4.params[j]? = some t → args[j]? = some v → Value.okWide Tryd.prog W .any base t v := hval0
  have hW' := hW
  obtain ⟨p, q, hA0, hV, rfl, hfz, hnd⟩ := hW
  have hA : DataW.TrodAll enc Tryd.prog W 0 (fun _ => true) true Tryd.f4.params.toList args.toList ds p := hA0
  rw [Tryd.params4] at hA hval
  obtain ⟨v0, vs0, d0, ds0, p0, q0, hargs, rfl, rfl, h0, r0⟩ := trodAll_cons hA
  obtain ⟨v1, vs1, d1, ds1, p1, q1, rfl, rfl, rfl, h1, r1⟩ := trodAll_cons r0
  obtain ⟨v2, vs2, d2, ds2, p2, q2, rfl, rfl, rfl, h2, r2⟩ := trodAll_cons r1
  obtain ⟨rfl, rfl, rfl⟩ := trodAll_nil r2
  obtain rfl : args = #[v0, v1, v2] := by cases args; simp_all
  obtain ⟨rfl, rfl⟩ := trodVars_none hV
  have k0 := hval 0 46 v0 rfl rfl
  have k1 := hval 1 47 v1 rfl rfl
  obtain ⟨a1, e1, -, -, w1⟩ := open_int Tryd.underlying47 k1 h1
  subst e1
  have k2 := hval 2 48 v2 rfl rfl
  clear hA0 hval0
  have h1' := X.wf_u16 w1
  obtain ⟨c0, rfl⟩ : ∃ c0 : Nat, a1 = (c0 : Int) := ⟨a1.toNat, by omega⟩
  obtain ⟨l, hv, hl, hs⟩ := X.racts_of (X.flat_slice Tryd.underlying46 k0 h0)
  obtain ⟨ch, hc, hcl, hcw⟩ := X.ints_of Tryd.underlying3 (by kernel_rfl) (X.flat_slice Tryd.underlying48 k2 h2)
  have hw := X.regionTorn_ok l c0 ch v0 v2 W hv hl hs (by omega) hc hcl (fun a ha => X.wf_i64 (hcw a ha))
  refine hw.calls.mono fun e W' he => ?_
  obtain ⟨rfl, hk⟩ := X.Ret.kept he
  exact ⟨_, rfl, X.row_post (by kernel_rfl) (by kernel_rfl) rfl rfl Tryd.underlying4 rfl hW' hk⟩

theorem over : Rows.regionTornRow.holds Tryd.pinned (OpenSpec.ofChange Rows.regionTornSpec) :=
  OpenClaim.holds_of_wide 4 Tryd.f4 rfl rfl rfl rfl rfl rfl rfl ⟨rfl, rfl, rfl, rfl, rfl⟩ rfl rfl rfl rfl rfl (by kernel_rfl) Tryd.func4 (by kernel_rfl)
    (of_decide_eq_true (by kernel_rfl)) (by unfold Func.isWrapper; first | (rw [if_pos (by decide +kernel)]; kernel_rfl) | (rw [if_neg (by decide +kernel)]; exact ⟨rfl, rfl⟩))
    (fun os started H enc _ => lifted os started H enc)

theorem proved : Rows.RegionTornCardSaid :=
  Claim7.holds_tied_plain_at .later [] [.data, .pinned] true (true, "77972e1a16da3c3cf300a8af79c5d5d9e4b699340c2350780f08a7cab30d97d5") false over (fun _ h => by cases h) (by kernel_rfl) (fun _ h => by cases h) regionTorn_row_tie rfl ⟨rfl, rfl⟩ (by kernel_rfl) rfl
    (fun f fn hf hfn => by
      obtain rfl : f = 4 := Option.some.inj ((show Tryd.prog.funcNamed "revert/revertlaw13.RegionTorn" = some 4 by kernel_rfl).symm.trans hf) |>.symm
      obtain rfl : fn = Tryd.f4 := (Option.some.inj (Tryd.func4.symm.trans hfn)).symm
      exact ⟨by kernel_rfl, fun j t ht => by
        rw [Tryd.params4] at ht
        have hm : t ∈ ([46, 47, 48] : List Nat) := by simpa using Array.mem_of_getElem? ht
        have hall : (([46, 47, 48] : List Nat).all fun u => !Tryd.prog.wantsStandIn u) = true := by kernel_rfl
        exact (show Tryd.prog.wantsStandIn t = false by simpa using List.all_eq_true.1 hall t hm)⟩)
    (by kernel_rfl)
#print axioms proved
end Go.Proofs.YtmmofanfgoahkaaDoor.regionTorn
