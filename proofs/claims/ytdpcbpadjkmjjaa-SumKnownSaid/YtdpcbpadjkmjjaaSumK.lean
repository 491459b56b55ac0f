/- SumKnown. -/
import Derived.Test.YtdpcbpadjkmjjaaSumL
import Derived.Test.YtdpcbpadjkmjjaaRep
namespace Go.X
open Go Go.Proofs
theorem skn1 : upd2 1 [] = 1 := by decide +kernel
theorem skn2 : upd2 1 [0] = 65537 := by decide +kernel
theorem skn3 : upd2 1 [87, 105, 107, 105, 112, 101, 100, 105, 97] = 300286872 := by decide +kernel
theorem skn4 : upd2 4294967295 [] = 0 := by decide +kernel
theorem skn5 : num2 (join2 0 0 (-5)) = 65534 := by decide +kernel
theorem skn6 : upd2 1 (Lib.repeatL [255] 257) = 16842753 := by decide +kernel
set_option maxHeartbeats 1000000 in
theorem sumKnown_ok (w : World) : Fx Try.prog 8 [] w (Pure w (.bool true)) := by
  obtain ⟨y, hy, hyl⟩ : ∃ y, Lib.repeatL [255] 257 = y ∧ y.length = 257 := ⟨_, rfl, by rw [Lib.repeatL_length]; rfl⟩
  have hr : ∀ w, Fx Try.prog 16 [str [255], i64 257] w (Pure w (str y)) := fun w => by
    have := repeat_ok [255] 257 w (by decide) (by decide)
    rw [hy] at this; exact this
  have hs : upd2 1 y = 16842753 := by rw [← hy]; exact skn6
  refine Fx.of (L0 := []) Try.func8 rfl (by kernel_rfl) Try.ntmps8 rfl (Owns.nil w) ?_
  refine go (k := ?_)
  refine XL.q (.call rfl rfl fun _ w _ => sworks_ok w) rfl ?_
  refine go (k := ?_)
  refine XL.q (.call rfl rfl fun _ w _ => sum_ok [] (by decide) w) rfl ?_
  rw [skn1]
  refine go (k := ?_)
  refine XL.q (.call rfl rfl fun _ w _ => sum_ok [0] (by decide) w) rfl ?_
  rw [skn2]
  refine go (k := ?_)
  refine XL.q (.call rfl rfl fun _ w _ => sum_ok [87, 105, 107, 105, 112, 101, 100, 105, 97] (by decide) w) rfl ?_
  rw [skn3]
  refine go (k := ?_)
  refine XL.q (.call rfl rfl fun _ w _ => update_ok 4294967295 (by decide) (by decide) [] (by decide) w) rfl ?_
  rw [skn4]
  refine go (k := ?_)
  refine XL.q (.call rfl rfl fun _ w _ => join_ok 0 0 (-5) (by decide) (by decide) (by decide) (by decide) (by decide) (by decide) w) rfl ?_
  rw [skn5]
  refine go (k := ?_)
  refine XL.q (.call rfl rfl fun _ w _ => hr w) rfl ?_
  refine go (k := ?_)
  refine XL.q (.call rfl rfl fun _ w _ => sum_ok y (by omega) w) rfl ?_
  rw [hs]
  refine go (k := ?_)
  exact XE.ret1 () [] rfl rfl trivial rfl rfl rfl
end Go.X
