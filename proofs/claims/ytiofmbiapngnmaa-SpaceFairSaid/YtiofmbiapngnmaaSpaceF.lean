/- The laws' own helpers: takes, awake, one; SpaceKnown. -/
import Derived.Test.YtiofmbiapngnmaaSpaceE
namespace Go.X
open Go Go.Proofs
theorem takes_ok (b : Nat) (lv : Value) (f n : Nat) (u u' : Nat → Bool) (k : Int) (w : World) (h1 : f < n) (h2 : n ≤ 2048) (hst : stake f n u = (k, 0, u')) (ho : Owns w [spE b lv f n u]) :
    Fx Try.prog 22 [ptr b, iv k] w (Ret w [spE b lv f n u] (fun _ : Unit => .bool true) (fun _ => [spE b lv f n u']) (fun _ => True)) := by
  refine Fx.of Try.func22 rfl (by kernel_rfl) Try.ntmps22 rfl ho ?_
  refine go (k := ?_)
  refine XL.call [0] [] rfl rfl rfl rfl rfl (fun _ w _ ho => take_ok b lv f n u w h1 h2 ho) fun _ _ => ?_
  rw [hst]
  refine go (k := ?_)
  refine XE.ret1 () [0] rfl rfl trivial ?_ rfl rfl
  simp
theorem awake_ok (w : World) : Fx Try.prog 6 [] w (Pure w (.bool true)) := by
  refine Fx.of (L0 := []) Try.func6 rfl (by kernel_rfl) Try.ntmps6 rfl (Owns.nil w) ?_
  refine go (k := ?_)
  refine XL.call [] [] rfl rfl rfl rfl rfl (fun _ w _ _ => snew_ok 100 200 w (by decide) (by decide)) fun x _ => ?_
  obtain ⟨b, lv⟩ := x
  have c1 : (frees 100 200 (fun _ => false)).length = 100 := by decide +kernel
  refine go (k := ?_)
  refine XL.call [0] [] rfl rfl rfl rfl rfl (fun _ w _ ho => count_ok b lv 100 200 _ w (by decide) (by decide) ho) fun _ _ => ?_
  rw [c1]
  refine go (k := ?_)
  refine XL.call [0] [] rfl rfl rfl rfl rfl (fun _ w _ ho => takes_ok b lv 100 200 _ _ 100 w (by decide) (by decide) rfl ho) fun _ _ => ?_
  refine go (k := ?_)
  refine XL.call [0] [] rfl rfl rfl rfl rfl (fun _ w _ ho => takes_ok b lv 100 200 _ _ 101 w (by decide) (by decide) rfl ho) fun _ _ => ?_
  refine go (k := ?_)
  refine XL.call [0] [] rfl rfl rfl rfl rfl (fun _ w _ ho => use_ok b lv 100 200 _ 103 w (by decide) (by decide) ho) fun _ _ => ?_
  refine go (k := ?_)
  refine XL.call [0] [] rfl rfl rfl rfl rfl (fun _ w _ ho => takes_ok b lv 100 200 _ _ 102 w (by decide) (by decide) rfl ho) fun _ _ => ?_
  refine go (k := ?_)
  refine XL.call [0] [] rfl rfl rfl rfl rfl (fun _ w _ ho => takes_ok b lv 100 200 _ _ 104 w (by decide) (by decide) rfl ho) fun _ _ => ?_
  refine go (k := ?_)
  have c2 : (frees 100 200 (upd (upd (upd (upd (upd (fun _ => false) 100 true) 101 true) 103 true) 102 true) 104 true)).length = 95 := by decide +kernel
  refine XL.call [0] [] rfl rfl rfl rfl rfl (fun _ w _ ho => count_ok b lv 100 200 (upd (upd (upd (upd (upd (fun _ => false) 100 true) 101 true) 103 true) 102 true) 104 true) w (by decide) (by decide) ho) fun _ _ => ?_
  rw [c2]
  refine go (k := ?_)
  exact XE.ret1 () [] rfl rfl trivial rfl rfl rfl
set_option maxHeartbeats 1000000 in
theorem spaceKnown_ok (w : World) : Fx Try.prog 5 [] w (Pure w (.bool true)) := by
  refine Fx.of (L0 := []) Try.func5 rfl (by kernel_rfl) Try.ntmps5 rfl (Owns.nil w) ?_
  refine go (k := ?_)
  refine XL.alloc rfl rfl rfl fun b0 => ?_
  refine go (k := ?_)
  refine XL.call [] [0] rfl rfl rfl rfl rfl (fun _ w _ _ => snew_ok 100 200 w (by decide) (by decide)) fun x _ => ?_
  obtain ⟨b, lv⟩ := x
  refine go (k := ?_)
  refine XL.q (.call rfl rfl fun _ w _ => awake_ok w) rfl ?_
  refine go (k := ?_)
  refine XL.call [0] [1] rfl rfl rfl rfl rfl (fun _ w _ ho => takes_ok b lv 100 200 _ _ 100 w (by decide) (by decide) rfl ho) fun _ _ => ?_
  refine go (k := ?_)
  refine XL.call [0] [1] rfl rfl rfl rfl rfl (fun _ w _ ho => takes_ok b lv 100 200 _ _ 101 w (by decide) (by decide) rfl ho) fun _ _ => ?_
  refine go (k := ?_)
  refine XL.call [0] [1] rfl rfl rfl rfl rfl (fun _ w _ ho => use_ok b lv 100 200 _ 103 w (by decide) (by decide) ho) fun _ _ => ?_
  refine go (k := ?_)
  refine XL.call [0] [1] rfl rfl rfl rfl rfl (fun _ w _ ho => use_ok b lv 100 200 _ 103 w (by decide) (by decide) ho) fun _ _ => ?_
  refine go (k := ?_)
  refine XL.call [0] [1] rfl rfl rfl rfl rfl (fun _ w _ ho => give_ok b lv 100 200 _ 101 w (by decide) (by decide) ho) fun _ _ => ?_
  refine go (k := ?_)
  refine XL.call [0] [1] rfl rfl rfl rfl rfl (fun _ w _ ho => give_ok b lv 100 200 _ 101 w (by decide) (by decide) ho) fun _ _ => ?_
  refine go (k := ?_)
  refine XL.call [0] [1] rfl rfl rfl rfl rfl (fun _ w _ ho => give_ok b lv 100 200 _ 99 w (by decide) (by decide) ho) fun _ _ => ?_
  refine go (k := ?_)
  refine XL.call [0] [1] rfl rfl rfl rfl rfl (fun _ w _ ho => use_ok b lv 100 200 _ 200 w (by decide) (by decide) ho) fun _ _ => ?_
  refine go (k := ?_)
  refine XL.call [0] [1] rfl rfl rfl rfl rfl (fun _ w _ ho => takes_ok b lv 100 200 _ _ 101 w (by decide) (by decide) rfl ho) fun _ _ => ?_
  refine go (k := ?_)
  refine XL.call [0] [1] rfl rfl rfl rfl rfl (fun _ w _ ho => takes_ok b lv 100 200 _ _ 102 w (by decide) (by decide) rfl ho) fun _ _ => ?_
  refine go (k := ?_)
  refine XL.call [0] [1] rfl rfl rfl rfl rfl (fun _ w _ ho => takes_ok b lv 100 200 _ _ 104 w (by decide) (by decide) rfl ho) fun _ _ => ?_
  refine go (k := ?_)
  refine XL.make (.bslice rfl rfl rfl rfl rfl rfl) rfl fun _ _ hb => ?_
  obtain ⟨bs, rfl, rfl⟩ := hb
  refine XL.call [] [2] rfl rfl rfl rfl rfl (fun _ w hs _ => load_ok 0 256 _ [5, 7] w (by decide) (by decide) ((Rd.blk (.head _) rfl (Nat.le_refl _) rfl : Rd _ _ _ _ 1 _ (ivs [5, 7])) w hs.own hs.kept) (by decide)) fun x hx => ?_
  obtain ⟨b2, lv2, u2, rfl⟩ : ∃ b2 lv2 u2, x = some (b2, lv2, u2) := by
    cases x with
    | none => cases hx
    | some y => exact ⟨y.1, y.2.1, y.2.2, rfl⟩
  obtain rfl : upd (upd zero 5 true) 7 true = u2 := Option.some.inj hx
  simp only
  refine go (k := ?_)
  refine XL.make (.bslice rfl rfl rfl rfl rfl rfl) rfl fun _ _ hb => ?_
  obtain ⟨bs, rfl, rfl⟩ := hb
  refine XL.call [] [1, 2] rfl rfl rfl rfl rfl (fun _ w hs _ => load_ok 0 256 _ [5, 5] w (by decide) (by decide) ((Rd.blk (.head _) rfl (Nat.le_refl _) rfl : Rd _ _ _ _ 1 _ (ivs [5, 5])) w hs.own hs.kept) (by decide)) fun x hx => ?_
  obtain rfl : x = none := by
    cases x with
    | none => rfl
    | some y => cases hx
  simp only
  refine go (k := ?_)
  refine XL.make (.bslice rfl rfl rfl rfl rfl rfl) rfl fun _ _ hb => ?_
  obtain ⟨bs, rfl, rfl⟩ := hb
  refine XL.call [] [1, 2] rfl rfl rfl rfl rfl (fun _ w hs _ => load_ok 0 256 _ [256] w (by decide) (by decide) ((Rd.blk (.head _) rfl (Nat.le_refl _) rfl : Rd _ _ _ _ 1 _ (ivs [256])) w hs.own hs.kept) (by decide)) fun x hx => ?_
  obtain rfl : x = none := by
    cases x with
    | none => rfl
    | some y => cases hx
  simp only
  refine go (k := ?_)
  refine XL.q (.call rfl rfl fun _ w _ => load_arg 5 5 _ w (by decide)) rfl ?_
  refine go (k := ?_)
  have c3 : ((frees 0 256 (upd (upd zero 5 true) 7 true)).length : Int) = 254 := by decide +kernel
  refine XL.call [0] [1] rfl rfl rfl rfl rfl (fun _ w _ ho => count_ok b2 lv2 0 256 _ w (by decide) (by decide) ho) fun _ _ => ?_
  rw [c3]
  refine go (k := ?_)
  refine XL.q (.call rfl rfl fun _ w hs => free_ok b2 lv2 0 256 _ (5) w (by decide) (by decide) (hs.own.grp (.head _))) rfl ?_
  refine go (k := ?_)
  refine XL.q (.call rfl rfl fun _ w hs => free_ok b2 lv2 0 256 _ (6) w (by decide) (by decide) (hs.own.grp (.head _))) rfl ?_
  refine go (k := ?_)
  refine XL.q (.call rfl rfl fun _ w hs => free_ok b2 lv2 0 256 _ (-1) w (by decide) (by decide) (hs.own.grp (.head _))) rfl ?_
  refine go (k := ?_)
  refine XL.q (.call rfl rfl fun _ w hs => free_ok b2 lv2 0 256 _ (256) w (by decide) (by decide) (hs.own.grp (.head _))) rfl ?_
  refine go (k := ?_)
  refine XL.q (.call rfl rfl fun _ w _ => snew_none 0 2049 w (by decide)) rfl ?_
  refine go (k := ?_)
  refine XL.q (.call rfl rfl fun _ w _ => snew_none (-1) 5 w (by decide)) rfl ?_
  refine go (k := ?_)
  refine XL.call [] [1] rfl rfl rfl rfl rfl (fun _ w _ _ => snew_ok 0 2048 w (by decide) (by decide)) fun x _ => ?_
  obtain ⟨b3, lv3⟩ := x
  refine go (k := ?_)
  refine XL.call [] [1] rfl rfl rfl rfl rfl (fun _ w _ _ => snew_ok 0 1 w (by decide) (by decide)) fun x _ => ?_
  obtain ⟨b4, lv4⟩ := x
  refine go (k := ?_)
  refine XL.nm ?_
  refine XL.call [0] [1] rfl rfl rfl rfl rfl (fun _ w _ ho => takes_ok b4 lv4 0 1 _ _ 0 w (by decide) (by decide) rfl ho) fun _ _ => ?_
  refine go (k := ?_)
  have c4 : ∀ u : Nat → Bool, u 0 = true → stake 0 1 u = (0, 7, u) := fun u hu => by
    have : frees 0 1 u = [] := by simp [frees, hu]
    unfold stake; rw [this]
  refine XL.call [0] [1] rfl rfl rfl rfl rfl (fun _ w _ ho => take_ok b4 lv4 0 1 _ w (by decide) (by decide) ho) fun _ _ => ?_
  rw [c4 _ rfl]
  refine go (k := ?_)
  refine XL.box rfl rfl rfl fun bz => ?_
  refine go (k := ?_)
  refine XL.q (.call rfl rfl fun _ w hs => take_not _ rfl w (NotSp.zero (hs.own.ok _ (.head _)))) rfl ?_
  refine go (k := ?_)
  refine XL.call [] [0, 2] rfl rfl rfl rfl rfl (fun _ w _ _ => sall_ok (.pointer none) rfl w) fun bx _ => ?_
  refine go (k := ?_)
  refine XC.addG0 ?_
  refine XC.rangeFunc (α := Unit) (β := Empty) (H := fun c => [.blk bz [iv 0, iv 0, .slice none 0 0] 57, .blk b0 [.bool false] 4]) (φ := fun k c => True) (Z := fun _ => []) (ψ := fun _ => False) (jmp := fun _ => .ret) () [1, 0, 2, 3]
    (fun vs => []) rfl (sall_not (.pointer none) [] bx (fun w _ => sis_nil w)) trivial rfl rfl (fun k vs h => by simp at h) rfl (fun l k vs w L' h => by simp at h) (fun l k vs x w h => by simp at h) ?_ (fun _ y => y.elim)
  intro D x hx
  refine go (k := ?_)
  refine XL.q (.call rfl rfl fun _ w _ => use_not _ 0 w (NotSp.nil w)) rfl ?_
  refine go (k := ?_)
  refine XL.q (.call rfl rfl fun _ w _ => give_not _ 0 w (NotSp.nil w)) rfl ?_
  refine go (k := ?_)
  refine XL.q (.call rfl rfl fun _ w hs => free_not _ 0 w (NotSp.zero (hs.own.ok _ (.tail _ (.tail _ (.tail _ (.head _))))))) rfl ?_
  refine go (k := ?_)
  refine XL.call [2] [0, 3, 4] rfl rfl rfl rfl rfl (fun _ w _ ho => count_not (.pointer none) rfl [] w (fun w _ => sis_nil w) ho) fun _ _ => ?_
  refine go (k := ?_)
  refine XL.q (.call rfl rfl fun _ w hs => copy_not _ w (NotSp.zero (hs.own.ok _ (.tail _ (.tail _ (.head _)))))) rfl ?_
  refine go (k := ?_)
  refine XL.q (.call rfl rfl fun _ w _ => awake_ok w) rfl ?_
  refine go (k := ?_)
  refine XE.mark (.inl rfl) (.there .here) ?_
  exact XE.retC1 () [] rfl rfl rfl rfl (.tail _ (.tail _ (.tail _ (.head _)))) rfl trivial rfl rfl rfl
end Go.X
