/- NetKnown. -/
import Derived.Test.YtoeejaikmhedoaaNetK
import Derived.Test.YtoeejaikmhedoaaRep
namespace Go.X
open Go Go.Proofs Go.RowKit
theorem lost_nil (w : World) : Fx Try.prog 12 [.pointer none] w (Pure w (iv 0)) := by
  refine Fx.of (L0 := []) Try.func12 rfl (by kernel_rfl) Try.ntmps12 rfl (Owns.nil w) ?_
  refine go (k := ?_)
  exact XE.ret1 () [] rfl rfl trivial rfl rfl rfl
theorem ways_seq_nil (bx : Nat) : SeqA Try.prog 32 [] [ptr bx] (fun _ : Unit => [.blk bx [.pointer none] 23]) (fun _ _ => True) [] := by
  intro β l M Z ψ w x0 hx0 ho hy
  refine Fx.of Try.func32 rfl (by kernel_rfl) Try.ntmps32 rfl ho ?_
  refine go (k := ?_)
  exact XE.ret0 (Sum.inl ()) [0, 1] rfl trivial rfl rfl rfl
abbrev pp2 (v : Value) (l : List Tx) (v' : Value) (l' : List Tx) : List Wy := (ps0.set 1 (v, l)).set 8 (v', l')
set_option maxHeartbeats 4000000 in
theorem netKnown_ok (w : World) : Fx Try.prog 6 [] w (Pure w (.bool true)) := by
  obtain ⟨ya, hya, hla⟩ : ∃ y, Lib.repeatL [97] 4097 = y ∧ y.length = 4097 := ⟨_, rfl, by rw [Lib.repeatL_length]; rfl⟩
  obtain ⟨yb, hyb, hlb⟩ : ∃ y, Lib.repeatL [97] 4096 = y ∧ y.length = 4096 := ⟨_, rfl, by rw [Lib.repeatL_length]; rfl⟩
  have hra : ∀ w, Fx Try.prog 23 [str [97], iv 4097] w (Pure w (str ya)) := fun w => by
    have := repeat_ok [97] 4097 w (by decide) (by decide)
    rw [hya] at this; exact this
  have hrb : ∀ w, Fx Try.prog 23 [str [97], iv 4096] w (Pure w (str yb)) := fun w => by
    have := repeat_ok [97] 4096 w (by decide) (by decide)
    rw [hyb] at this; exact this
  refine Fx.of (L0 := []) Try.func6 rfl (by kernel_rfl) Try.ntmps6 rfl (Owns.nil w) ?_
  refine go (k := ?_)
  refine XL.alloc rfl rfl rfl fun b0 => ?_
  refine go (k := ?_)
  refine XL.call [] [0] rfl rfl rfl rfl rfl (fun _ w _ _ => new_ok 3 w (by decide) (by decide)) fun b _ => ?_
  refine go (k := ?_)
  refine XL.q (.call rfl rfl fun _ w _ => awake29_ok w) rfl ?_
  refine go (k := ?_)
  refine XL.call [0] [1] rfl rfl rfl rfl rfl (fun _ w _ ho => posts_ok b 0 1 3 0 0 ps0 nil0 [] [101] w (by decide) (by decide) (by decide) (by decide) (by decide) (by decide) (by decide) rfl (by decide) ho) fun v1 _ => ?_
  refine XL.nm (M := [netE b 3 1 (p1 v1 []), .blk b0 [.bool false] 4]) ?_ rfl
  refine go (k := ?_)
  refine XL.q (.call rfl rfl fun _ w hs => lost_at b 3 _ _ _ 1 w ((hs.own.grp (.head _)).ok _ (.head _))) rfl ?_
  refine go (k := ?_)
  refine XL.q (.call rfl rfl fun _ w hs => waits_ok b 0 1 3 1 _ v1 [] w (by decide) (by decide) (by decide) (by decide) rfl (hs.own.grp (.head _))) rfl ?_
  refine go (k := ?_)
  refine XL.call [0] [1] rfl rfl rfl rfl rfl (fun _ w _ ho => posts_ok b 1 0 3 2 1 _ nil0 [] [97] w (by decide) (by decide) (by decide) (by decide) (by decide) (by decide) (by decide) rfl (by decide) ho) fun v2 _ => ?_
  refine XL.nm (M := [netE b 3 1 (pp2 v1 [] v2 [[97], [97]]), .blk b0 [.bool false] 4]) ?_ rfl
  refine go (k := ?_)
  refine XL.call [0] [1] rfl rfl rfl rfl rfl (fun _ w _ ho => posts_ok b 1 0 3 5 1 _ v2 [[97], [97]] [98] w (by decide) (by decide) (by decide) (by decide) (by decide) (by decide) (by decide) rfl (by decide) ho) fun v3 _ => ?_
  refine XL.nm (M := [netE b 3 1 (pp2 v1 [] v3 [[98], [97], [97], [98]]), .blk b0 [.bool false] 4]) ?_ rfl
  refine go (k := ?_)
  refine XL.call [0] [1] rfl rfl rfl rfl rfl (fun _ w _ ho => takes_ok b 1 0 3 1 _ v3 [98] [[97], [97], [98]] w (by decide) (by decide) (by decide) (by decide) (by decide) rfl ho) fun v4 _ => ?_
  refine XL.nm (M := [netE b 3 1 (pp2 v1 [] v4 [[97], [97], [98]]), .blk b0 [.bool false] 4]) ?_ rfl
  refine go (k := ?_)
  refine XL.call [0] [1] rfl rfl rfl rfl rfl (fun _ w _ ho => takes_ok b 1 0 3 1 _ v4 [97] [[97], [98]] w (by decide) (by decide) (by decide) (by decide) (by decide) rfl ho) fun v5 _ => ?_
  refine XL.nm (M := [netE b 3 1 (pp2 v1 [] v5 [[97], [98]]), .blk b0 [.bool false] 4]) ?_ rfl
  refine go (k := ?_)
  refine XL.call [0] [1] rfl rfl rfl rfl rfl (fun _ w _ ho => takes_ok b 1 0 3 1 _ v5 [97] [[98]] w (by decide) (by decide) (by decide) (by decide) (by decide) rfl ho) fun v6 _ => ?_
  refine XL.nm (M := [netE b 3 1 (pp2 v1 [] v6 [[98]]), .blk b0 [.bool false] 4]) ?_ rfl
  refine go (k := ?_)
  refine XL.call [0] [1] rfl rfl rfl rfl rfl (fun _ w _ ho => takes_ok b 1 0 3 1 _ v6 [98] [] w (by decide) (by decide) (by decide) (by decide) (by decide) rfl ho) fun v7 _ => ?_
  refine XL.nm (M := [netE b 3 1 (pp2 v1 [] v7 []), .blk b0 [.bool false] 4]) ?_ rfl
  refine go (k := ?_)
  refine XL.call [0] [1] rfl rfl rfl rfl rfl (fun _ w _ ho => take_ok b 1 0 3 1 _ v7 [] w (by decide) (by decide) (by decide) (by decide) (by decide) rfl ho) fun v8 _ => ?_
  refine XL.nm (M := [netE b 3 1 (pp2 v1 [] v8 []), .blk b0 [.bool false] 4]) ?_ rfl
  refine go (k := ?_)
  refine XL.call [] [0, 1] rfl rfl rfl rfl rfl (fun _ w _ _ => new_ok 2 w (by decide) (by decide)) fun c _ => ?_
  refine XL.nm (M := [netE c 2 0 ps0, netE b 3 1 (pp2 v1 [] v8 []), .blk b0 [.bool false] 4]) ?_ rfl
  refine go (k := ?_)
  refine XL.q (.call rfl rfl fun _ w hs => post_none 0 0 1 [97] w (ptr b) 2 (by decide) fun w' hk => at_bad' b 3 1 (pp2 v1 [] v8 []) 0 0 (by decide) (by unfold okw; decide) w (hs.own.grp (.tail _ (.head _))) w' hk) rfl ?_
  refine go (k := ?_)
  refine XL.q (.call rfl rfl fun _ w hs => post_none 0 3 1 [97] w (ptr b) 2 (by decide) fun w' hk => at_bad' b 3 1 (pp2 v1 [] v8 []) 0 3 (by decide) (by unfold okw; decide) w (hs.own.grp (.tail _ (.head _))) w' hk) rfl ?_
  refine go (k := ?_)
  refine XL.q (.call rfl rfl fun _ w hs => post_none (-1) 0 1 [97] w (ptr b) 2 (by decide) fun w' hk => at_bad' b 3 1 (pp2 v1 [] v8 []) (-1) 0 (by decide) (by unfold okw; decide) w (hs.own.grp (.tail _ (.head _))) w' hk) rfl ?_
  refine go (k := ?_)
  refine XL.q (.call rfl rfl fun _ w hs => hra w) rfl ?_
  refine go (k := ?_)
  refine XL.q (.call rfl rfl fun _ w hs => post_long b 0 1 3 1 _ _ _ ya w (by decide) (by decide) (by decide) (by decide) (by omega) ((hs.own.grp (.tail _ (.head _))).ok _ (.head _))) rfl ?_
  refine go (k := ?_)
  refine XL.q (.call rfl rfl fun _ w hs => hrb w) rfl ?_
  refine go (k := ?_)
  refine XL.call [1] [0, 2] rfl rfl rfl rfl rfl (fun _ w _ ho => posts_ok b 0 1 3 1 1 _ v1 [] yb w (by decide) (by decide) (by decide) (by decide) (by omega) (by decide) (by decide) rfl (by decide) ho) fun v9 _ => ?_
  refine XL.nm (M := [netE b 3 1 (pp2 v9 [yb] v8 []), netE c 2 0 ps0, .blk b0 [.bool false] 4]) ?_ rfl
  refine go (k := ?_)
  refine XL.q (.call rfl rfl fun _ w hs => new_none 1 w (by decide)) rfl ?_
  refine go (k := ?_)
  refine XL.q (.call rfl rfl fun _ w hs => new_none 9 w (by decide)) rfl ?_
  refine go (k := ?_)
  refine XL.call [] [0, 1, 2] rfl rfl rfl rfl rfl (fun _ w _ _ => new_ok 8 w (by decide) (by decide)) fun d _ => ?_
  refine go (k := ?_)
  refine XL.call [2] [0, 1, 3] rfl rfl rfl rfl rfl (fun _ w _ ho => posts_ok c 0 1 2 1 0 _ nil0 [] [97] w (by decide) (by decide) (by decide) (by decide) (by decide) (by decide) (by decide) rfl (by decide) ho) fun u1 _ => ?_
  refine XL.nm (M := [netE c 2 0 (p1 u1 [[97]]), netE d 8 0 ps0, netE b 3 1 (pp2 v9 [yb] v8 []), .blk b0 [.bool false] 4]) ?_ rfl
  refine go (k := ?_)
  refine XL.call [0] [1, 2, 3] rfl rfl rfl rfl rfl (fun _ w _ ho => posts_ok c 0 1 2 (-5) 0 _ u1 [[97]] [98] w (by decide) (by decide) (by decide) (by decide) (by decide) (by decide) (by decide) rfl (by decide) ho) fun u2 _ => ?_
  refine XL.nm (M := [netE c 2 0 (p1 u2 [[97], [98]]), netE d 8 0 ps0, netE b 3 1 (pp2 v9 [yb] v8 []), .blk b0 [.bool false] 4]) ?_ rfl
  refine go (k := ?_)
  refine XL.call [0] [1, 2, 3] rfl rfl rfl rfl rfl (fun _ w _ ho => posts_ok c 1 0 2 1 0 _ nil0 [] [99] w (by decide) (by decide) (by decide) (by decide) (by decide) (by decide) (by decide) rfl (by decide) ho) fun u3 _ => ?_
  refine XL.nm (M := [netE c 2 0 (pp2 u2 [[97], [98]] u3 [[99]]), netE d 8 0 ps0, netE b 3 1 (pp2 v9 [yb] v8 []), .blk b0 [.bool false] 4]) ?_ rfl
  refine go (k := ?_)
  refine XL.q (.call rfl rfl fun _ w hs => cut_bad c 2 _ _ _ 2 w (by decide) (by decide) ((hs.own.grp (.head _)).ok _ (.head _))) rfl ?_
  refine go (k := ?_)
  have hnw : NW (pp2 u2 [[97], [98]] u3 [[99]]) := (NW.zero.set (f := 0) (t := 1) (by decide) (by decide) (by decide) u2 (xs := [[97], [98]]) (by decide)).set (f := 1) (t := 0) (by decide) (by decide) (by decide) u3 (xs := [[99]]) (by decide)
  refine XL.call [0] [1, 2, 3] rfl rfl rfl rfl rfl (fun _ w _ ho => cut_ok c 2 1 0 (pp2 u2 [[97], [98]] u3 [[99]]) w (by decide) (by decide) (by decide) (by decide) hnw ho) fun _ _ => ?_
  refine XL.nm (M := [netE c 2 2 (pp2 nil0 [] u3 [[99]]), netE d 8 0 ps0, netE b 3 1 (pp2 v9 [yb] v8 []), .blk b0 [.bool false] 4]) ?_ rfl
  refine go (k := ?_)
  refine XL.q (.call rfl rfl fun _ w hs => waits_ok c 0 1 2 2 _ nil0 [] w (by decide) (by decide) (by decide) (by decide) rfl (hs.own.grp (.head _))) rfl ?_
  refine go (k := ?_)
  refine XL.q (.call rfl rfl fun _ w hs => waits_ok c 1 0 2 2 _ u3 [[99]] w (by decide) (by decide) (by decide) (by decide) rfl (hs.own.grp (.head _))) rfl ?_
  refine go (k := ?_)
  refine XL.q (.call rfl rfl fun _ w hs => lost_at c 2 _ _ _ 2 w ((hs.own.grp (.head _)).ok _ (.head _))) rfl ?_
  refine go (k := ?_)
  refine XL.box (zs := netCs 0 0 ps0) rfl rfl rfl fun z => ?_
  refine go (k := ?_)
  refine XL.q (.call rfl rfl fun _ w hs => take_none 0 1 w (ptr z) 1 (by decide) fun w' hk => at_zero z 0 _ _ _ 0 1 w' rfl ((hk.same z (Array.getElem?_eq_some_iff.1 (hs.own.ok _ (.head _))).1 (by simp [X.ids])).trans (hs.own.ok _ (.head _)))) rfl ?_
  refine go (k := ?_)
  refine XL.call [] [0, 1, 2, 3, 4] rfl rfl rfl rfl rfl (fun _ w _ _ => ways_ok (.pointer none) rfl w) fun bx _ => ?_
  refine XL.nm (M := [.blk bx [.pointer none] 23, .blk z (netCs 0 0 ps0) 60, netE c 2 2 (pp2 nil0 [] u3 [[99]]), netE d 8 0 ps0, netE b 3 1 (pp2 v9 [yb] v8 []), .blk b0 [.bool false] 4]) ?_ rfl
  refine go (k := ?_)
  refine XC.rangeFuncA (α := Unit) (β := Empty) (Lc := fun _ => [.blk bx [.pointer none] 23]) (H := fun _ => [.blk z (netCs 0 0 ps0) 60, .blk b0 [.bool false] 4]) (φ := fun _ _ => True)
    (Z := fun _ => []) (ψ := fun _ => False) (jmp := fun _ => .ret) (xs := []) () [0, 1, 5]
    (fun _ => [(0, .pointer (some ⟨b0, 0, none⟩)), (5, .pointer none), (6, ptr z), (8, iv 1)]) rfl (ways_seq_nil bx) trivial rfl rfl ?_ rfl ?_ ?_ ?_ (fun _ y => y.elim)
  · intro k vs h; simp at h
  · intro l k vs w L' h; simp at h
  · intro l k vs x w h; simp at h
  intro D _ _
  refine go (k := ?_)
  refine XL.q (.call rfl rfl fun _ w _ => post_none 0 1 1 [97] w (.pointer none) 1 (by decide) fun w' _ => at_nil 0 1 w') rfl ?_
  refine go (k := ?_)
  refine XL.q (.call rfl rfl fun _ w _ => cut_nil 0 w) rfl ?_
  refine go (k := ?_)
  refine XL.q (.call rfl rfl fun _ w _ => lost_nil w) rfl ?_
  refine go (k := ?_)
  refine XL.q (.call rfl rfl fun _ w hs => waits_none 0 1 w (ptr z) 1 (by decide) fun w' hk => at_zero z 0 _ _ _ 0 1 w' rfl ((hk.same z (Array.getElem?_eq_some_iff.1 (hs.own.ok _ (.tail _ (.tail _ (.head _))))).1 (by simp [X.ids])).trans (hs.own.ok _ (.tail _ (.tail _ (.head _)))))) rfl ?_
  refine go (k := ?_)
  refine XL.q (.call rfl rfl fun _ w _ => awake29_ok w) rfl ?_
  refine go (k := ?_)
  refine XE.mark (.inl rfl) .here ?_
  exact XE.retC1 () [] rfl rfl rfl rfl (.tail _ (.tail _ (.tail _ (.head _)))) rfl trivial rfl rfl rfl
end Go.X
