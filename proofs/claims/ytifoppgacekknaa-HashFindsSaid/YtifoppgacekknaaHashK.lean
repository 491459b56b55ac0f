/- HashKnown: indexes that are none; the chapter's examples. -/
import Derived.Test.YtifoppgacekknaaHashJ
import Derived.Test.YtifoppgacekknaaMore2
namespace Go.X
open Go Go.Proofs
/-- no index: New did not make it -/
def NotIx (x : Value) (w : World) : Prop := ∀ w', Kept [] w w' → Fx Try.prog 26 [x] w' (Pure w' (.bool false))
theorem NotIx.nil (w : World) : NotIx (.pointer none) w := fun w' _ => is_nil w'
theorem NotIx.zero {b : Nat} {cs : List Value} {t : TypeId} {fz : Nat × Nat} {w : World} (hb : w.heap[b]? = some (.cells (Value.bool false :: cs).toArray t fz)) : NotIx (ptr b) w := fun w' k =>
  is_ok b false cs t fz w' ((k.same b (Array.getElem?_eq_some_iff.1 hb).1 (by simp)).trans hb)
theorem add_not (x : Value) (s : List UInt8) (id : Int) (w : World) (h : NotIx x w) : Fx Try.prog 17 [x, str s, uv id] w (Pure w (.int .i64 1)) := by
  refine Fx.of (L0 := []) Try.func17 rfl (by kernel_rfl) Try.ntmps17 rfl (Owns.nil w) ?_
  refine go (k := ?_)
  refine XL.q (.call rfl rfl fun _ w' hs => h w' hs.kept) rfl ?_
  refine go (k := ?_)
  exact XE.ret1 () [] rfl rfl trivial rfl rfl rfl
theorem drop_not (x : Value) (s : List UInt8) (id : Int) (w : World) (h : NotIx x w) : Fx Try.prog 19 [x, str s, uv id] w (Pure w (.int .i64 1)) := by
  refine Fx.of (L0 := []) Try.func19 rfl (by kernel_rfl) Try.ntmps19 rfl (Owns.nil w) ?_
  refine go (k := ?_)
  refine XL.q (.call rfl rfl fun _ w' hs => h w' hs.kept) rfl ?_
  refine go (k := ?_)
  exact XE.ret1 () [] rfl rfl trivial rfl rfl rfl
theorem find_not (x : Value) (s : List UInt8) (w : World) (h : NotIx x w) : Fx Try.prog 23 [x, str s] w (Pure w (.slice none 0 0)) := by
  refine Fx.of (L0 := []) Try.func23 rfl (by kernel_rfl) Try.ntmps23 rfl (Owns.nil w) ?_
  refine go (k := ?_)
  refine XL.q (.call rfl rfl fun _ w' hs => h w' hs.kept) rfl ?_
  refine go (k := ?_)
  exact XE.ret1 () [] rfl rfl trivial rfl rfl rfl
theorem finds_not (x : Value) (s : List UInt8) (w : World) (h : NotIx x w) : Fx Try.prog 18 [x, str s, .slice none 0 0] w (Pure w (.bool true)) := by
  refine Fx.of (L0 := []) Try.func18 rfl (by kernel_rfl) Try.ntmps18 rfl (Owns.nil w) ?_
  refine go (k := ?_)
  refine XL.q (.call rfl rfl fun _ w' hs => find_not x s w' fun w'' k => h w'' (hs.kept.trans k (fun _ h => by cases h))) rfl ?_
  refine go (k := ?_)
  refine XC.loop (α := Unit) (fun _ => [(7, .slice none 0 0), (8, .int .i64 0)]) (fun _ => []) (fun _ => True) (fun _ => 0) () [] trivial ⟨rfl, rfl, trivial⟩ rfl rfl ?_
  intro _ _
  refine go (k := ?_)
  exact XE.ret1 () [] rfl rfl trivial rfl rfl rfl
theorem all_not (x : Value) (G : Heap) (bx : Nat) (hG : ∀ w, Owns w G → Fx Try.prog 26 [x] w (Pure w (.bool false))) : Seq Try.prog 25 [] [ptr bx] [.blk bx [x] 28, grp G] [] := by
  intro α β l M φ Z ψ w x0 hx0 ho hy
  refine Fx.of Try.func25 rfl (by kernel_rfl) Try.ntmps25 rfl ho ?_
  refine go (k := ?_)
  refine XL.q (.call rfl rfl fun _ w hs => hG w (hs.own.grp (.tail _ (.head _)))) rfl ?_
  refine go (k := ?_)
  exact XE.ret0 (Sum.inl x0) [0, 1, 2] rfl hx0 rfl rfl rfl
theorem len_not (x : Value) (hx : x.cells.toList = [x]) (G : Heap) (w : World) (hG : ∀ w, Owns w G → Fx Try.prog 26 [x] w (Pure w (.bool false))) (ho : Owns w [grp G]) :
    Fx Try.prog 13 [x] w (Ret w [grp G] (fun _ : Unit => .int .i64 0) (fun _ => [grp G]) (fun _ => True)) := by
  refine Fx.of Try.func13 rfl (by kernel_rfl) Try.ntmps13 rfl ho ?_
  refine go (k := ?_)
  refine XL.alloc rfl rfl rfl fun bn => ?_
  refine go (k := ?_)
  refine XL.call [] [0, 1] rfl rfl rfl rfl rfl (fun _ w _ _ => all_ok x hx w) fun bx _ => ?_
  refine go (k := ?_)
  refine XC.rangeFunc (α := Unit) (β := Empty) (H := fun c => [.blk bn [.int .i64 0] 3]) (φ := fun k c => True) (Z := fun _ => []) (ψ := fun _ => False) (jmp := fun _ => .ret) () [0, 2, 1]
    (fun vs => zipE [6, 7] vs [(3, ptr bn)]) rfl (all_not x G bx hG) trivial rfl rfl (fun k vs h => by simp at h) rfl (fun l k vs w L' h => by simp at h) (fun l k vs x w h => by simp at h) ?_ (fun _ y => y.elim)
  intro D x hx
  refine go (k := ?_)
  refine XE.mark (.inl rfl) .here ?_
  exact XE.ret1 () [2] rfl rfl trivial rfl rfl rfl
theorem hashKnown_ok (w : World) : Fx Try.prog 5 [] w (Pure w (.bool true)) := by
  refine Fx.of (L0 := []) Try.func5 rfl (by kernel_rfl) Try.ntmps5 rfl (Owns.nil w) ?_
  have c1 : bucket [] = 0 := by decide
  have c2 : bucket [98] = 3 := by decide
  have c3 : bucket [98, 97] = 7 := by decide
  have b2 : bucket [97] = 2 := by decide
  have b3 : bucket [113] = 2 := by decide
  refine go (k := ?_)
  refine XL.alloc rfl rfl rfl fun b0 => ?_
  refine go (k := ?_)
  refine XL.call [] [0] rfl rfl rfl rfl rfl (fun _ w _ _ => new_ok w) fun b _ => ?_
  refine go (k := ?_)
  refine XL.q (.call rfl rfl fun _ w _ => hbucket_ok [] (by decide) w) rfl ?_
  rw [c1]
  refine go (k := ?_)
  refine XL.q (.call rfl rfl fun _ w _ => hbucket_ok [98] (by decide) w) rfl ?_
  rw [c2]
  refine go (k := ?_)
  refine XL.q (.call rfl rfl fun _ w _ => hbucket_ok [98, 97] (by decide) w) rfl ?_
  rw [c3]
  refine go (k := ?_)
  refine XL.call [0] [1] rfl rfl rfl rfl rfl (fun _ w _ ho => add_new b ps0 [97] 5 (.slice none 0 0) [] w (by decide) (by rw [b2]; rfl) (by decide) (by simp) ho) fun v1 _ => ?_
  rw [b2]
  refine go (k := ?_)
  refine XL.call [0] [1] rfl rfl rfl rfl rfl (fun _ w _ ho => add_there b (ps0.set 2 (v1, [5])) [97] 5 v1 [5] w (by decide) (by rw [b2]; rfl) (by decide) (by simp) ho) fun _ _ => ?_
  refine go (k := ?_)
  refine XL.call [0] [1] rfl rfl rfl rfl rfl (fun _ w _ ho => add_new b (ps0.set 2 (v1, [5])) [113] 6 v1 [5] w (by decide) (by rw [b3]; rfl) (by decide) (by simp) ho) fun v2 _ => ?_
  rw [b3]
  refine go (k := ?_)
  refine XL.make (.bslice rfl rfl rfl rfl rfl rfl) rfl fun v H hv => ?_
  obtain ⟨bw, rfl, rfl⟩ := hv
  refine go (k := ?_)
  refine XL.call [1, 0] [2] rfl rfl rfl rfl rfl (fun _ w _ ho => finds_ok b _ [97] v2 [5, 6] [5, 6] _ _ w (by decide) (by rw [b2]; rfl) (by decide) (fun _ _ => .blk (.head _) rfl (Nat.le_refl _) rfl) ho) fun _ _ => ?_
  refine go (k := ?_)
  refine XL.call [0, 2] [] rfl rfl rfl rfl rfl (fun _ w _ ho => finds_ok b _ [98] (.slice none 0 0) [] [] _ _ w (by decide) (by rw [c2]; rfl) (by decide) (fun _ _ => Rd.nil) ho) fun _ _ => ?_
  refine go (k := ?_)
  refine XL.call [0] [1] rfl rfl rfl rfl rfl (fun _ w _ ho => drop_there b _ [97] 5 v2 [5, 6] 0 w (by decide) (by rw [b2]; rfl) (by decide) (by decide) ho) fun v3 _ => ?_
  rw [b2]
  refine go (k := ?_)
  refine XL.call [0] [1] rfl rfl rfl rfl rfl (fun _ w _ ho => drop_none b _ [97] 5 v3 [6] w (by decide) (by rw [b2]; rfl) (by decide) (by decide) ho) fun _ _ => ?_
  refine go (k := ?_)
  refine XL.make (.bslice rfl rfl rfl rfl rfl rfl) rfl fun v H hv => ?_
  obtain ⟨bw, rfl, rfl⟩ := hv
  refine go (k := ?_)
  refine XL.call [1, 0] [2] rfl rfl rfl rfl rfl (fun _ w _ ho => finds_ok b _ [113] v3 [6] [6] _ _ w (by decide) (by rw [b3]; rfl) (by decide) (fun _ _ => .blk (.head _) rfl (Nat.le_refl _) rfl) ho) fun _ _ => ?_
  refine go (k := ?_)
  have e3 : (itemsFrom (((ps0.set 2 (v1, [5])).set 2 (v2, [5] ++ [6])).set 2 (v3, [5, 6].eraseIdx 0)) 0).length = 1 := rfl
  refine XL.call [0] [2] rfl rfl rfl rfl rfl (fun _ w _ ho => len_ok b _ w rfl (all_set (all_set (all_set all_ps0 (by simp)) (by simp)) (by simp)) (by rw [e3]; decide) ho) fun _ _ => ?_
  rw [e3]
  refine go (k := ?_)
  refine XL.call [0] [1] rfl rfl rfl rfl rfl (fun _ w _ ho => drop_none b _ [98] 6 (.slice none 0 0) [] w (by decide) (by rw [c2]; rfl) (by decide) (by decide) ho) fun _ _ => ?_
  refine go (k := ?_)
  refine XL.box rfl rfl rfl fun bz => ?_
  refine go (k := ?_)
  refine XL.call [] [0, 2] rfl rfl rfl rfl rfl (fun _ w _ _ => all_ok (.pointer none) rfl w) fun bx _ => ?_
  refine go (k := ?_)
  refine XC.addG0 ?_
  refine XC.rangeFunc (α := Unit) (β := Empty) (H := fun c => [.blk bz (.bool false :: List.replicate 16 (.slice none 0 0)) 50, .blk b0 [.bool false] 4]) (φ := fun k c => True) (Z := fun _ => []) (ψ := fun _ => False) (jmp := fun _ => .ret) () [1, 0, 2, 3]
    (fun vs => []) rfl (all_not (.pointer none) [] bx (fun w _ => is_nil w)) trivial rfl rfl (fun k vs h => by simp at h) rfl (fun l k vs w L' h => by simp at h) (fun l k vs x w h => by simp at h) ?_ (fun _ y => y.elim)
  intro D x hx
  refine go (k := ?_)
  refine XL.q (.call rfl rfl fun _ w _ => add_not _ [97] 1 w (NotIx.nil w)) rfl ?_
  refine go (k := ?_)
  refine XL.q (.call rfl rfl fun _ w hs => add_not _ [97] 1 w (NotIx.zero (hs.own.ok _ (.tail _ (.tail _ (.tail _ (.head _))))))) rfl ?_
  refine go (k := ?_)
  refine XL.q (.call rfl rfl fun _ w _ => drop_not _ [97] 1 w (NotIx.nil w)) rfl ?_
  refine go (k := ?_)
  refine XL.q (.call rfl rfl fun _ w hs => finds_not _ [97] w (NotIx.zero (hs.own.ok _ (.tail _ (.tail _ (.tail _ (.head _))))))) rfl ?_
  refine go (k := ?_)
  refine XL.call [2] [0, 3, 4] rfl rfl rfl rfl rfl (fun _ w _ ho => len_not (.pointer none) rfl [] w (fun w _ => is_nil w) ho) fun _ _ => ?_
  refine go (k := ?_)
  refine XL.pk (M := [.blk bz (.bool false :: List.replicate 16 (.slice none 0 0)) 50, .obj D (.deferred (some [])), .blk b0 [.bool false] 4]) [2, 1, 3] rfl rfl ?_
  refine XL.shutG (G := [.blk bz (.bool false :: List.replicate 16 (.slice none 0 0)) 50]) ?_
  refine XL.call [0] [1, 2] rfl rfl rfl rfl rfl (fun _ w _ ho => len_not (ptr bz) rfl _ w (fun w ho => is_ok bz false _ _ _ w (ho.ok _ (.head _))) ho) fun _ _ => ?_
  refine go (k := ?_)
  refine XL.q (.call rfl rfl fun _ w _ => awake3_ok w) rfl ?_
  refine go (k := ?_)
  refine XE.mark (.inl rfl) (.there .here) ?_
  exact XE.retC1 () [] rfl rfl rfl rfl (.tail _ (.tail _ (.head _))) rfl trivial rfl rfl rfl
end Go.X
