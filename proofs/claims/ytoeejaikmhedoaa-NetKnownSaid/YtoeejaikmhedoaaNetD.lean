/- The laws' own helpers of revertlaw29: posts, takes, awake. -/
import Derived.Test.YtoeejaikmhedoaaNetC
import Derived.Test.YtoeejaikmhedoaaRows2
namespace Go.X
open Go Go.Proofs Go.RowKit
theorem posts_ok (b f g : Nat) (n fa : Int) (lost : Nat) (ps : List Wy) (v : Value) (xs : List Tx) (s : Tx) (w : World) (hf : (f : Int) < n) (hg : (g : Int) < n) (hne : f ≠ g) (hn : n ≤ 8) (hs : s.length ≤ 4096) (hl : xs.length ≤ 64) (hlo : lost ≤ 1000000000)
    (hp : ps[f * 8 + g]? = some (v, xs)) (hw : -9223372036854775808 ≤ fa ∧ fa ≤ 9223372036854775807) (ho : Owns w [netE b n lost ps]) :
    Fx Try.prog 9 [ptr b, iv f, iv g, str s, iv fa] w (Ret w [netE b n lost ps] (fun _ : Value => .bool true) (fun v' => [netE b n (wpost ((fa.tmod 6 + 6) % 6) s (lost, xs)).1 (ps.set (f * 8 + g) (v', (wpost ((fa.tmod 6 + 6) % 6) s (lost, xs)).2))]) (fun _ => True)) := by
  refine Fx.of Try.func9 rfl (by kernel_rfl) Try.ntmps9 rfl ho ?_
  refine go (k := ?_)
  refine XL.call [0] [] rfl rfl rfl rfl rfl (fun _ w _ ho => post_ok b f g n fa lost ps v xs s w hf hg hne hn hs hl hlo hp hw ho) fun v' _ => ?_
  refine go (k := ?_)
  exact XE.ret1 v' [0] rfl rfl trivial rfl rfl rfl
theorem takes_ok (b f g : Nat) (n : Int) (lost : Nat) (ps : List Wy) (v : Value) (x : Tx) (xs : List Tx) (w : World) (hf : (f : Int) < n) (hg : (g : Int) < n) (hne : f ≠ g) (hn : n ≤ 8) (hl : (x :: xs).length ≤ 64)
    (hp : ps[f * 8 + g]? = some (v, x :: xs)) (ho : Owns w [netE b n lost ps]) :
    Fx Try.prog 10 [ptr b, iv f, iv g, str x] w (Ret w [netE b n lost ps] (fun _ : Value => .bool true) (fun v' => [netE b n lost (ps.set (f * 8 + g) (v', xs))]) (fun _ => True)) := by
  refine Fx.of Try.func10 rfl (by kernel_rfl) Try.ntmps10 rfl ho ?_
  refine go (k := ?_)
  refine XL.call [0] [] rfl rfl rfl rfl rfl (fun _ w _ ho => take_ok b f g n lost ps v (x :: xs) w hf hg hne hn hl hp ho) fun v' _ => ?_
  rw [if_neg (List.cons_ne_nil x xs), List.headD_cons]
  refine go (k := ?_)
  refine XE.ret1 v' [0] rfl rfl trivial ?_ rfl rfl
  simp
abbrev p1 (v : Value) (l : List Tx) : List Wy := ps0.set 1 (v, l)
set_option maxHeartbeats 2000000 in
theorem awake29_ok (w : World) : Fx Try.prog 8 [] w (Pure w (.bool true)) := by
  refine Fx.of (L0 := []) Try.func8 rfl (by kernel_rfl) Try.ntmps8 rfl (Owns.nil w) ?_
  refine go (k := ?_)
  refine XL.call [] [] rfl rfl rfl rfl rfl (fun _ w _ _ => new_ok 3 w (by decide) (by decide)) fun b _ => ?_
  refine go (k := ?_)
  refine XL.call [0] [] rfl rfl rfl rfl rfl (fun _ w _ ho => posts_ok b 0 1 3 1 0 ps0 nil0 [] [97] w (by decide) (by decide) (by decide) (by decide) (by decide) (by decide) (by decide) rfl (by decide) ho) fun v1 _ => ?_
  refine XL.nm (M := [netE b 3 0 (p1 v1 [[97]])]) ?_ rfl
  refine go (k := ?_)
  refine XL.call [0] [] rfl rfl rfl rfl rfl (fun _ w _ ho => posts_ok b 0 1 3 1 0 _ v1 [[97]] [98] w (by decide) (by decide) (by decide) (by decide) (by decide) (by decide) (by decide) rfl (by decide) ho) fun v2 _ => ?_
  refine XL.nm (M := [netE b 3 0 (p1 v2 [[97], [98]])]) ?_ rfl
  refine go (k := ?_)
  refine XL.call [0] [] rfl rfl rfl rfl rfl (fun _ w _ ho => posts_ok b 0 1 3 4 0 _ v2 [[97], [98]] [99] w (by decide) (by decide) (by decide) (by decide) (by decide) (by decide) (by decide) rfl (by decide) ho) fun v3 _ => ?_
  refine XL.nm (M := [netE b 3 0 (p1 v3 [[97], [99], [98]])]) ?_ rfl
  refine go (k := ?_)
  refine XL.call [0] [] rfl rfl rfl rfl rfl (fun _ w _ ho => posts_ok b 0 1 3 3 0 _ v3 [[97], [99], [98]] [100] w (by decide) (by decide) (by decide) (by decide) (by decide) (by decide) (by decide) rfl (by decide) ho) fun v4 _ => ?_
  refine XL.nm (M := [netE b 3 0 (p1 v4 [[100], [97], [99], [98]])]) ?_ rfl
  refine go (k := ?_)
  refine XL.q (.call rfl rfl fun _ w hs => waits_ok b 0 1 3 0 _ v4 [[100], [97], [99], [98]] w (by decide) (by decide) (by decide) (by decide) rfl (hs.own.grp (.head _))) rfl ?_
  refine go (k := ?_)
  refine XL.call [0] [] rfl rfl rfl rfl rfl (fun _ w _ ho => takes_ok b 0 1 3 0 _ v4 [100] [[97], [99], [98]] w (by decide) (by decide) (by decide) (by decide) (by decide) rfl ho) fun v5 _ => ?_
  refine XL.nm (M := [netE b 3 0 (p1 v5 [[97], [99], [98]])]) ?_ rfl
  refine go (k := ?_)
  refine XL.call [0] [] rfl rfl rfl rfl rfl (fun _ w _ ho => takes_ok b 0 1 3 0 _ v5 [97] [[99], [98]] w (by decide) (by decide) (by decide) (by decide) (by decide) rfl ho) fun v6 _ => ?_
  refine XL.nm (M := [netE b 3 0 (p1 v6 [[99], [98]])]) ?_ rfl
  refine go (k := ?_)
  refine XL.call [0] [] rfl rfl rfl rfl rfl (fun _ w _ ho => takes_ok b 0 1 3 0 _ v6 [99] [[98]] w (by decide) (by decide) (by decide) (by decide) (by decide) rfl ho) fun v7 _ => ?_
  refine XL.nm (M := [netE b 3 0 (p1 v7 [[98]])]) ?_ rfl
  refine go (k := ?_)
  refine XL.call [0] [] rfl rfl rfl rfl rfl (fun _ w _ ho => takes_ok b 0 1 3 0 _ v7 [98] [] w (by decide) (by decide) (by decide) (by decide) (by decide) rfl ho) fun v8 _ => ?_
  refine go (k := ?_)
  exact XE.ret1 () [] rfl rfl trivial rfl rfl rfl
theorem texts_of {H : Type} {enc : TypeId × Value → H} {w : World} {spare : Nat → Bool} {held : Bool} {v : Value} (h : KOk enc Try.prog w 0 spare held (.sl 9) v) :
    ∃ l : List Tx, RowAt w v 1 l.length (strs l) ∧ l.length ≤ maxLen ∧ ∀ s ∈ l, s.length ≤ maxLen := by
  obtain ⟨l, h1, h2, h3⟩ := rows_of (k := 1) (fun s : Tx => [str s]) (Q := fun s => s.length ≤ maxLen) (by decide) (by kernel_rfl) (fun cs fuel x hl h => by
    obtain ⟨c0, rfl⟩ := len1 hl
    have hf := flat_ok 1 (l := [(0, .str)]) (by kernel_rfl) h
    obtain ⟨_, e0, s0, rfl, b0⟩ := hf (0, .str) (.head _)
    obtain rfl := Option.some.inj e0
    exact ⟨s0.data.toList, rfl, b0⟩) h
  refine ⟨l, ?_, h2, h3⟩
  have e : l.flatMap (fun s : Tx => [str s]) = strs l := by
    clear h1 h2 h3
    induction l with
    | nil => rfl
    | cons a l ih => rw [List.flatMap_cons, ih]; rfl
  rw [← e]; exact h1
end Go.X
