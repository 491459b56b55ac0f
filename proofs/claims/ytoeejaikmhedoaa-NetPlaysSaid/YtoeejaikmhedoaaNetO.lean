/- The reference of package net (revertref29): Post, Take, Cut, Ways. -/
import Derived.Test.YtoeejaikmhedoaaNetM
import Derived.Test.YtoeejaikmhedoaaNetI
namespace Go.X
open Go Go.Proofs
theorem rins_len {L : List Lt} {p : Nat} (h : p ≤ L.length) (m : Lt) : (rins L p m).length = L.length + 1 := by
  unfold rins; rw [List.length_append, List.length_append, List.length_take, List.length_drop, List.length_singleton]; omega
theorem rput_len (f t : Nat) (s : Tx) (x : Nat × List Lt) (b : Nat) : (rput f t s x b).2.length ≤ x.2.length + 1 := by
  unfold rput; split
  · exact Nat.le_succ _
  · exact Nat.le_of_eq (rins_len (rpos_le f t x.2 b) _)
theorem rput_gone (f t : Nat) (s : Tx) (x : Nat × List Lt) (b : Nat) : (rput f t s x b).1 ≤ x.1 + 1 := by
  unfold rput; split
  · exact Nat.le_refl _
  · exact Nat.le_succ _
def rpost (fa : Int) (f t : Nat) (s : Tx) (x : Nat × List Lt) : Nat × List Lt :=
  if fa = 0 then (x.1 + 1, x.2) else if fa = 1 then rput f t s x (wof x.2 f t).length else if fa = 2 then rput f t s (rput f t s x (wof x.2 f t).length) ((wof x.2 f t).length + 1)
  else if fa = 3 then rput f t s x 0 else if fa = 4 then rput f t s x ((wof x.2 f t).length - 1) else rput f t s (rput f t s x (wof x.2 f t).length) 0
theorem wof_len (L : List Lt) (f t : Nat) : (wof L f t).length ≤ L.length := by unfold wof; rw [List.length_map]; exact List.length_filter_le _ _
section
variable (br f t : Nat) (n : Int) (gone : Nat) (rv : Value) (L : List Lt) (s : Tx)
theorem rpost_none (x y fa : Int) (w : World) (h : ¬ okw n x y) (ho : Owns w (rnG br n gone rv L)) : Fx Try.prog 31 [ptr br, iv x, iv y, str s, iv fa] w (Pure w (iv 2)) := by
  have hb : w.heap[br]? = some (.cells [iv n, iv gone, rv].toArray _ (0, 0)) := ho.ok _ (.head _)
  refine Fx.of (L0 := []) Try.func31 rfl (by kernel_rfl) Try.ntmps31 rfl (Owns.nil w) ?_
  refine go (k := ?_)
  refine XL.q (.call rfl rfl fun _ w' hs => may29_ok br n _ _ _ x y w' ((hs.kept.same br (Array.getElem?_eq_some_iff.1 hb).1 (by simp [X.ids])).trans hb)) rfl ?_
  rw [decide_eq_false h]
  refine go (k := ?_)
  exact XE.ret1 () [] rfl rfl trivial rfl rfl rfl
theorem rpost_long (fa : Int) (w : World) (h : okw n f t) (hs : 4096 < s.length) (ho : Owns w (rnG br n gone rv L)) : Fx Try.prog 31 [ptr br, iv f, iv t, str s, iv fa] w (Pure w (iv 3)) := by
  have hb : w.heap[br]? = some (.cells [iv n, iv gone, rv].toArray _ (0, 0)) := ho.ok _ (.head _)
  refine Fx.of (L0 := []) Try.func31 rfl (by kernel_rfl) Try.ntmps31 rfl (Owns.nil w) ?_
  refine go (k := ?_)
  refine XL.q (.call rfl rfl fun _ w' hs => may29_ok br n _ _ _ f t w' ((hs.kept.same br (Array.getElem?_eq_some_iff.1 hb).1 (by simp [X.ids])).trans hb)) rfl ?_
  rw [decide_eq_true h]
  refine go (k := ?_)
  exact XE.ret1 () [] rfl rfl trivial rfl rfl rfl
set_option maxHeartbeats 4000000 in
theorem rpost_ok (fa : Int) (w : World) (h : okw n f t) (hs : s.length ≤ 4096) (hl : L.length ≤ 5000) (hg : gone ≤ 1000000000) (ho : Owns w (rnG br n gone rv L)) :
    Fx Try.prog 31 [ptr br, iv f, iv t, str s, iv fa] w (Ret w (rnG br n gone rv L) (fun _ : Value => iv 0) (fun rv' => rnG br n (rpost ((fa.tmod 6 + 6) % 6) f t s (gone, L)).1 rv' (rpost ((fa.tmod 6 + 6) % 6) f t s (gone, L)).2) (fun _ => True)) := by
  have ht1 : -6 < fa.tmod 6 := Int.lt_tmod_of_pos fa (by decide)
  have ht2 : fa.tmod 6 < 6 := Int.tmod_lt_of_pos fa (by decide)
  have hwl := wof_len L f t
  have hcase : (fa.tmod 6 + 6) % 6 = 0 ∨ (fa.tmod 6 + 6) % 6 = 1 ∨ (fa.tmod 6 + 6) % 6 = 2 ∨ (fa.tmod 6 + 6) % 6 = 3 ∨ (fa.tmod 6 + 6) % 6 = 4 ∨ (fa.tmod 6 + 6) % 6 = 5 := by omega
  have hsg : fa.tmod 6 < 0 ∨ 0 ≤ fa.tmod 6 := by omega
  have hL1 : ∀ x b, x = (gone, L) → (rput f t s x b).2.length ≤ 10000 ∧ (rput f t s x b).1 ≤ 2000000000 := fun x b e => by
    subst e
    have h1 := rput_len f t s (gone, L) b
    have h2 := rput_gone f t s (gone, L) b
    simp only at h1 h2; omega
  refine Fx.of Try.func31 rfl (by kernel_rfl) Try.ntmps31 rfl ho ?_
  refine go (k := ?_)
  refine XL.q (.call rfl rfl fun _ w' hs => may29_ok br n _ _ _ f t w' (hs.own.ok _ (.head _))) rfl ?_
  rw [decide_eq_true h]
  rcases hcase with hc | hc | hc | hc | hc | hc <;> rw [hc]
  · have hsg' : 0 ≤ fa.tmod 6 := by omega
    refine go (k := ?_)
    refine XL.alloc rfl rfl rfl fun b11 => ?_
    refine go (k := ?_)
    refine XL.q (.call rfl rfl fun _ w hs => rwaits_ok br n gone rv L f t w (by omega) (hs.own.pick (is := [1, 2]) (by decide))) rfl ?_
    rw [rcnt_nat]
    have g1 : [iv n, iv gone, rv][0 + 1]? = some (iv gone) := rfl
    have sp : SplL [iv n, iv gone, rv] (0 + 1) [iv ((gone : Int) + 1)] [iv n, iv ((gone + 1 : Nat) : Int), rv] := ⟨by simp, by simp⟩
    refine go (k := ?_)
    exact XE.ret1 rv [1, 2] rfl rfl trivial rfl rfl rfl
  · rcases hsg with hsg | hsg
    all_goals
      refine go (k := ?_)
      refine XL.alloc rfl rfl rfl fun b11 => ?_
      refine go (k := ?_)
      refine XL.q (.call rfl rfl fun _ w hs => rwaits_ok br n gone rv L f t w (by omega) (hs.own.pick (is := [1, 2]) (by decide))) rfl ?_
      rw [rcnt_nat]
      refine go (k := ?_)
      refine XL.call [1, 2] [0] rfl rfl rfl rfl rfl (fun _ w _ ho => rput_ok br f t n gone rv L s _ w (by omega) (by omega) (by omega) ho) fun rv1 _ => ?_
      refine XL.nm ?_
      refine go (k := ?_)
      exact XE.ret1 rv1 [0, 1] rfl rfl trivial rfl rfl rfl
  · rcases hsg with hsg | hsg
    all_goals
      refine go (k := ?_)
      refine XL.alloc rfl rfl rfl fun b11 => ?_
      refine go (k := ?_)
      refine XL.q (.call rfl rfl fun _ w hs => rwaits_ok br n gone rv L f t w (by omega) (hs.own.pick (is := [1, 2]) (by decide))) rfl ?_
      rw [rcnt_nat]
      obtain ⟨hq1, hq2⟩ := hL1 (gone, L) (wof L f t).length rfl
      refine go (k := ?_)
      refine XL.call [1, 2] [0] rfl rfl rfl rfl rfl (fun _ w _ ho => rput_ok br f t n gone rv L s _ w (by omega) (by omega) (by omega) ho) fun rv1 _ => ?_
      refine XL.nm ?_
      refine go (k := ?_)
      refine XL.call [0, 1] [2] rfl rfl rfl rfl rfl (fun _ w _ ho => rput_ok br f t n _ rv1 _ s ((wof L f t).length + 1) w hq1 (by omega) hq2 ho) fun rv2 _ => ?_
      refine XL.nm ?_
      refine go (k := ?_)
      exact XE.ret1 rv2 [0, 1] rfl rfl trivial rfl rfl rfl
  · rcases hsg with hsg | hsg
    all_goals
      refine go (k := ?_)
      refine XL.alloc rfl rfl rfl fun b11 => ?_
      refine go (k := ?_)
      refine XL.q (.call rfl rfl fun _ w hs => rwaits_ok br n gone rv L f t w (by omega) (hs.own.pick (is := [1, 2]) (by decide))) rfl ?_
      rw [rcnt_nat]
      refine go (k := ?_)
      refine XL.call [1, 2] [0] rfl rfl rfl rfl rfl (fun _ w _ ho => rput_ok br f t n gone rv L s 0 w (by omega) (by omega) (by omega) ho) fun rv1 _ => ?_
      refine XL.nm ?_
      refine go (k := ?_)
      exact XE.ret1 rv1 [0, 1] rfl rfl trivial rfl rfl rfl
  · rcases hsg with hsg | hsg
    all_goals
      refine go (k := ?_)
      refine XL.alloc rfl rfl rfl fun b11 => ?_
      refine go (k := ?_)
      refine XL.q (.call rfl rfl fun _ w hs => rwaits_ok br n gone rv L f t w (by omega) (hs.own.pick (is := [1, 2]) (by decide))) rfl ?_
      rw [rcnt_nat]
      by_cases hz : 0 < (wof L f t).length
      · have hsub : ((wof L f t).length : Int) - 1 = (((wof L f t).length - 1 : Nat) : Int) := by omega
        refine go (k := ?_)
        rw [hsub]
        refine XL.call [1, 2] [0] rfl rfl rfl rfl rfl (fun _ w _ ho => rput_ok br f t n gone rv L s _ w (by omega) (by omega) (by omega) ho) fun rv1 _ => ?_
        refine XL.nm ?_
        refine go (k := ?_)
        exact XE.ret1 rv1 [0, 1] rfl rfl trivial rfl rfl rfl
      · have hz0 : (wof L f t).length = 0 := by omega
        have e : rpost 4 f t s (gone, L) = rput f t s (gone, L) 0 := by
          show rput f t s (gone, L) ((wof L f t).length - 1) = _
          rw [hz0]
        rw [e]
        refine go (k := ?_)
        refine XL.call [1, 2] [0] rfl rfl rfl rfl rfl (fun _ w _ ho => rput_ok br f t n gone rv L s 0 w (by omega) (by omega) (by omega) ho) fun rv1 _ => ?_
        refine XL.nm ?_
        refine go (k := ?_)
        exact XE.ret1 rv1 [0, 1] rfl rfl trivial rfl rfl rfl
  · rcases hsg with hsg | hsg
    all_goals
      refine go (k := ?_)
      refine XL.alloc rfl rfl rfl fun b11 => ?_
      refine go (k := ?_)
      refine XL.q (.call rfl rfl fun _ w hs => rwaits_ok br n gone rv L f t w (by omega) (hs.own.pick (is := [1, 2]) (by decide))) rfl ?_
      rw [rcnt_nat]
      obtain ⟨hq1, hq2⟩ := hL1 (gone, L) (wof L f t).length rfl
      refine go (k := ?_)
      refine XL.call [1, 2] [0] rfl rfl rfl rfl rfl (fun _ w _ ho => rput_ok br f t n gone rv L s _ w (by omega) (by omega) (by omega) ho) fun rv1 _ => ?_
      refine XL.nm ?_
      refine go (k := ?_)
      refine XL.call [0, 1] [2] rfl rfl rfl rfl rfl (fun _ w _ ho => rput_ok br f t n _ rv1 _ s 0 w hq1 (by omega) hq2 ho) fun rv2 _ => ?_
      refine XL.nm ?_
      refine go (k := ?_)
      exact XE.ret1 rv2 [0, 1] rfl rfl trivial rfl rfl rfl
end
end Go.X
