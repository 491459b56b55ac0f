/- NetPlays: one; the walk. -/
import Derived.Test.YtoeejaikmhedoaaNetS
import Derived.Test.YtoeejaikmhedoaaNetK
namespace Go.X
open Go Go.Proofs Go.RowKit
theorem may29_yes (n : Int) (w : World) : Fx Try.prog 18 [iv n] w (Pure w (.bool (decide (2 ≤ n ∧ n ≤ 8)))) := by
  refine Fx.of (L0 := []) Try.func18 rfl (by kernel_rfl) Try.ntmps18 rfl (Owns.nil w) ?_
  by_cases h : 2 ≤ n
  · refine go (k := ?_)
    refine XE.ret1 () [] rfl rfl trivial ?_ rfl rfl
    simp [h]
  · refine go (k := ?_)
    refine XE.ret1 () [] rfl rfl trivial ?_ rfl rfl
    simp [h]; try omega
structure NPs where
  lost : Nat
  ps : List Wy
  rv : Value
  L : List Lt
abbrev npG (b br n : Nat) (x : NPs) : Heap := netE b n x.lost x.ps :: rnG br n x.lost x.rv x.L
theorem rn_at {br n gone : Nat} {rv : Value} {L : List Lt} {w : World} (ho : Owns w (rnG br n gone rv L)) : w.heap[br]? = some (.cells [iv n, iv gone, rv].toArray 46 (0, 0)) := ho.ok _ (.head _)
set_option maxHeartbeats 4000000 in
theorem none_ok (b br n : Nat) (x : NPs) (a : NAct) (w : World) (hR : RN n x.ps x.L) (hn0 : 0 < n) (hn : n ≤ 8) (hl : x.L.length ≤ 1000) (hlo : x.lost ≤ 100000000) (ha : NActOk a) (hs : a.s.length ≤ 5000) (ho : Owns w (npG b br n x)) :
    Fx Try.prog 19 [ptr b, ptr br, .agg (nacell a).toArray] w (Ret w (npG b br n x) (fun _ : NPs => .bool true) (fun y => npG b br n y) (fun y => RN n y.ps y.L ∧ y.lost ≤ x.lost + 5000 ∧ y.L.length ≤ x.L.length + 2)) := by
  obtain ⟨lost, ps, rv, L⟩ := x
  simp only at hR hl hlo ho ⊢
  have haw := ha.what
  have haf := ha.frm
  have hat := ha.to
  have hafa := ha.fate
  refine Fx.of Try.func19 rfl (by kernel_rfl) Try.ntmps19 rfl ho ?_
  refine go (k := ?_)
  refine XL.box (zs := nacell a) rfl rfl rfl fun ba => ?_
  have c0 : (nacell a)[0 + 0]? = some (.int .u8 a.what) := rfl
  have c1 : (nacell a)[0 + 1]? = some (iv a.frm) := rfl
  have c2 : (nacell a)[0 + 2]? = some (iv a.to) := rfl
  have c3 : (nacell a)[0 + 3]? = some (str a.s) := rfl
  have c4 : (nacell a)[0 + 4]? = some (iv a.fate) := rfl
  by_cases w5 : a.what % 6 = 5
  · by_cases hr : 0 ≤ a.to ∧ a.to < n
    · obtain ⟨r, hre⟩ : ∃ r : Nat, a.to = r := ⟨a.to.toNat, by omega⟩
      obtain ⟨hR', hlo'⟩ := hR.cut hn (r := r) (by omega) lost
      have hrc : rcutn r L ≤ L.length := List.length_filter_le _ _
      have hrl : (rcut r L).length ≤ L.length := List.length_filter_le _ _
      refine go (k := ?_)
      refine XL.call [1] [0, 2, 3] rfl rfl rfl rfl rfl (fun _ w _ ho => by
        have := cut_ok b n r lost ps w hn0 hn (by omega) (by omega) hR.nw ho
        rw [← hre] at this; exact this) fun _ _ => ?_
      refine XL.nm ?_
      refine go (k := ?_)
      refine XL.call [2, 3] [0, 1] rfl rfl rfl rfl rfl (fun _ w _ ho => by
        have := rcut_ok br (n : Int) lost rv L r w (by omega) (by omega) (by omega) ho
        rw [← hre] at this; exact this) fun rv' _ => ?_
      refine XL.nm ?_
      refine go (k := ?_)
      refine XE.ret1 (⟨(ccut r (lost, ps) (wall ps n)).1, (ccut r (lost, ps) (wall ps n)).2, rv', rcut r L⟩ : NPs) [2, 0, 1] rfl rfl ⟨hR', by simp only; omega, by simp only; omega⟩ rfl rfl ?_
      show _ = netE b n _ _ :: rnG br n (ccut r (lost, ps) (wall ps n)).1 rv' (rcut r L)
      rw [hlo']; rfl
    · refine go (k := ?_)
      refine XL.q (.call rfl rfl fun _ w hs => cut_bad b n _ _ _ a.to w (by omega) hr ((hs.own.grp (.tail _ (.head _))).ok _ (.head _))) rfl ?_
      refine go (k := ?_)
      refine XL.q (.call rfl rfl fun _ w hs => rcut_bad br n lost rv L a.to w hr (hs.own.pick (is := [2, 3]) (by decide))) rfl ?_
      refine go (k := ?_)
      exact XE.ret1 (⟨lost, ps, rv, L⟩ : NPs) [1, 2, 3] rfl rfl ⟨hR, by simp only; omega, by simp only; omega⟩ rfl rfl rfl
  by_cases w34 : a.what % 6 = 3 ∨ a.what % 6 = 4
  · by_cases hw : okw n a.frm a.to
    · obtain ⟨f, t, hfe, hte, hf, ht, hne⟩ := okw_nat hw
      obtain ⟨v, hv⟩ := wl_get (ps := ps) (f := f) (t := t) (by rw [hR.nw.len]; omega)
      have hle := hR.nw.le f t
      have hR' := fun v' => hR.take hn hf ht hne v'
      have hdl := rdel_len f t L
      have heq := hR.eq f t (by omega) (by omega)
      rcases w34 with w3 | w4
      all_goals
        refine go (k := ?_)
        refine XL.call [1] [0, 2, 3] rfl rfl rfl rfl rfl (fun _ w _ ho => by
          have := take_ok b f t n lost ps v (wl ps f t) w (by omega) (by omega) hne (by omega) hle hv ho
          rw [hfe, hte]; exact this) fun v' _ => ?_
        refine XL.nm ?_
        refine go (k := ?_)
        refine XL.call [2, 3] [0, 1] rfl rfl rfl rfl rfl (fun _ w _ ho => by
          have := rtake_ok br f t n lost rv L w (by rw [← hfe, ← hte]; exact hw) (by omega) ho
          rw [← heq] at this
          rw [hfe, hte]; exact this) fun rv' _ => ?_
        refine XL.nm ?_
        refine go (k := ?_)
        exact XE.ret1 (⟨lost, ps.set (f * 8 + t) (v', (wl ps f t).tail), rv', rdel f t L⟩ : NPs) [2, 0, 1] rfl rfl ⟨hR' v', by simp only; omega, by simp only; omega⟩ (by rw [decide_eq_true rfl]) rfl rfl
    · rcases w34 with w3 | w4
      all_goals
        refine go (k := ?_)
        refine XL.q (.call rfl rfl fun _ w hs => take_none a.frm a.to w (ptr b) 2 (by decide) fun w' hk => at_bad' b n lost ps a.frm a.to (by omega) hw w (hs.own.grp (.tail _ (.head _))) w' hk) rfl ?_
        refine go (k := ?_)
        refine XL.q (.call rfl rfl fun _ w hs => rtake_none br n lost rv L a.frm a.to w hw (hs.own.pick (is := [2, 3]) (by decide))) rfl ?_
        refine go (k := ?_)
        exact XE.ret1 (⟨lost, ps, rv, L⟩ : NPs) [1, 2, 3] rfl rfl ⟨hR, by simp only; omega, by simp only; omega⟩ rfl rfl rfl
  · have w012 : ¬ a.what % 6 = 3 ∧ ¬ a.what % 6 = 4 := by omega
    obtain ⟨w3, w4⟩ := w012
    by_cases hw : okw n a.frm a.to
    · obtain ⟨f, t, hfe, hte, hf, ht, hne⟩ := okw_nat hw
      obtain ⟨v, hv⟩ := wl_get (ps := ps) (f := f) (t := t) (by rw [hR.nw.len]; omega)
      have hle := hR.nw.le f t
      by_cases hlong : 4096 < a.s.length
      · refine go (k := ?_)
        refine XL.q (.call rfl rfl fun _ w hs => by
          have := post_long b f t n a.fate _ _ _ a.s w (by omega) (by omega) hne (by omega) hlong ((hs.own.grp (.tail _ (.head _))).ok _ (.head _))
          rw [← hfe, ← hte] at this; exact this) rfl ?_
        refine go (k := ?_)
        refine XL.q (.call rfl rfl fun _ w hs => by
          have := rpost_long br f t n lost rv L a.s a.fate w (by rw [← hfe, ← hte]; exact hw) hlong (hs.own.pick (is := [2, 3]) (by decide))
          rw [← hfe, ← hte] at this; exact this) rfl ?_
        refine go (k := ?_)
        exact XE.ret1 (⟨lost, ps, rv, L⟩ : NPs) [1, 2, 3] rfl rfl ⟨hR, by simp only; omega, by simp only; omega⟩ rfl rfl rfl
      · obtain ⟨fa, hfa'⟩ : ∃ fa, fa = (a.fate.tmod 6 + 6) % 6 := ⟨_, rfl⟩
        have hpost := fun v' => hR.post hn hf ht hne fa a.s lost v'
        have hlw := wpost_lost fa a.s (lost, wl ps f t)
        have hll := rpost_len fa f t a.s (lost, L)
        simp only at hlw hll
        refine go (k := ?_)
        refine XL.call [1] [0, 2, 3] rfl rfl rfl rfl rfl (fun _ w _ ho => by
          have := post_ok b f t n a.fate lost ps v (wl ps f t) a.s w (by omega) (by omega) hne (by omega) (by omega) hle (by omega) hv hafa ho
          rw [← hfa'] at this
          rw [hfe, hte]; exact this) fun v' _ => ?_
        refine XL.nm ?_
        refine go (k := ?_)
        refine XL.call [2, 3] [0, 1] rfl rfl rfl rfl rfl (fun _ w _ ho => by
          have := rpost_ok br f t n lost rv L a.s a.fate w (by rw [← hfe, ← hte]; exact hw) (by omega) (by omega) (by omega) ho
          rw [← hfa'] at this
          rw [hfe, hte]; exact this) fun rv' _ => ?_
        refine XL.nm ?_
        refine go (k := ?_)
        refine XE.ret1 (⟨(wpost fa a.s (lost, wl ps f t)).1, ps.set (f * 8 + t) (v', (wpost fa a.s (lost, wl ps f t)).2), rv', (rpost fa f t a.s (lost, L)).2⟩ : NPs) [2, 0, 1] rfl rfl ⟨(hpost v').1, by simp only; omega, by simp only; omega⟩ rfl rfl ?_
        show _ = netE b n _ _ :: rnG br n (wpost fa a.s (lost, wl ps f t)).1 rv' (rpost fa f t a.s (lost, L)).2
        rw [← (hpost v').2]; rfl
    · refine go (k := ?_)
      refine XL.q (.call rfl rfl fun _ w hs => post_none a.frm a.to a.fate a.s w (ptr b) 2 (by decide) fun w' hk => at_bad' b n lost ps a.frm a.to (by omega) hw w (hs.own.grp (.tail _ (.head _))) w' hk) rfl ?_
      refine go (k := ?_)
      refine XL.q (.call rfl rfl fun _ w hs => rpost_none br n lost rv L a.s a.frm a.to a.fate w hw (hs.own.pick (is := [2, 3]) (by decide))) rfl ?_
      refine go (k := ?_)
      exact XE.ret1 (⟨lost, ps, rv, L⟩ : NPs) [1, 2, 3] rfl rfl ⟨hR, by simp only; omega, by simp only; omega⟩ rfl rfl rfl
end Go.X
