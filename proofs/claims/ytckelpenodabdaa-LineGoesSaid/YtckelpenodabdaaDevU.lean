/- DevicePlays: the law's helpers May, one, alike. -/
import Derived.Test.YtckelpenodabdaaDevT
import Derived.Test.YtckelpenodabdaaDevI
namespace Go.X
open Go Go.Proofs
theorem may_yes (n : Int) (w : World) (h1 : 256 ≤ n) (h2 : n ≤ 2048) : Fx Try.prog 19 [iv n] w (Pure w (.bool true)) := by
  refine Fx.of (L0 := []) Try.func19 rfl (by kernel_rfl) Try.ntmps19 rfl (Owns.nil w) ?_
  refine go (k := ?_)
  refine XE.ret1 () [] rfl rfl trivial ?_ rfl rfl
  simp [h2]
theorem may_no (n : Int) (w : World) (h : n < 256 ∨ 2048 < n) : Fx Try.prog 19 [iv n] w (Pure w (.bool false)) := by
  refine Fx.of (L0 := []) Try.func19 rfl (by kernel_rfl) Try.ntmps19 rfl (Owns.nil w) ?_
  by_cases h1 : n < 256
  · refine go (k := ?_)
    refine XE.ret1 () [] rfl rfl trivial ?_ rfl rfl
    simp
  · have h2 : 2048 < n := by omega
    refine go (k := ?_)
    refine XE.ret1 () [] rfl rfl trivial ?_ rfl rfl
    simp; try omega
abbrev rdE (bd : Nat) (fv rv : Value) (ds : List Slot) : Ent := grp (rdG bd fv rv (ds.map (·.firm)) (frl ds 0))
theorem alike_ok (b bd : Nat) (lv fv rv : Value) (ds : List Slot) (k : Int) (w : World) (hk : Oks ds) (hd : DInv ds) (hn : 0 < ds.length) (hn2 : ds.length ≤ 100000) (ho : Owns w [devE b lv ds, rdE bd fv rv ds]) :
    Fx Try.prog 26 [ptr b, ptr bd, iv k] w (Pure w (.bool true)) := by
  have h1 : ∀ w', Kept [] w w' → Owns w' (devG b lv ds) := fun w' k => (ho.of_kept k (fun _ _ h => by cases h)).grp (.head _)
  have h2 : ∀ w', Kept [] w w' → Owns w' (rdG bd fv rv (ds.map (·.firm)) (frl ds 0)) := fun w' k => (ho.of_kept k (fun _ _ h => by cases h)).grp (.tail _ (.head _))
  have hfl : (frl ds 0).length ≤ 100000 := by rw [frl_len]; unfold nF; exact Nat.le_trans (List.length_filter_le _ _) (by rw [List.length_take]; omega)
  refine Fx.of (L0 := []) Try.func26 rfl (by kernel_rfl) Try.ntmps26 rfl (Owns.nil w) ?_
  by_cases hout : k < 0 ∨ (ds.length : Int) ≤ k
  · have hel : errAt ds.length k = some 2 := by unfold errAt; rw [if_neg (by omega), if_pos (by omega)]
    refine go (k := ?_)
    refine XL.q (.call (v := .tuple #[str [], iv 2]) rfl rfl fun _ w' hs => read_err (ptr b) k 2 w' (by decide) fun w'' hk' => dat_err b lv ds k 2 w'' hk hel (h1 w'' (hs.kept.trans hk' fun b hb => by cases hb))) rfl ?_
    refine go (k := ?_)
    refine XL.q (.call (v := .tuple #[str [], iv 2]) rfl rfl fun _ w' hs => rread_out bd fv rv _ _ k w' (by rw [List.length_map]; exact hout) (h2 w' hs.kept)) rfl ?_
    refine go (k := ?_)
    refine XL.q (.call (v := .tuple #[str [], iv 2]) rfl rfl fun _ w' hs => firm_err (ptr b) k 2 w' (by decide) fun w'' hk' => dat_err b lv ds k 2 w'' hk hel (h1 w'' (hs.kept.trans hk' fun b hb => by cases hb))) rfl ?_
    refine go (k := ?_)
    refine XL.q (.call (v := .tuple #[str [], iv 2]) rfl rfl fun _ w' hs => rsure_out bd fv rv _ _ k w' (by rw [List.length_map]; exact hout) (h2 w' hs.kept)) rfl ?_
    refine go (k := ?_)
    exact XE.ret1 () [] rfl rfl trivial rfl rfl rfl
  · obtain ⟨j, rfl⟩ : ∃ j : Nat, k = j := ⟨k.toNat, by omega⟩
    obtain ⟨s, hs⟩ : ∃ s, ds[j]? = some s := ⟨_, List.getElem?_eq_getElem (by omega)⟩
    have hrr := frl_rrd ds j s hd hs
    obtain ⟨fi, re, fr⟩ := s
    refine go (k := ?_)
    refine XL.q (.call (v := .tuple #[str re, iv 0]) rfl rfl fun _ w' hs' => read_ok b lv ds j _ w' hk hs (h1 w' hs'.kept)) rfl ?_
    refine go (k := ?_)
    refine XL.q (.call (v := .tuple #[str re, iv 0]) rfl rfl fun _ w' hs' => by
      have := rread_ok bd fv rv (ds.map (·.firm)) (frl ds 0) j w' hfl (by rw [List.length_map]; omega) (h2 w' hs'.kept)
      rw [hrr] at this; exact this) rfl ?_
    refine go (k := ?_)
    refine XL.q (.call (v := .tuple #[str fi, iv 0]) rfl rfl fun _ w' hs' => firm_ok b lv ds j _ w' hk hs (h1 w' hs'.kept)) rfl ?_
    refine go (k := ?_)
    refine XL.q (.call (v := .tuple #[str fi, iv 0]) rfl rfl fun _ w' hs' => rsure_ok bd fv rv _ _ j fi w' (by rw [List.getElem?_map, hs]; rfl) (h2 w' hs'.kept)) rfl ?_
    refine go (k := ?_)
    exact XE.ret1 () [] rfl rfl trivial rfl rfl rfl
end Go.X
