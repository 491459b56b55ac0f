/- DevicePlays: one. -/
import Derived.Test.YtckelpenodabdaaDevU
namespace Go.X
open Go Go.Proofs
theorem Fc64 : Fc [64] = F64 := by
  funext i
  unfold Fc
  have : i % [(64 : Int)].length = 0 := by simp [Nat.mod_one]
  rw [this]
  rfl
theorem rdflush_ok (bd : Nat) (fv rv : Value) (ds : List Slot) (w : World) (hk : Oks ds) (hn : ds.length ≤ 100000) (ho : Owns w [rdE bd fv rv ds]) :
    Fx Try.prog 53 [ptr bd] w (Ret w [rdE bd fv rv ds] (fun _ : Unit => iv (nF ds ds.length)) (fun _ => [rdE bd fv (.slice none 0 0) (settled F64 ds)]) (fun _ => True)) := by
  have hfl : (frl ds 0).length ≤ 100000 := by rw [frl_len]; unfold nF; exact Nat.le_trans (List.length_filter_le _ _) (by rw [List.length_take]; omega)
  have h := rcrs_all [64] ds hk
  rw [Fc64] at h
  have hg := Fx.grp (fun ho => rflush_ok bd fv rv (ds.map (·.firm)) (frl ds 0) w hfl (frl_rok ds hk) ho) ho
  rw [h, frl_len] at hg
  show Fx _ _ _ _ (Ret w [rdE bd fv rv ds] _ (fun _ => [grp (rdG bd fv (.slice none 0 0) ((settled F64 ds).map (·.firm)) (frl (settled F64 ds) 0))]) _)
  rw [frl_settled]
  exact hg
theorem rdcrash_ok (bd : Nat) (fv rv v : Value) (ds : List Slot) (ch : List Int) (w : World) (hk : Oks ds) (hn : ds.length ≤ 100000) (hv : ∀ w', Kept (ids [rdE bd fv rv ds]) w w' → RowAt w' v 1 ch.length (ivs ch)) (hl : ch.length ≤ 1000000) (hw : ∀ a ∈ ch, -9223372036854775808 ≤ a ∧ a ≤ 9223372036854775807) (ho : Owns w [rdE bd fv rv ds]) :
    Fx Try.prog 54 [ptr bd, v] w (Ret w [rdE bd fv rv ds] (fun _ : Unit => .tuple #[]) (fun _ => [rdE bd fv (.slice none 0 0) (settled (Fc ch) ds)]) (fun _ => True)) := by
  have hfl : (frl ds 0).length ≤ 100000 := by rw [frl_len]; unfold nF; exact Nat.le_trans (List.length_filter_le _ _) (by rw [List.length_take]; omega)
  have h := rcrs_all ch ds hk
  have hg := Fx.grp (fun ho => rcrash_ok bd fv rv v (ds.map (·.firm)) (frl ds 0) ch w hfl (frl_rok ds hk) (fun w' hk' => hv w' (by rw [ids_grp1]; exact hk')) hl hw ho) ho
  rw [h] at hg
  show Fx _ _ _ _ (Ret w [rdE bd fv rv ds] _ (fun _ => [grp (rdG bd fv (.slice none 0 0) ((settled (Fc ch) ds).map (·.firm)) (frl (settled (Fc ch) ds) 0))]) _)
  rw [frl_settled]
  exact hg
theorem rdwrite_ok (bd : Nat) (fv rv : Value) (ds : List Slot) (k : Int) (s : List UInt8) (w : World) (hn0 : 0 < ds.length) (hn : ds.length ≤ 100000) (ho : Owns w [rdE bd fv rv ds]) :
    Fx Try.prog 55 [ptr bd, iv k, str s] w (Ret w [rdE bd fv rv ds] (fun _ : Value => iv (dwr ds k s).1) (fun rv' => [rdE bd fv rv' (dwr ds k s).2]) (fun _ => True)) := by
  have hfl : (frl ds 0).length ≤ 100000 := by rw [frl_len]; unfold nF; exact Nat.le_trans (List.length_filter_le _ _) (by rw [List.length_take]; omega)
  have hG := ho.grp (.head _)
  have keep : ∀ e : Int, Fx Try.prog 55 [ptr bd, iv k, str s] w (Pure w (iv e)) → Fx Try.prog 55 [ptr bd, iv k, str s] w (Ret w [rdE bd fv rv ds] (fun _ : Value => iv e) (fun rv' => [rdE bd fv rv' ds]) (fun _ => True)) := fun e h =>
    (Fx.keep ho h).mono fun x w' hr => by
      cases x with
      | returned v =>
        obtain ⟨_, _, hv, ho', hk, hnn⟩ := hr
        exact ⟨rv, trivial, hv, ho', hk, hnn⟩
      | panicked _ => exact hr
      | outgrown => exact hr
  by_cases h1 : k < 0 ∨ ds.length ≤ k
  · have e : dwr ds k s = (2, ds) := by unfold dwr; rw [if_neg (by omega), if_pos h1]
    rw [e]
    exact keep 2 (rwrite_err bd fv rv _ _ k s w (by rw [List.length_map]; exact h1) hG)
  · obtain ⟨j, rfl⟩ : ∃ j : Nat, k = j := ⟨k.toNat, by omega⟩
    by_cases h2 : 64 < s.length
    · have e : dwr ds j s = (3, ds) := by unfold dwr; rw [if_neg (by omega), if_neg h1, if_pos h2]
      rw [e]
      exact keep 3 (rwrite_long bd fv rv _ _ j s w (by rw [List.length_map]; omega) h2 hG)
    · obtain ⟨x, hx⟩ : ∃ x, ds[j]? = some x := ⟨_, List.getElem?_eq_getElem (by omega)⟩
      have e : dwr ds j s = (0, ds.set j ⟨x.firm, padTo s, true⟩) := by
        unfold dwr; rw [if_neg (by omega), if_neg h1, if_neg h2, Int.toNat_natCast, List.getD_eq_getElem?_getD, hx]; rfl
      rw [e]
      have hg := Fx.grp (fun ho => rwrite_ok bd fv rv (ds.map (·.firm)) (frl ds 0) j s w hfl (by rw [List.length_map]; omega) (by omega) ho) ho
      rw [frl_rwr ds j x s hx] at hg
      show Fx _ _ _ _ (Ret w [rdE bd fv rv ds] _ (fun rv' => [grp (rdG bd fv rv' ((ds.set j ⟨x.firm, padTo s, true⟩).map (·.firm)) (frl (ds.set j ⟨x.firm, padTo s, true⟩) 0))]) _)
      rw [firm_set ds j x s hx]
      exact hg
set_option maxHeartbeats 1000000 in
theorem one_ok (b bd : Nat) (lv fv rv : Value) (ds : List Slot) (a : DAct) (w : World) (hk : Oks ds) (hn0 : 0 < ds.length) (hn : ds.length ≤ 100000) (ha1 : 0 ≤ a.what ∧ a.what ≤ 255) (hl : a.ch.length ≤ 1000000) (hw : ∀ x ∈ a.ch, -9223372036854775808 ≤ x ∧ x ≤ 9223372036854775807)
    (hv : ∀ w', Kept (ids [devE b lv ds, rdE bd fv rv ds]) w w' → RowAt w' a.cv 1 a.ch.length (ivs a.ch)) (ho : Owns w [devE b lv ds, rdE bd fv rv ds]) :
    Fx Try.prog 25 [ptr b, ptr bd, .agg (dacell a).toArray] w (Ret w [devE b lv ds, rdE bd fv rv ds] (fun _ : Value => .bool true) (fun rv' => [devE b lv (dstep ds a), rdE bd fv rv' (dstep ds a)]) (fun _ => True)) := by
  refine Fx.of Try.func25 rfl (by kernel_rfl) Try.ntmps25 rfl ho ?_
  refine go (k := ?_)
  refine XL.box (zs := dacell a) rfl rfl rfl fun ba => ?_
  have c0 : (dacell a)[0 + 0]? = some (.int .u8 a.what) := rfl
  have c1 : (dacell a)[0 + 1]? = some (iv a.at_) := rfl
  have c2 : (dacell a)[0 + 2]? = some (str a.s) := rfl
  have c3 : (dacell a)[0 + 3]? = some a.cv := rfl
  by_cases w3 : a.what % 6 = 3
  · have e : dstep ds a = settled F64 ds := by unfold dstep; rw [if_pos w3]
    rw [e]
    refine go (k := ?_)
    refine XL.call [1] [2, 0] rfl rfl rfl rfl rfl (fun _ w _ ho => Fx.grp (fun ho => flush_ok b lv ds w hk hn ho) ho) fun _ _ => ?_
    refine XL.nm ?_
    refine go (k := ?_)
    refine XL.call [1] [0, 2] rfl rfl rfl rfl rfl (fun _ w _ ho => rdflush_ok bd fv rv ds w hk hn ho) fun _ _ => ?_
    refine XL.nm ?_
    refine go (k := ?_)
    exact XE.ret1 (.slice none 0 0) [1, 0] rfl rfl trivial (by rw [decide_eq_true rfl]) rfl rfl
  by_cases w4 : a.what % 6 = 4
  · have e : dstep ds a = settled (Fc a.ch) ds := by unfold dstep; rw [if_neg w3, if_pos w4]
    rw [e]
    refine go (k := ?_)
    refine XL.call [1] [2, 0] rfl rfl rfl rfl rfl (fun _ w1 hs ho => Fx.grp (fun ho => crash_ok b lv ds a.cv a.ch w1 hk hn (fun w' hk' => hv w' (hs.kept.trans hk' fun x hx => .inl (by simp only [X.ids, Ent.ids, grp, List.append_nil] at hx ⊢; exact List.mem_append_left _ hx))) hl hw ho) ho) fun _ _ => ?_
    refine XL.nm ?_
    refine go (k := ?_)
    refine XL.call [1] [0, 2] rfl rfl rfl rfl rfl (fun _ w1 hs ho => rdcrash_ok bd fv rv a.cv ds a.ch w1 hk hn (fun w' hk' => hv w' (hs.kept.trans hk' fun x hx => .inl (by simp only [X.ids, Ent.ids, grp, List.append_nil] at hx ⊢; exact List.mem_append_right _ hx))) hl hw ho) fun _ _ => ?_
    refine XL.nm ?_
    refine go (k := ?_)
    exact XE.ret1 (.slice none 0 0) [1, 0] rfl rfl trivial rfl rfl rfl
  by_cases w5 : a.what % 6 = 5
  · have e : dstep ds a = ds := by unfold dstep; rw [if_neg w3, if_neg w4, if_pos w5]
    rw [e]
    refine go (k := ?_)
    exact XE.ret1 rv [1, 2] rfl rfl trivial rfl rfl rfl
  · have e : dstep ds a = (dwr ds a.at_ a.s).2 := by unfold dstep; rw [if_neg w3, if_neg w4, if_neg w5]
    rw [e]
    refine go (k := ?_)
    refine XL.call [1] [2, 0] rfl rfl rfl rfl rfl (fun _ w _ ho => write_any b lv ds a.at_ a.s w hk hn0 ho) fun _ _ => ?_
    refine XL.nm ?_
    refine go (k := ?_)
    refine XL.call [1] [0, 2] rfl rfl rfl rfl rfl (fun _ w _ ho => rdwrite_ok bd fv rv ds a.at_ a.s w hn0 hn ho) fun rv' _ => ?_
    refine XL.nm ?_
    refine go (k := ?_)
    exact XE.ret1 rv' [1, 0] rfl rfl trivial (by rw [decide_eq_true rfl]) rfl rfl
end Go.X
