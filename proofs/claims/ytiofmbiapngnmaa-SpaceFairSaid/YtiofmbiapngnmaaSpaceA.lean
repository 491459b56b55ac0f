/- Contracts of the functions of package space. -/
import Derived.Test.YtiofmbiapngnmaaSpaceP
namespace Go.X
open Go Go.Proofs
theorem sis_nil (w : World) : Fx Try.prog 25 [.pointer none] w (Pure w (.bool false)) := by
  refine Fx.of (L0 := []) Try.func25 rfl (by kernel_rfl) Try.ntmps25 rfl (Owns.nil w) ?_
  refine go (k := ?_)
  exact XE.ret1 () [] rfl rfl trivial rfl rfl rfl
theorem sis_ok (b : Nat) (f n : Int) (lv : Value) (t : TypeId) (fz : Nat × Nat) (w : World) (hb : w.heap[b]? = some (.cells [iv f, iv n, lv].toArray t fz)) : Fx Try.prog 25 [ptr b] w (Pure w (.bool (decide (0 < n)))) := by
  refine Fx.of (L0 := []) Try.func25 rfl (by kernel_rfl) Try.ntmps25 rfl (Owns.nil w) ?_
  have hB : b ∉ ids ([] : Heap) := by simp [X.ids]
  have h0 : [iv f, iv n, lv][0 + 1]? = some (iv n) := rfl
  refine go (k := ?_)
  exact XE.ret1 () [] rfl rfl trivial rfl rfl rfl
theorem rules_nil (x : Value) (at_ : Int) (w : World) (h : ∀ w', Kept [] w w' → Fx Try.prog 25 [x] w' (Pure w' (.bool false))) : Fx Try.prog 23 [x, iv at_] w (Pure w (iv 1)) := by
  refine Fx.of (L0 := []) Try.func23 rfl (by kernel_rfl) Try.ntmps23 rfl (Owns.nil w) ?_
  refine go (k := ?_)
  refine XL.q (.call rfl rfl fun _ w' hs => h w' hs.kept) rfl ?_
  refine go (k := ?_)
  exact XE.ret1 () [] rfl rfl trivial rfl rfl rfl
theorem rules_ok (b : Nat) (f n at_ : Int) (lv : Value) (t : TypeId) (fz : Nat × Nat) (w : World) (hn : 0 < n) (hb : w.heap[b]? = some (.cells [iv f, iv n, lv].toArray t fz)) :
    Fx Try.prog 23 [ptr b, iv at_] w (Pure w (iv (if at_ < f ∨ n ≤ at_ then 2 else 0))) := by
  refine Fx.of (L0 := []) Try.func23 rfl (by kernel_rfl) Try.ntmps23 rfl (Owns.nil w) ?_
  have hB : b ∉ ids ([] : Heap) := by simp [X.ids]
  have h0 : [iv f, iv n, lv][0 + 0]? = some (iv f) := rfl
  have h1 : [iv f, iv n, lv][0 + 1]? = some (iv n) := rfl
  refine go (k := ?_)
  refine XL.q (.call rfl rfl fun _ w' hs => sis_ok b f n lv t fz w' ((hs.kept.same b (Array.getElem?_eq_some_iff.1 hb).1 hB).trans hb)) rfl ?_
  by_cases h2 : at_ < f
  · refine go (k := ?_)
    refine XE.ret1 () [] rfl rfl trivial ?_ rfl rfl
    rw [if_pos (.inl h2)]
  · by_cases h3 : n ≤ at_
    · refine go (k := ?_)
      refine XE.ret1 () [] rfl rfl trivial ?_ rfl rfl
      rw [if_pos (.inr h3)]
    · refine go (k := ?_)
      refine XE.ret1 () [] rfl rfl trivial ?_ rfl rfl
      rw [if_neg (by omega)]
theorem bit_ok (b b1 off : Nat) (f n : Int) (k m c : Nat) (t : TypeId) (fz : Nat × Nat) (w : World) (hk : k / 256 < m) (hk2 : k ≤ 100000) (hb : w.heap[b]? = some (.cells [iv f, iv n, .slice (some ⟨b1, off, none⟩) m c].toArray t fz)) :
    Fx Try.prog 24 [ptr b, iv k] w (Pure w (.tuple #[.pointer (some ⟨b1, off + k / 64, none⟩), .int .u64 ((2 ^ (k % 64) : Nat) : Int)])) := by
  refine Fx.of (L0 := []) Try.func24 rfl (by kernel_rfl) Try.ntmps24 rfl (Owns.nil w) ?_
  have hB : b ∉ ids ([] : Heap) := by simp [X.ids]
  have h0 : [iv f, iv n, .slice (some ⟨b1, off, none⟩) m c][0 + 2]? = some (.slice (some ⟨b1, off, none⟩) m c) := rfl
  refine go (k := ?_)
  rw [show ((k : Int) % 256 / 64) = ((k % 256 / 64 : Nat) : Int) from by omega]
  have hlt : k % 256 / 64 < 4 := by omega
  refine go (k := ?_)
  refine XE.ret2 () [] rfl rfl rfl trivial ?_ rfl rfl
  rw [show ((k : Int) % 64) = ((k % 64 : Nat) : Int) from by omega, wb_shl _ (Nat.mod_lt _ (by decide))]
  rw [show off + k / 256 * 4 + k % 256 / 64 * 1 = off + k / 64 by omega]
theorem use_out (b : Nat) (lv : Value) (f n : Nat) (u : Nat → Bool) (at_ : Int) (w : World) (hn : 0 < n) (ha : at_ < f ∨ n ≤ at_) (ho : Owns w (spG b lv f n u)) :
    Fx Try.prog 8 [ptr b, iv at_] w (Pure w (iv 2)) := by
  have hb : w.heap[b]? = _ := ho.ok _ (.head _)
  refine Fx.of (L0 := []) Try.func8 rfl (by kernel_rfl) Try.ntmps8 rfl (Owns.nil w) ?_
  refine go (k := ?_)
  refine XL.q (.call rfl rfl fun _ w' hs => rules_ok b f n at_ lv _ _ w' (by omega) ((hs.kept.same b (Array.getElem?_eq_some_iff.1 hb).1 (by simp [X.ids])).trans hb)) rfl ?_
  rw [if_pos ha]
  refine go (k := ?_)
  exact XE.ret1 () [] rfl rfl trivial rfl rfl rfl
theorem use_in (b : Nat) (lv : Value) (f n : Nat) (u : Nat → Bool) (k : Nat) (w : World) (hn : n ≤ 2048) (h1 : f ≤ k) (h2 : k < n) (ho : Owns w (spG b lv f n u)) :
    Fx Try.prog 8 [ptr b, iv k] w (Ret w (spG b lv f n u) (fun _ : Unit => iv (if u k = true then 6 else 0)) (fun _ => spG b lv f n (upd u k true)) (fun _ => True)) := by
  refine Fx.of Try.func8 rfl (by kernel_rfl) Try.ntmps8 rfl ho ?_
  have hpg := pgs_lt h2
  refine XC.openSl (m := pgs n) (.tail _ (.head _)) (by decide) (by simp [swds_len]) (by unfold pgs; omega) (fun _ _ => .there .here) fun b1 cs cap hv hc hcl hct => ?_
  subst hv
  refine go (k := ?_)
  refine XL.q (.call rfl rfl fun _ w' hs => rules_ok b f n k _ _ _ w' (by omega) (hs.own.ok _ (.head _))) rfl ?_
  rw [if_neg (show ¬ ((k : Int) < f ∨ (n : Int) ≤ k) by omega)]
  refine go (k := ?_)
  refine XL.q (.call rfl rfl fun _ w' hs => bit_ok b b1 0 f n k _ _ _ _ w' hpg (by omega) (hs.own.ok _ (.head _))) rfl ?_
  have hk64 : k / 64 < pgs n * 4 := by unfold pgs; omega
  have hat : cs[0 + k / 64]? = some (swd u (k / 64)) := by
    rw [Nat.zero_add]
    have := swds_at u hk64
    rw [← hct, List.getElem?_take] at this
    split at this
    · exact this
    · cases this
  have hand := swd_and u k
  have hp := two_pos (k % 64)
  have hcsl : pgs n * 4 ≤ cs.length := by have := Nat.mul_le_mul_right 4 hc; omega
  refine go (k := ?_)
  by_cases hu : u k = true
  · rw [if_pos hu] at hand ⊢
    refine XC.condT rfl (decide_eq_true (by rw [hand]; omega)) ?_
    refine go (k := ?_)
    rw [upd_same hu]
    refine XE.shutSl (m := pgs n) (cap := cap) (k := 4) (xs := swds u (pgs n * 4)) (.tail _ (.head _)) (by rw [swds_len]) hc hcl hct (.there .here) ?_
    exact XE.ret1 () [0, 1] rfl rfl trivial rfl rfl rfl
  · rw [if_neg hu] at hand ⊢
    refine XC.condF rfl (decide_eq_false (by rw [hand]; omega)) ?_
    refine go (k := ?_)
    rw [swd_on]
    refine XL.stS rfl rfl rfl rfl rfl rfl (.tail _ (.head _)) (SplL.one (k := 0 + k / 64) _ (by omega)) (.there .here) ?_
    refine go (k := ?_)
    refine XE.shutSl (m := pgs n) (cap := cap) (k := 4) (xs := swds (upd u k true) (pgs n * 4)) (.tail _ (.head _)) (by rw [swds_len]) hc (by rw [List.length_set]; exact hcl) ?_ (.there .here) ?_
    · rw [swds_len] at hct ⊢
      rw [List.take_set, hct, ← swds_set, Nat.zero_add]; rfl
    exact XE.ret1 () [0, 1] rfl rfl trivial rfl rfl rfl
theorem give_out (b : Nat) (lv : Value) (f n : Nat) (u : Nat → Bool) (at_ : Int) (w : World) (hn : 0 < n) (ha : at_ < f ∨ n ≤ at_) (ho : Owns w (spG b lv f n u)) :
    Fx Try.prog 9 [ptr b, iv at_] w (Pure w (iv 2)) := by
  have hb : w.heap[b]? = _ := ho.ok _ (.head _)
  refine Fx.of (L0 := []) Try.func9 rfl (by kernel_rfl) Try.ntmps9 rfl (Owns.nil w) ?_
  refine go (k := ?_)
  refine XL.q (.call rfl rfl fun _ w' hs => rules_ok b f n at_ lv _ _ w' (by omega) ((hs.kept.same b (Array.getElem?_eq_some_iff.1 hb).1 (by simp [X.ids])).trans hb)) rfl ?_
  rw [if_pos ha]
  refine go (k := ?_)
  exact XE.ret1 () [] rfl rfl trivial rfl rfl rfl
theorem give_in (b : Nat) (lv : Value) (f n : Nat) (u : Nat → Bool) (k : Nat) (w : World) (hn : n ≤ 2048) (h1 : f ≤ k) (h2 : k < n) (ho : Owns w (spG b lv f n u)) :
    Fx Try.prog 9 [ptr b, iv k] w (Ret w (spG b lv f n u) (fun _ : Unit => iv (if u k = true then 0 else 5)) (fun _ => spG b lv f n (upd u k false)) (fun _ => True)) := by
  refine Fx.of Try.func9 rfl (by kernel_rfl) Try.ntmps9 rfl ho ?_
  have hpg := pgs_lt h2
  refine XC.openSl (m := pgs n) (.tail _ (.head _)) (by decide) (by simp [swds_len]) (by unfold pgs; omega) (fun _ _ => .there .here) fun b1 cs cap hv hc hcl hct => ?_
  subst hv
  refine go (k := ?_)
  refine XL.q (.call rfl rfl fun _ w' hs => rules_ok b f n k _ _ _ w' (by omega) (hs.own.ok _ (.head _))) rfl ?_
  rw [if_neg (show ¬ ((k : Int) < f ∨ (n : Int) ≤ k) by omega)]
  refine go (k := ?_)
  refine XL.q (.call rfl rfl fun _ w' hs => bit_ok b b1 0 f n k _ _ _ _ w' hpg (by omega) (hs.own.ok _ (.head _))) rfl ?_
  have hk64 : k / 64 < pgs n * 4 := by unfold pgs; omega
  have hat : cs[0 + k / 64]? = some (swd u (k / 64)) := by
    rw [Nat.zero_add]
    have := swds_at u hk64
    rw [← hct, List.getElem?_take] at this
    split at this
    · exact this
    · cases this
  have hand := swd_and u k
  have hp := two_pos (k % 64)
  have hcsl : pgs n * 4 ≤ cs.length := by have := Nat.mul_le_mul_right 4 hc; omega
  refine go (k := ?_)
  by_cases hu : u k = true
  · rw [if_pos hu] at hand ⊢
    refine XC.condF rfl (decide_eq_false (by rw [hand]; omega)) ?_
    refine go (k := ?_)
    rw [swd_off]
    refine XL.stS rfl rfl rfl rfl rfl rfl (.tail _ (.head _)) (SplL.one (k := 0 + k / 64) _ (by omega)) (.there .here) ?_
    refine go (k := ?_)
    refine XE.shutSl (m := pgs n) (cap := cap) (k := 4) (xs := swds (upd u k false) (pgs n * 4)) (.tail _ (.head _)) (by rw [swds_len]) hc (by rw [List.length_set]; exact hcl) ?_ (.there .here) ?_
    · rw [swds_len] at hct ⊢
      rw [List.take_set, hct, ← swds_set, Nat.zero_add]; rfl
    exact XE.ret1 () [0, 1] rfl rfl trivial rfl rfl rfl
  · rw [if_neg hu] at hand ⊢
    refine XC.condT rfl (decide_eq_true (by rw [hand]; rfl)) ?_
    refine go (k := ?_)
    rw [upd_same (show u k = false by simpa using hu)]
    refine XE.shutSl (m := pgs n) (cap := cap) (k := 4) (xs := swds u (pgs n * 4)) (.tail _ (.head _)) (by rw [swds_len]) hc hcl hct (.there .here) ?_
    exact XE.ret1 () [0, 1] rfl rfl trivial rfl rfl rfl
theorem free_ok (b : Nat) (lv : Value) (f n : Nat) (u : Nat → Bool) (at_ : Int) (w : World) (hn0 : 0 < n) (hn : n ≤ 2048) (ho : Owns w (spG b lv f n u)) :
    Fx Try.prog 12 [ptr b, iv at_] w (Pure w (.bool (decide ((f : Int) ≤ at_) && decide (at_ < n) && !u at_.toNat))) := by
  have hb : w.heap[b]? = _ := ho.ok _ (.head _)
  have hk : ∀ w', Kept [] w w' → Owns w' (spG b lv f n u) := fun w' k => ho.of_kept k (fun _ _ h => by cases h)
  refine Fx.of (L0 := []) Try.func12 rfl (by kernel_rfl) Try.ntmps12 rfl (Owns.nil w) ?_
  refine go (k := ?_)
  refine XL.q (.call rfl rfl fun _ w' hs => rules_ok b f n at_ lv _ _ w' (by omega) ((hk w' hs.kept).ok _ (.head _))) rfl ?_
  by_cases ha : at_ < f ∨ n ≤ at_
  · rw [if_pos ha]
    refine go (k := ?_)
    refine XE.ret1 () [] rfl rfl trivial ?_ rfl rfl
    rcases ha with ha | ha
    · rw [decide_eq_false (by omega)]; rfl
    · rw [decide_eq_false (p := at_ < n) (by omega)]; simp
  · rw [if_neg ha]
    obtain ⟨k, rfl⟩ : ∃ k : Nat, at_ = k := ⟨at_.toNat, by omega⟩
    have hpg : k / 256 < pgs n := pgs_lt (by omega)
    have hk64 : k / 64 < pgs n * 4 := by unfold pgs; omega
    obtain ⟨ao, c, rfl, h1, h2, h3⟩ := (ho.ok _ (.tail _ (.head _)) : SlOk w lv 65 4 _).rowAt (m := pgs n) (by decide) (by simp [swds_len])
    rcases h3 with h3 | ⟨b1, off, cs, t, fz, rfl, h5, h6⟩
    · unfold pgs at h3; omega
    have hat : cs[off + k / 64]? = some (swd u (k / 64)) := cut_all h6 _ _ (swds_at u hk64)
    have hand := swd_and u k
    have hp := two_pos (k % 64)
    have hB : b1 ∉ ids ([] : Heap) := by simp [X.ids]
    refine go (k := ?_)
    refine XL.q (.call rfl rfl fun _ w' hs => bit_ok b b1 off f n k _ _ _ _ w' hpg (by omega) ((hk w' hs.kept).ok _ (.head _))) rfl ?_
    refine go (k := ?_)
    refine XE.ret1 () [] rfl rfl trivial ?_ rfl rfl
    rw [hand]
    have e1 : decide ((f : Int) ≤ k) = true := decide_eq_true (by omega)
    have e2 : decide ((k : Int) < n) = true := decide_eq_true (by omega)
    rw [e1, e2]
    by_cases hu : u k = true
    · rw [if_pos hu, decide_eq_false (by omega)]; simp [hu]
    · rw [if_neg hu]; simp [hu]
end Go.X
