/- NetFair: the walk. -/
import Derived.Test.YtoeejaikmhedoaaNetI
namespace Go.X
open Go Go.Proofs Go.RowKit
theorem at_bad' (b : Nat) (n : Int) (lost : Nat) (ps : List Wy) (f g : Int) (hn : n ≠ 0) (h : ¬ okw n f g) (w : World) (ho : Owns w (netG b n lost ps)) (w' : World) (hk : Kept (ids []) w w') : Fx Try.prog 24 [ptr b, iv f, iv g] w' (Pure w' (.tuple #[.pointer none, iv 2])) := by
  have hb : w.heap[b]? = some (.cells (netCs n lost ps).toArray _ (0, 0)) := ho.ok _ (.head _)
  exact at_bad b n _ _ _ f g w' hn h ((hk.same b (Array.getElem?_eq_some_iff.1 hb).1 (by simp [X.ids])).trans hb)
theorem okw_nat {n : Nat} {f t : Int} (h : okw n f t) : ∃ f' t' : Nat, f = f' ∧ t = t' ∧ f' < n ∧ t' < n ∧ f' ≠ t' := by
  obtain ⟨⟨h1, h2⟩, ⟨h3, h4⟩, h5⟩ := h
  exact ⟨f.toNat, t.toNat, by omega, by omega, by omega, by omega, by omega⟩
def wcnt (n : Nat) (ps : List Wy) (f t : Int) : Nat := if okw n f t then (wl ps f.toNat t.toNat).length else 0
theorem wcnt_le {n : Nat} {ps : List Wy} (h : NW ps) (f t : Int) : wcnt n ps f t ≤ 64 := by
  unfold wcnt; split
  · exact h.le _ _
  · exact Nat.zero_le _
theorem waits_any (b n lost : Nat) (ps : List Wy) (f t : Int) (hn0 : 0 < n) (hn : n ≤ 8) (hw : NW ps) (w : World) (ho : Owns w (netG b n lost ps)) : Fx Try.prog 11 [ptr b, iv f, iv t] w (Pure w (iv (wcnt n ps f t))) := by
  unfold wcnt
  by_cases h : okw n f t
  · rw [if_pos h]
    obtain ⟨f', t', rfl, rfl, h1, h2, _⟩ := okw_nat h
    exact waits_in b f' t' n lost ps w h1 h2 hn hw ho
  · rw [if_neg h]
    exact waits_none f t w (ptr b) 2 (by decide) fun w' hk => at_bad' b n lost ps f t (by omega) h w ho w' hk
theorem byt_wrap (a : Int) : IntKind.u8.wrap (bitsOp .and .i64 a 7) = ((byt a).toNat : Int) := by
  have h := low3_bd a
  have h1 : IntKind.u8.wrap (low3 a) = low3 a := wrap_in (by simp only [inR]; omega)
  have h2 := byt_cell a
  injection h2 with _ h2
  exact h1.trans h2
structure NFs where
  k : Nat
  lost : Nat
  ps : List Wy
  vp : Value
  po : List Tx
  vt : Value
  ta : List Tx
set_option maxHeartbeats 8000000 in
theorem netFair_ok (l : List NAct) (vl : Value) (w : World) (hv : RowAt w vl 5 l.length (nacells l)) (hl : l.length ≤ maxLen) (hs : ∀ a ∈ l, NActOk a) :
    Fx Try.prog 4 [vl] w (Pure w (.bool true)) := by
  have hrl : ∀ L : Heap, Rd w (ids []) L vl 5 l.length (nacells l) := fun L => .old hv (fun _ _ _ => by simp [X.ids])
  have hfew : ∀ w', Kept (ids []) w w' → Fx Try.prog 13 [vl] w' (Pure w' (.bool (fewN l))) := fun w' hk => fewN_ok vl l w' (hrl [] w' (Owns.nil _) hk) hl hs
  have hl' := hl
  simp only [maxLen] at hl'
  refine Fx.of (L0 := []) Try.func4 rfl (by kernel_rfl) Try.ntmps4 rfl (Owns.nil w) ?_
  refine XC.rdv (hrl _) fun al ml hvl _ hlm hal => ?_
  subst hvl
  refine go (k := ?_)
  refine XL.call [] [] rfl rfl rfl rfl rfl (fun _ w _ _ => new_ok 8 w (by decide) (by decide)) fun b _ => ?_
  refine go (k := ?_)
  refine XL.q (.call rfl rfl fun _ w' hs' => hfew w' hs'.kept) rfl ?_
  by_cases hfew' : fewN l = false
  · rw [hfew']
    refine go (k := ?_)
    refine XL.q (.call rfl rfl fun _ w _ => awake29_ok w) rfl ?_
    refine go (k := ?_)
    exact XE.ret1 () [] rfl rfl trivial rfl rfl rfl
  obtain ⟨hfa, hfl⟩ := fewN_spec (by simpa using hfew')
  rw [show fewN l = true by simpa using hfew']
  refine go (k := ?_)
  refine XC.addNil 9 1 ?_
  refine XC.addNil 9 1 ?_
  refine XC.loop (α := NFs) (fun x => [(0, .slice al l.length ml), (3, ptr b), (4, x.vp), (5, x.vt), (6, iv x.k)]) (fun x => [netE b (8 : Nat) x.lost x.ps, .sl x.vp 9 1 (strs x.po), .sl x.vt 9 1 (strs x.ta)])
    (fun x => x.k ≤ l.length ∧ FI x.ps x.po x.ta ∧ x.lost ≤ 5000 * x.k ∧ x.po.length ≤ 2 * x.k ∧ x.ta.length ≤ x.k) (fun x => l.length - x.k) ⟨0, 0, ps0, nil0, [], nil0, []⟩ [2, 0, 1] ⟨Nat.zero_le _, FI.zero, Nat.zero_le _, Nat.zero_le _, Nat.zero_le _⟩ ⟨rfl, rfl, rfl, rfl, rfl, trivial⟩ rfl rfl ?_
  rintro ⟨k, lost, ps, vp, po, vt, ta⟩ ⟨hk, hfi, hlo, hpl, htl⟩
  simp only at hk hfi hlo hpl htl ⊢
  by_cases hkl : k < l.length
  · obtain ⟨a, ha⟩ : ∃ a, l[k]? = some a := ⟨_, List.getElem?_eq_getElem hkl⟩
    obtain ⟨b1, o1, rfl⟩ : ∃ b off, al = some ⟨b, off, none⟩ := hal.resolve_left (by omega)
    have hcut := nacells_cut ha
    have hao := hs a (List.mem_of_getElem? ha)
    have hasl := hfa a (List.mem_of_getElem? ha)
    have haw := hao.what
    have haf := hao.frm
    have hat := hao.to
    have hafa := hao.fate
    have c0 : (nacell a)[0 + 0]? = some (.int .u8 a.what) := rfl
    have c1 : (nacell a)[0 + 1]? = some (iv a.frm) := rfl
    have c2 : (nacell a)[0 + 2]? = some (iv a.to) := rfl
    have c3 : (nacell a)[0 + 3]? = some (str a.s) := rfl
    have c4 : (nacell a)[0 + 4]? = some (iv a.fate) := rfl
    have hb1 := low3_bd a.frm
    have hb2 := low3_bd a.to
    have hwl := wcnt_le (n := 8) hfi.nw a.frm a.to
    refine go (k := ?_)
    refine XL.q (.ldRdN (j := k * 5) rfl rfl rfl rfl (hrl _) (by omega) hcut) rfl ?_
    refine go (k := ?_)
    refine XL.alloc rfl rfl rfl fun ba => ?_
    refine go (k := ?_)
    rw [byt_wrap, byt_wrap]
    refine XL.make (.bslice rfl rfl rfl rfl rfl rfl) rfl fun _ _ hb => ?_
    obtain ⟨bs, rfl, rfl⟩ := hb
    refine XL.q (.bytesStr (m := 2) (l := [byt a.frm, byt a.to]) rfl rfl rfl rfl (.blk (.head _) rfl (Nat.le_refl _) rfl)) rfl ?_
    have hend : ∀ (lost' : Nat) (ps' : List Wy) (vp' : Value) (po' : List Tx) (vt' : Value) (ta' : List Tx), FI ps' po' ta' → lost' ≤ 5000 * (k + 1) → po'.length ≤ 2 * (k + 1) → ta'.length ≤ k + 1 →
        (fun x : NFs => x.k ≤ l.length ∧ FI x.ps x.po x.ta ∧ x.lost ≤ 5000 * x.k ∧ x.po.length ≤ 2 * x.k ∧ x.ta.length ≤ x.k) ⟨k + 1, lost', ps', vp', po', vt', ta'⟩ ∧ l.length - (k + 1) < l.length - k := fun _ _ _ _ _ _ h1 h2 h3 h4 => ⟨⟨by simp only; omega, h1, h2, h3, h4⟩, by omega⟩
    have hnet : ∀ {w1 : World} {lost' : Nat} {ps' : List Wy}, Owns w1 [netE b (8 : Nat) lost' ps', .sl vp 9 1 (strs po), .sl vt 9 1 (strs ta)] → Owns w1 (netG b (8 : Nat) lost' ps') := fun h => h.grp (.head _)
    by_cases w5 : a.what % 6 = 5
    · by_cases hr : 0 ≤ a.to ∧ a.to < 8
      · obtain ⟨r, hre⟩ : ∃ r : Nat, a.to = r := ⟨a.to.toNat, by omega⟩
        have hfi' := hfi.cut (r := r) (by omega) lost
        have hlc : (ccut r (lost, ps) (wall ps 8)).1 ≤ lost + 4096 :=
          Nat.le_trans (ccut_lost r (wall ps 8) (lost, ps) hfi.nw.le (by omega) hfi.nw.len (wall_in8 (Nat.le_refl _))) (Nat.add_le_add_left (Nat.le_trans (Nat.mul_le_mul_left 64 (wall_len (ps := ps) (n := 8))) (by decide)) lost)
        have hwl' := wcnt_le (n := 8) hfi'.nw a.frm a.to
        refine go (k := ?_)
        refine XL.call [2] [1, 3, 4] rfl rfl rfl rfl rfl (fun _ w _ ho => by
          have := cut_ok b 8 r lost ps w (by decide) (Nat.le_refl _) (by omega) (by omega) hfi.nw ho
          rw [← hre] at this; exact this) fun _ _ => ?_
        refine XL.nm ?_
        refine go (k := ?_)
        refine XL.q (.call rfl rfl fun _ w hs => waits_any b 8 _ _ a.frm a.to (by decide) (by decide) hfi'.nw w (hs.own.grp (.head _))) rfl ?_
        refine go (k := ?_)
        exact XE.mid ⟨k + 1, (ccut r (lost, ps) (wall ps 8)).1, (ccut r (lost, ps) (wall ps 8)).2, vp, po, vt, ta⟩ [0, 2, 3] (hend _ _ _ _ _ _ hfi' (Nat.le_trans hlc (by omega)) (by omega) (by omega)) ⟨rfl, rfl, rfl, rfl, rfl, trivial⟩ rfl rfl
      · refine go (k := ?_)
        refine XL.q (.call rfl rfl fun _ w hs => cut_bad b (8 : Nat) _ _ _ a.to w (by decide) hr ((hs.own.grp (.tail _ (.tail _ (.head _)))).ok _ (.head _))) rfl ?_
        refine go (k := ?_)
        refine XL.q (.call rfl rfl fun _ w hs => waits_any b 8 _ _ a.frm a.to (by decide) (by decide) hfi.nw w (hs.own.grp (.tail _ (.tail _ (.head _))))) rfl ?_
        refine go (k := ?_)
        exact XE.mid ⟨k + 1, lost, ps, vp, po, vt, ta⟩ [2, 3, 4] (hend _ _ _ _ _ _ hfi (by omega) (by omega) (by omega)) ⟨rfl, rfl, rfl, rfl, rfl, trivial⟩ rfl rfl
    by_cases w34 : a.what % 6 = 3 ∨ a.what % 6 = 4
    · by_cases hw : okw 8 a.frm a.to
      · obtain ⟨f, t, hfe, hte, hf, ht, hne⟩ := okw_nat (n := 8) hw
        obtain ⟨v, hv⟩ := wl_get (ps := ps) (f := f) (t := t) (by rw [hfi.nw.len]; omega)
        have hle := hfi.nw.le f t
        have hself : ps.set (f * 8 + t) (v, wl ps f t) = ps := lset_self hv
        cases hwf : wl ps f t with
        | nil =>
          rcases w34 with w3 | w4
          all_goals
            refine go (k := ?_)
            refine XL.call [2] [1, 3, 4] rfl rfl rfl rfl rfl (fun _ w _ ho => by
              have := take_ok b f t (8 : Nat) lost ps v (wl ps f t) w (by omega) (by omega) hne (by decide) hle hv ho
              rw [hwf] at this
              rw [hfe, hte]; exact this) fun v' _ => ?_
            refine XL.nm (M := [netE b (8 : Nat) lost (ps.set (f * 8 + t) (v', [])), .blk ba (nacell a) 34, .sl vp 9 1 (strs po), .sl vt 9 1 (strs ta)]) ?_ rfl
            have hfi' : FI (ps.set (f * 8 + t) (v', [])) po ta := ⟨hfi.nw.set (by omega) (by omega) hne v' (Nat.zero_le _), fun g u hg hu x hx => by
              rw [wl_set ps (by omega) hu (by rw [hfi.nw.len]; omega)] at hx
              split at hx
              · cases hx
              · exact hfi.txt g u hg hu x hx, fun g u hg hu x => by
              rw [wl_set ps (by omega) hu (by rw [hfi.nw.len]; omega)]
              have hb := hfi.bal g u hg hu x
              split
              · rw [List.count_nil]; omega
              · exact hb, hfi.form⟩
            have hwl' := wcnt_le (n := 8) hfi'.nw a.frm a.to
            refine go (k := ?_)
            refine XL.q (.call rfl rfl fun _ w hs => waits_any b 8 _ _ a.frm a.to (by decide) (by decide) hfi'.nw w (hs.own.grp (.head _))) rfl ?_
            refine go (k := ?_)
            exact XE.mid ⟨k + 1, lost, _, vp, po, vt, ta⟩ [0, 2, 3] (hend _ _ _ _ _ _ hfi' (by omega) (by omega) (by omega)) ⟨rfl, rfl, rfl, rfl, rfl, trivial⟩ rfl rfl
        | cons y tl =>
          have hyl := hfi.txt f t (by omega) (by omega) y (by rw [hwf]; exact .head _)
          rcases w34 with w3 | w4
          all_goals
            refine go (k := ?_)
            refine XL.call [2] [1, 3, 4] rfl rfl rfl rfl rfl (fun _ w _ ho => by
              have := take_ok b f t (8 : Nat) lost ps v (wl ps f t) w (by omega) (by omega) hne (by decide) hle hv ho
              rw [hwf, if_neg (List.cons_ne_nil y tl), List.headD_cons] at this
              rw [hfe, hte]; exact this) fun v' _ => ?_
            have hfi' := hfi.take (by omega) (by omega) hne hwf v'
            have hwl' := wcnt_le (n := 8) hfi'.nw a.frm a.to
            refine XL.nm (M := [netE b (8 : Nat) lost (ps.set (f * 8 + t) (v', tl)), .blk ba (nacell a) 34, .sl vp 9 1 (strs po), .sl vt 9 1 (strs ta)]) ?_ rfl
            refine go (k := ?_)
            refine XL.make (.bslice rfl rfl rfl rfl rfl rfl) rfl fun _ _ hb => ?_
            obtain ⟨bq, rfl, rfl⟩ := hb
            have hyhd : [byt a.frm, byt a.to] ++ y = hd f t ++ y := by rw [hfe, hte, byt_nat (show f < 8 by omega), byt_nat (show t < 8 by omega)]; rfl
            rw [hyhd]
            refine XL.app (m := 1) (news := [str (hd f t ++ y)]) (L' := fun v'' => [.blk bq [str (hd f t ++ y)] 9, netE b (8 : Nat) lost (ps.set (f * 8 + t) (v', tl)), .blk ba (nacell a) 34, .sl vp 9 1 (strs po), .sl v'' 9 1 (strs ta ++ [str (hd f t ++ y)])]) rfl rfl rfl rfl rfl rfl (by decide) (.tail _ (.tail _ (.tail _ (.tail _ (.head _)))))
              (.blk (.head _) rfl (Nat.le_refl _) rfl) rfl (by simp only [strs_len, List.length_singleton]; omega) (by simp only [strs_len, List.length_singleton]; omega) (fun v'' => .there (.there (.there (.there .here)))) rfl fun v'' => ?_
            rw [show strs ta ++ [str (hd f t ++ y)] = strs (ta ++ [hd f t ++ y]) from (strs_app ta [hd f t ++ y]).symm]
            refine go (k := ?_)
            refine XL.q (.call rfl rfl fun _ w hs => waits_any b 8 _ _ a.frm a.to (by decide) (by decide) hfi'.nw w (hs.own.grp (.tail _ (.head _)))) rfl ?_
            refine go (k := ?_)
            exact XE.mid ⟨k + 1, lost, _, vp, po, v'', ta ++ [hd f t ++ y]⟩ [1, 3, 4] (hend _ _ _ _ _ _ hfi' (by omega) (by omega) (by rw [List.length_append, List.length_singleton]; omega)) ⟨rfl, rfl, rfl, rfl, rfl, trivial⟩ rfl rfl
      · rcases w34 with w3 | w4
        all_goals
          refine go (k := ?_)
          refine XL.q (.call rfl rfl fun _ w hs => take_none a.frm a.to w (ptr b) 2 (by decide) fun w' hk => at_bad' b (8 : Nat) lost ps a.frm a.to (by decide) hw w (hs.own.grp (.tail _ (.tail _ (.head _)))) w' hk) rfl ?_
          refine go (k := ?_)
          refine XL.q (.call rfl rfl fun _ w hs => waits_any b 8 _ _ a.frm a.to (by decide) (by decide) hfi.nw w (hs.own.grp (.tail _ (.tail _ (.head _))))) rfl ?_
          refine go (k := ?_)
          exact XE.mid ⟨k + 1, lost, ps, vp, po, vt, ta⟩ [2, 3, 4] (hend _ _ _ _ _ _ hfi (by omega) (by omega) (by omega)) ⟨rfl, rfl, rfl, rfl, rfl, trivial⟩ rfl rfl
    have w012 : ¬ a.what % 6 = 3 ∧ ¬ a.what % 6 = 4 := by omega
    obtain ⟨w3, w4⟩ := w012
    by_cases hw : okw 8 a.frm a.to
    · obtain ⟨f, t, hfe, hte, hf, ht, hne⟩ := okw_nat (n := 8) hw
      obtain ⟨v, hv⟩ := wl_get (ps := ps) (f := f) (t := t) (by rw [hfi.nw.len]; omega)
      have hle := hfi.nw.le f t
      by_cases hlong : 4096 < a.s.length
      · refine go (k := ?_)
        refine XL.q (.call rfl rfl fun _ w hs => by
          have := post_long b f t (8 : Nat) a.fate _ _ _ a.s w (by omega) (by omega) hne (by decide) hlong ((hs.own.grp (.tail _ (.tail _ (.head _)))).ok _ (.head _))
          rw [← hfe, ← hte] at this; exact this) rfl ?_
        refine go (k := ?_)
        exact XE.mid ⟨k + 1, lost, ps, vp, po, vt, ta⟩ [2, 3, 4] (hend _ _ _ _ _ _ hfi (by omega) (by omega) (by omega)) ⟨rfl, rfl, rfl, rfl, rfl, trivial⟩ rfl rfl
      · have ht1 : -6 < a.fate.tmod 6 := Int.lt_tmod_of_pos a.fate (by decide)
        have ht2 : a.fate.tmod 6 < 6 := Int.tmod_lt_of_pos a.fate (by decide)
        obtain ⟨fa, hfa'⟩ : ∃ fa, fa = (a.fate.tmod 6 + 6) % 6 := ⟨_, rfl⟩
        have hfa0 : 0 ≤ fa := by omega
        have hfa5 : fa ≤ 5 := by omega
        have hlw := wpost_lost fa a.s (lost, wl ps f t)
        simp only at hlw
        have hpost : ∀ v', FI (ps.set (f * 8 + t) (v', (wpost fa a.s (lost, wl ps f t)).2)) (po ++ padd fa (hd f t ++ a.s)) ta := fun v' => hfi.post (by omega) (by omega) hne hfa0 hfa5 (by omega) lost v'
        refine go (k := ?_)
        refine XL.call [2] [1, 3, 4] rfl rfl rfl rfl rfl (fun _ w _ ho => by
          have := post_ok b f t (8 : Nat) a.fate lost ps v (wl ps f t) a.s w (by omega) (by omega) hne (by decide) (by omega) hle (by omega) hv hafa ho
          rw [← hfa'] at this
          rw [hfe, hte]; exact this) fun v' _ => ?_
        have hfi' := hpost v'
        obtain ⟨lo', hlo'⟩ : ∃ lo', lo' = (wpost fa a.s (lost, wl ps f t)).1 := ⟨_, rfl⟩
        obtain ⟨ps', hps'⟩ : ∃ ps', ps' = ps.set (f * 8 + t) (v', (wpost fa a.s (lost, wl ps f t)).2) := ⟨_, rfl⟩
        refine XL.nm (M := [netE b (8 : Nat) lo' ps', .blk ba (nacell a) 34, .sl vp 9 1 (strs po), .sl vt 9 1 (strs ta)]) ?_ (by rw [hlo', hps']; rfl)
        rw [← hps'] at hfi'
        rw [← hlo'] at hlw
        clear hps' hlo' hpost hv
        have hwl' := wcnt_le (n := 8) hfi'.nw a.frm a.to
        have hyhd : [byt a.frm, byt a.to] ++ a.s = hd f t ++ a.s := by rw [hfe, hte, byt_nat (show f < 8 by omega), byt_nat (show t < 8 by omega)]; rfl
        have hcl : ([byt a.frm, byt a.to] : List UInt8).length = 2 := rfl
        by_cases hf0 : fa = 0
        · have e0 : (a.fate.tmod 6 + 6) % 6 = 0 := by omega
          have ep : po ++ padd fa (hd f t ++ a.s) = po := by rw [hf0]; exact List.append_nil _
          rw [ep] at hfi'
          refine go (k := ?_)
          refine XL.q (.call rfl rfl fun _ w hs => waits_any b 8 _ _ a.frm a.to (by decide) (by decide) hfi'.nw w (hs.own.grp (.head _))) rfl ?_
          refine go (k := ?_)
          exact XE.mid ⟨k + 1, lo', ps', vp, po, vt, ta⟩ [0, 2, 3] (hend _ _ _ _ _ _ hfi' (by omega) (by omega) (by omega)) ⟨rfl, rfl, rfl, rfl, rfl, trivial⟩ rfl rfl
        · by_cases hf25 : fa = 2 ∨ fa = 5
          · have ep : po ++ padd fa (hd f t ++ a.s) = (po ++ [hd f t ++ a.s]) ++ [hd f t ++ a.s] := by
              unfold padd kf; rw [if_neg hf0, if_pos hf25, List.append_assoc]; rfl
            rw [ep] at hfi'
            rw [hfa'] at hf25 hf0
            have e0 : 0 < (a.fate.tmod 6 + 6) % 6 := by omega
            rcases hf25 with hf2 | hf5
            all_goals
              refine go (k := ?_)
              rw [hyhd]
              refine XL.make (.bslice rfl rfl rfl rfl rfl rfl) rfl fun _ _ hb => ?_
              obtain ⟨bq, rfl, rfl⟩ := hb
              refine XL.app (m := 1) (news := [str (hd f t ++ a.s)]) (L' := fun v'' => [.blk bq [str (hd f t ++ a.s)] 9, netE b (8 : Nat) lo' ps', .blk ba (nacell a) 34, .sl v'' 9 1 (strs po ++ [str (hd f t ++ a.s)]), .sl vt 9 1 (strs ta)]) rfl rfl rfl rfl rfl rfl (by decide) (.tail _ (.tail _ (.tail _ (.head _)))) (.blk (.head _) rfl (Nat.le_refl _) rfl) rfl (by simp only [strs_len, List.length_singleton]; omega) (by simp only [strs_len, List.length_singleton]; omega) (fun v'' => .there (.there (.there .here))) rfl fun v2 => ?_
              rw [show strs po ++ [str (hd f t ++ a.s)] = strs (po ++ [hd f t ++ a.s]) from (strs_app po [hd f t ++ a.s]).symm]
              refine go (k := ?_)
              rw [hyhd]
              refine XL.make (.bslice rfl rfl rfl rfl rfl rfl) rfl fun _ _ hb => ?_
              obtain ⟨bq2, rfl, rfl⟩ := hb
              refine XL.app (m := 1) (news := [str (hd f t ++ a.s)]) (L' := fun v'' => [.blk bq2 [str (hd f t ++ a.s)] 9, .blk bq [str (hd f t ++ a.s)] 9, netE b (8 : Nat) lo' ps', .blk ba (nacell a) 34, .sl v'' 9 1 (strs (po ++ [hd f t ++ a.s]) ++ [str (hd f t ++ a.s)]), .sl vt 9 1 (strs ta)]) rfl rfl rfl rfl rfl rfl (by decide) (.tail _ (.tail _ (.tail _ (.tail _ (.head _))))) (.blk (.head _) rfl (Nat.le_refl _) rfl) rfl (by simp only [strs_len, List.length_append, List.length_singleton]; omega) (by simp only [strs_len, List.length_append, List.length_singleton]; omega) (fun v'' => .there (.there (.there (.there .here)))) rfl fun v3 => ?_
              rw [show strs (po ++ [hd f t ++ a.s]) ++ [str (hd f t ++ a.s)] = strs ((po ++ [hd f t ++ a.s]) ++ [hd f t ++ a.s]) from (strs_app (po ++ [hd f t ++ a.s]) [hd f t ++ a.s]).symm]
              refine go (k := ?_)
              refine XL.q (.call rfl rfl fun _ w hs => waits_any b 8 _ _ a.frm a.to (by decide) (by decide) hfi'.nw w (hs.own.grp (.tail _ (.tail _ (.head _))))) rfl ?_
              refine go (k := ?_)
              exact XE.mid ⟨k + 1, lo', ps', v3, (po ++ [hd f t ++ a.s]) ++ [hd f t ++ a.s], vt, ta⟩ [2, 4, 5] (hend _ _ _ _ _ _ hfi' (by omega) (by rw [List.length_append, List.length_append, List.length_singleton]; omega) (by omega)) ⟨rfl, rfl, rfl, rfl, rfl, trivial⟩ rfl rfl
          · have ep : po ++ padd fa (hd f t ++ a.s) = po ++ [hd f t ++ a.s] := by
              unfold padd kf; rw [if_neg hf0, if_neg hf25]; rfl
            rw [ep] at hfi'
            rw [hfa'] at hf25 hf0
            have e0 : 0 < (a.fate.tmod 6 + 6) % 6 := by omega
            have e2 : ¬ (a.fate.tmod 6 + 6) % 6 = 2 := by omega
            have e5 : ¬ (a.fate.tmod 6 + 6) % 6 = 5 := by omega
            refine go (k := ?_)
            rw [hyhd]
            refine XL.make (.bslice rfl rfl rfl rfl rfl rfl) rfl fun _ _ hb => ?_
            obtain ⟨bq, rfl, rfl⟩ := hb
            refine XL.app (m := 1) (news := [str (hd f t ++ a.s)]) (L' := fun v'' => [.blk bq [str (hd f t ++ a.s)] 9, netE b (8 : Nat) lo' ps', .blk ba (nacell a) 34, .sl v'' 9 1 (strs po ++ [str (hd f t ++ a.s)]), .sl vt 9 1 (strs ta)]) rfl rfl rfl rfl rfl rfl (by decide) (.tail _ (.tail _ (.tail _ (.head _)))) (.blk (.head _) rfl (Nat.le_refl _) rfl) rfl (by simp only [strs_len, List.length_singleton]; omega) (by simp only [strs_len, List.length_singleton]; omega) (fun v'' => .there (.there (.there .here))) rfl fun v2 => ?_
            rw [show strs po ++ [str (hd f t ++ a.s)] = strs (po ++ [hd f t ++ a.s]) from (strs_app po [hd f t ++ a.s]).symm]
            refine go (k := ?_)
            refine XL.q (.call rfl rfl fun _ w hs => waits_any b 8 _ _ a.frm a.to (by decide) (by decide) hfi'.nw w (hs.own.grp (.tail _ (.head _)))) rfl ?_
            refine go (k := ?_)
            exact XE.mid ⟨k + 1, lo', ps', v2, po ++ [hd f t ++ a.s], vt, ta⟩ [1, 3, 4] (hend _ _ _ _ _ _ hfi' (by omega) (by rw [List.length_append, List.length_singleton]; omega) (by omega)) ⟨rfl, rfl, rfl, rfl, rfl, trivial⟩ rfl rfl
    · refine go (k := ?_)
      refine XL.q (.call rfl rfl fun _ w hs => post_none a.frm a.to a.fate a.s w (ptr b) 2 (by decide) fun w' hk => at_bad' b (8 : Nat) lost ps a.frm a.to (by decide) hw w (hs.own.grp (.tail _ (.tail _ (.head _)))) w' hk) rfl ?_
      refine go (k := ?_)
      exact XE.mid ⟨k + 1, lost, ps, vp, po, vt, ta⟩ [2, 3, 4] (hend _ _ _ _ _ _ hfi (by omega) (by omega) (by omega)) ⟨rfl, rfl, rfl, rfl, rfl, trivial⟩ rfl rfl
  · obtain rfl : k = l.length := by omega
    have hpo : po.length ≤ 300 := by omega
    have hta : ta.length ≤ 150 := by omega
    refine XC.rdv (.sl (m := po.length) (.tail _ (.head _)) (by decide) (by simp)) fun ap mp hv1 _ _ hap => ?_
    subst hv1
    refine XC.rdv (.sl (m := ta.length) (.tail _ (.tail _ (.head _))) (by decide) (by simp)) fun aq mq hv2 _ _ haq => ?_
    subst hv2
    refine go (k := ?_)
    refine XC.loop (α := Nat) (fun i => [(4, .slice ap po.length mp), (5, .slice aq ta.length mq), (12, iv i)]) (fun _ => [.sl (.slice ap po.length mp) 9 1 (strs po), .sl (.slice aq ta.length mq) 9 1 (strs ta)]) (fun i => i ≤ ta.length) (fun i => ta.length - i) 0 [1, 2] (Nat.zero_le _) ⟨rfl, rfl, rfl, trivial⟩ rfl rfl ?_
    intro i hi
    by_cases hil : i < ta.length
    · obtain ⟨y, hy⟩ : ∃ y, ta[i]? = some y := ⟨_, List.getElem?_eq_getElem hil⟩
      obtain ⟨b3, o3, rfl⟩ : ∃ b off, aq = some ⟨b, off, none⟩ := haq.resolve_left (by omega)
      have hv3 : (strs ta)[i * 1]? = some (str y) := by simp [strs, hy]
      have hfin := hfi.fin (List.mem_of_getElem? hy)
      have hcl : ta.count y ≤ ta.length := List.count_le_length
      have hcp : po.count y ≤ po.length := List.count_le_length
      have r1 : Rd w (ids []) [.sl (.slice ap po.length mp) 9 1 (strs po), .sl (.slice (some ⟨b3, o3, none⟩) ta.length mq) 9 1 (strs ta)] (.slice (some ⟨b3, o3, none⟩) ta.length mq) 1 ta.length (strs ta) := .sl (.tail _ (.head _)) (by decide) (by simp)
      have r2 : Rd w (ids []) [.sl (.slice ap po.length mp) 9 1 (strs po), .sl (.slice (some ⟨b3, o3, none⟩) ta.length mq) 9 1 (strs ta)] (.slice ap po.length mp) 1 po.length (strs po) := .sl (.head _) (by decide) (by simp)
      refine go (k := ?_)
      refine XD.q (.ldRd (j := i * 1) rfl rfl rfl r1 (by omega) hv3) rfl ?_
      refine go (k := ?_)
      refine XD.q (.call rfl rfl fun _ w' hs => count_ok _ ta y w' (r1 w' hs.own hs.kept) (by omega)) rfl ?_
      refine go (k := ?_)
      refine XD.q (.ldRd (j := i * 1) rfl rfl rfl r1 (by omega) hv3) rfl ?_
      refine go (k := ?_)
      refine XL.q (.call rfl rfl fun _ w' hs => count_ok _ po y w' (r2 w' hs.own hs.kept) (by omega)) rfl ?_
      refine go (k := ?_)
      exact XE.mid (i + 1) [0, 1] ⟨by omega, by omega⟩ ⟨rfl, rfl, rfl, trivial⟩ rfl rfl
    · refine go (k := ?_)
      refine XL.q (.call rfl rfl fun _ w _ => awake29_ok w) rfl ?_
      refine go (k := ?_)
      exact XE.ret1 () [] rfl rfl trivial rfl rfl rfl
end Go.X
