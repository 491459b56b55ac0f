/- LineGoes: the walk. -/
import Derived.Test.YtckelpenodabdaaDevX
import Derived.Test.YtckelpenodabdaaDevN
namespace Go.X
open Go Go.Proofs Go.RowKit
/-- the part a[k:k+1] -/
theorem Quiet.cut1 {P : Program} [T : Tab P] {r : Option Nat} {w0 : World} {B : List Nat} {n : Nat} {e : Env} {ds : List Deferred} {L : Heap} {t ty el : TypeId} {x lo hi : Operand} {kk kk' : IntKind} {b off m c l s by' : Nat} {z : Value} (hx : ev e x = some (.slice (some ⟨b, off, none⟩) m c))
    (hl : ev e lo = some (.int kk (l : Int))) (hh : ev e hi = some (.int kk' ((l : Int) + 1))) (ht : T.und t = some (.slice el)) (hi' : T.inf el = some (s, by', z)) (h1 : l < c) :
    Quiet P r w0 B n ds L (.slice t x (some lo) (some hi) none) ty e (.slice (some ⟨b, off + l * s, none⟩) 1 (c - l)) := by
  have h := Quiet.cutX (P := P) (r := r) (w0 := w0) (B := B) (n := n) (ds := ds) (L := L) (ty := ty) (lo := some lo) (hi := some hi) (mx := none) (l := l) (h := l + 1) (q := c) hx (.inl ⟨lo, kk, rfl, hl⟩) (.inl ⟨hi, kk', rfl, by rw [hh]; rfl⟩) (.inr ⟨rfl, rfl⟩) ht hi' (by omega) (by omega) (Nat.le_refl _)
  unfold cutAt at h
  rw [if_neg (by omega), show l + 1 - l = 1 by omega] at h
  exact h
structure LP where
  k : Nat
  rv : Value
  x : Ln
theorem lact1_inv {cut : Int} {ch : List Int} {x : Ln} {a : LAct} {n : Nat} (h : LOk x n) (hd : DInv x.ds) : LOk (lact1 cut ch x a) (n + 1) ∧ DInv (lact1 cut ch x a).ds := by
  have hact : ∀ (e : Int) (ds' : List Slot), DInv ds' → DInv (x.act cut ch e ds').2.ds := fun e ds' h' => by
    unfold Ln.act
    split
    · exact hd
    · split
      · exact settled_inv _ (by split <;> assumption)
      · exact h'
  unfold lact1
  split
  · exact ⟨h.write _ _, hact _ _ (dwr_inv hd _ _)⟩
  · split
    · exact ⟨h.flush, hact _ _ (settled_inv _ hd)⟩
    · split
      · exact ⟨h.mono (Nat.le_succ _), hd⟩
      · split
        · unfold blown
          refine ⟨⟨?_, ?_, Nat.le_trans h.acts (Nat.le_succ _)⟩, ?_⟩
          · show Oks (if _ then _ else _); split
            · exact h.ok
            · exact settled_ok h.ok
          · show List.length (if _ then _ else _) = _; split
            · exact h.len
            · rw [settled_len]; exact h.len
          · show DInv (if _ then _ else _); split
            · exact hd
            · exact settled_inv _ hd
        · exact ⟨h.mono (Nat.le_succ _), hd⟩
set_option maxHeartbeats 4000000 in
theorem lineGoes_ok (cut : Int) (ch : List Int) (l : List LAct) (vc vl : Value) (w : World) (hc : RowAt w vc 1 ch.length (ivs ch)) (hcl : ch.length ≤ maxLen) (hcw : ∀ a ∈ ch, -9223372036854775808 ≤ a ∧ a ≤ 9223372036854775807) (hv : RowAt w vl 3 l.length (lacells l)) (hl : l.length ≤ maxLen) (hs : ∀ a ∈ l, LActOk a) :
    Fx Try.prog 9 [iv cut, vc, vl] w (Pure w (.bool true)) := by
  have hrc : ∀ L : Heap, Rd w (ids []) L vc 1 ch.length (ivs ch) := fun L => .old hc (fun _ _ _ => by simp [X.ids])
  have hrl : ∀ L : Heap, Rd w (ids []) L vl 3 l.length (lacells l) := fun L => .old hv (fun _ _ _ => by simp [X.ids])
  have hfew : ∀ w', Kept (ids []) w w' → Fx Try.prog 29 [vl] w' (Pure w' (.bool (fewL l))) := fun w' hk => fewL_ok vl l w' (hrl [] w' (Owns.nil _) hk) hl hs
  have hl' := hl
  simp only [maxLen] at hl' hcl
  refine Fx.of (L0 := []) Try.func9 rfl (by kernel_rfl) Try.ntmps9 rfl (Owns.nil w) ?_
  refine XC.rdv (hrc _) fun ac mc hvc _ _ hac => ?_
  subst hvc
  refine XC.rdv (hrl _) fun al ml hvl _ hlm hal => ?_
  subst hvl
  refine go (k := ?_)
  refine XL.q (.call rfl rfl fun _ w' hs' => hfew w' hs'.kept) rfl ?_
  by_cases hfew' : fewL l = false
  · rw [hfew']
    refine go (k := ?_)
    refine XL.q (.call rfl rfl fun _ w _ => works_ok w) rfl ?_
    refine go (k := ?_)
    exact XE.ret1 () [] rfl rfl trivial rfl rfl rfl
  obtain ⟨hfa, hfl⟩ := fewL_spec (by simpa using hfew')
  rw [show fewL l = true by simpa using hfew']
  by_cases h10 : 10 < ch.length
  · refine go (k := ?_)
    refine XL.q (.call rfl rfl fun _ w _ => works_ok w) rfl ?_
    refine go (k := ?_)
    exact XE.ret1 () [] rfl rfl trivial rfl rfl rfl
  refine go (k := ?_)
  refine XL.call [] [] rfl rfl rfl rfl rfl (fun _ w _ _ => dnew_ok 256 w (by decide) (by decide)) fun x _ => ?_
  obtain ⟨b, lv⟩ := x
  refine go (k := ?_)
  refine XL.make (.app (news := ivs ch) rfl rfl rfl rfl rfl rfl (by decide) (hrc _) (ivs_one _) (by simp; omega) (by simp; omega)) rfl fun v1 H hH => ?_
  subst hH
  refine XL.nm ?_
  refine go (k := ?_)
  refine XL.call [1] [0] rfl rfl rfl rfl rfl (fun _ w1 hs ho => lnew_ok b lv (List.replicate 256 slot0) cut v1 ch w1 (rep_ok 256) (by rw [List.length_replicate]; decide) (by omega) (fun w' hk' => (Rd.sl (L := [.sl v1 3 1 (ivs ch)]) (w0 := w1) (B := ids (devG b lv (List.replicate 256 slot0))) (m := ch.length) (.head _) (by decide) (by simp)) w' ((Owns.left (L := [.sl v1 3 1 (ivs ch)]) (M := [devE b lv (List.replicate 256 slot0)]) hs.own).of_kept hk' (fun x hx h => Owns.apart (L := [.sl v1 3 1 (ivs ch)]) (M := [devE b lv (List.replicate 256 slot0)]) hs.own x hx (by rw [ids_grp1]; exact h))) hk') ho) fun x _ => ?_
  obtain ⟨bl, lc⟩ := x
  refine XL.nm ?_
  refine go (k := ?_)
  refine XL.q (.call rfl rfl fun _ w hs => ldev_at bl b cut lc 0 false _ _ w (hs.own.ok _ (.head _))) rfl ?_
  refine go (k := ?_)
  refine XL.q (.nePS rfl rfl rfl rfl) rfl ?_
  refine XL.slv (.tail _ (.tail _ (.tail _ (.head _)))) fun ao q m hv1 hq _ => ?_
  subst hv1
  obtain rfl : q = ch.length := by simpa using hq
  refine go (k := ?_)
  refine XC.loop (α := Nat × List Int) (fun x => [(0, iv cut), (1, .slice ac ch.length mc), (2, .slice al l.length ml), (7, ptr b), (8, .slice ao ch.length m), (9, ptr bl), (10, iv x.1)])
    (fun x => [.sl (.slice ao ch.length m) 3 1 (ivs x.2), .blk bl (lnCs b cut lc 0 false) 68, .sl lc 3 1 (ivs ch), devE b lv (List.replicate 256 slot0)]) (fun x => x.1 ≤ ch.length ∧ x.2.length = ch.length) (fun x => ch.length - x.1) (0, ch) [3, 0, 1, 2] ⟨Nat.zero_le _, rfl⟩ ⟨rfl, rfl, rfl, rfl, rfl, rfl, rfl, trivial⟩ rfl rfl ?_
  rintro ⟨i, ys⟩ ⟨hi, hys⟩
  simp only at hi hys ⊢
  by_cases hic : i < ch.length
  · refine XC.openSl (m := ch.length) (.head _) (by decide) (by simp [hys]) (by omega) (fun _ _ => .here) fun b1 cs cap hv hc hcl' hct => ?_
    cases hv
    have hcsl : i < cs.length := by omega
    have hyl : (ivs ys).length = ch.length := by simp [hys]
    have sp : SplL cs (i * 1) [iv 64] (cs.set (i * 1) (iv 64)) := SplL.one _ (by omega)
    refine go (k := ?_)
    refine XE.shutSl (m := ch.length) (cap := m) (k := 1) (xs := ivs (ys.set i 64)) (b := b1) (.head _) ?_ ?_ ?_ ?_ .here ?_
    · simp [hys]
    · exact hc
    · rw [List.length_set]; omega
    · rw [show (ivs (ys.set i 64)).length = (ivs ys).length by simp, List.take_set, hct]
      simp [ivs, List.map_set]
    exact XE.mid (i + 1, ys.set i 64) [0, 1, 2, 3] ⟨⟨show i + 1 ≤ ch.length by omega, by rw [List.length_set]; exact hys⟩, show ch.length - (i + 1) < ch.length - i by omega⟩ ⟨rfl, rfl, rfl, rfl, rfl, rfl, rfl, trivial⟩ rfl rfl
  · refine go (k := ?_)
    refine XL.call [] [1, 2, 3] rfl rfl rfl rfl rfl (fun _ w _ _ => rdnew_ok 256 w (by omega)) fun x _ => ?_
    obtain ⟨bd, fv⟩ := x
    refine XL.nm ?_
    refine go (k := ?_)
    refine XL.box rfl rfl rfl fun br => ?_
    refine go (k := ?_)
    refine XC.loop (α := LP) (fun x => [(2, .slice al l.length ml), (7, ptr b), (9, ptr bl), (11, ptr br), (12, iv x.k)])
      (fun x => bothG bl b br bd lv lc fv x.rv (.slice ac ch.length mc) cut ch x.x) (fun x => x.k ≤ l.length ∧ LOk x.x x.k ∧ DInv x.x.ds) (fun x => l.length - x.k) ⟨0, .slice none 0 0, ⟨0, false, List.replicate 256 slot0⟩⟩ [2, 3, 4, 0, 1]
      ⟨Nat.zero_le _, ln0_ok, rep_inv 256⟩ ⟨rfl, rfl, rfl, rfl, rfl, trivial⟩ rfl rfl ?_
    clear ys hi hys hic
    rintro ⟨k, rv, x⟩ ⟨hk, hok, hinv⟩
    simp only at hk hok hinv ⊢
    have hd0 : x.ds.length = 256 := hok.len
    have hacts := hok.acts
    by_cases hkl : k < l.length
    · obtain ⟨a, ha⟩ : ∃ a, l[k]? = some a := ⟨_, List.getElem?_eq_getElem hkl⟩
      obtain ⟨b1, o1, rfl⟩ : ∃ b off, al = some ⟨b, off, none⟩ := hal.resolve_left (by omega)
      have hcut := cells3 ha
      have hla := hs a (List.mem_of_getElem? ha)
      refine go (k := ?_)
      refine XD.q (.ldRdN (j := k * 3) rfl rfl rfl rfl (hrl _) (by omega) hcut) rfl ?_
      refine go (k := ?_)
      refine XD.toR (by decide +kernel) (by decide +kernel) (by decide +kernel) ?_
      refine XR.seq (by decide +kernel) ?_
      have hw1 := hla.what
      have hw2 := hla.at_
      refine XL.call [0, 1, 2, 3, 4] [] rfl rfl rfl rfl rfl (fun _ w1 hs' ho => lone_ok bl b br bd lv lc fv rv (.slice ac ch.length mc) cut ch x a hok.ok hinv (by omega) (by omega) (by omega) hw1 hw2 (by omega) hcw w1 (fun w' hk' => hrc [] w' (Owns.nil _) (hs'.keptTo hk' (fun q hq => hq))) ho) fun rv' _ => ?_
      obtain ⟨hok', hinv'⟩ := lact1_inv (cut := cut) (ch := ch) (a := a) hok hinv
      obtain ⟨y, hy⟩ : ∃ y, y = lact1 cut ch x a := ⟨_, rfl⟩
      rw [← hy] at hok' hinv' ⊢
      have hyl : y.ds.length = 256 := hok'.len
      refine XL.nm ?_
      refine XL.nil (XE.toRk 7 rfl (by decide +kernel) ?_)
      refine XD.run (C := none) (L := bothG bl b br bd lv lc fv rv' (.slice ac ch.length mc) cut ch y) ?_
      have hdd : (!(y.down == y.down)) = false := by simp
      refine go (k := ?_)
      refine XD.qY rfl rfl rfl (.call rfl rfl fun _ w hs => down_at bl b cut lc y.acts y.down _ _ w (hs.own.ok _ (.head _))) rfl ?_
      refine go (k := ?_)
      refine XD.qY rfl rfl hdd (.call rfl rfl fun _ w hs => acts_at bl b cut lc y.acts y.down _ _ w (hs.own.ok _ (.head _))) rfl ?_
      refine go (k := ?_)
      refine XD.qY rfl rfl (by simp) (.cut1 rfl rfl rfl rfl rfl (by omega)) rfl ?_
      refine go (k := ?_)
      refine XL.q (.call rfl rfl fun _ w1 hs' => lalike_ok b bd lv fv rv' _ y.ds [a] w1 hok'.ok hinv' (by omega) (by omega) (show 1 ≤ 1000000 by decide) ((hrl [] w1 (Owns.nil _) hs'.kept).at3 ha (by omega)) (hs'.own.pick (is := [2, 4]) (by decide))) rfl ?_
      refine go (k := ?_)
      exact XE.mid ⟨k + 1, rv', y⟩ [0, 1, 2, 3, 4] ⟨⟨show k + 1 ≤ l.length by omega, hok', hinv'⟩, show l.length - (k + 1) < l.length - k by omega⟩ ⟨rfl, rfl, rfl, rfl, rfl, trivial⟩ rfl rfl
    · refine go (k := ?_)
      refine XL.q (.call rfl rfl fun _ w1 hs' => lalike_ok b bd lv fv rv _ x.ds l w1 hok.ok hinv (by omega) (by omega) (by omega) (hrl [] w1 (Owns.nil _) hs'.kept) (hs'.own.pick (is := [2, 4]) (by decide))) rfl ?_
      refine go (k := ?_)
      refine XL.q (.call rfl rfl fun _ w _ => works_ok w) rfl ?_
      refine go (k := ?_)
      exact XE.ret1 () [] rfl rfl trivial rfl rfl rfl
end Go.X
