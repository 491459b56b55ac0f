/- RegionOnce.  -/
import Derived.Test.YtmmofanfgoahkaaDoorRegO
namespace Go.X
open Go Go.Proofs Go.RowKit
/-- what an act does to a region that nothing cuts -/
def kApp (a : RAct) : Prop := a.what % 6 = 0 ∨ a.what % 6 = 3 ∨ a.what % 6 = 4
structure Once (e : Int) (all : List (List UInt8)) (x : Ln) (g g' : Rg) (x' : Ln) : Prop where
  err : e = 0 ∨ ((e = 7 ∨ e = 2) ∧ g' = g ∧ x' = x)
  acts : x'.acts ≤ x.acts + 64
  st : ∃ all' gen', RSt 64 64 256 all' gen' g' x'
  beside : SameS 64 64 x.ds x'.ds
  kept : ∀ i, 1 ≤ i → i ≤ (lps all).length → rdk x'.ds (64 + i) = rdk x.ds (64 + i)
theorem once_same {all : List (List UInt8)} {gen : Nat} {g : Rg} {x : Ln} {e : Int} (h : RSt 64 64 256 all gen g x) (he : e = 7 ∨ e = 2) : Once e all x g g x :=
  ⟨.inr ⟨he, rfl, rfl⟩, by omega, ⟨all, gen, h⟩, SameS.refl _ _ _, fun _ _ _ => rfl⟩
theorem blk_eq {all all' : List (List UInt8)} {gen gen' : Nat} {g g' : Rg} {x x' : Ln} (h : RSt 64 64 256 all gen g x) (h' : RSt 64 64 256 all' gen' g' x') (he : ∀ i, 1 ≤ i → i ≤ (lps all).length → lbk (lps all') i = lbk (lps all) i ∧ i ≤ (lps all').length) :
    ∀ i, 1 ≤ i → i ≤ (lps all).length → rdk x'.ds (64 + i) = rdk x.ds (64 + i) := fun i h1 h2 => by
  obtain ⟨s, a1, a2⟩ := h.blk h1 h2
  obtain ⟨e1, e2⟩ := he i h1 h2
  obtain ⟨s', b1, b2⟩ := h'.blk h1 e2
  rw [rdk_at a1, rdk_at b1, a2, b2, e1]
theorem once_append {all : List (List UInt8)} {gen : Nat} {g : Rg} {x : Ln} (h : RSt 64 64 256 all gen g x) (s : List UInt8) : ∃ e g' x', g.append (-1) [] s x = (e, g', x') ∧ Once e all x g g' x' := by
  by_cases hr : nd s.length + 1 + (lps all).length ≤ 64
  · obtain ⟨g', x', h1, h2, h3, h4⟩ := h.append s hr
    refine ⟨0, g', x', h1, .inl rfl, by omega, ⟨_, _, h2⟩, h4, blk_eq h h2 fun i i1 i2 => ?_⟩
    rw [lps_snoc, lbk_app i1 i2, List.length_append]
    exact ⟨rfl, by omega⟩
  · exact ⟨7, g, x, h.full s (by omega), once_same h (.inl rfl)⟩
theorem once_flush {all : List (List UInt8)} {gen : Nat} {g : Rg} {x : Ln} (h : RSt 64 64 256 all gen g x) : ∃ e g' x', g.flush (-1) [] x = (e, g', x') ∧ Once e all x g g' x' := by
  obtain ⟨x', h1, h2, h3, h4⟩ := h.flush
  exact ⟨0, g, x', h1, .inl rfl, by omega, ⟨_, _, h2⟩, h4, blk_eq h h2 fun i _ i2 => ⟨rfl, i2⟩⟩
theorem once_seal {all : List (List UInt8)} {gen : Nat} {g : Rg} {x : Ln} (h : RSt 64 64 256 all gen g x) (v : Nat) : ∃ e g' x', g.sealG (-1) [] v x = (e, g', x') ∧ Once e all x g g' x' := by
  by_cases hv : v = 0
  · refine ⟨2, g, x, ?_, once_same h (.inr rfl)⟩
    unfold Rg.sealG; rw [if_pos hv]
  · obtain ⟨x', h1, h2, h3, h4⟩ := h.sealG v hv
    exact ⟨0, g, x', h1, .inl rfl, by omega, ⟨_, _, h2⟩, h4, blk_eq h h2 fun i _ i2 => ⟨rfl, i2⟩⟩
/-- what the comparison of all blocks finds -/
structure Cmp (e : Int) (D D' : List Slot) (fl : List UInt8) (k : Nat) : Prop where
  out : k < 64 ∨ 127 < k → rdk D' k = fl
  log : 64 < k ∧ k < 128 → rdk D k = zbytes 64 ∨ rdk D' k = rdk D k
  err : e ≠ 0 → rdk D k = rdk D' k
theorem once_cmp {e : Int} {all : List (List UInt8)} {gen : Nat} {g g' : Rg} {x x' : Ln} {fl : List UInt8} (h : RSt 64 64 256 all gen g x) (ho : Once e all x g g' x') (hf : ∀ k, k < 256 → (k < 64 ∨ 127 < k) → x.ds[k]? = some ⟨fl, fl, false⟩) (k : Nat) (hk : k < 256) : Cmp e x.ds x'.ds fl k := by
  refine ⟨fun hk2 => ?_, fun hk2 => ?_, fun he => ?_⟩
  · rw [rdk_at (ho.beside.at_ k (by omega) _ (hf k hk hk2) rfl)]
  · rcases Nat.lt_or_ge (lps all).length (k - 64) with hl | hl
    · left
      obtain ⟨F, hg⟩ := h.log
      have := hg.un (k - 64) hl (by omega)
      rw [show 64 + (k - 64) = k by omega] at this
      rw [rdk_at this]; rfl
    · right
      have := ho.kept (k - 64) (by omega) hl
      rwa [show 64 + (k - 64) = k by omega] at this
  · rcases ho.err with h0 | ⟨_, _, rfl⟩
    · exact absurd h0 he
    · rfl
theorem drd_in {D : List Slot} (hl : D.length = 256) {k : Nat} (hk : k < 256) : drd D (k : Nat) = (rdk D k, 0) := by
  have h := drd_rdk (ds := D) (k := k) (by omega)
  unfold drd at h ⊢
  rw [if_neg (by omega), if_neg (by omega)] at h ⊢
  rw [← h]
theorem dread_in (b : Nat) (lv : Value) (D : List Slot) (k : Nat) (w : World) (hk : Oks D) (hl : D.length = 256) (hkl : k < 256) (ho : Owns w (devG b lv D)) : Fx Tryd.prog 15 [ptr b, iv k] w (Pure w (.tuple #[str (rdk D k), iv 0])) := by
  have := read_any b lv D k w hk (by omega) ho
  rw [drd_in hl hkl] at this; exact this
structure Pre (fl : List UInt8) (k : Nat) (ds : List Slot) : Prop where
  oks : Oks ds
  inv : DInv ds
  len : ds.length = 256
  at_ : ∀ j, j < k → ∃ s, ds[j]? = some s ∧ s.read = fl
theorem Pre.write {k : Nat} {ds : List Slot} (s : List UInt8) (hs : s.length ≤ 64) (h : Pre (padTo s) k ds) (hk : k < 256) : ∃ ds', dwr ds (k : Nat) s = (0, ds') ∧ Pre (padTo s) (k + 1) ds' := by
  have hl := h.len
  obtain ⟨x, hx⟩ : ∃ x, ds[k]? = some x := ⟨_, List.getElem?_eq_getElem (by omega)⟩
  refine ⟨ds.set k ⟨x.firm, padTo s, true⟩, ?_, h.oks.set ⟨(h.oks x (List.mem_of_getElem? hx)).1, padTo_len hs⟩, h.inv.set rfl, by rw [List.length_set]; exact hl, ?_⟩
  · unfold dwr
    rw [if_neg (by omega), if_neg (by omega), if_neg (by omega), Int.toNat_natCast, List.getD_eq_getElem?_getD, hx]; rfl
  · intro j hj
    rcases Nat.lt_or_ge j k with hjk | hjk
    · obtain ⟨s', h1, h2⟩ := h.at_ j hjk
      exact ⟨s', by rw [List.getElem?_set_ne (by omega)]; exact h1, h2⟩
    · obtain rfl : j = k := by omega
      exact ⟨_, List.getElem?_set_self (by omega), rfl⟩
theorem Pre.fmt {fl : List UInt8} {ds : List Slot} (h : Pre fl 256 ds) : ∃ D, fmt (-1) [] 64 64 ⟨0, false, ds⟩ = (0, ⟨65, false, D⟩) ∧ RSt 64 64 256 [] 0 ⟨64, 64, 0, false⟩ ⟨65, false, D⟩ ∧ ∀ k, k < 256 → (k < 64 ∨ 127 < k) → D[k]? = some ⟨fl, fl, false⟩ := by
  have hl := h.len
  obtain ⟨D, h1, h3, h4, h5⟩ := fmt_log (a := 64) (n := 64) (cut := -1) (ch := []) (x := ⟨0, false, ds⟩) rfl h.oks h.inv (by simp only; omega) (by decide) (fun j _ => by simp only; omega)
  simp only [Nat.zero_add] at h1
  refine ⟨D, h1, ⟨⟨rfl, rfl, rfl, rfl⟩, rfl, ⟨0, h3⟩, h4.trans hl⟩, fun k hk hk2 => ?_⟩
  obtain ⟨s, g1, g2⟩ := h.at_ k hk
  rw [h5 k (by omega)]
  simp only
  rw [g1, Option.map_some]
  split
  · rw [g2]
  · rename_i hf
    have := h.inv s (List.mem_of_getElem? g1) (by simpa using hf)
    obtain ⟨f, r, b⟩ := s
    simp only at g2 this hf
    simp only [Bool.not_eq_true] at hf
    rw [← this, g2, hf]
/-- both Lefts -/
theorem left_run (br bl : Nat) (g : Rg) (t : TypeId) (fz : Nat × Nat) (w : World) {u : Nat} (h1 : g.n = 64) (h2 : g.used = u) (h3 : u < 64) (hb : w.heap[br]? = some (.cells (rgCs bl g).toArray t fz)) : Fx Tryd.prog 14 [ptr br] w (Pure w (iv ((63 : Int) - u))) := by
  have := left_at br bl g t fz w ⟨by omega, by omega⟩ hb
  rw [h1, h2] at this; exact this
set_option maxHeartbeats 8000000 in
theorem regionOnce_ok (l : List RAct) (v0 : Value) (w : World) (hv : RowAt w v0 5 l.length (racells l)) (hl : l.length ≤ maxLen) (hs : ∀ a ∈ l, RActOk a) : Fx Tryd.prog 6 [v0] w (Pure w (.bool true)) := by
  have hrl : ∀ L : Heap, Rd w (ids []) L v0 5 l.length (racells l) := fun L => .old hv (fun _ _ _ => by simp [X.ids])
  have hl' := hl
  simp only [maxLen] at hl'
  obtain ⟨fl, hfl⟩ : ∃ fl, fl = padTo [97, 104, 101, 97, 100] := ⟨_, rfl⟩
  have r64 : ∀ w, Fx Tryd.prog 10 [str [0], iv (64 : Nat)] w (Pure w (str (zbytes 64))) := fun w => by
    have h := repeat_ok [0] 64 w (by decide) (by decide)
    have e := Lib.repeatL_replicate 0 1 64
    rw [show List.replicate 1 (0 : UInt8) = [0] from rfl] at e
    rw [e] at h; exact h
  have r59 : ∀ w, Fx Tryd.prog 10 [str [0], iv (59 : Nat)] w (Pure w (str (zbytes 59))) := fun w => by
    have h := repeat_ok [0] 59 w (by decide) (by decide)
    have e := Lib.repeatL_replicate 0 1 59
    rw [show List.replicate 1 (0 : UInt8) = [0] from rfl] at e
    rw [e] at h; exact h
  obtain ⟨z64, hz64⟩ : ∃ z, z = zbytes 64 := ⟨_, rfl⟩
  obtain ⟨z59, hz59⟩ : ∃ z, z = zbytes 59 := ⟨_, rfl⟩
  rw [← hz64] at r64
  rw [← hz59] at r59
  have hl59 : z59.length = 59 := by rw [hz59]; exact zbytes_len 59
  have hfz : [97, 104, 101, 97, 100] ++ z59 = fl := by rw [hfl, hz59]; rfl
  refine Fx.of (L0 := []) Tryd.func6 rfl (by kernel_rfl) Tryd.ntmps6 rfl (Owns.nil w) ?_
  refine XC.rdv (hrl _) fun ao mo hva _ _ hao => ?_
  subst hva
  refine go (k := ?_)
  refine XL.q (.call (v := .bool (fewR l)) rfl rfl fun _ w' hs' => fewR_ok _ l w' (hrl [] w' (Owns.nil _) hs'.kept) hl hs) rfl ?_
  by_cases hfew : fewR l = false
  · rw [hfew]
    refine go (k := ?_)
    refine XL.q (.call rfl rfl fun _ w _ => awake13_ok w) rfl ?_
    refine go (k := ?_)
    exact XE.ret1 () [] rfl rfl trivial rfl rfl rfl
  have hfew' : fewR l = true := by simpa using hfew
  obtain ⟨hfa, hl50⟩ := fewR_spec hfew'
  rw [hfew']
  refine go (k := ?_)
  refine XL.call [] [] rfl rfl rfl rfl rfl (fun _ w _ _ => dnew_ok 256 w (by decide) (by decide)) fun x _ => ?_
  obtain ⟨b, lv⟩ := x
  refine go (k := ?_)
  refine XC.loop (α := Nat × List Slot) (fun y => [(0, .slice ao l.length mo), (3, ptr b), (4, iv y.1)]) (fun y => [devE b lv y.2]) (fun y => y.1 ≤ 256 ∧ Pre fl y.1 y.2) (fun y => 256 - y.1) (0, List.replicate 256 slot0) [0] ⟨Nat.zero_le _, rep_ok 256, rep_inv 256, List.length_replicate, fun j hj => by omega⟩ ⟨rfl, rfl, rfl, trivial⟩ rfl rfl ?_
  rintro ⟨k, D0⟩ ⟨hk, hp⟩
  simp only at hk hp ⊢
  by_cases hk2 : k < 256
  · have hp' := hp
    rw [hfl] at hp'
    obtain ⟨D1, w1, w2⟩ := Pre.write [97, 104, 101, 97, 100] (by decide) hp' hk2
    rw [← hfl] at w2
    replace w1 := Hold.mk w1
    refine go (k := ?_)
    refine XL.call (ret := fun _ : Unit => iv 0) (L1 := fun _ => [devE b lv D1]) (φ := fun _ => True) [0] [] rfl rfl rfl rfl rfl (fun _ w _ ho => by
      have := write_any b lv D0 k [97, 104, 101, 97, 100] w hp.oks (by rw [hp.len]; decide) ho
      rw [w1.out] at this; exact this) fun _ _ => ?_
    refine go (k := ?_)
    exact XE.mid (k + 1, D1) [0] ⟨⟨by simp only; omega, w2⟩, by simp only; omega⟩ ⟨rfl, rfl, rfl, trivial⟩ rfl rfl
  obtain rfl : k = 256 := by omega
  obtain ⟨D, f1, f2, f3⟩ := hp.fmt
  replace f1 := Hold.mk f1
  have hpo := hp.oks
  have hpl := hp.len
  clear hp hfl
  refine go (k := ?_)
  refine XL.call [0] [] rfl rfl rfl rfl rfl (fun _ w1 hs ho => lnew_ok b lv D0 (-1) _ [] w1 hpo (by omega) (by decide) (fun w' hk' => rdNil w') ho) fun x _ => ?_
  obtain ⟨bl, vc⟩ := x
  refine XL.nm (M := lnX bl b lv vc (-1) [] ⟨0, false, D0⟩) ?_ rfl
  refine go (k := ?_)
  refine XL.call [0, 1, 2] [] rfl rfl rfl rfl rfl (fun _ w _ ho => format_run bl b lv vc (-1) [] ⟨0, false, D0⟩ ⟨65, false, D⟩ 64 64 256 w f1.out ⟨hpo, hpl, Nat.zero_le _⟩ (by decide) (by decide) (thr_0 (by decide) (by decide) (by decide)) (by decide) (by decide) (fun a ha => by cases ha) ho) fun br _ => ?_
  refine XL.nm (M := rgX br bl b lv vc (-1) [] ⟨64, 64, 0, false⟩ ⟨65, false, D⟩) ?_ rfl
  refine go (k := ?_)
  refine XL.q (.call rfl rfl fun _ w _ => r64 w) rfl ?_
  refine go (k := ?_)
  refine XL.q (.call rfl rfl fun _ w _ => r59 w) rfl ?_
  refine go (k := ?_)
  rw [hfz]
  refine XC.loop (α := Nat × Rg × Ln) (fun y => [(0, .slice ao l.length mo), (3, ptr b), (6, ptr br), (8, str z64), (9, str fl), (10, iv y.1)]) (fun y => rgX br bl b lv vc (-1) [] y.2.1 y.2.2) (fun y => y.1 ≤ l.length ∧ y.2.2.acts ≤ 65 + 64 * y.1 ∧ (∃ all gen, RSt 64 64 256 all gen y.2.1 y.2.2) ∧ ∀ k, k < 256 → (k < 64 ∨ 127 < k) → y.2.2.ds[k]? = some ⟨fl, fl, false⟩) (fun y => l.length - y.1) (0, ⟨64, 64, 0, false⟩, ⟨65, false, D⟩) [0, 1, 2, 3] ⟨Nat.zero_le _, Nat.le_refl _, ⟨[], 0, f2⟩, f3⟩ ⟨rfl, rfl, rfl, rfl, rfl, rfl, trivial⟩ rfl rfl ?_
  clear f1 f2 f3 hpo hpl D D0
  rintro ⟨k, g, x⟩ ⟨hk, hxa, ⟨all, gen, hst⟩, hbe⟩
  simp only at hk hxa hst hbe ⊢
  by_cases hkl : k < l.length
  · obtain ⟨a, ha⟩ : ∃ a, l[k]? = some a := ⟨_, List.getElem?_eq_getElem hkl⟩
    obtain ⟨b1, o1, rfl⟩ : ∃ b off, ao = some ⟨b, off, none⟩ := hao.resolve_left (by omega)
    obtain ⟨c0, c1, c2, _, _⟩ := racells_at ha
    obtain ⟨⟨hw1, hw2⟩, _, ⟨hg1, hg2⟩, _, _⟩ := hs a (List.mem_of_getElem? ha)
    have has := hfa a (List.mem_of_getElem? ha)
    have hxo := hst.oks
    have hxl := hst.len
    have hgn := hst.rg.n
    obtain ⟨u, hu⟩ : ∃ u, g.used = u := ⟨_, rfl⟩
    have hu64 : u < 64 := by have := (hst.reg (by decide) (by decide)).2.1; omega
    refine go (k := ?_)
    refine XL.call [] [0, 1, 2, 3] rfl rfl rfl rfl rfl (fun _ w hs _ => dcopy_ok b lv x.ds w hxo (by omega) (by omega) (hs.own.grp (.tail _ (.tail _ (.tail _ (.head _)))))) fun y _ => ?_
    obtain ⟨bc, lc⟩ := y
    refine XL.pk (M := rgX br bl b lv vc (-1) [] g x ++ [devE bc lc x.ds]) [1, 2, 3, 4, 0] (by decide) rfl ?_
    refine go (k := ?_)
    refine XL.q (.call rfl rfl fun _ w hs => left_run br bl g _ _ w hgn hu hu64 (hs.own.ok _ (.head _))) rfl ?_
    refine go (k := ?_)
    refine XL.q (.ldRd (j := k * 5) rfl rfl rfl (hrl _) (by omega) c0) rfl ?_
    have h6 : a.what % 6 = 0 ∨ a.what % 6 = 1 ∨ a.what % 6 = 2 ∨ a.what % 6 = 3 ∨ a.what % 6 = 4 ∨ a.what % 6 = 5 := by omega
    refine go1 (k := ?_)
    refine go1 (k := ?_)
    refine go1 (k := ?_)
    refine XC.via (α := Int × Rg × Ln) (fun y => [(0, .slice (some ⟨b1, o1, none⟩) l.length mo), (3, ptr b), (6, ptr br), (8, str z64), (9, str fl), (10, iv k), (11, ptr bc), (12, iv ((63 : Int) - u)), (13, iv y.1)]) (fun y => rgX br bl b lv vc (-1) [] y.2.1 y.2.2 ++ [devE bc lc x.ds]) (fun y => Once y.1 all x g y.2.1 y.2.2) ?_ ?_
    · have hli : x.acts ≤ 4000 := by omega
      have hreg := hst.reg (by decide) (by decide)
      obtain ⟨e1, g1, x1, hr1, ho1⟩ := once_append hst a.s
      obtain ⟨e2, g2, x2, hr2, ho2⟩ := once_flush hst
      obtain ⟨gn, hgn2⟩ : ∃ gn : Nat, a.gen = gn := ⟨a.gen.toNat, by omega⟩
      rw [hgn2] at c2
      obtain ⟨e3, g3, x3, hr3, ho3⟩ := once_seal hst gn
      replace hr1 := Hold.mk hr1
      replace hr2 := Hold.mk hr2
      replace hr3 := Hold.mk hr3
      rcases h6 with h6 | h6 | h6 | h6 | h6 | h6
      · refine go (k := ?_)
        refine XL.q (.ldRd (j := k * 5 + 1) rfl rfl rfl (hrl _) (by omega) c1) rfl ?_
        refine go (k := ?_)
        refine XL.call [0, 1, 2, 3] [4] rfl rfl rfl rfl rfl (fun _ w _ ho => rappend_run br bl b lv vc (-1) [] _ _ _ _ a.s e1 256 w hr1.out (hst.li (by omega)) (by decide) (by decide) (by omega) hreg (by decide) (fun a ha => by cases ha) ho) fun _ _ => ?_
        refine go (k := ?_)
        exact XE.mid (e1, g1, x1) [0, 1, 2, 3, 4] ho1 ⟨rfl, rfl, rfl, rfl, rfl, rfl, rfl, rfl, rfl, trivial⟩ rfl rfl
      · refine go (k := ?_)
        refine XL.call [0, 1, 2, 3] [4] rfl rfl rfl rfl rfl (fun _ w _ ho => rflush_run br bl b lv vc (-1) [] _ _ _ _ e2 256 w hr2.out (hst.li (by omega)) (by decide) (by decide) (fun a ha => by cases ha) ho) fun _ _ => ?_
        refine go (k := ?_)
        exact XE.mid (e2, g2, x2) [0, 1, 2, 3, 4] ho2 ⟨rfl, rfl, rfl, rfl, rfl, rfl, rfl, rfl, rfl, trivial⟩ rfl rfl
      · refine go (k := ?_)
        refine XL.q (.ldRd (j := k * 5 + 2) rfl rfl rfl (hrl _) (by omega) c2) rfl ?_
        refine go (k := ?_)
        refine XL.call [0, 1, 2, 3] [4] rfl rfl rfl rfl rfl (fun _ w _ ho => rseal_run br bl b lv vc (-1) [] _ _ _ _ e3 gn 256 w hr3.out (hst.li (by omega)) (by decide) (by decide) (by omega) (by decide) (fun a ha => by cases ha) ho) fun _ _ => ?_
        refine go (k := ?_)
        exact XE.mid (e3, g3, x3) [0, 1, 2, 3, 4] ho3 ⟨rfl, rfl, rfl, rfl, rfl, rfl, rfl, rfl, rfl, trivial⟩ rfl rfl
      · refine go (k := ?_)
        refine XL.q (.ldRd (j := k * 5 + 1) rfl rfl rfl (hrl _) (by omega) c1) rfl ?_
        refine go (k := ?_)
        refine XL.call [0, 1, 2, 3] [4] rfl rfl rfl rfl rfl (fun _ w _ ho => rappend_run br bl b lv vc (-1) [] _ _ _ _ a.s e1 256 w hr1.out (hst.li (by omega)) (by decide) (by decide) (by omega) hreg (by decide) (fun a ha => by cases ha) ho) fun _ _ => ?_
        refine go (k := ?_)
        exact XE.mid (e1, g1, x1) [0, 1, 2, 3, 4] ho1 ⟨rfl, rfl, rfl, rfl, rfl, rfl, rfl, rfl, rfl, trivial⟩ rfl rfl
      · refine go (k := ?_)
        refine XL.q (.ldRd (j := k * 5 + 1) rfl rfl rfl (hrl _) (by omega) c1) rfl ?_
        refine go (k := ?_)
        refine XL.call [0, 1, 2, 3] [4] rfl rfl rfl rfl rfl (fun _ w _ ho => rappend_run br bl b lv vc (-1) [] _ _ _ _ a.s e1 256 w hr1.out (hst.li (by omega)) (by decide) (by decide) (by omega) hreg (by decide) (fun a ha => by cases ha) ho) fun _ _ => ?_
        refine go (k := ?_)
        exact XE.mid (e1, g1, x1) [0, 1, 2, 3, 4] ho1 ⟨rfl, rfl, rfl, rfl, rfl, rfl, rfl, rfl, rfl, trivial⟩ rfl rfl
      · refine go (k := ?_)
        refine XL.q (.ldRd (j := k * 5 + 2) rfl rfl rfl (hrl _) (by omega) c2) rfl ?_
        refine go (k := ?_)
        refine XL.call [0, 1, 2, 3] [4] rfl rfl rfl rfl rfl (fun _ w _ ho => rseal_run br bl b lv vc (-1) [] _ _ _ _ e3 gn 256 w hr3.out (hst.li (by omega)) (by decide) (by decide) (by omega) (by decide) (fun a ha => by cases ha) ho) fun _ _ => ?_
        refine go (k := ?_)
        exact XE.mid (e3, g3, x3) [0, 1, 2, 3, 4] ho3 ⟨rfl, rfl, rfl, rfl, rfl, rfl, rfl, rfl, rfl, trivial⟩ rfl rfl
    rintro ⟨e, g', x'⟩ ho
    simp only at ho ⊢
    obtain ⟨all', gen', hst'⟩ := ho.st
    have hxo' := hst'.oks
    have hxl' := hst'.len
    have hcmp := once_cmp hst ho hbe
    have hbe' : ∀ k, k < 256 → (k < 64 ∨ 127 < k) → x'.ds[k]? = some ⟨fl, fl, false⟩ := fun k hk hk2 => ho.beside.at_ k (by omega) _ (hbe k hk hk2) rfl
    have hacts : x'.acts ≤ 65 + 64 * (k + 1) := by have := ho.acts; omega
    have herr : e = 0 ∨ ((e = 7 ∨ e = 2) ∧ g'.n = 64 ∧ g'.used = u) := ho.err.imp id fun h => ⟨h.1, by rw [h.2.1]; exact hgn, by rw [h.2.1]; exact hu⟩
    have hfin : k + 1 ≤ l.length ∧ x'.acts ≤ 65 + 64 * (k + 1) ∧ (∃ all gen, RSt 64 64 256 all gen g' x') ∧ ∀ k, k < 256 → (k < 64 ∨ 127 < k) → x'.ds[k]? = some ⟨fl, fl, false⟩ := ⟨by omega, hacts, ⟨all', gen', hst'⟩, hbe'⟩
    replace hfin := Hold.mk hfin
    clear ho hst hst' hbe' hacts c0 c1 c2 hw1 hw2 hg1 hg2 has h6 ha hxa hbe
    refine XC.seq ?_
    refine XC.via (α := Unit) (fun _ => [(0, .slice (some ⟨b1, o1, none⟩) l.length mo), (3, ptr b), (6, ptr br), (8, str z64), (9, str fl), (10, iv k), (11, ptr bc), (13, iv e)]) (fun _ => rgX br bl b lv vc (-1) [] g' x' ++ [devE bc lc x.ds]) (fun _ => True) ?_ fun _ _ => ?_
    · rcases herr with rfl | ⟨rfl | rfl, hgn', hu'⟩
      · refine go (k := ?_)
        exact XE.mid () [0, 1, 2, 3, 4] trivial ⟨rfl, rfl, rfl, rfl, rfl, rfl, rfl, rfl, trivial⟩ rfl rfl
      · refine go (k := ?_)
        refine XL.q (.call rfl rfl fun _ w hs => left_run br bl g' _ _ w hgn' hu' hu64 (hs.own.ok _ (.head _))) rfl ?_
        refine go (k := ?_)
        exact XE.mid () [0, 1, 2, 3, 4] trivial ⟨rfl, rfl, rfl, rfl, rfl, rfl, rfl, rfl, trivial⟩ rfl rfl
      · refine go (k := ?_)
        refine XL.q (.call rfl rfl fun _ w hs => left_run br bl g' _ _ w hgn' hu' hu64 (hs.own.ok _ (.head _))) rfl ?_
        refine go (k := ?_)
        exact XE.mid () [0, 1, 2, 3, 4] trivial ⟨rfl, rfl, rfl, rfl, rfl, rfl, rfl, rfl, trivial⟩ rfl rfl
    clear herr
    refine go (k := ?_)
    refine XC.loop (α := Nat) (fun j => [(0, .slice (some ⟨b1, o1, none⟩) l.length mo), (3, ptr b), (6, ptr br), (8, str z64), (9, str fl), (10, iv k), (11, ptr bc), (13, iv e), (14, iv j)]) (fun _ => rgX br bl b lv vc (-1) [] g' x' ++ [devE bc lc x.ds]) (fun j => j ≤ 256) (fun j => 256 - j) 0 [0, 1, 2, 3, 4] (Nat.zero_le _) ⟨rfl, rfl, rfl, rfl, rfl, rfl, rfl, rfl, rfl, trivial⟩ rfl rfl ?_
    intro (j : Nat) (hj : j ≤ 256)
    by_cases hj2 : j < 256
    · have hc := hcmp j hj2
      obtain ⟨s, hs'⟩ : ∃ s, s = rdk x.ds j := ⟨_, rfl⟩
      obtain ⟨t, ht'⟩ : ∃ t, t = rdk x'.ds j := ⟨_, rfl⟩
      have rs : ∀ w, Owns w (devG bc lc x.ds) → Fx Tryd.prog 15 [ptr bc, iv j] w (Pure w (.tuple #[str s, iv 0])) := fun w ho => by
        have := dread_in bc lc x.ds j w hxo hxl hj2 ho
        rw [← hs'] at this; exact this
      have rt : ∀ w, Owns w (devG b lv x'.ds) → Fx Tryd.prog 15 [ptr b, iv j] w (Pure w (.tuple #[str t, iv 0])) := fun w ho => by
        have := dread_in b lv x'.ds j w hxo' hxl' hj2 ho
        rw [← ht'] at this; exact this
      have hcase : (j < 64 ∧ t = fl) ∨ j = 64 ∨ (64 < j ∧ j < 128 ∧ s = z64) ∨ (64 < j ∧ j < 128 ∧ ¬ s = z64 ∧ t = s) ∨ (127 < j ∧ t = fl) := by
        rcases (by omega : j < 64 ∨ j = 64 ∨ (64 < j ∧ j < 128) ∨ 127 < j) with h | h | h | h
        · exact .inl ⟨h, by rw [ht']; exact hc.out (.inl h)⟩
        · exact .inr (.inl h)
        · by_cases hz : s = z64
          · exact .inr (.inr (.inl ⟨h.1, h.2, hz⟩))
          · refine .inr (.inr (.inr (.inl ⟨h.1, h.2, hz, ?_⟩)))
            rcases hc.log h with h3 | h3
            · exact absurd (hs'.trans (h3.trans hz64.symm)) hz
            · rw [ht', hs']; exact h3
        · exact .inr (.inr (.inr (.inr ⟨h, by rw [ht']; exact hc.out (.inr h)⟩)))
      have hE : e = 0 ∨ (¬ e = 0 ∧ s = t) := by
        by_cases h0 : e = 0
        · exact .inl h0
        · exact .inr ⟨h0, by rw [hs', ht']; exact hc.err h0⟩
      clear hc hs' ht' hcmp
      refine go (k := ?_)
      refine XL.q (.call rfl rfl fun _ w hs => rs w (hs.own.grp (.tail _ (.tail _ (.tail _ (.tail _ (.head _))))))) rfl ?_
      refine go (k := ?_)
      refine XL.q (.call rfl rfl fun _ w hs => rt w (hs.own.grp (.tail _ (.tail _ (.tail _ (.head _)))))) rfl ?_
      clear rs rt
      rcases hcase with ⟨h1, rfl⟩ | rfl | ⟨h1, h2, rfl⟩ | ⟨h1, h2, h3, rfl⟩ | ⟨h1, rfl⟩ <;> rcases hE with rfl | ⟨h0, hst⟩
      all_goals (try subst hst)
      all_goals (refine go (k := ?_))
      all_goals (exact XE.mid (_ + 1) [0, 1, 2, 3, 4] ⟨by omega, by omega⟩ ⟨rfl, rfl, rfl, rfl, rfl, rfl, rfl, rfl, rfl, trivial⟩ rfl rfl)
    · obtain rfl : j = 256 := by omega
      refine go (k := ?_)
      exact XE.mid (k + 1, g', x') [0, 1, 2, 3] ⟨hfin.out, by simp only; have := hfin.out.1; omega⟩ ⟨rfl, rfl, rfl, rfl, rfl, rfl, trivial⟩ rfl rfl
  · obtain rfl : k = l.length := by omega
    refine go (k := ?_)
    refine XL.q (.call rfl rfl fun _ w _ => awake13_ok w) rfl ?_
    refine go (k := ?_)
    exact XE.ret1 () [] rfl rfl trivial rfl rfl rfl
end Go.X
