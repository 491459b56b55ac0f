/- Package wal: plain law: a Format that is cut. -/
import Derived.Test.YtmmofanfgoahkaaGreatDoorZ29
import Derived.Test.YtmmofanfgoahkaaGreatDoorZ20
namespace Go.X
open Go Go.Proofs
/-- noughts are being written over a region; its first block -/
structure Zh (a n : Nat) (d0 ds : List Slot) : Prop where
  oks : Oks ds
  inv : DInv ds
  out : Out a n d0 ds
  hd : ∃ s s0, ds[a]? = some s ∧ d0[a]? = some s0 ∧ (s = s0 ∨ s = ⟨s0.firm, zbytes 64, true⟩ ∨ s = slot0)
section
variable {a n : Nat} {d0 ds : List Slot} {cut : Int} {ch : List Int}
theorem Zh.init (hk : Oks d0) (hi : DInv d0) (hl : a < d0.length) : Zh a n d0 d0 := ⟨hk, hi, .refl _ _ _, _, _, List.getElem?_eq_getElem hl, List.getElem?_eq_getElem hl, .inl rfl⟩
theorem Zh.write (h : Zh a n d0 ds) {k : Nat} (hk : k < n) (hl : a + n ≤ d0.length) (h0 : k = 0 → ∃ s s0, ds[a]? = some s ∧ d0[a]? = some s0 ∧ s = s0) : ∃ ds', dwr ds ((a + k : Nat) : Int) [] = (0, ds') ∧ Zh a n d0 ds' := by
  obtain ⟨x, hx, hw⟩ := dwr_nil (show a + k < ds.length by rw [h.out.len]; omega)
  have hlt : a + k < ds.length := by rw [h.out.len]; omega
  refine ⟨_, hw, h.oks.set ⟨(h.oks x (List.mem_of_getElem? hx)).1, zbytes_len 64⟩, h.inv.set rfl, ⟨by rw [List.length_set]; exact h.out.len, fun j hj => by rw [List.getElem?_set_ne (by omega)]; exact h.out.at_ j hj⟩, ?_⟩
  by_cases hk0 : k = 0
  · subst hk0
    obtain ⟨s, s0, h1, h2, rfl⟩ := h0 rfl
    rw [Nat.add_zero] at hx hlt ⊢
    have : x = s := by rw [hx] at h1; exact Option.some.inj h1
    subst this
    exact ⟨_, _, List.getElem?_set_self hlt, h2, .inr (.inl rfl)⟩
  · obtain ⟨s, s0, h1, h2, h3⟩ := h.hd
    exact ⟨s, s0, by rw [List.getElem?_set_ne (by omega)]; exact h1, h2, h3⟩
theorem Zh.crash (h : Zh a n d0 ds) (hs : Still d0) (hk0 : Oks d0) (hi0 : DInv d0) (F : Nat → Nat) : Oks (settled F ds) ∧ DInv (settled F ds) ∧ Still (settled F ds) ∧ Out a n d0 (settled F ds) ∧ ∃ c, c ≤ 64 ∧ rdk (settled F ds) a = mix c (zbytes 64) (rdk d0 a) := by
  refine ⟨settled_ok h.oks, settled_inv _ h.inv, settled_still _ _, h.out.settled hs F, ?_⟩
  obtain ⟨s, s0, h1, h2, h3⟩ := h.hd
  have hm := List.mem_of_getElem? h2
  have hf := hs s0 hm
  have he := hi0 s0 hm hf
  rw [rdk_at h2, rdk_at (settled_at_some h1)]
  rcases h3 with rfl | rfl | rfl
  · rw [if_neg (by rw [hf]; decide)]
    exact ⟨0, by omega, rfl⟩
  · simp only [if_true]
    refine ⟨min (F (nF ds a)) 64, Nat.min_le_right _ _, ?_⟩
    rw [torn_mix, ← he]
  · exact ⟨64, by omega, (mix_full (zbytes_len 64) (hk0 s0 hm).2).symm⟩
theorem Zh.flushed (h : Zh a n d0 ds) (hs : Still d0) : Zh a n d0 (settled F64 ds) := by
  refine ⟨settled_ok h.oks, settled_inv _ h.inv, h.out.settled hs _, ?_⟩
  obtain ⟨s, s0, h1, h2, h3⟩ := h.hd
  have hm := List.mem_of_getElem? h2
  have hf := hs s0 hm
  refine ⟨_, s0, settled_at_some h1, h2, ?_⟩
  rcases h3 with rfl | rfl | rfl
  · rw [if_neg (by rw [hf]; decide)]; exact .inl rfl
  · simp only [if_true]
    rw [torn_64 (h.oks _ (List.mem_of_getElem? h1))]
    exact .inr (.inr rfl)
  · exact .inr (.inr rfl)
theorem zh_wr {j : Nat} (h : Zh a n d0 ds) (hj : j < n) (hl : a + n ≤ d0.length) (h0 : j = 0 → ds = d0) : ∃ ds', dwr ds ((a + j : Nat) : Int) [] = (0, ds') ∧ Zh a n d0 ds' :=
  h.write hj hl fun hj0 => by
    obtain ⟨s, s0, h1, h2, _⟩ := h.hd
    have h3 := h0 hj0
    subst h3
    exact ⟨s, s0, h1, h2, by rw [h1] at h2; exact Option.some.inj h2⟩
theorem fmt_wcut (hl : a + n ≤ d0.length) : ∀ (j k : Nat) (x : Ln), k + j < n → x.down = false → Zh a n d0 x.ds → (k = 0 → x.ds = d0) → ((x.acts + j : Nat) : Int) = cut →
    ∃ x' ds', wrs cut ch ((fmtl a n).drop k) x = (8, x') ∧ x'.down = true ∧ x'.acts = x.acts + j + 1 ∧ x'.ds = settled (Fc ch) ds' ∧ Zh a n d0 ds'
  | j, k, x, hk, hd, h, h0, hc => by
    obtain ⟨hl2, he⟩ := List.getElem?_eq_some_iff.1 (fmtl_at (a : Int) (show k < n by omega))
    rw [List.drop_eq_getElem_cons hl2, he]
    obtain ⟨d1, w1, w2⟩ := zh_wr h (show k < n by omega) hl h0
    have hwr : x.write cut ch ((a : Int) + (k : Int)) [] = x.act cut ch 0 d1 := by
      unfold Ln.write
      rw [show (a : Int) + (k : Int) = ((a + k : Nat) : Int) by omega, w1]
    simp only [wrs]
    cases j with
    | zero =>
      rw [hwr, act_cut hd (by simpa using hc), if_pos (by simp)]
      by_cases ho : oddc ch = true
      · exact ⟨_, d1, rfl, rfl, rfl, by simp only [if_pos ho], w2⟩
      · exact ⟨_, x.ds, rfl, rfl, rfl, by simp only [if_neg ho], h⟩
    | succ j =>
      rw [hwr, act_run hd (by omega), if_neg (by simp)]
      obtain ⟨x', ds', g1, g2, g3, g4, g5⟩ := fmt_wcut hl j (k + 1) ⟨x.acts + 1, false, d1⟩ (by omega) rfl w2 (fun h => by omega) (by simp only; rw [← hc]; omega)
      exact ⟨x', ds', g1, g2, by rw [g3]; simp only; omega, g4, g5⟩
theorem fmt_wrun (hl : a + n ≤ d0.length) : ∀ (m k : Nat) (x : Ln), k + m = n → x.down = false → Zh a n d0 x.ds → (k = 0 → x.ds = d0) → (∀ j : Nat, j < m → ((x.acts + j : Nat) : Int) ≠ cut) →
    ∃ ds', wrs cut ch ((fmtl a n).drop k) x = (0, ⟨x.acts + m, false, ds'⟩) ∧ Zh a n d0 ds'
  | 0, k, x, hk, hd, h, _, _ => by
    rw [List.drop_of_length_le (by rw [fmtl_len]; omega)]
    obtain ⟨acts, down, ds⟩ := x
    simp only at hd h
    subst hd
    exact ⟨ds, rfl, h⟩
  | m + 1, k, x, hk, hd, h, h0, hc => by
    obtain ⟨hl2, he⟩ := List.getElem?_eq_some_iff.1 (fmtl_at (a : Int) (show k < n by omega))
    rw [List.drop_eq_getElem_cons hl2, he]
    obtain ⟨d1, w1, w2⟩ := zh_wr h (show k < n by omega) hl h0
    have hwr : x.write cut ch ((a : Int) + (k : Int)) [] = x.act cut ch 0 d1 := by
      unfold Ln.write
      rw [show (a : Int) + (k : Int) = ((a + k : Nat) : Int) by omega, w1]
    simp only [wrs]
    rw [hwr, act_run hd (hc 0 (by omega)), if_neg (by simp)]
    obtain ⟨ds', g1, g2⟩ := fmt_wrun hl m (k + 1) ⟨x.acts + 1, false, d1⟩ (by omega) rfl w2 (fun h => by omega) (fun j hj => by have := hc (j + 1) (by omega); simp only; rwa [show x.acts + 1 + j = x.acts + (j + 1) by omega])
    exact ⟨ds', by rw [g1]; simp only; rw [show x.acts + 1 + m = x.acts + (m + 1) by omega], g2⟩
/-- a Format that is cut -/
theorem fmt_cut {x : Ln} (hd : x.down = false) (hk : Oks x.ds) (hi : DInv x.ds) (hs : Still x.ds) (hl : a + n ≤ x.ds.length) (hn : 0 < n) {j : Nat} (hj : j ≤ n) (hc : ((x.acts + j : Nat) : Int) = cut) :
    ∃ x', fmt cut ch a n x = (8, x') ∧ x'.down = true ∧ x'.acts ≤ x.acts + n + 1 ∧ Oks x'.ds ∧ DInv x'.ds ∧ Still x'.ds ∧ Out a n x.ds x'.ds ∧ ∃ c, c ≤ 64 ∧ rdk x'.ds a = mix c (zbytes 64) (rdk x.ds a) := by
  have h0 : Zh a n x.ds x.ds := .init hk hi (by omega)
  unfold fmt
  rcases Nat.lt_or_ge j n with hlt | hge
  · obtain ⟨x', ds', g1, g2, g3, g4, g5⟩ := fmt_wcut (ch := ch) hl j 0 x (by omega) hd h0 (fun _ => rfl) hc
    rw [List.drop_zero] at g1
    rw [g1, if_pos (by simp)]
    exact ⟨x', rfl, g2, by omega, by rw [g4]; exact g5.crash hs hk hi _⟩
  · obtain rfl : j = n := by omega
    obtain ⟨ds', g1, g2⟩ := fmt_wrun (cut := cut) (ch := ch) hl j 0 x (by omega) hd h0 (fun _ => rfl) (fun i hi => by omega)
    rw [List.drop_zero] at g1
    rw [g1, if_neg (by simp)]
    unfold Ln.flush
    rw [act_cut rfl (by simpa using hc)]
    refine ⟨_, rfl, rfl, by simp, ?_⟩
    simp only
    split
    · exact (g2.flushed hs).crash hs hk hi _
    · exact g2.crash hs hk hi _
end
end Go.X
/- Package wal: plain law: Checkpoint, Commit, whole and cut. -/
namespace Go.X
open Go Go.Proofs
section
variable {cut : Int} {ch : List Int}
theorem act_still {x x' : Ln} {ds' : List Slot} (h : x.act cut ch 0 ds' = (0, x')) : x'.ds = ds' := by
  unfold Ln.act at h
  split at h
  · cases h
  · split at h
    · cases h
    · cases h; rfl
theorem flush_still {g g' : Rg} {x x' : Ln} (h : g.flush cut ch x = (0, g', x')) : Still x'.ds := by
  unfold Rg.flush at h
  split at h
  · cases h
  · obtain ⟨r, hr⟩ : ∃ r, r = x.flush cut ch := ⟨_, rfl⟩
    rw [← hr] at h
    obtain ⟨e, y⟩ := r
    simp only [Prod.mk.injEq] at h
    obtain ⟨rfl, _, rfl⟩ := h
    have := act_still hr.symm
    rw [this]; exact settled_still _ _
theorem seal_still {g g' : Rg} {x x' : Ln} {v : Nat} (h : g.sealG cut ch v x = (0, g', x')) : Still x'.ds := by
  unfold Rg.sealG at h
  split at h
  · cases h
  · split at h
    · cases h
    · split at h
      · rename_i h1
        simp only [Prod.mk.injEq] at h
        exact absurd h.1 h1
      · exact flush_still h
theorem out_sameS {a n : Nat} {d0 d1 : List Slot} (h : Out a n d0 d1) : SameS a n d0 d1 := ⟨h.len, fun k hk _ hs _ => (h.at_ k hk).trans hs⟩
theorem lps_one (s : List UInt8) : lps [s] = gps s := by simp [lps]
variable {n m at_ gen : Nat} {all : List (List UInt8)}
/-- the same region was worked in -/
theorem WS.same {ds d1 : List Slot} {all' : List (List UInt8)} (h : WS n m at_ gen all ds) (ho : Out (at_ * n) n ds d1) (hk : Oks d1) (hi : DInv d1) (hs : Still d1) (hd : rdk d1 (at_ * n) = hblk gen) (ha : rgrp d1 (at_ * n) n = all') : WS n m at_ gen all' d1 := by
  obtain ⟨h1, h2, h3⟩ := h.bnd
  have hn := h.hn
  refine ⟨hk, hi, ho.len.trans h.len, hs, h.two, h.hn, h.g0, hd, ha, ?_⟩
  rw [ho.rdk (by omega)]; exact h.low
theorem cut_parts {a n : Nat} {ps : List Pc} {F : Nat} {H : Nat → Nat → Prop} {d0 dx : List Slot} {x : Ln} (h : CutAt a n ps F H ch dx x) (hs : Still d0) (h0 : SameS a n d0 dx) (hn : n ≤ 256) :
    Oks x.ds ∧ DInv x.ds ∧ Still x.ds ∧ Out a n d0 x.ds ∧ ∃ F' p o c, F ≤ F' ∧ F' ≤ ps.length ∧ H p o ∧ c ≤ 64 ∧ Torn a n ps F' x.ds ∧ rdk x.ds a = mix c (hblk p) (hblk o) := by
  obtain ⟨_, W, p, o, F', ds', h1, h2, h3, h4, h5⟩ := h
  obtain ⟨t1, c, t2, t3⟩ := h2.crash hn (Fc ch)
  rw [h1]
  exact ⟨settled_ok h2.oks, settled_inv _ h2.inv, settled_still _ _, (Out.same hs (h0.trans h5)).settled hs _, F', p, o, c, h4, Nat.le_trans h2.fw h2.wps, h3, t2, t1, t3⟩
theorem WS.commit {x : Ln} {g : Rg} (h : WS n m at_ gen all x.ds) (hd : x.down = false) (hg : RgOk (at_ * n) n (lps all) g) (hl : LG (at_ * n) n (lps all) (lps all).length (lps all).length gen gen x.ds) (s : List UInt8) (hr : nd s.length + 1 + (lps all).length ≤ n) :
    (∃ g' x', fr (cmSteps cut ch s) (g, x) = (0, g', x') ∧ x'.acts = x.acts + nd s.length + 1 ∧ x'.down = false ∧ WS n m at_ gen (all ++ [s]) x'.ds ∧ RgOk (at_ * n) n (lps (all ++ [s])) g' ∧ LG (at_ * n) n (lps (all ++ [s])) (lps (all ++ [s])).length (lps (all ++ [s])).length gen gen x'.ds) ∨
    ((x.acts : Int) ≤ cut ∧ ∃ g' x', fr (cmSteps cut ch s) (g, x) = (8, g', x') ∧ x'.acts ≤ x.acts + nd s.length + 1 ∧ x'.down = true ∧ (WS n m at_ gen all x'.ds ∨ WS n m at_ gen (all ++ [s]) x'.ds)) := by
  have hn := h.hn
  have hg0 := h.g0
  -- behind a cut
  have key : ∀ {F : Nat} {H : Nat → Nat → Prop} {dx : List Slot} {x' : Ln}, CutAt (at_ * n) n (lps all ++ gps s) F H ch dx x' → SameS (at_ * n) n x.ds dx → (lps all).length ≤ F → (∀ p o, H p o → p = gen ∧ o = gen) → WS n m at_ gen all x'.ds ∨ WS n m at_ gen (all ++ [s]) x'.ds := by
    intro F H dx x' hc h0 hF hH
    obtain ⟨k1, k2, k3, k4, F', p, o, c, f1, f2, f3, f4, f5, f6⟩ := cut_parts hc h.still h0 hn.2.2
    obtain ⟨rfl, rfl⟩ := hH p o f3
    rw [mix_same] at f6
    rw [← lps_snoc] at f5
    obtain ⟨_, r, r1, r2, r3⟩ := f5.tell (by omega) hn.1
    have hr := r3 all.length (by simp) (by rw [List.take_left']; exact Nat.le_trans hF f1; rfl)
    rw [List.length_append, List.length_singleton] at r1
    rcases Nat.lt_or_ge all.length r with hlt | hge
    · obtain rfl : r = all.length + 1 := by omega
      right
      refine h.same k4 k1 k2 k3 f6 ?_
      unfold rgrp
      rw [r2, List.take_of_length_le (by simp)]
    · obtain rfl : r = all.length := by omega
      left
      refine h.same k4 k1 k2 k3 f6 ?_
      unfold rgrp
      rw [r2, List.take_left']
      rfl
  rcases append_log (cut := cut) (ch := ch) s hg hd hl with ⟨h1, _⟩ | ⟨_, d1, a1, a2, a3, _⟩ | ⟨_, ⟨j, j1, j2⟩, x', a1, a2, a3⟩
  · omega
  · rcases flush_log (cut := cut) (ch := ch) (g := { g with used := (lps all).length + nd s.length }) (x := ⟨x.acts + nd s.length, false, d1⟩) hg.ok rfl a2 with ⟨f1, d2, f2, f3, f4⟩ | ⟨f1, x', f2, f3, f4⟩
    · left
      refine ⟨{ g with used := (lps all).length + nd s.length }, ⟨x.acts + nd s.length + 1, false, d2⟩, ?_, rfl, rfl, ?_, ⟨hg.at_, hg.n, by rw [lps_snoc, List.length_append, gps_len], hg.ok⟩, by rw [lps_snoc]; exact f3⟩
      · simp only [fr, a1, f2, ne_eq, not_true_eq_false, if_false]
      · have ho : Out (at_ * n) n x.ds d2 := Out.same h.still (a3.trans f4)
        have ht := LG.tells (all := all ++ [s]) (by rw [lps_snoc]; exact f3) (by omega) hn.1 (by omega)
        exact h.same ho f3.oks f3.inv (flush_still f2) f3.asIs.2 ht.2
    · right
      refine ⟨by simp only at f1; omega, { { g with used := (lps all).length + nd s.length } with broken := true }, x', ?_, by simp only at f3; omega, f4.down, key f4 a3 (Nat.le_refl _) (fun p o hp => ⟨hp.1, by rcases hp.2 with h | h <;> exact h⟩)⟩
      simp only [fr, a1, f2, ne_eq, not_true_eq_false, if_false]
      simp
  · right
    refine ⟨by omega, { g with broken := true }, x', ?_, by omega, a3.down, key a3 (.refl _ _ _) (Nat.le_refl _) (fun p o hp => hp)⟩
    simp only [fr, a1]
    simp
theorem fr3 (f1 f2 f3 : Rg × Ln → Int × Rg × Ln) (p : Rg × Ln) : fr [f1, f2, f3] p = if (f1 p).1 ≠ 0 then f1 p else if (f2 (f1 p).2).1 ≠ 0 then f2 (f1 p).2 else if (f3 (f2 (f1 p).2).2).1 ≠ 0 then f3 (f2 (f1 p).2).2 else (0, (f3 (f2 (f1 p).2).2).2) := rfl
theorem WS.anew {x : Ln} (h : WS n m at_ gen all x.ds) (hd : x.down = false) (hg : gen + 1 < 256) (s : List UInt8) (hr : nd s.length + 1 ≤ n) :
    (∃ g' x', anewR cut ch ((1 - at_) * n : Nat) n (gen + 1) s x = (0, some g', x') ∧ x'.acts = x.acts + (n + nd s.length + 4) ∧ x'.down = false ∧ WS n m (1 - at_) (gen + 1) [s] x'.ds ∧ RgOk ((1 - at_) * n) n (lps [s]) g' ∧ LG ((1 - at_) * n) n (lps [s]) (lps [s]).length (lps [s]).length (gen + 1) (gen + 1) x'.ds) ∨
    ((x.acts : Int) ≤ cut ∧ ∃ x', anewR cut ch ((1 - at_) * n : Nat) n (gen + 1) s x = (8, none, x') ∧ x'.acts ≤ x.acts + (n + nd s.length + 4) ∧ x'.down = true ∧ (WS n m at_ gen all x'.ds ∨ WS n m (1 - at_) (gen + 1) [s] x'.ds)) := by
  have hn := h.hn
  have hg0 := h.g0
  obtain ⟨b1, b2, b3⟩ := h.bnd
  have hlen := h.len
  obtain ⟨a, ha⟩ : ∃ a, a = (1 - at_) * n := ⟨_, rfl⟩
  have hkeep := fun d1 => h.keep (d1 := d1)
  have hturn := fun d1 => h.turn (d1 := d1) (all' := [s])
  rw [← ha] at hkeep hturn b2 ⊢
  clear b3
  by_cases hf : ∃ j : Nat, j ≤ n ∧ ((x.acts + j : Nat) : Int) = cut
  · obtain ⟨j, hj, hc⟩ := hf
    obtain ⟨x', g1, g2, g3, g4, g5, g6, g7, c, g8, g9⟩ := fmt_cut (ch := ch) (a := a) hd h.oks h.inv h.still (by omega) (by omega) hj hc
    right
    refine ⟨by omega, x', anewR_err g1 (by decide), by omega, g2, .inl (hkeep x'.ds g7 g4 g5 g6 ?_)⟩
    rw [g9]
    have := h.low
    rw [← ha] at this
    exact this.mixZ g8
  · obtain ⟨d1, f1, f2, f3, f4⟩ := fmt_log (a := a) (n := n) (cut := cut) (ch := ch) hd h.oks h.inv (by omega) hn.1 (fun j hj hc => hf ⟨j, hj, hc⟩)
    have o1 : SameS a n x.ds d1 := ⟨f3, fun k hk t ht hfr => by rw [f4 k hk, ht]; simp [hfr]⟩
    rw [anewR_run f1]
    have hrg : RgOk a n [] ⟨a, n, 0, false⟩ := ⟨rfl, rfl, rfl, rfl⟩
    have gp : ([] : List Pc) ++ gps s = lps [s] := by rw [lps_one]; rfl
    have gl : (lps [s]).length = nd s.length := by rw [lps_one, gps_len]
    -- behind a cut ahead of Seal
    have key : ∀ {F : Nat} {H : Nat → Nat → Prop} {dx : List Slot} {x' : Ln}, CutAt a n (lps [s]) F H ch dx x' → SameS a n x.ds dx → (∀ p o, H p o → p = 0 ∧ o = 0) → WS n m at_ gen all x'.ds := by
      intro F H dx x' hc h0 hH
      obtain ⟨k1, k2, k3, k4, F', p, o, c, q1, q2, q3, q4, q5, q6⟩ := cut_parts hc h.still h0 hn.2.2
      obtain ⟨rfl, rfl⟩ := hH p o q3
      rw [mix_same, hblk_zero] at q6
      exact hkeep x'.ds k4 k1 k2 k3 (by rw [q6]; exact .zero)
    rcases append_log (cut := cut) (ch := ch) (x := ⟨x.acts + n + 1, false, d1⟩) s hrg rfl f2 with ⟨h1, _⟩ | ⟨_, d2, a1, a2, a3, _⟩ | ⟨_, ⟨j, j1, j2⟩, x', a1, a2, a3⟩
    · simp at h1; omega
    · rw [gp] at a2
      rcases flush_log (cut := cut) (ch := ch) (g := ⟨a, n, 0 + nd s.length, false⟩) (x := ⟨x.acts + n + 1 + nd s.length, false, d2⟩) rfl rfl a2 with ⟨e1, d3, e2, e3, e4⟩ | ⟨e1, x', e2, e3, e4⟩
      · rcases seal_log (a := a) (n := n) (cut := cut) (ch := ch) (g := ⟨a, n, 0 + nd s.length, false⟩) (x := ⟨x.acts + n + 1 + nd s.length + 1, false, d3⟩) (gen + 1) (by omega) ⟨rfl, rfl, by rw [gl]; simp, rfl⟩ rfl e3 with ⟨i1, i2, d4, i3, i4, i5⟩ | ⟨i1, x', i2, i3, i4⟩
        · left
          refine ⟨⟨a, n, 0 + nd s.length, false⟩, ⟨x.acts + n + 1 + nd s.length + 1 + 2, false, d4⟩, ?_, by simp only; omega, rfl, ?_, ⟨rfl, rfl, by rw [gl]; simp, rfl⟩, i4⟩
          · rw [show fr (anSteps cut ch (gen + 1) s) (⟨a, n, 0, false⟩, ⟨x.acts + n + 1, false, d1⟩) = (0, ⟨a, n, 0 + nd s.length, false⟩, ⟨x.acts + n + 1 + nd s.length + 1 + 2, false, d4⟩) from by
              rw [fr3]
              simp only [List.length_nil] at a1
              rw [a1, if_neg (by simp), e2, if_neg (by simp), i3, if_neg (by simp)]]
            rw [if_neg (by simp)]
          · have ho : Out a n x.ds d4 := Out.same h.still (o1.trans (a3.trans (e4.trans i5)))
            have ht := LG.tells (all := [s]) i4 (by omega) hn.1 (by omega)
            exact hturn d4 ho i4.oks i4.inv (seal_still i3) hg i4.asIs.2 ht.2
        · right
          refine ⟨by simp only at i1; omega, x', ?_, by simp only at i3; omega, i4.down, ?_⟩
          · rw [show fr (anSteps cut ch (gen + 1) s) (⟨a, n, 0, false⟩, ⟨x.acts + n + 1, false, d1⟩) = (8, _, x') from by
              rw [fr3]
              simp only [List.length_nil] at a1
              rw [a1, if_neg (by simp), e2, if_neg (by simp), i2, if_pos (by simp)]]
            rw [if_pos (by simp)]
          · obtain ⟨k1, k2, k3, k4, F', p, o, c, q1, q2, q3, q4, q5, q6⟩ := cut_parts i4 h.still (o1.trans (a3.trans e4)) hn.2.2
            have full : rdk x'.ds a = hblk (gen + 1) → WS n m (1 - at_) (gen + 1) [s] x'.ds := fun hh => by
              obtain rfl : F' = (lps [s]).length := by omega
              exact hturn x'.ds k4 k1 k2 k3 hg hh (q5.tellAll (by omega) hn.1).2
            rcases q3 with ⟨rfl, rfl⟩ | ⟨rfl, rfl | rfl⟩
            · rw [mix_same, hblk_zero] at q6
              exact .inl (hkeep x'.ds k4 k1 k2 k3 (by rw [q6]; exact .zero))
            · rcases seal_mix hg q4 with hh | hh
              · rw [hh] at q6; exact .inr (full q6)
              · exact .inl (hkeep x'.ds k4 k1 k2 k3 (by rw [q6]; exact hh gen))
            · rw [mix_same] at q6; exact .inr (full q6)
      · right
        refine ⟨by simp only at e1; omega, x', ?_, by simp only at e3; omega, e4.down, .inl (key e4 (o1.trans a3) (fun p o hp => ⟨hp.1, by rcases hp.2 with h | h <;> exact h⟩))⟩
        rw [show fr (anSteps cut ch (gen + 1) s) (⟨a, n, 0, false⟩, ⟨x.acts + n + 1, false, d1⟩) = (8, _, x') from by
          rw [fr3]
          simp only [List.length_nil] at a1
          rw [a1, if_neg (by simp), e2, if_pos (by simp)]]
        rw [if_pos (by simp)]
    · right
      rw [gp] at a3
      refine ⟨by simp only at j2; omega, x', ?_, by simp only at a2; omega, a3.down, .inl (key a3 o1 (fun p o hp => hp))⟩
      rw [show fr (anSteps cut ch (gen + 1) s) (⟨a, n, 0, false⟩, ⟨x.acts + n + 1, false, d1⟩) = (8, _, x') from by
        rw [fr3, a1, if_pos (by simp)]]
      rw [if_pos (by simp)]
end
end Go.X
/- Package wal: plain law: Make; a log in use. -/
namespace Go.X
open Go Go.Proofs
theorem fmt_still {cut : Int} {ch : List Int} {a : Int} {n : Nat} {x x' : Ln} (h : fmt cut ch a n x = (0, x')) : Still x'.ds := by
  unfold fmt at h
  split at h
  · rename_i h1; rw [h] at h1; exact absurd rfl h1
  · unfold Ln.flush at h
    rw [act_still h]
    exact settled_still _ _
theorem WS.make {n m : Nat} (hn : 2 ≤ n ∧ 2 * n ≤ m ∧ n ≤ 256) (s : List UInt8) (hr : nd s.length + 1 ≤ n) :
    ∃ g x1 x2, fmt (-1) [] n n ⟨0, false, List.replicate m slot0⟩ = (0, x1) ∧ anewR (-1) [] 0 n 1 s x1 = (0, some g, x2) ∧ x2.acts = 2 * n + nd s.length + 5 ∧ x2.down = false ∧ WS n m 0 1 [s] x2.ds ∧ RgOk (0 * n) n (lps [s]) g ∧ LG (0 * n) n (lps [s]) (lps [s]).length (lps [s]).length 1 1 x2.ds := by
  obtain ⟨D1, f1, f2, f3⟩ := fmt_free (a := n) (n := n) (m := m) hn.1 (by omega)
  have s1 : Still D1 := fmt_still f1
  obtain ⟨D2, g1, g2, g3, g4⟩ := fmt_log (a := 0) (n := n) (cut := -1) (ch := []) (x := ⟨n + 1, false, D1⟩) rfl f2.oks f2.inv (by simp only; omega) hn.1 (fun j _ => by simp only; omega)
  simp only at g1 g3 g4
  have s2 : Still D2 := fmt_still g1
  have o2 : Out 0 n D1 D2 := ⟨g3, fun k hk => by
    rw [g4 k hk]
    cases hx : D1[k]? with
    | none => rfl
    | some t => simp only [Option.map_some]; rw [if_neg (by rw [s1 t (List.mem_of_getElem? hx)]; decide)]⟩
  have gl : (lps [s]).length = nd s.length := by rw [lps_one, gps_len]
  have gp : ([] : List Pc) ++ gps s = lps [s] := by rw [lps_one]; rfl
  obtain ⟨D3, a1, a2, a3⟩ := append_free (a := 0) (n := n) (g := ⟨0, n, 0, false⟩) (x := ⟨n + 1 + n + 1, false, D2⟩) s ⟨rfl, rfl, rfl, rfl⟩ rfl g2 (by simp; omega)
  rw [gp] at a2
  obtain ⟨D4, e1, e2, e3⟩ := flush_free (a := 0) (n := n) (g := ⟨0, n, 0 + nd s.length, false⟩) (x := ⟨n + 1 + n + 1 + nd s.length, false, D3⟩) rfl rfl a2
  obtain ⟨D5, i1, i2, i3⟩ := seal_free (a := 0) (n := n) (g := ⟨0, n, 0 + nd s.length, false⟩) (x := ⟨n + 1 + n + 1 + nd s.length + 1, false, D4⟩) 1 (by decide) ⟨rfl, rfl, by rw [gl]; simp, rfl⟩ rfl e2
  refine ⟨⟨0, n, 0 + nd s.length, false⟩, ⟨n + 1, false, D1⟩, ⟨n + 1 + n + 1 + nd s.length + 1 + 2, false, D5⟩, f1, ?_, by simp only; omega, rfl, ?_, ⟨by simp, rfl, by rw [gl]; simp, rfl⟩, by rw [Nat.zero_mul]; exact i2⟩
  · rw [anewR_run g1, show fr (anSteps (-1) [] 1 s) (⟨0, n, 0, false⟩, ⟨n + 1 + n + 1, false, D2⟩) = (0, ⟨0, n, 0 + nd s.length, false⟩, ⟨n + 1 + n + 1 + nd s.length + 1 + 2, false, D5⟩) from by
      rw [fr3]
      simp only [List.length_nil] at a1
      rw [a1, if_neg (by simp), e1, if_neg (by simp), i1, if_neg (by simp)]]
    rw [if_neg (by simp)]
  · have ho : Out 0 n D1 D5 := o2.trans (Out.same s2 (a3.trans (e3.trans i3)))
    have ht := LG.tells (all := [s]) i2 (by omega) hn.1 (by decide)
    refine ⟨i2.oks, i2.inv, ho.len.trans f3, seal_still i1, .inl rfl, hn, ⟨by decide, by decide⟩, by rw [Nat.zero_mul]; exact i2.asIs.2, by rw [Nat.zero_mul]; exact ht.2, ?_⟩
    have : (1 - 0) * n = n := by omega
    rw [this, ho.rdk (by omega), f2.asIs.2, hblk_zero]
    exact .zero
end Go.X
/- Package wal: a log in use: what Checkpoint and Commit do. -/
namespace Go.X
open Go Go.Proofs
theorem nd_fit {k n : Nat} (hn : 2 ≤ n) : nd k + 1 ≤ n ↔ k ≤ 58 * (n - 1) := by unfold nd; split <;> omega
/-- what the region's record says, and what stands on the device -/
def WG (n at_ gen : Nat) (all : List (List UInt8)) (g : Rg) (x : Ln) : Prop := RgOk (at_ * n) n (lps all) g ∧ LG (at_ * n) n (lps all) (lps all).length (lps all).length gen gen x.ds
/-- a log in use (live: it may be committed to) -/
structure WR (n m at_ gen : Nat) (all : List (List UInt8)) (live : Bool) (y : Wa) (x : Ln) : Prop where
  ws : WS n m at_ gen all x.ds
  up : x.down = false
  yn : y.n = n
  ya : y.at_ = at_
  yg : y.gen = gen
  yb : y.broken = false
  r : if live = true then ∃ br g, y.r = some (br, g) ∧ WG n at_ gen all g x else y.r = none
section
variable {n m at_ gen : Nat} {all : List (List UInt8)} {live : Bool} {y : Wa} {x : Ln} {cut : Int} {ch : List Int}
theorem WR.ld (h : WR n m at_ gen all live y x) {k : Nat} (hk : x.acts ≤ k) : LD m k x := ⟨⟨h.ws.oks, h.ws.len, hk⟩, h.ws.inv⟩
theorem WR.hr (h : WR n m at_ gen all live y x) : ∀ br g, y.r = some (br, g) → RgB g := by
  intro br g hg
  have h1 := h.r
  have hn := h.ws.hn
  have hb := h.ws.bnd
  split at h1
  · obtain ⟨b', g', e, h2, h3⟩ := h1
    rw [hg] at e
    cases e
    have := h3.room
    have hlen := h.ws.len
    refine ⟨by rw [h2.n]; omega, by rw [h2.used, h2.n]; exact this, ?_⟩
    rw [h2.at_]
    rcases hb.2.2 with h | h <;> omega
  · rw [h1] at hg; cases hg
theorem WR.cp (h : WR n m at_ gen all live y x) (hg : gen + 1 < 256) (s : List UInt8) (hs : s.length ≤ 58 * (n - 1)) :
    (y.cpe cut ch s x = 0 ∧ ∀ br, WR n m (1 - at_) (gen + 1) [s] true (y.cp cut ch s x br).2.1 (y.cp cut ch s x br).2.2 ∧ (y.cp cut ch s x br).2.2.acts ≤ x.acts + (n + nd s.length + 4)) ∨
    ((x.acts : Int) ≤ cut ∧ y.cpe cut ch s x = 8 ∧ ∃ x', (∀ br, (y.cp cut ch s x br).2.2 = x') ∧ x'.acts ≤ x.acts + (n + nd s.length + 4) ∧ x'.down = true ∧ (WS n m at_ gen all x'.ds ∨ WS n m (1 - at_) (gen + 1) [s] x'.ds)) := by
  have hn := h.ws.hn
  have e0 : ¬ 58 * (n - 1) < s.length := by omega
  have hb : ¬ y.broken = true := by rw [h.yb]; decide
  unfold Wa.cpe Wa.cp
  simp only [if_neg hb, h.yn, h.ya, h.yg, if_neg e0]
  rcases h.ws.anew (cut := cut) (ch := ch) h.up hg s ((nd_fit hn.1).2 hs) with ⟨g', x', h1, h2, h3, h4, h5, h6⟩ | ⟨h1, x', h2, h3, h4, h5⟩
  · left
    rw [h1]
    refine ⟨rfl, fun br => ⟨⟨h4, h3, h.yn, rfl, rfl, rfl, ?_⟩, by simp only; omega⟩⟩
    rw [if_pos rfl]
    exact ⟨br, g', rfl, h5, h6⟩
  · right
    rw [h2]
    exact ⟨h1, rfl, x', fun _ => rfl, h3, h4, h5⟩
theorem WR.fits (h : WR n m at_ gen all true y x) (k : Nat) : y.fits k = decide (nd k + 1 + (lps all).length ≤ n) := by
  have h1 := h.r
  rw [if_pos rfl] at h1
  obtain ⟨br, g, e, h2, h3⟩ := h1
  unfold Wa.fits
  rw [e]
  simp only [h2.n, h2.used]
  have := h3.room
  exact decide_eq_decide.2 (by omega)
theorem WR.commit (h : WR n m at_ gen all true y x) (s : List UInt8) (hs : nd s.length + 1 + (lps all).length ≤ n) :
    ((y.commit cut ch s x).1 = 0 ∧ WR n m at_ gen (all ++ [s]) true (y.commit cut ch s x).2.1 (y.commit cut ch s x).2.2 ∧ (y.commit cut ch s x).2.2.acts ≤ x.acts + (nd s.length + 1)) ∨
    ((x.acts : Int) ≤ cut ∧ (y.commit cut ch s x).1 = 8 ∧ (y.commit cut ch s x).2.2.acts ≤ x.acts + (nd s.length + 1) ∧ (y.commit cut ch s x).2.2.down = true ∧ (WS n m at_ gen all (y.commit cut ch s x).2.2.ds ∨ WS n m at_ gen (all ++ [s]) (y.commit cut ch s x).2.2.ds)) := by
  have hf := h.fits s.length
  have h1 := h.r
  rw [if_pos rfl] at h1
  obtain ⟨br, g, e, h2, h3⟩ := h1
  unfold Wa.commit
  rw [e]
  simp only
  rw [if_neg (by rw [hf]; simpa using hs)]
  rcases h.ws.commit (cut := cut) (ch := ch) h.up h2 h3 s hs with ⟨g', x', k1, k2, k3, k4, k5, k6⟩ | ⟨k0, g', x', k1, k2, k3, k4⟩
  · left
    rw [k1]
    refine ⟨rfl, ⟨k4, k3, h.yn, h.ya, h.yg, h.yb, ?_⟩, by simp only [ne_eq, not_true_eq_false, if_false]; omega⟩
    rw [if_pos rfl]
    exact ⟨br, g', rfl, k5, k6⟩
  · right
    rw [k1, if_pos (by simp)]
    exact ⟨k0, rfl, by simp only; omega, k3, k4⟩
theorem WR.full (h : WR n m at_ gen all true y x) (s : List UInt8) (hs : n < nd s.length + 1 + (lps all).length) : y.commit cut ch s x = (7, y, x) := by
  have hf := h.fits s.length
  have h1 := h.r
  rw [if_pos rfl] at h1
  obtain ⟨br, g, e, h2, h3⟩ := h1
  unfold Wa.commit
  rw [e]
  simp only
  rw [if_pos (by rw [hf]; simpa using hs)]
end
end Go.X
/- Package wal: contracts over a line that nothing cuts; revertlaw14.works. -/
namespace Go.X
open Go Go.Proofs Go.RowKit
section
variable {n m at_ gen : Nat} {all : List (List UInt8)} {live : Bool} {y : Wa} {x : Ln}
theorem make_free {n m : Nat} (h4 : m / 4 = n) (hn : 2 ≤ n ∧ 2 * n ≤ m ∧ n ≤ 256) (s : List UInt8) (hs : s.length ≤ 58 * (n - 1)) :
    ∃ (g : Rg) (x2 : Ln), (∀ bq, WR n m 0 1 [s] true ⟨n, 0, 1, some (bq, g), false⟩ x2) ∧ x2.acts = 2 * n + nd s.length + 5 ∧ ∀ (bl b : Nat) (lv vc : Value) (w : World), Owns w (lnX bl b lv vc (-1) [] ⟨0, false, List.replicate m slot0⟩) →
      Fx Tryz.prog 24 [ptr bl, str s] w (Ret w (lnX bl b lv vc (-1) [] ⟨0, false, List.replicate m slot0⟩) (fun y : Nat × Nat => .tuple #[ptr y.1, iv 0]) (fun y => waX y.1 bl b lv vc (-1) [] ⟨n, 0, 1, some (y.2, g), false⟩ x2) (fun _ => True)) := by
  obtain ⟨g, x1, x2, h1, h2, h3, h5, h6, h7, h8⟩ := WS.make hn s ((nd_fit hn.1).2 hs)
  refine ⟨g, x2, fun bq => ⟨h6, h5, rfl, rfl, rfl, rfl, ?_⟩, h3, fun bl b lv vc w ho => ?_⟩
  · rw [if_pos rfl]; exact ⟨bq, g, rfl, h7, h8⟩
  · exact make_run bl b lv vc (-1) [] _ x1 x2 s g n m 0 w ⟨⟨rep_ok m, List.length_replicate, Nat.le_refl _⟩, rep_inv m⟩ (by omega) (by omega) h4 hn.1 hs (by omega) h1 h2 (by decide) (fun a ha => by cases ha) ho
theorem commit_free (h : WR n m at_ gen all true y x) (s : List UInt8) (hs : nd s.length + 1 + (lps all).length ≤ n) (ha : x.acts ≤ 40000) (hm : m ≤ 40000) :
    ∃ (y' : Wa) (x' : Ln), WR n m at_ gen (all ++ [s]) true y' x' ∧ x'.acts ≤ x.acts + (nd s.length + 1) ∧ ∀ (bw bl b : Nat) (lv vc : Value) (w : World), Owns w (waX bw bl b lv vc (-1) [] y x) →
      Fx Tryz.prog 32 [ptr bw, str s] w (Ret w (waX bw bl b lv vc (-1) [] y x) (fun _ : Unit => iv 0) (fun _ => waX bw bl b lv vc (-1) [] y' x') (fun _ => True)) := by
  have hn := h.ws.hn
  rcases h.commit (cut := -1) (ch := []) s hs with ⟨h1, h2, h3⟩ | ⟨h1, _⟩
  · refine ⟨_, _, h2, h3, fun bw bl b lv vc w ho => ?_⟩
    have := commit_ok bw bl b lv vc (-1) [] y x s m x.acts w (h.ld (Nat.le_refl _)) (by omega) (by omega) (by omega) h.hr (by unfold nd at hs; split at hs <;> omega) (by decide) (fun a ha => by cases ha) ho
    rw [h1] at this
    exact this
  · omega
theorem cp_free (h : WR n m at_ gen all live y x) (hg : gen + 1 < 256) (s : List UInt8) (hs : s.length ≤ 58 * (n - 1)) (ha : x.acts ≤ 40000) (hm : m ≤ 40000) :
    ∃ (f : Nat → Wa) (x' : Ln), (∀ br, WR n m (1 - at_) (gen + 1) [s] true (f br) x') ∧ x'.acts ≤ x.acts + (n + nd s.length + 4) ∧ ∀ (bw bl b : Nat) (lv vc : Value) (w : World), Owns w (waX bw bl b lv vc (-1) [] y x) →
      Fx Tryz.prog 34 [ptr bw, str s] w (Ret w (waX bw bl b lv vc (-1) [] y x) (fun _ : Nat => iv 0) (fun br => waX bw bl b lv vc (-1) [] (f br) x') (fun _ => True)) := by
  have hn := h.ws.hn
  have hb : ¬ y.broken = true := by rw [h.yb]; decide
  have e0 : ¬ 58 * (y.n - 1) < s.length := by rw [h.yn]; omega
  have hx : ∀ br, (y.cp (-1) [] s x br).2.2 = (y.cp (-1) [] s x 0).2.2 := fun br => by unfold Wa.cp; simp only [if_neg hb, if_neg e0]
  rcases h.cp (cut := -1) (ch := []) hg s hs with ⟨h1, h2⟩ | ⟨h1, _⟩
  · refine ⟨fun br => (y.cp (-1) [] s x br).2.1, (y.cp (-1) [] s x 0).2.2, fun br => by rw [← hx br]; exact (h2 br).1, (h2 0).2, fun bw bl b lv vc w ho => ?_⟩
    have := checkpoint_ok bw bl b lv vc (-1) [] y x s m x.acts w (h.ld (Nat.le_refl _)) (by omega) (by omega) (by omega) (by rw [h.yn]; omega) (by rw [h.ya]; exact h.ws.two) (by rw [h.yg]; omega) (by omega) (by decide) (fun a ha => by cases ha) ho
    rw [h1] at this
    simp only [hx] at this
    exact this
  · omega
end
end Go.X
/- revertlaw14.works. -/
namespace Go.X
open Go Go.Proofs Go.RowKit
theorem tells_ws {n m at_ gen : Nat} {all : List (List UInt8)} {ds : List Slot} (h : WS n m at_ gen all ds) (h4 : m / 4 = n) (hm : m ≤ 40000) (b : Nat) (lv : Value) (u : Value) (w : World) (hu : ∀ w', Kept (ids [devE b lv ds]) w w' → RowAt w' u 1 all.length (gstrs all)) (ho : Owns w [devE b lv ds]) :
    Fx Tryz.prog 29 [ptr b, .int .u32 gen, u] w (Ret w [devE b lv ds] (fun _ : Unit => .bool true) (fun _ => [devE b lv ds]) (fun _ => True)) := by
  obtain ⟨h1, h2, h3⟩ := h.tells
  exact tells14_ok b lv ds n m gen all u w h.oks h.inv h.len hm h4 h.hn.1 h2 (by have := h.g0; omega) h3 hu ho
/-- a list in a block beside what a call takes -/
theorem row_beside {w1 : World} {bs : Nat} {cs : List Value} {t : TypeId} {D : Heap} (h : Owns w1 ([.blk bs cs t] ++ D)) : ∀ w', Kept (ids D) w1 w' → RowAt w' (.slice (some ⟨bs, 0, none⟩) cs.length cs.length) 1 cs.length cs := by
  intro w' hk'
  have hb : w1.heap[bs]? = some (.cells cs.toArray t (0, 0)) := h.left.ok _ (.head _)
  have hn : bs ∉ ids D := fun hd => h.apart bs (by simp [X.ids, Ent.ids]) hd
  exact ⟨_, _, rfl, by omega, Nat.le_refl _, .inr ⟨bs, 0, cs, t, _, rfl, (hk'.same bs (Array.getElem?_eq_some_iff.1 hb).1 hn).trans hb, by rw [cut_some (by omega)]; simp⟩⟩
set_option maxHeartbeats 2000000 in
theorem works14_ok (w : World) : Fx Tryz.prog 25 [] w (Pure w (.bool true)) := by
  obtain ⟨g, x2, p2, q2, c2⟩ := make_free (n := 64) (m := 256) (by decide) (by decide) [97, 98] (by decide)
  have hw2 := p2 0
  have n2 : nd [97, 98].length = 1 := by decide
  refine Fx.of (L0 := []) Tryz.func25 rfl (by kernel_rfl) Tryz.ntmps25 rfl (Owns.nil w) ?_
  refine go (k := ?_)
  refine XL.call [] [] rfl rfl rfl rfl rfl (fun _ w _ _ => dnew_ok 256 w (by decide) (by decide)) fun x _ => ?_
  obtain ⟨b, lv⟩ := x
  refine go (k := ?_)
  refine XL.call [0] [] rfl rfl rfl rfl rfl (fun _ w1 hs ho => lnew_ok b lv (List.replicate 256 slot0) (-1) _ [] w1 (rep_ok 256) (by rw [List.length_replicate]; decide) (by decide) (fun w' hk' => rdNil w') ho) fun x _ => ?_
  obtain ⟨bl, vc⟩ := x
  refine XL.nm (M := lnX bl b lv vc (-1) [] ⟨0, false, List.replicate 256 slot0⟩) ?_ rfl
  refine go (k := ?_)
  refine XL.call [0, 1, 2] [] rfl rfl rfl rfl rfl (fun _ w1 _ ho => c2 bl b lv vc w1 ho) fun x _ => ?_
  obtain ⟨bw, bq⟩ := x
  obtain ⟨y3, x3, p3, q3, c3⟩ := commit_free (p2 bq) [99, 100] (by decide) (by omega) (by decide)
  have n3 : nd [99, 100].length = 1 := by decide
  obtain ⟨y4, x4, p4, q4, c4⟩ := commit_free p3 [] (by decide) (by omega) (by decide)
  refine XL.nm (M := waX bw bl b lv vc (-1) [] ⟨64, 0, 1, some (bq, g), false⟩ x2) ?_ rfl
  refine go (k := ?_)
  refine XL.q (.call rfl rfl fun _ w hs => wgen_at bw bl ⟨64, 0, 1, some (bq, g), false⟩ _ _ w (hs.own.ok _ (.head _))) rfl ?_
  refine go (k := ?_)
  refine XL.q (.call rfl rfl fun _ w hs => wroom_at bw bl ⟨64, 0, 1, some (bq, g), false⟩ _ _ w ⟨by show 1 ≤ 64; decide, by show 64 ≤ 1000000; decide⟩ (hs.own.ok _ (.head _))) rfl ?_
  refine go (k := ?_)
  refine XL.call [0, 1, 2, 3, 4] [] rfl rfl rfl rfl rfl (fun _ w1 _ ho => c3 bw bl b lv vc w1 ho) fun _ _ => ?_
  refine XL.nm (M := waX bw bl b lv vc (-1) [] y3 x3) ?_ rfl
  refine go (k := ?_)
  refine XL.call [0, 1, 2, 3, 4] [] rfl rfl rfl rfl rfl (fun _ w1 _ ho => c4 bw bl b lv vc w1 ho) fun _ _ => ?_
  refine XL.nm (M := waX bw bl b lv vc (-1) [] y4 x4) ?_ rfl
  refine go (k := ?_)
  refine XL.make (.bslice rfl rfl rfl rfl rfl rfl) rfl fun _ _ hb => ?_
  obtain ⟨bs, rfl, rfl⟩ := hb
  refine XL.nm (M := [.blk bs [str [97, 98], str [99, 100], str []] 9] ++ waX bw bl b lv vc (-1) [] y4 x4) ?_ rfl
  refine XL.guardY rfl rfl rfl ?_
  refine XL.call [5] [0] rfl rfl rfl rfl rfl (fun _ w1 hs ho => tells_ws p4.ws (by decide) (by decide) b lv _ w1 (fun w' hk' => ?_) ho) fun _ _ => ?_
  · exact row_beside (cs := [str [97, 98], str [99, 100], str []]) (t := 9) (D := [devE b lv x4.ds]) (hs.own.pick (is := [0, 5]) (by decide)) w' hk'
  refine go (k := ?_)
  exact XE.ret1 () [] rfl rfl trivial rfl rfl rfl
end Go.X
