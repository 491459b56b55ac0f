/- Package region: plain law: a log over a line: Append, Flush, Seal, and the cut. -/
import Derived.Test.YtmmofanfgoahkaaGreatDoorZ18
namespace Go.X
open Go Go.Proofs
theorem padTo_64 {s : List UInt8} (h : s.length = 64) : padTo s = s := by unfold padTo; simp [h, zbytes]
theorem torn_mix (F : Nat → Nat) (i : Nat) (s : Slot) : torn F i s = mix (min (F i) 64) s.read s.firm := rfl
theorem torn_64 {s : Slot} (h : s.ok) (i : Nat) : torn F64 i s = s.read := by rw [torn_mix]; exact mix_full h.2 h.1
theorem settled_at_some {F : Nat → Nat} {ds : List Slot} {i : Nat} {s : Slot} (h : ds[i]? = some s) : (settled F ds)[i]? = some (if s.fresh = true then ⟨torn F (nF ds i) s, torn F (nF ds i) s, false⟩ else s) := by rw [settled_at, h]; rfl
/-- blocks beside a stretch that have no fresh bytes stay -/
structure SameS (a n : Nat) (ds ds' : List Slot) : Prop where
  len : ds'.length = ds.length
  at_ : ∀ k, (k < a ∨ a + n ≤ k) → ∀ s, ds[k]? = some s → s.fresh = false → ds'[k]? = some s
theorem SameS.refl (a n : Nat) (ds : List Slot) : SameS a n ds ds := ⟨rfl, fun _ _ _ h _ => h⟩
theorem SameS.trans {a n : Nat} {d1 d2 d3 : List Slot} (h : SameS a n d1 d2) (k : SameS a n d2 d3) : SameS a n d1 d3 := ⟨k.len.trans h.len, fun i hi s hs hf => k.at_ i hi s (h.at_ i hi s hs hf) hf⟩
theorem SameS.settled (F : Nat → Nat) (a n : Nat) (ds : List Slot) : SameS a n ds (settled F ds) := ⟨settled_len F ds, fun k _ s hs hf => by
  rw [settled_at_some hs, if_neg (by rw [hf]; decide)]⟩
theorem SameS.set {a n k : Nat} (h : a ≤ k ∧ k < a + n) (ds : List Slot) (x : Slot) : SameS a n ds (ds.set k x) := ⟨List.length_set, fun i hi s hs _ => by
  rw [List.getElem?_set_ne (by omega)]; exact hs⟩
structure LG (a n : Nat) (ps : List Pc) (W F gen old : Nat) (ds : List Slot) : Prop where
  oks : Oks ds
  inv : DInv ds
  len : a + n ≤ ds.length
  hd : ∃ s, ds[a]? = some s ∧ s.read = hblk gen ∧ (s.fresh = true → s.firm = hblk old)
  wr : ∀ i, 1 ≤ i → i ≤ W → ∃ s, ds[a + i]? = some s ∧ s.read = lbk ps i ∧ (s.fresh = true → F < i ∧ s.firm = zbytes 64)
  un : ∀ i, W < i → i < n → ds[a + i]? = some slot0
  wps : W ≤ ps.length
  fw : F ≤ W
  room : ps.length < n
  pok : ∀ p ∈ ps, POk p
theorem dwr_in {ds : List Slot} {k : Nat} {s : List UInt8} {x : Slot} (hx : ds[k]? = some x) (hs : s.length = 64) : dwr ds (k : Nat) s = (0, ds.set k ⟨x.firm, s, true⟩) := by
  have hlt := (List.getElem?_eq_some_iff.1 hx).1
  unfold dwr
  rw [if_neg (by omega), if_neg (by omega), if_neg (by omega), Int.toNat_natCast, List.getD_eq_getElem?_getD, hx, padTo_64 hs]; rfl
theorem DInv.set {ds : List Slot} (h : DInv ds) {k : Nat} {x : Slot} (hx : x.fresh = true) : DInv (ds.set k x) := fun s hs hf => by
  rcases List.mem_or_eq_of_mem_set hs with hs | rfl
  · exact h s hs hf
  · rw [hx] at hf; cases hf
section
variable {a n : Nat} {ps : List Pc} {W F gen old : Nat} {ds : List Slot}
theorem LG.ext (h : LG a n ps W F gen old ds) {qs : List Pc} (hq : ∀ p ∈ qs, POk p) (hl : (ps ++ qs).length < n) : LG a n (ps ++ qs) W F gen old ds where
  oks := h.oks
  inv := h.inv
  len := h.len
  hd := h.hd
  wr := fun i h1 h2 => by
    obtain ⟨s, g1, g2, g3⟩ := h.wr i h1 h2
    exact ⟨s, g1, by rw [g2, lbk_app h1 (by have := h.wps; omega)], g3⟩
  un := h.un
  wps := by have := h.wps; rw [List.length_append]; omega
  fw := h.fw
  room := hl
  pok := fun p hp => (List.mem_append.1 hp).elim (h.pok p) (hq p)
theorem LG.write (h : LG a n ps W F gen old ds) (hW : W < ps.length) : ∃ ds', dwr ds ((a + (W + 1) : Nat) : Int) (lbk ps (W + 1)) = (0, ds') ∧ LG a n ps (W + 1) F gen old ds' ∧ SameS a n ds ds' := by
  have hroom := h.room
  have hlen := h.len
  have hu := h.un (W + 1) (by omega) (by omega)
  have hl := lbk_len h.pok (W + 1)
  have hlt := (List.getElem?_eq_some_iff.1 hu).1
  refine ⟨_, dwr_in hu hl, ?_, SameS.set ⟨by omega, by omega⟩ _ _⟩
  refine ⟨h.oks.set ⟨slot0_ok.1, hl⟩, h.inv.set rfl, by rw [List.length_set]; exact h.len, ?_, ?_, ?_, hW, by have := h.fw; omega, h.room, h.pok⟩
  · obtain ⟨s, g1, g2⟩ := h.hd
    exact ⟨s, by rw [List.getElem?_set_ne (by omega)]; exact g1, g2⟩
  · intro i h1 h2
    rcases Nat.lt_or_ge i (W + 1) with hi | hi
    · obtain ⟨s, g1, g2, g3⟩ := h.wr i h1 (by omega)
      exact ⟨s, by rw [List.getElem?_set_ne (by omega)]; exact g1, g2, g3⟩
    · obtain rfl : i = W + 1 := by omega
      exact ⟨_, List.getElem?_set_self hlt, rfl, fun _ => ⟨by have := h.fw; omega, rfl⟩⟩
  · intro i h1 h2
    rw [List.getElem?_set_ne (by omega)]
    exact h.un i (by omega) h2
theorem LG.head (h : LG a n ps W F gen old ds) (hn : gen = old) (g : Nat) : ∃ ds', dwr ds (a : Nat) (hblk g) = (0, ds') ∧ LG a n ps W F g gen ds' ∧ SameS a n ds ds' := by
  have hroom := h.room
  obtain ⟨s, g1, g2, g3⟩ := h.hd
  have hlt := (List.getElem?_eq_some_iff.1 g1).1
  have hfirm : s.firm = hblk gen := by
    cases hf : s.fresh with
    | true => rw [g3 hf, hn]
    | false => rw [← h.inv s (List.mem_of_getElem? g1) hf]; exact g2
  refine ⟨_, dwr_in g1 (hblk_len g), ?_, SameS.set ⟨Nat.le_refl _, by omega⟩ _ _⟩
  refine ⟨h.oks.set ⟨by rw [hfirm]; exact hblk_len gen, hblk_len g⟩, h.inv.set rfl, by rw [List.length_set]; exact h.len, ?_, ?_, ?_, h.wps, h.fw, h.room, h.pok⟩
  · exact ⟨_, List.getElem?_set_self hlt, rfl, fun _ => hfirm⟩
  · intro i h1 h2
    obtain ⟨s, g1, g2, g3⟩ := h.wr i h1 h2
    exact ⟨s, by rw [List.getElem?_set_ne (by omega)]; exact g1, g2, g3⟩
  · intro i h1 h2
    rw [List.getElem?_set_ne (by omega)]
    exact h.un i h1 h2
theorem LG.flushed (h : LG a n ps W F gen old ds) : LG a n ps W W gen gen (settled F64 ds) := by
  refine ⟨settled_ok h.oks, settled_inv _ h.inv, by rw [settled_len]; exact h.len, ?_, ?_, ?_, h.wps, Nat.le_refl _, h.room, h.pok⟩
  · obtain ⟨s, g1, g2, g3⟩ := h.hd
    refine ⟨_, settled_at_some g1, ?_, ?_⟩
    · split
      · rw [torn_64 (h.oks s (List.mem_of_getElem? g1))]; exact g2
      · exact g2
    · split
      · intro h; cases h
      · rename_i hf; intro h; exact absurd h hf
  · intro i h1 h2
    obtain ⟨s, g1, g2, g3⟩ := h.wr i h1 h2
    refine ⟨_, settled_at_some g1, ?_, ?_⟩
    · split
      · rw [torn_64 (h.oks s (List.mem_of_getElem? g1))]; exact g2
      · exact g2
    · split
      · intro h; cases h
      · rename_i hf; intro h; exact absurd h hf
  · intro i h1 h2
    rw [settled_at_some (h.un i h1 h2)]; rfl
theorem mod_small {i : Nat} (h1 : 1 ≤ i) (h2 : i < 256) : i % 256 ≠ 0 := by omega
theorem LG.crash (h : LG a n ps W F gen old ds) (hn : n ≤ 256) (G : Nat → Nat) : Torn a n ps F (settled G ds) ∧ ∃ c, c ≤ 64 ∧ rdk (settled G ds) a = mix c (hblk gen) (hblk old) := by
  constructor
  · refine ⟨by rw [settled_len]; exact h.len, ?_, ?_, h.room, h.pok⟩
    · intro i h1 h2
      rcases Nat.lt_or_ge W i with hi | hi
      · right
        rw [rdk_at (settled_at_some (h.un i hi h2))]
        exact pce_zb (by omega)
      · obtain ⟨s, g1, g2, g3⟩ := h.wr i h1 hi
        rw [rdk_at (settled_at_some g1)]
        by_cases hf : s.fresh = true
        · rw [if_pos hf]
          simp only
          rw [torn_mix, (g3 hf).2, g2]
          by_cases hc : min (G (nF ds (a + i))) 64 = 64
          · left
            rw [hc, mix_full (lbk_len h.pok i) (zbytes_len 64)]
            exact ⟨by have := h.wps; omega, rfl⟩
          · right
            exact pce_mix (lbk_len h.pok i) (by omega) (mod_small h1 (by omega))
        · rw [if_neg hf]
          exact .inl ⟨by have := h.wps; omega, g2⟩
    · intro i h1 h2
      obtain ⟨s, g1, g2, g3⟩ := h.wr i h1 (by have := h.fw; omega)
      have hf : ¬ s.fresh = true := fun e => by have := (g3 e).1; omega
      rw [rdk_at (settled_at_some g1), if_neg hf]
      exact ⟨by have := h.wps; have := h.fw; omega, g2⟩
  · obtain ⟨s, g1, g2, g3⟩ := h.hd
    rw [rdk_at (settled_at_some g1)]
    by_cases hf : s.fresh = true
    · rw [if_pos hf]
      exact ⟨min (G (nF ds a)) 64, by omega, by simp only; rw [torn_mix, g2, g3 hf]⟩
    · rw [if_neg hf]
      exact ⟨64, Nat.le_refl _, by rw [mix_full (hblk_len gen) (hblk_len old)]; exact g2⟩
/-- what stands there where nothing was torn -/
theorem LG.asIs (h : LG a n ps W F gen old ds) : Torn a n ps W ds ∧ rdk ds a = hblk gen := by
  constructor
  · refine ⟨h.len, ?_, ?_, h.room, h.pok⟩
    · intro i h1 h2
      rcases Nat.lt_or_ge W i with hi | hi
      · right
        rw [rdk_at (h.un i hi h2)]
        exact pce_zb (by omega)
      · obtain ⟨s, g1, g2, g3⟩ := h.wr i h1 hi
        exact .inl ⟨by have := h.wps; omega, by rw [rdk_at g1]; exact g2⟩
    · intro i h1 h2
      obtain ⟨s, g1, g2, g3⟩ := h.wr i h1 h2
      exact ⟨by have := h.wps; omega, by rw [rdk_at g1]; exact g2⟩
  · obtain ⟨s, g1, g2, g3⟩ := h.hd
    rw [rdk_at g1]; exact g2
end
/-! ### over a line -/
theorem act_run {cut : Int} {ch : List Int} {x : Ln} {e : Int} {ds' : List Slot} (hd : x.down = false) (hc : (x.acts : Int) ≠ cut) : x.act cut ch e ds' = (e, ⟨x.acts + 1, false, ds'⟩) := by
  unfold Ln.act; rw [if_neg (by rw [hd]; decide), if_neg hc]
theorem act_cut {cut : Int} {ch : List Int} {x : Ln} {e : Int} {ds' : List Slot} (hd : x.down = false) (hc : (x.acts : Int) = cut) : x.act cut ch e ds' = (8, ⟨x.acts + 1, true, settled (Fc ch) (if oddc ch = true then ds' else x.ds)⟩) := by
  unfold Ln.act; rw [if_neg (by rw [hd]; decide), if_pos hc]
theorem act_down {cut : Int} {ch : List Int} {x : Ln} {e : Int} {ds' : List Slot} (hd : x.down = true) : x.act cut ch e ds' = (8, x) := by
  unfold Ln.act; rw [if_pos hd]
theorem apl_len (g : Rg) (s : List UInt8) : (apl g s).length = nd s.length := by unfold apl; simp
theorem apl_at (g : Rg) {s : List UInt8} {k : Nat} (h : k < nd s.length) : (apl g s)[k]? = some ((g.at_ : Int) + ((g.used + 1 + k : Nat) : Int), gblk (g.used + 1) s k) := by unfold apl; rw [List.getElem?_map, List.getElem?_range h]; rfl
theorem gblk_lbk {ps : List Pc} {s : List UInt8} {k : Nat} (h : k < nd s.length) : gblk (ps.length + 1) s k = lbk (ps ++ gps s) (ps.length + k + 1) := by
  have e : (ps ++ gps s)[ps.length + k + 1 - 1]? = some (gpc s k, gfl s.length k) := by
    rw [Nat.add_sub_cancel, List.getElem?_append_right (by omega), Nat.add_sub_cancel_left, gps_at h]
  unfold lbk
  rw [e]
  show rblk (ps.length + 1 + k) _ _ = rblk (ps.length + k + 1) _ _
  rw [Nat.add_right_comm]
theorem wrs_log {a n : Nat} {ps : List Pc} {F gen old : Nat} {cut : Int} {ch : List Int} {g : Rg} {s : List UInt8} (ha : g.at_ = a) (hu : g.used = ps.length) : ∀ (m k : Nat) (x : Ln), k + m = nd s.length → x.down = false → LG a n (ps ++ gps s) (ps.length + k) F gen old x.ds →
    (∃ ds', wrs cut ch ((apl g s).drop k) x = (0, ⟨x.acts + m, false, ds'⟩) ∧ LG a n (ps ++ gps s) (ps.length + nd s.length) F gen old ds' ∧ SameS a n x.ds ds' ∧ ∀ j : Nat, j < m → ((x.acts + j : Nat) : Int) ≠ cut) ∨
    (∃ W ds', ∃ j : Nat, j < m ∧ ((x.acts + j : Nat) : Int) = cut ∧ wrs cut ch ((apl g s).drop k) x = (8, ⟨x.acts + j + 1, true, settled (Fc ch) ds'⟩) ∧ LG a n (ps ++ gps s) W F gen old ds' ∧ SameS a n x.ds ds')
  | 0, k, x, hk, hd, h => by
    left
    rw [List.drop_of_length_le (by rw [apl_len]; omega)]
    obtain ⟨acts, down, ds⟩ := x
    simp only at hd h ⊢
    subst hd
    obtain rfl : k = nd s.length := by omega
    exact ⟨ds, rfl, h, SameS.refl _ _ _, fun j hj => by omega⟩
  | m + 1, k, x, hk, hd, h => by
    have hlt : k < nd s.length := by omega
    have hat := apl_at g hlt
    obtain ⟨hl, he⟩ := List.getElem?_eq_some_iff.1 hat
    rw [List.drop_eq_getElem_cons hl, he]
    obtain ⟨d1, w1, w2, w3⟩ := h.write (by rw [List.length_append, gps_len]; omega)
    have hw : dwr x.ds ((g.at_ : Int) + ((g.used + 1 + k : Nat) : Int)) (gblk (g.used + 1) s k) = (0, d1) := by
      rw [hu, gblk_lbk hlt, ha, ← w1]
      congr 1
      omega
    have hwr : x.write cut ch ((g.at_ : Int) + ((g.used + 1 + k : Nat) : Int)) (gblk (g.used + 1) s k) = x.act cut ch 0 d1 := by unfold Ln.write; rw [hw]
    simp only [wrs]
    rw [hwr]
    by_cases hc : (x.acts : Int) = cut
    · right
      rw [act_cut hd hc, if_pos (by simp)]
      by_cases ho : oddc ch = true
      · exact ⟨_, d1, 0, by omega, hc, by rw [if_pos ho], w2, w3⟩
      · exact ⟨_, x.ds, 0, by omega, hc, by rw [if_neg ho], h, SameS.refl _ _ _⟩
    · rw [act_run hd hc, if_neg (by simp)]
      simp only
      rcases wrs_log ha hu m (k + 1) ⟨x.acts + 1, false, d1⟩ (by omega) rfl w2 with ⟨ds', g1, g2, g3, g4⟩ | ⟨W, ds', j, g0, g1, g2, g3, g4⟩
      · left
        refine ⟨ds', by rw [g1]; simp only; rw [show x.acts + 1 + m = x.acts + (m + 1) by omega], g2, w3.trans g3, fun j hj => ?_⟩
        cases j with
        | zero => exact hc
        | succ j => have := g4 j (by omega); simp only at this; rwa [show x.acts + 1 + j = x.acts + (j + 1) by omega] at this
      · right
        refine ⟨W, ds', j + 1, by omega, ?_, ?_, g3, w3.trans g4⟩
        · simp only at g1; rwa [show x.acts + 1 + j = x.acts + (j + 1) by omega] at g1
        · rw [g2]; simp only; rw [show x.acts + 1 + j + 1 = x.acts + (j + 1) + 1 by omega]
/-- the region's record says what stands there -/
structure RgOk (a n : Nat) (ps : List Pc) (g : Rg) : Prop where
  at_ : g.at_ = a
  n : g.n = n
  used : g.used = ps.length
  ok : g.broken = false
/-- the line is cut: the device was torn -/
structure CutAt (a n : Nat) (ps : List Pc) (F : Nat) (H : Nat → Nat → Prop) (ch : List Int) (d0 : List Slot) (x : Ln) : Prop where
  down : x.down = true
  from_ : ∃ W gen old F' ds', x.ds = settled (Fc ch) ds' ∧ LG a n ps W F' gen old ds' ∧ H gen old ∧ F ≤ F' ∧ SameS a n d0 ds'
theorem append_log {a n : Nat} {ps : List Pc} {F gen old : Nat} {cut : Int} {ch : List Int} {g : Rg} {x : Ln} (s : List UInt8) (hg : RgOk a n ps g) (hd : x.down = false) (h : LG a n ps ps.length F gen old x.ds) :
    (n < nd s.length + 1 + ps.length ∧ g.append cut ch s x = (7, g, x)) ∨
    (nd s.length + 1 + ps.length ≤ n ∧ ∃ ds', g.append cut ch s x = (0, { g with used := ps.length + nd s.length }, ⟨x.acts + nd s.length, false, ds'⟩) ∧ LG a n (ps ++ gps s) (ps ++ gps s).length F gen old ds' ∧ SameS a n x.ds ds' ∧ ∀ j : Nat, j < nd s.length → ((x.acts + j : Nat) : Int) ≠ cut) ∨
    (nd s.length + 1 + ps.length ≤ n ∧ (∃ j : Nat, j < nd s.length ∧ ((x.acts + j : Nat) : Int) = cut) ∧ ∃ x', g.append cut ch s x = (8, { g with broken := true }, x') ∧ x'.acts ≤ x.acts + nd s.length ∧ CutAt a n (ps ++ gps s) F (fun g o => g = gen ∧ o = old) ch x.ds x') := by
  obtain ⟨h1, h2, h3, h4⟩ := hg
  unfold Rg.append
  rw [if_neg (by rw [h4]; decide), h2, h3]
  by_cases hf : n < nd s.length + 1 + ps.length
  · left; rw [if_pos hf]; exact ⟨hf, rfl⟩
  · right
    rw [if_neg hf]
    have hx := h.ext (gps_ok s) (by rw [List.length_append, gps_len]; omega)
    rcases wrs_log (cut := cut) (ch := ch) h1 h3 (nd s.length) 0 x (by omega) hd hx with ⟨ds', g1, g2, g3, g4⟩ | ⟨W, ds', j, g0, g1, g2, g3, g4⟩
    · left
      rw [List.drop_zero] at g1
      rw [g1, if_neg (by simp)]
      exact ⟨by omega, ds', rfl, by rw [List.length_append, gps_len]; exact g2, g3, g4⟩
    · right
      rw [List.drop_zero] at g2
      rw [g2, if_pos (by simp)]
      have hgd : g.did 8 = { g with broken := true } := by simp [Rg.did]
      exact ⟨by omega, ⟨j, g0, g1⟩, ⟨x.acts + j + 1, true, settled (Fc ch) ds'⟩, by simp only [hgd, h2, h3], by simp only; omega, rfl, W, gen, old, F, ds', rfl, g3, ⟨rfl, rfl⟩, Nat.le_refl _, g4⟩
theorem flush_log {a n : Nat} {ps : List Pc} {F gen old : Nat} {cut : Int} {ch : List Int} {g : Rg} {x : Ln} (hg : g.broken = false) (hd : x.down = false) (h : LG a n ps ps.length F gen old x.ds) :
    ((x.acts : Int) ≠ cut ∧ ∃ ds', g.flush cut ch x = (0, g, ⟨x.acts + 1, false, ds'⟩) ∧ LG a n ps ps.length ps.length gen gen ds' ∧ SameS a n x.ds ds') ∨
    ((x.acts : Int) = cut ∧ ∃ x', g.flush cut ch x = (8, { g with broken := true }, x') ∧ x'.acts ≤ x.acts + 1 ∧ CutAt a n ps F (fun g o => g = gen ∧ (o = old ∨ o = gen)) ch x.ds x') := by
  unfold Rg.flush
  rw [if_neg (by rw [hg]; decide)]
  unfold Ln.flush
  by_cases hc : (x.acts : Int) = cut
  · right
    rw [act_cut hd hc]
    have hgd : g.did 8 = { g with broken := true } := by simp [Rg.did]
    refine ⟨hc, _, by simp only [hgd]; rfl, Nat.le_refl _, rfl, ?_⟩
    by_cases ho : oddc ch = true
    · exact ⟨_, gen, gen, _, _, by simp only [if_pos ho], h.flushed, ⟨rfl, .inr rfl⟩, h.fw, SameS.settled _ _ _ _⟩
    · exact ⟨_, gen, old, _, _, by simp only [if_neg ho], h, ⟨rfl, .inl rfl⟩, Nat.le_refl _, SameS.refl _ _ _⟩
  · left
    rw [act_run hd hc]
    refine ⟨hc, _, ?_, h.flushed, SameS.settled _ _ _ _⟩
    obtain ⟨r1, r2, r3, r4⟩ := g
    simp only at hg
    subst hg
    simp [Rg.did]
theorem seal_log {a n : Nat} {ps : List Pc} {F gen : Nat} {cut : Int} {ch : List Int} {g : Rg} {x : Ln} (v : Nat) (hv : v ≠ 0) (hg : RgOk a n ps g) (hd : x.down = false) (h : LG a n ps ps.length F gen gen x.ds) :
    ((x.acts : Int) ≠ cut ∧ ((x.acts + 1 : Nat) : Int) ≠ cut ∧ ∃ ds', g.sealG cut ch v x = (0, g, ⟨x.acts + 2, false, ds'⟩) ∧ LG a n ps ps.length ps.length v v ds' ∧ SameS a n x.ds ds') ∨
    (((x.acts : Int) = cut ∨ ((x.acts + 1 : Nat) : Int) = cut) ∧ ∃ x', g.sealG cut ch v x = (8, { g with broken := true }, x') ∧ x'.acts ≤ x.acts + 2 ∧ CutAt a n ps F (fun p o => (p = gen ∧ o = gen) ∨ (p = v ∧ (o = gen ∨ o = v))) ch x.ds x') := by
  obtain ⟨h1, h2, h3, h4⟩ := hg
  obtain ⟨d1, w1, w2, w3⟩ := h.head rfl v
  have hwr : x.write cut ch (g.at_ : Int) (hblk v) = x.act cut ch 0 d1 := by unfold Ln.write; rw [h1, w1]
  unfold Rg.sealG
  rw [if_neg hv, if_neg (by rw [h4]; decide), hwr]
  by_cases hc : (x.acts : Int) = cut
  · right
    rw [act_cut hd hc, if_pos (by simp)]
    have hgd : g.did 8 = { g with broken := true } := by simp [Rg.did]
    refine ⟨.inl hc, _, by simp only [hgd]; rfl, by simp, rfl, ?_⟩
    by_cases ho : oddc ch = true
    · exact ⟨_, v, gen, _, _, by simp only [if_pos ho], w2, .inr ⟨rfl, .inl rfl⟩, Nat.le_refl _, w3⟩
    · exact ⟨_, gen, gen, _, _, by simp only [if_neg ho], h, .inl ⟨rfl, rfl⟩, Nat.le_refl _, SameS.refl _ _ _⟩
  · rw [act_run hd hc, if_neg (by simp)]
    have hgd : g.did 0 = g := by obtain ⟨r1, r2, r3, r4⟩ := g; simp only at h4; subst h4; simp [Rg.did]
    rw [hgd]
    rcases flush_log (cut := cut) (ch := ch) (x := ⟨x.acts + 1, false, d1⟩) h4 rfl w2 with ⟨f1, ds', f2, f3, f4⟩ | ⟨f1, x', f2, f3, f4⟩
    · left
      exact ⟨hc, f1, ds', f2, f3, w3.trans f4⟩
    · right
      obtain ⟨c1, W, p, o, F', ds', c2, c3, c4, c5, c6⟩ := f4
      exact ⟨.inr f1, x', f2, f3, c1, W, p, o, F', ds', c2, c3, .inr ⟨c4.1, c4.2⟩, c5, w3.trans c6⟩
end Go.X
/- Package region: Format's law; what the laws' helpers do (tells, awake, few). -/
namespace Go.X
open Go Go.Proofs
theorem padTo_nil : padTo [] = zbytes 64 := rfl
structure Zd (a n k : Nat) (d0 ds : List Slot) : Prop where
  oks : Oks ds
  inv : DInv ds
  len : ds.length = d0.length
  zer : ∀ i, i < k → ∃ s, ds[a + i]? = some s ∧ s.read = zbytes 64
  out : ∀ j, (j < a ∨ a + n ≤ j) → ds[j]? = d0[j]?
theorem dwr_nil {ds : List Slot} {k : Nat} (h : k < ds.length) : ∃ x, ds[k]? = some x ∧ dwr ds (k : Nat) [] = (0, ds.set k ⟨x.firm, zbytes 64, true⟩) := by
  refine ⟨_, List.getElem?_eq_getElem h, ?_⟩
  unfold dwr
  rw [if_neg (by omega), if_neg (by omega), if_neg (by simp), Int.toNat_natCast, List.getD_eq_getElem?_getD, List.getElem?_eq_getElem h]; rfl
theorem Zd.write {a n k : Nat} {d0 ds : List Slot} (h : Zd a n k d0 ds) (hk : k < n) (hl : a + n ≤ d0.length) : ∃ ds', dwr ds ((a + k : Nat) : Int) [] = (0, ds') ∧ Zd a n (k + 1) d0 ds' := by
  obtain ⟨x, hx, hw⟩ := dwr_nil (show a + k < ds.length by rw [h.len]; omega)
  have hlt : a + k < ds.length := by rw [h.len]; omega
  refine ⟨_, hw, h.oks.set ⟨(h.oks x (List.mem_of_getElem? hx)).1, zbytes_len 64⟩, h.inv.set rfl, by rw [List.length_set]; exact h.len, ?_, ?_⟩
  · intro i hi
    rcases Nat.lt_or_ge i k with hik | hik
    · obtain ⟨s, g1, g2⟩ := h.zer i hik
      exact ⟨s, by rw [List.getElem?_set_ne (by omega)]; exact g1, g2⟩
    · obtain rfl : i = k := by omega
      exact ⟨_, List.getElem?_set_self hlt, rfl⟩
  · intro j hj
    rw [List.getElem?_set_ne (by omega)]; exact h.out j hj
theorem fmt_wrs {a n : Nat} {cut : Int} {ch : List Int} {d0 : List Slot} (hl : a + n ≤ d0.length) : ∀ (m k : Nat) (x : Ln), k + m = n → x.down = false → Zd a n k d0 x.ds → (∀ j : Nat, j < m → ((x.acts + j : Nat) : Int) ≠ cut) →
    ∃ ds', wrs cut ch ((fmtl a n).drop k) x = (0, ⟨x.acts + m, false, ds'⟩) ∧ Zd a n n d0 ds'
  | 0, k, x, hk, hd, h, _ => by
    rw [List.drop_of_length_le (by rw [fmtl_len]; omega)]
    obtain ⟨acts, down, ds⟩ := x
    simp only at hd h
    subst hd
    obtain rfl : k = n := by omega
    exact ⟨ds, rfl, h⟩
  | m + 1, k, x, hk, hd, h, hc => by
    obtain ⟨hl2, he⟩ := List.getElem?_eq_some_iff.1 (fmtl_at (a : Int) (show k < n by omega))
    rw [List.drop_eq_getElem_cons hl2, he]
    obtain ⟨d1, w1, w2⟩ := h.write (by omega) hl
    have hwr : x.write cut ch ((a : Int) + (k : Int)) [] = x.act cut ch 0 d1 := by
      unfold Ln.write
      rw [show (a : Int) + (k : Int) = ((a + k : Nat) : Int) by omega, w1]
    simp only [wrs]
    rw [hwr, act_run hd (hc 0 (by omega)), if_neg (by simp)]
    obtain ⟨ds', g1, g2⟩ := fmt_wrs hl m (k + 1) ⟨x.acts + 1, false, d1⟩ (by omega) rfl w2 (fun j hj => by have := hc (j + 1) (by omega); simp only; rwa [show x.acts + 1 + j = x.acts + (j + 1) by omega])
    exact ⟨ds', by rw [g1]; simp only; rw [show x.acts + 1 + m = x.acts + (m + 1) by omega], g2⟩
theorem fmt_log {a n : Nat} {cut : Int} {ch : List Int} {x : Ln} (hd : x.down = false) (hok : Oks x.ds) (hi : DInv x.ds) (hl : a + n ≤ x.ds.length) (hn : 2 ≤ n) (hc : ∀ j : Nat, j ≤ n → ((x.acts + j : Nat) : Int) ≠ cut) :
    ∃ ds', fmt cut ch a n x = (0, ⟨x.acts + n + 1, false, ds'⟩) ∧ LG a n [] 0 0 0 0 ds' ∧ ds'.length = x.ds.length ∧ (∀ j, (j < a ∨ a + n ≤ j) → ds'[j]? = (x.ds[j]?).map fun s => if s.fresh = true then ⟨s.read, s.read, false⟩ else s) := by
  obtain ⟨d1, g1, g2⟩ := fmt_wrs (cut := cut) (ch := ch) hl n 0 x (by omega) hd ⟨hok, hi, rfl, fun i h => by omega, fun _ _ => rfl⟩ (fun j hj => hc j (by omega))
  rw [List.drop_zero] at g1
  have hz : ∀ i, i < n → (settled F64 d1)[a + i]? = some slot0 := by
    intro i hi'
    obtain ⟨s, h1, h2⟩ := g2.zer i hi'
    have hs := List.mem_of_getElem? h1
    rw [settled_at_some h1]
    split
    · rw [torn_64 (g2.oks s hs), h2]; rfl
    · rename_i hf
      have := g2.inv s hs (by simpa using hf)
      obtain ⟨f, r, b⟩ := s
      simp only at h2 this hf
      simp only [Bool.not_eq_true] at hf
      rw [← this, h2, hf]; rfl
  refine ⟨settled F64 d1, ?_, ?_, by rw [settled_len, g2.len], ?_⟩
  · unfold fmt
    rw [g1, if_neg (by simp)]
    unfold Ln.flush
    rw [act_run rfl (hc n (Nat.le_refl _))]
  · refine ⟨settled_ok g2.oks, settled_inv _ g2.inv, by rw [settled_len, g2.len]; exact hl, ?_, fun i h1 h2 => by omega, fun i h1 h2 => hz i h2, Nat.le_refl _, Nat.le_refl _, by simp; omega, fun p hp => by cases hp⟩
    exact ⟨slot0, hz 0 (by omega), hblk_zero.symm, fun h => by cases h⟩
  · intro j hj
    have ho := g2.out j hj
    rw [settled_at, ho]
    cases hx : x.ds[j]? with
    | none => rfl
    | some s =>
      simp only [Option.map_some]
      split
      · have hs : s ∈ d1 := by rw [hx] at ho; exact List.mem_of_getElem? ho
        rw [torn_64 (g2.oks s hs)]
      · rfl
theorem thr_0 {m a n : Nat} (h1 : 2 ≤ n) (h2 : n ≤ 65536) (h3 : a + n ≤ m) : thr m a n = 0 := by unfold thr; rw [if_neg (by omega)]
/-! ### tells -/
theorem tells13_ok (bl b : Nat) (lv vc : Value) (cut : Int) (ch : List Int) (x : Ln) (gen : Nat) (gs : List (List UInt8)) (u : Value) (w : World) (hk : Oks x.ds) (hl : x.ds.length = 256) (hd : x.down = false)
    (h1 : (rtell (rblks x.ds 64 64)).gen = gen) (h2 : (rtell (rblks x.ds 64 64)).groups = gs) (hu : RowAt w u 1 gs.length (gstrs gs)) (ho : Owns w (lnX bl b lv vc cut ch x)) :
    Fx Tryz.prog 39 [ptr bl, .int .u32 gen, u] w (Pure w (.bool true)) := by
  have hown : ∀ w', Kept [] w w' → Owns w' (lnX bl b lv vc cut ch x) := fun w' k => ho.of_kept k (fun _ _ h => by cases h)
  have hrl : ∀ L : Heap, Rd w (ids []) L u 1 gs.length (gstrs gs) := fun L => .old hu (fun _ _ _ => by simp [X.ids])
  have hgl : gs.length ≤ 100000 := by
    have := (rtell_bd (rblks x.ds 64 64) (fun p hp => by have := rblks_bd hk 64 64 p hp; omega)).2
    rw [h2, rblks_len] at this; omega
  have hrd : ∀ w', Kept [] w w' → Fx Tryz.prog 46 [ptr bl, iv (64 : Nat), iv (64 : Nat)] w' (Ret w' [] (fun v : Value => .tuple #[.int .u32 gen, v, iv 0]) (fun v => [.sl v 9 1 (gstrs gs)]) (fun _ => True)) := fun w' k => by
    have := grread_ok bl b lv vc cut ch x 64 64 w' hk (by omega) (by omega) (by rw [hl]; decide) hd (hown w' k)
    rw [h1, h2] at this
    exact this
  clear h1 h2 hk hl hd
  refine Fx.of (L0 := []) Tryz.func39 rfl (by kernel_rfl) Tryz.ntmps39 rfl (Owns.nil w) ?_
  refine XC.rdv (hrl _) fun ao m hv _ _ hao => ?_
  subst hv
  refine go (k := ?_)
  refine XL.call [] [] rfl rfl rfl rfl rfl (fun _ w hs _ => hrd w hs.kept) fun v _ => ?_
  refine XL.slv (.head _) fun a1 q1 m1 hv hq _ => ?_
  subst hv
  obtain rfl : q1 = gs.length := by simpa using hq
  refine go (k := ?_)
  refine XC.loop (α := Nat) (fun i => [(8, .slice a1 gs.length m1), (2, .slice ao gs.length m), (10, iv i)]) (fun _ => [.sl (.slice a1 gs.length m1) 9 1 (gstrs gs)]) (fun i => i ≤ gs.length) (fun i => gs.length - i) 0 [0] (Nat.zero_le _) ⟨rfl, rfl, rfl, trivial⟩ rfl rfl ?_
  intro (i : Nat) (hi : i ≤ gs.length)
  by_cases hlt : i < gs.length
  · obtain ⟨s, hs⟩ : ∃ s, gs[i]? = some s := ⟨_, List.getElem?_eq_getElem hlt⟩
    obtain ⟨b1, o1, rfl⟩ : ∃ b off, ao = some ⟨b, off, none⟩ := hao.resolve_left (by omega)
    have hv1 : (gstrs gs)[i * 1]? = some (str s) := by simp [gstrs, hs]
    have hr1 : ∀ L : Heap, (Ent.sl (.slice a1 gs.length m1) 9 1 (gstrs gs)) ∈ L → Rd w (ids []) L (.slice a1 gs.length m1) 1 gs.length (gstrs gs) := fun L hm => .sl hm (by decide) (by simp)
    refine XC.rdv (hr1 _ (.head _)) fun ao2 m2 hv2 _ _ hao2 => ?_
    cases hv2
    obtain ⟨b2, o2, rfl⟩ : ∃ b off, a1 = some ⟨b, off, none⟩ := hao2.resolve_left (by omega)
    refine go (k := ?_)
    refine XD.q (.ldRd (j := i * 1) rfl rfl rfl (hr1 _ (.head _)) (by omega) hv1) rfl ?_
    refine go (k := ?_)
    refine XD.q (.ldRd (j := i * 1) rfl rfl rfl (hrl _) (by omega) hv1) rfl ?_
    refine go (k := ?_)
    refine XE.mid (i + 1) [0] ⟨show i + 1 ≤ gs.length by omega, show gs.length - (i + 1) < gs.length - i by omega⟩ ⟨rfl, rfl, rfl, trivial⟩ rfl rfl
  · obtain rfl : i = gs.length := by omega
    refine go (k := ?_)
    exact XE.ret1 () [] rfl rfl trivial rfl rfl rfl
end Go.X
