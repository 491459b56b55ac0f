/- RegionTorn: the plain law. -/
import Derived.Test.YtmmofanfgoahkaaDoorRegO
namespace Go.X
open Go Go.Proofs Go.RowKit
/-- what holds of a region, before the line is cut -/
structure TRun (all : List (List UInt8)) (gens : List Nat) (sure sl : Nat) (open_ : Bool) (g : Rg) (x : Ln) : Prop where
  rg : RgOk 64 64 (lps all) g
  up : x.down = false
  log : ∃ F, LG 64 64 (lps all) (lps all).length F sl sl x.ds ∧ (lps (all.take sure)).length ≤ F
  len : x.ds.length = 256
  le : sure ≤ all.length
  sl : sl < 4294967296
  gens : gens = []
  op : open_ = false
/-- what stands on the device behind the cut -/
structure TFin (all : List (List UInt8)) (gens : List Nat) (sure sl : Nat) (open_ : Bool) (ds : List Slot) : Prop where
  oks : Oks ds
  len : ds.length = 256
  torn : ∃ F, Torn 64 64 (lps all) F ds ∧ (lps (all.take sure)).length ≤ F
  le : sure ≤ all.length
  hd : if open_ = true then hdr (rdk ds 64) = 0 ∨ hdr (rdk ds 64) = sl ∨ hdr (rdk ds 64) ∈ gens else hdr (rdk ds 64) = sl
structure TCut (all : List (List UInt8)) (gens : List Nat) (sure sl : Nat) (open_ : Bool) (g : Rg) (x : Ln) : Prop where
  reg : g.n = 64 ∧ g.used < 64 ∧ g.at_ = 64
  broken : g.broken = true
  down : x.down = true
  fin : TFin all gens sure sl open_ x.ds
def TSt (all : List (List UInt8)) (gens : List Nat) (sure sl : Nat) (open_ : Bool) (g : Rg) (x : Ln) : Prop := TRun all gens sure sl open_ g x ∨ TCut all gens sure sl open_ g x
section
variable {all : List (List UInt8)} {gens : List Nat} {sure sl : Nat} {open_ : Bool} {g : Rg} {x : Ln} {cut : Int} {ch : List Int}
theorem TSt.reg (h : TSt all gens sure sl open_ g x) : g.n ≤ 65536 ∧ g.used < g.n ∧ g.at_ ≤ 100000 := by
  rcases h with h | h
  · obtain ⟨F, hl, _⟩ := h.log
    have := hl.room
    have := h.rg.n; have := h.rg.used; have := h.rg.at_
    omega
  · obtain ⟨h1, h2, h3⟩ := h.reg
    omega
theorem TSt.li (h : TSt all gens sure sl open_ g x) {k : Nat} (hk : x.acts ≤ k) : LI 256 k x := by
  rcases h with h | h
  · obtain ⟨F, hl, _⟩ := h.log
    exact ⟨hl.oks, h.len, hk⟩
  · exact ⟨h.fin.oks, h.fin.len, hk⟩
theorem TSt.le (h : TSt all gens sure sl open_ g x) : sure ≤ all.length := by
  rcases h with h | h
  · exact h.le
  · exact h.fin.le
theorem take_le {s : List UInt8} (h : sure ≤ all.length) : (all ++ [s]).take sure = all.take sure := List.take_append_of_le_length h
theorem TRun.used (h : TRun all gens sure sl open_ g x) : g.used < 64 := by
  obtain ⟨F, hl, _⟩ := h.log
  have := hl.room
  have := h.rg.used
  omega
theorem torn_append (h : TSt all gens sure sl open_ g x) (s : List UInt8) : ∃ e g' x', g.append cut ch s x = (e, g', x') ∧ x'.acts ≤ x.acts + 64 ∧ (((e = 0 ∨ e = 8) ∧ TSt (all ++ [s]) gens sure sl open_ g' x') ∨ (e = 7 ∨ e = 17) ∧ TSt all gens sure sl open_ g' x') := by
  rcases h with h | h
  · obtain ⟨F, hl, hF⟩ := h.log
    rcases append_log (cut := cut) (ch := ch) s h.rg h.up hl with ⟨_, h1⟩ | ⟨hr, ds', h1, h2, h3, _⟩ | ⟨hr, _, x', h1, h2, h3⟩
    · exact ⟨_, _, _, h1, by omega, .inr ⟨.inl rfl, .inl h⟩⟩
    · refine ⟨_, _, _, h1, by simp only; omega, .inl ⟨.inl rfl, .inl ⟨⟨h.rg.at_, h.rg.n, ?_, h.rg.ok⟩, rfl, ⟨F, ?_, by rw [take_le h.le]; exact hF⟩, h3.len.trans h.len, by rw [List.length_append]; exact Nat.le_trans h.le (Nat.le_add_right _ _), h.sl, h.gens, h.op⟩⟩⟩
      · simp only; rw [lps_snoc, List.length_append, gps_len]
      · rw [lps_snoc]; exact h2
    · obtain ⟨c1, W, p, o, F', d', c2, c3, ⟨rfl, rfl⟩, c5, c6⟩ := h3
      obtain ⟨t1, c, _, t3⟩ := c3.crash (by decide) (Fc ch)
      refine ⟨_, _, _, h1, by omega, .inl ⟨.inr rfl, .inr ⟨⟨h.rg.n, h.used, h.rg.at_⟩, rfl, c1, ?_⟩⟩⟩
      refine ⟨by rw [c2]; exact settled_ok c3.oks, by rw [c2, settled_len]; exact c6.len.trans h.len, ⟨F', ?_, by rw [take_le h.le]; omega⟩, by rw [List.length_append]; exact Nat.le_trans h.le (Nat.le_add_right _ _), ?_⟩
      · rw [lps_snoc, c2]; exact t1
      · rw [h.op, if_neg (by decide), c2, t3, mix_same, hdr_hblk h.sl]
  · refine ⟨17, g, x, ?_, by omega, .inr ⟨.inr rfl, .inr h⟩⟩
    unfold Rg.append; rw [if_pos h.broken]
theorem torn_flush (h : TSt all gens sure sl open_ g x) : ∃ e g' x', g.flush cut ch x = (e, g', x') ∧ x'.acts ≤ x.acts + 64 ∧ ((e = 0 ∧ TSt all gens all.length sl open_ g' x') ∨ (e = 8 ∨ e = 17) ∧ TSt all gens sure sl open_ g' x') := by
  rcases h with h | h
  · obtain ⟨F, hl, hF⟩ := h.log
    rcases flush_log (cut := cut) (ch := ch) h.rg.ok h.up hl with ⟨_, ds', h1, h2, h3⟩ | ⟨_, x', h1, h2, h3⟩
    · exact ⟨_, _, _, h1, by simp only; omega, .inl ⟨rfl, .inl ⟨h.rg, rfl, ⟨_, h2, by rw [List.take_length]; exact Nat.le_refl _⟩, h3.len.trans h.len, Nat.le_refl _, h.sl, h.gens, h.op⟩⟩⟩
    · obtain ⟨c1, W, p, o, F', d', c2, c3, ⟨rfl, c4⟩, c5, c6⟩ := h3
      obtain rfl : o = p := by rcases c4 with rfl | rfl <;> rfl
      obtain ⟨t1, c, _, t3⟩ := c3.crash (by decide) (Fc ch)
      refine ⟨_, _, _, h1, by omega, .inr ⟨.inl rfl, .inr ⟨⟨h.rg.n, h.used, h.rg.at_⟩, rfl, c1, ?_⟩⟩⟩
      refine ⟨by rw [c2]; exact settled_ok c3.oks, by rw [c2, settled_len]; exact c6.len.trans h.len, ⟨F', by rw [c2]; exact t1, by omega⟩, h.le, ?_⟩
      rw [h.op, if_neg (by decide), c2, t3, mix_same, hdr_hblk h.sl]
  · refine ⟨17, g, x, ?_, by omega, .inr ⟨.inr rfl, .inr h⟩⟩
    unfold Rg.flush; rw [if_pos h.broken]
theorem torn_seal (h : TSt all gens sure sl open_ g x) (v : Nat) (hv : v ≠ 0) (hv2 : v < 4294967296) : ∃ e g' x', g.sealG cut ch v x = (e, g', x') ∧ x'.acts ≤ x.acts + 64 ∧ ((e = 0 ∧ TSt all [] all.length v false g' x') ∨ (e = 8 ∧ TSt all (gens ++ [v]) sure sl true g' x') ∨ (e = 17 ∧ TSt all gens sure sl open_ g' x')) := by
  rcases h with h | h
  · obtain ⟨F, hl, hF⟩ := h.log
    rcases seal_log (cut := cut) (ch := ch) v hv h.rg h.up hl with ⟨_, _, ds', h1, h2, h3⟩ | ⟨_, x', h1, h2, h3⟩
    · exact ⟨_, _, _, h1, by simp only; omega, .inl ⟨rfl, .inl ⟨h.rg, rfl, ⟨_, h2, by rw [List.take_length]; exact Nat.le_refl _⟩, h3.len.trans h.len, Nat.le_refl _, hv2, rfl, rfl⟩⟩⟩
    · obtain ⟨c1, W, p, o, F', d', c2, c3, c4, c5, c6⟩ := h3
      obtain ⟨t1, c, hc, t3⟩ := c3.crash (by decide) (Fc ch)
      refine ⟨_, _, _, h1, by omega, .inr (.inl ⟨rfl, .inr ⟨⟨h.rg.n, h.used, h.rg.at_⟩, rfl, c1, ?_⟩⟩)⟩
      refine ⟨by rw [c2]; exact settled_ok c3.oks, by rw [c2, settled_len]; exact c6.len.trans h.len, ⟨F', by rw [c2]; exact t1, by omega⟩, h.le, ?_⟩
      rw [if_pos rfl, c2, t3]
      have hsl := h.sl
      rcases c4 with ⟨rfl, rfl⟩ | ⟨rfl, rfl | rfl⟩
      · rw [mix_same, hdr_hblk hsl]; exact .inr (.inl rfl)
      · rcases hdr_mix hv2 hsl hc with e | e | e
        · exact .inl e
        · exact .inr (.inr (by rw [e]; simp))
        · exact .inr (.inl e)
      · rw [mix_same, hdr_hblk hv2]; exact .inr (.inr (by simp))
  · refine ⟨17, g, x, ?_, by omega, .inr (.inr ⟨rfl, .inr h⟩)⟩
    unfold Rg.sealG; rw [if_neg hv, if_pos h.broken]
theorem TSt.blow (h : TSt all gens sure sl open_ g x) : TFin all gens sure sl open_ (blown ch x.down x.ds) := by
  rcases h with h | h
  · obtain ⟨F, hl, hF⟩ := h.log
    obtain ⟨t1, c, _, t3⟩ := hl.crash (by decide) (Fc ch)
    have e : blown ch x.down x.ds = settled (Fc ch) x.ds := by unfold blown; rw [h.up, if_neg (by decide)]
    rw [e]
    refine ⟨settled_ok hl.oks, by rw [settled_len]; exact h.len, ⟨F, t1, hF⟩, h.le, ?_⟩
    rw [h.op, if_neg (by decide), t3, mix_same, hdr_hblk h.sl]
  · have e : blown ch x.down x.ds = x.ds := by unfold blown; rw [h.down, if_pos rfl]
    rw [e]; exact h.fin
/-- what is told at last -/
theorem TFin.tells {ds : List Slot} (h : TFin all gens sure sl open_ ds) : ∃ r, sure ≤ r ∧ r ≤ all.length ∧ (rtell (rblks ds 64 64)).groups = all.take r ∧ (if open_ = true then (rtell (rblks ds 64 64)).gen = 0 ∨ (rtell (rblks ds 64 64)).gen = sl ∨ (rtell (rblks ds 64 64)).gen ∈ gens else (rtell (rblks ds 64 64)).gen = sl) := by
  obtain ⟨F, ht, hF⟩ := h.torn
  obtain ⟨h1, r, r1, r2, r3⟩ := ht.tell (by decide) (by decide)
  exact ⟨r, r3 sure h.le hF, r1, r2, by rw [h1]; exact h.hd⟩
end
theorem fmt_trun {ds : List Slot} {cut : Int} {ch : List Int} (hk : Oks ds) (hi : DInv ds) (hl : ds.length = 256) (hc : 65 ≤ cut) : ∃ D, fmt cut ch 64 64 ⟨0, false, ds⟩ = (0, ⟨65, false, D⟩) ∧ TSt [] [] 0 0 false ⟨64, 64, 0, false⟩ ⟨65, false, D⟩ := by
  obtain ⟨D, h1, h3, h4, _⟩ := fmt_log (a := 64) (n := 64) (cut := cut) (ch := ch) (x := ⟨0, false, ds⟩) rfl hk hi (by simp only; omega) (by decide) (fun j _ => by simp only; omega)
  simp only [Nat.zero_add] at h1
  exact ⟨D, h1, .inl ⟨⟨rfl, rfl, rfl, rfl⟩, rfl, ⟨0, h3, Nat.le_refl _⟩, h4.trans hl, Nat.le_refl _, by decide, rfl, rfl⟩⟩
end Go.X
