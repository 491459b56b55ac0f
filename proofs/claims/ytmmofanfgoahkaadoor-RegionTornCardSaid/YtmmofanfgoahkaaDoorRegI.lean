/- Package region: plain facts: what blocks tell, whole and torn. -/
import Derived.Test.YtmmofanfgoahkaaDoorRegH
namespace Go.X
open Go Go.Proofs
theorem gfold_eq : ∀ (l : List UInt8) (a : Nat), l.foldl (fun n c => n * 256 + c.toNat) a = a * 256 ^ l.length + gnum l
  | [], a => by simp [gnum]
  | c :: l, a => by
    unfold gnum
    rw [List.foldl_cons, List.foldl_cons, gfold_eq l, gfold_eq l, List.length_cons, Nat.pow_succ, Nat.add_mul, Nat.zero_mul, Nat.zero_add, Nat.mul_assoc, Nat.mul_comm 256, Nat.add_assoc]
theorem gnum_cons (c : UInt8) (l : List UInt8) : gnum (c :: l) = c.toNat * 256 ^ l.length + gnum l := by
  show List.foldl _ _ _ = _
  rw [List.foldl_cons, gfold_eq, Nat.zero_mul, Nat.zero_add]
theorem gnum_be (n : Nat) : ∀ k, gnum (be n k) = n % 256 ^ k
  | 0 => by simp [be, gnum, Nat.mod_one]
  | k + 1 => by
    have h2 : n % 256 ^ (k + 1) = n % 256 ^ k + 256 ^ k * (n / 256 ^ k % 256) := Nat.mod_pow_succ
    have : n / 256 ^ k % 256 % 2 ^ 8 = n / 256 ^ k % 256 := by omega
    rw [be, gnum_cons, be_len, gnum_be n k, UInt8.toNat_ofNat', this, h2, Nat.mul_comm, Nat.add_comm]
theorem gnum_zb : ∀ n, gnum (zbytes n) = 0
  | 0 => rfl
  | n + 1 => by
    show gnum (0 :: zbytes n) = 0
    rw [gnum_cons, gnum_zb n]; simp
theorem dropWhile_nil {p : UInt8 → Bool} : ∀ {l : List UInt8}, l.dropWhile p = [] ↔ ∀ x ∈ l, p x = true
  | [] => by simp
  | a :: l => by
    rw [List.dropWhile_cons]
    split
    · rename_i h
      rw [dropWhile_nil]
      simp [h]
    · rename_i h
      simp [h]
theorem trimB_nil {l : List UInt8} : Lib.trimB l 0 = [] ↔ ∀ c ∈ l, c = 0 := by
  unfold Lib.trimB Lib.trimLeftB Lib.trimRightB
  constructor
  · intro h
    have h1 : ∀ x ∈ l.reverse.dropWhile (· == 0), (x == (0 : UInt8)) = true := by
      intro x hx
      exact dropWhile_nil.1 h x (List.mem_reverse.2 hx)
    have h2 : l.reverse.dropWhile (· == 0) = [] := by
      cases hd : l.reverse.dropWhile (· == 0) with
      | nil => rfl
      | cons a t =>
        have h3 := List.head_dropWhile_not (fun x : UInt8 => x == 0) (by rw [hd]; exact List.cons_ne_nil _ _ : l.reverse.dropWhile (· == 0) ≠ [])
        have h4 := h1 _ (List.head_mem (by rw [hd]; exact List.cons_ne_nil _ _ : l.reverse.dropWhile (· == 0) ≠ []))
        rw [h4] at h3; cases h3
    intro c hc
    simpa using dropWhile_nil.1 h2 c (List.mem_reverse.2 hc)
  · intro h
    have h2 : l.reverse.dropWhile (· == 0) = [] := dropWhile_nil.2 (fun x hx => by simp [h x (List.mem_reverse.1 hx)])
    rw [h2]; rfl
theorem trimB_zb (n : Nat) : Lib.trimB (zbytes n) 0 = [] := trimB_nil.2 fun _ hc => (List.mem_replicate.1 hc).2
theorem rfix0 {s : List UInt8} {n : Nat} (h : n ≤ s.length) : rfix (s, 0) (n : Nat) = (s.take n, (s.drop n, 0)) := by
  unfold rfix
  by_cases h0 : n = 0
  · subst h0; rw [if_pos (.inr (Int.le_refl _))]; simp
  · rw [if_neg (by simp; omega), if_neg (by simp; omega)]; rfl
theorem rfix_app {a r : List UInt8} {n : Nat} (h : a.length = n) : rfix (a ++ r, 0) (n : Nat) = (a, (r, 0)) := by
  rw [rfix0 (by rw [List.length_append]; omega), List.take_left' h, List.drop_left' h]
theorem hdr64 {s : List UInt8} (h : s.length = 64) : hdr s = if Lib.trimB ((s.drop 4).take 56) 0 = [] ∧ gnum ((s.drop 60).take 4) = gnum (s.take 4) then gnum (s.take 4) else 0 := by
  unfold hdr
  have e1 : rfix (s, 0) (4 : Nat) = (s.take 4, (s.drop 4, 0)) := rfix0 (by omega)
  have e2 : rfix (s.drop 4, 0) (56 : Nat) = ((s.drop 4).take 56, ((s.drop 4).drop 56, 0)) := rfix0 (by rw [List.length_drop]; omega)
  have e3 : rfix ((s.drop 4).drop 56, 0) (4 : Nat) = (((s.drop 4).drop 56).take 4, (((s.drop 4).drop 56).drop 4, 0)) := rfix0 (by simp only [List.length_drop]; omega)
  rw [e1]; simp only; rw [e2]; simp only; rw [e3]; simp only
  rw [List.drop_drop]
theorem pce64 (i : Nat) {s : List UInt8} (h : s.length = 64) : pce i s = if gnum (s.take 2) ≠ i ∨ 1 < gnum ((s.drop 2).take 1) ∨ 58 < gnum ((s.drop 3).take 1) ∨ (gnum ((s.drop 2).take 1) = 0 ∧ gnum ((s.drop 3).take 1) < 58) then ([], false, false)
    else ((s.drop 4).take (gnum ((s.drop 3).take 1)), decide (gnum ((s.drop 2).take 1) = 1), decide (gnum ((s.drop 62).take 2) = i ∧ Lib.trimB ((s.drop (4 + gnum ((s.drop 3).take 1))).take (58 - gnum ((s.drop 3).take 1))) 0 = [])) := by
  unfold pce
  have e1 : rfix (s, 0) (2 : Nat) = (s.take 2, (s.drop 2, 0)) := rfix0 (by omega)
  have e2 : rfix (s.drop 2, 0) (1 : Nat) = ((s.drop 2).take 1, ((s.drop 2).drop 1, 0)) := rfix0 (by rw [List.length_drop]; omega)
  have e3 : rfix ((s.drop 2).drop 1, 0) (1 : Nat) = (((s.drop 2).drop 1).take 1, (((s.drop 2).drop 1).drop 1, 0)) := rfix0 (by simp only [List.length_drop]; omega)
  rw [List.drop_drop] at e2 e3
  rw [List.drop_drop] at e3
  simp only [e1]; simp only [e2]; simp only [e3]
  split
  · rfl
  · rename_i hb
    have hk : gnum ((s.drop 3).take 1) ≤ 58 := by simp only [Nat.reduceAdd] at hb ⊢; omega
    simp only [Nat.reduceAdd]
    obtain ⟨k, hkk⟩ : ∃ k, k = gnum ((s.drop 3).take 1) := ⟨_, rfl⟩
    rw [← hkk] at hk ⊢
    have e4 : rfix (s.drop 4, 0) (k : Nat) = ((s.drop 4).take k, ((s.drop 4).drop k, 0)) := rfix0 (by simp only [List.length_drop]; omega)
    have e5 : rfix ((s.drop 4).drop k, 0) (58 - k : Nat) = (((s.drop 4).drop k).take (58 - k), (((s.drop 4).drop k).drop (58 - k), 0)) := rfix0 (by simp only [List.length_drop]; omega)
    have e6 : rfix (((s.drop 4).drop k).drop (58 - k), 0) (2 : Nat) = ((((s.drop 4).drop k).drop (58 - k)).take 2, ((((s.drop 4).drop k).drop (58 - k)).drop 2, 0)) := rfix0 (by simp only [List.length_drop]; omega)
    rw [e4]; simp only; rw [e5]; simp only; rw [e6]; simp only
    rw [List.drop_drop (l := s.drop 4), List.drop_drop (i := k) (l := s), List.drop_drop (l := s), show 4 + (k + (58 - k)) = 62 by omega]
theorem hblk_len (g : Nat) : (hblk g).length = 64 := by unfold hblk; simp [be_len, zbytes_len]
theorem hblk_4 (g : Nat) : (hblk g).take 4 = be g 4 := by
  unfold hblk
  rw [List.nil_append, List.append_assoc, List.take_left' (be_len g 4)]
theorem hblk_60 (g : Nat) : (hblk g).drop 60 = be g 4 := by
  unfold hblk
  rw [List.nil_append, List.drop_left' (by simp [be_len, zbytes_len])]
theorem hblk_m (g : Nat) : ((hblk g).drop 4).take 56 = zbytes 56 := by
  unfold hblk
  rw [List.nil_append, List.append_assoc, List.drop_left' (be_len g 4), List.take_left' (zbytes_len 56)]
theorem hdr_hblk {g : Nat} (h : g < 4294967296) : hdr (hblk g) = g := by
  rw [hdr64 (hblk_len g), hblk_4, hblk_60, hblk_m, trimB_zb, List.take_of_length_le (by rw [be_len]; exact Nat.le_refl _), if_pos ⟨rfl, rfl⟩, gnum_be, Nat.mod_eq_of_lt h]
theorem be_zero : ∀ k, be 0 k = zbytes k
  | 0 => rfl
  | k + 1 => by rw [be, be_zero k, Nat.zero_div]; rfl
theorem hblk_zero : hblk 0 = zbytes 64 := by
  unfold hblk
  rw [be_zero, List.nil_append]
  unfold zbytes
  rw [List.replicate_append_replicate, List.replicate_append_replicate]
theorem hdr_zb : hdr (zbytes 64) = 0 := by rw [← hblk_zero]; exact hdr_hblk (by decide)
/-- the first c bytes of one, behind them the other's -/
def mix (c : Nat) (a b : List UInt8) : List UInt8 := a.take c ++ b.drop c
theorem mix_len {c : Nat} {a b : List UInt8} (ha : a.length = 64) (hb : b.length = 64) (hc : c ≤ 64) : (mix c a b).length = 64 := by
  unfold mix; rw [List.length_append, List.length_take, List.length_drop]; omega
theorem mix_take {c m : Nat} {a b : List UInt8} (ha : a.length = 64) (hc : c ≤ 64) (hm : m ≤ c) : (mix c a b).take m = a.take m := by
  unfold mix
  rw [List.take_append_of_le_length (by rw [List.length_take]; omega), List.take_take, Nat.min_eq_left hm]
theorem mix_drop {c m : Nat} {a b : List UInt8} (ha : a.length = 64) (hc : c ≤ 64) (hm : c ≤ m) : (mix c a b).drop m = b.drop m := by
  unfold mix
  rw [List.drop_append, List.drop_of_length_le (by rw [List.length_take]; omega), List.nil_append, List.length_take, Nat.min_eq_left (by omega), List.drop_drop]
  congr 1; omega
theorem mix_full {a b : List UInt8} (ha : a.length = 64) (hb : b.length = 64) : mix 64 a b = a := by
  unfold mix
  rw [List.take_of_length_le (by omega), List.drop_of_length_le (by omega), List.append_nil]
theorem mix_same (c : Nat) (a : List UInt8) : mix c a a = a := List.take_append_drop c a
theorem hdr_mix {c new old : Nat} (hn : new < 4294967296) (ho : old < 4294967296) (hc : c ≤ 64) : hdr (mix c (hblk new) (hblk old)) = 0 ∨ hdr (mix c (hblk new) (hblk old)) = new ∨ hdr (mix c (hblk new) (hblk old)) = old := by
  rw [hdr64 (mix_len (hblk_len new) (hblk_len old) hc)]
  split
  · rename_i h
    by_cases h4 : 4 ≤ c
    · right; left
      rw [mix_take (hblk_len new) hc h4, hblk_4, gnum_be, Nat.mod_eq_of_lt hn]
    · right; right
      rw [← h.2, mix_drop (hblk_len new) hc (by omega), hblk_60, List.take_of_length_le (by rw [be_len]; exact Nat.le_refl _), gnum_be, Nat.mod_eq_of_lt ho]
  · exact .inl rfl
/-! ### log blocks -/
theorem rblk_len {i fl : Nat} {p : List UInt8} (h : p.length ≤ 58) : (rblk i fl p).length = 64 := by
  unfold rblk; simp only [List.nil_append, List.length_append, be_len, zbytes_len]; omega
theorem pce_rblk {i fl : Nat} {p : List UInt8} (hi : i < 65536) (hf : fl ≤ 1) (hp : p.length ≤ 58) (h0 : fl = 0 → p.length = 58) : pce i (rblk i fl p) = (p, decide (fl = 1), true) := by
  have e : rblk i fl p = be i 2 ++ (be fl 1 ++ (be p.length 1 ++ (p ++ (zbytes (58 - p.length) ++ be i 2)))) := by unfold rblk; simp
  have g1 : gnum (be i 2) = i := by rw [gnum_be]; omega
  have g2 : gnum (be fl 1) = fl := by rw [gnum_be]; omega
  have g3 : gnum (be p.length 1) = p.length := by rw [gnum_be]; omega
  rw [e]
  unfold pce
  simp only [rfix_app (be_len i 2)]
  simp only [rfix_app (be_len fl 1)]
  simp only [rfix_app (be_len p.length 1)]
  simp only [g1, g2, g3]
  rw [if_neg (by omega), rfix_app rfl]
  simp only
  rw [rfix_app (zbytes_len _)]
  simp only
  have e7 : rfix (be i 2, 0) (2 : Nat) = (be i 2, ([], 0)) := by
    have := rfix_app (r := []) (be_len i 2); rwa [List.append_nil] at this
  rw [e7]
  simp only
  rw [g1, trimB_zb]
  simp
theorem pce_zb {i : Nat} (h : i ≠ 0) : (pce i (zbytes 64)).2.2 = false := by
  rw [pce64 i (zbytes_len 64)]
  rw [if_pos]
  left
  have : (zbytes 64).take 2 = zbytes 2 := by unfold zbytes; rw [List.take_replicate]; rfl
  rw [this, gnum_zb]; exact fun e => h e.symm
/-- a log block that is torn over zeros is not whole: its last byte lacks -/
theorem pce_mix {i c : Nat} {a : List UInt8} (ha : a.length = 64) (hc : c < 64) (hi : i % 256 ≠ 0) : (pce i (mix c a (zbytes 64))).2.2 = false := by
  have hl := mix_len ha (zbytes_len 64) (Nat.le_of_lt hc)
  rw [pce64 i hl]
  split
  · rfl
  · simp only [decide_eq_false_iff_not, not_and]
    intro h
    exfalso
    have h63 : ((mix c a (zbytes 64)).drop 63) = [0] := by
      rw [mix_drop ha (Nat.le_of_lt hc) (by omega)]; rfl
    obtain ⟨x, hx⟩ : ∃ x, ((mix c a (zbytes 64)).drop 62) = [x, 0] := by
      have h62 : 62 < (mix c a (zbytes 64)).length := by omega
      exact ⟨_, by rw [List.drop_eq_getElem_cons h62, h63]⟩
    rw [hx] at h
    have : gnum (List.take 2 [x, 0]) = x.toNat * 256 := by simp [gnum]
    rw [this] at h
    omega
end Go.X
