/- Package region: Read. -/
import Derived.Test.YtmmofanfgoahkaaGreatDoorZ17
namespace Go.X
open Go Go.Proofs
abbrev gstrs (l : List (List UInt8)) : List Value := l.map str
theorem gstrs_len (l : List (List UInt8)) : (gstrs l).length = l.length := List.length_map _
theorem rstep_bd {st : Rs} {p : Nat × List UInt8} {m : Nat} (hg : st.group.length ≤ 1000 * m) (hs : st.groups.length ≤ m) (hp : p.2.length ≤ 1000) : (rstep st p).group.length ≤ 1000 * (m + 1) ∧ (rstep st p).groups.length ≤ m + 1 := by
  have h1 : (pce p.1 p.2).1.length ≤ 1000 := by
    unfold pce
    simp only
    split
    · exact Nat.zero_le _
    · have a := rfix_rest (p.2, 0) (2 : Nat)
      have b := rfix_rest (rfix (p.2, 0) (2 : Nat)).2 (1 : Nat)
      have c := rfix_rest (rfix (rfix (p.2, 0) (2 : Nat)).2 (1 : Nat)).2 (1 : Nat)
      have d := rfix_rest (rfix (rfix (rfix (p.2, 0) (2 : Nat)).2 (1 : Nat)).2 (1 : Nat)).2 (gnum (rfix (rfix (rfix (p.2, 0) (2 : Nat)).2 (1 : Nat)).2 (1 : Nat)).1 : Nat)
      simp only at a ⊢
      omega
  unfold rstep
  split
  · exact ⟨by simp only; omega, by simp only; omega⟩
  · split
    · exact ⟨by simp only; omega, by simp only; omega⟩
    · split
      · exact ⟨by simp, by simp only [List.length_append, List.length_singleton]; omega⟩
      · exact ⟨by simp only [List.length_append]; omega, by simp only; omega⟩
theorem rtell_bd : ∀ (l : List (Nat × List UInt8)), (∀ p ∈ l, p.2.length ≤ 1000) → (rtell l).group.length ≤ 1000 * l.length ∧ (rtell l).groups.length ≤ l.length := by
  have key : ∀ (l : List (Nat × List UInt8)) (st : Rs) (m : Nat), st.group.length ≤ 1000 * m → st.groups.length ≤ m → (∀ p ∈ l, p.2.length ≤ 1000) → (l.foldl rstep st).group.length ≤ 1000 * (m + l.length) ∧ (l.foldl rstep st).groups.length ≤ m + l.length := by
    intro l
    induction l with
    | nil => intro st m h1 h2 _; exact ⟨h1, h2⟩
    | cons p l ih =>
      intro st m h1 h2 h
      obtain ⟨h3, h4⟩ := rstep_bd h1 h2 (h p (.head _))
      have := ih (rstep st p) (m + 1) h3 h4 (fun q hq => h q (.tail _ hq))
      rw [List.length_cons, List.foldl_cons, show m + (l.length + 1) = m + 1 + l.length by omega]
      exact this
  intro l h
  have := key l rs0 0 (Nat.zero_le _) (Nat.zero_le _) h
  rwa [Nat.zero_add] at this
theorem gnum_le4 (l : List UInt8) (h : l.length ≤ 4) : gnum l < 4294967296 := Nat.lt_of_lt_of_le (gnum_lt l) (pow_le4 h)
theorem hdr_lt (s : List UInt8) : hdr s < 4294967296 := by
  unfold hdr
  split
  · exact gnum_le4 _ (rfix_len _ _)
  · decide
def rblks (ds : List Slot) (a n : Nat) : List (Nat × List UInt8) := (List.range n).map fun k => (k, (drd ds (a + k : Nat)).1)
theorem rblks_at (ds : List Slot) (a : Nat) {n k : Nat} (h : k < n) : (rblks ds a n)[k]? = some (k, (drd ds (a + k : Nat)).1) := by unfold rblks; rw [List.getElem?_map, List.getElem?_range h]; rfl
theorem rblks_len (ds : List Slot) (a n : Nat) : (rblks ds a n).length = n := by unfold rblks; rw [List.length_map, List.length_range]
theorem drd_len {ds : List Slot} (h : Oks ds) (k : Int) : (drd ds k).1.length ≤ 64 := by
  unfold drd
  split
  · exact Nat.zero_le _
  · split
    · exact Nat.zero_le _
    · simp only [List.getD_eq_getElem?_getD]
      cases hd : ds[k.toNat]? with
      | none => simp [slot0, zbytes]
      | some s => simp [(h s (List.mem_of_getElem? hd)).2]
theorem rblks_bd {ds : List Slot} (h : Oks ds) (a n : Nat) : ∀ p ∈ rblks ds a n, p.2.length ≤ 64 := by
  intro p hp
  unfold rblks at hp
  obtain ⟨k, _, rfl⟩ := List.mem_map.1 hp
  exact drd_len h _
/-- there is no such stretch -/
theorem gread_bad (bl b : Nat) (lv vc : Value) (cut : Int) (ch : List Int) (x : Ln) (a n : Int) (w : World) (hk : Oks x.ds) (hn : x.ds.length ≤ 100000) (ht : thr x.ds.length a n ≠ 0) (ho : Owns w (lnX bl b lv vc cut ch x)) :
    Fx Tryz.prog 46 [ptr bl, iv a, iv n] w (Pure w (.tuple #[.int .u32 0, .slice none 0 0, iv (thr x.ds.length a n)])) := by
  have hown : ∀ w', Kept [] w w' → Owns w' (lnX bl b lv vc cut ch x) := fun w' k => ho.of_kept k (fun _ _ h => by cases h)
  refine Fx.of (L0 := []) Tryz.func46 rfl (by kernel_rfl) Tryz.ntmps46 rfl (Owns.nil w) ?_
  refine go (k := ?_)
  refine XL.q (.call rfl rfl fun _ w' hs => there_ok bl b lv vc cut ch x a n w' hk hn (hown w' hs.kept)) rfl ?_
  refine go (k := ?_)
  exact XE.ret3 () [] rfl rfl rfl rfl trivial rfl rfl rfl
theorem gread_down (bl b : Nat) (lv vc : Value) (cut : Int) (ch : List Int) (x : Ln) (a n : Nat) (w : World) (hk : Oks x.ds) (hn0 : 0 < x.ds.length) (hn : x.ds.length ≤ 100000) (ht : thr x.ds.length a n = 0) (hd : x.down = true) (ho : Owns w (lnX bl b lv vc cut ch x)) :
    Fx Tryz.prog 46 [ptr bl, iv a, iv n] w (Pure w (.tuple #[.int .u32 0, .slice none 0 0, iv 8])) := by
  have hown : ∀ w', Kept [] w w' → Owns w' (lnX bl b lv vc cut ch x) := fun w' k => ho.of_kept k (fun _ _ h => by cases h)
  have hlen : (a : Int) + n ≤ 200000 ∧ 2 ≤ (n : Int) := by
    unfold thr at ht
    split at ht
    · cases ht
    · omega
  obtain ⟨acts, down, ds⟩ := x
  simp only at hd hk hn hn0 ht
  subst hd
  refine Fx.of (L0 := []) Tryz.func46 rfl (by kernel_rfl) Tryz.ntmps46 rfl (Owns.nil w) ?_
  refine go (k := ?_)
  refine XL.q (.call (v := iv 0) rfl rfl fun _ w' hs => by
    have := there_ok bl b lv vc cut ch ⟨acts, true, ds⟩ a n w' hk hn (hown w' hs.kept)
    rw [ht] at this; exact this) rfl ?_
  refine go (k := ?_)
  refine XC.loop (α := Unit) (fun _ => [(0, ptr bl), (1, iv a), (2, iv n), (25, iv n), (26, iv 0)]) (fun _ => []) (fun _ => True) (fun _ => 0) () [] trivial ⟨rfl, rfl, rfl, rfl, rfl, trivial⟩ rfl rfl ?_
  rintro ⟨⟩ _
  have h0 : (0 : Int) < (n : Int) := by omega
  refine go (k := ?_)
  refine XL.q (.call (v := .tuple #[str [], iv 8]) rfl rfl fun _ w hs => lread_ok bl b lv vc cut ch ⟨acts, true, ds⟩ _ w hk hn0 (hown w hs.kept)) rfl ?_
  refine go (k := ?_)
  exact XE.ret3 () [] rfl rfl rfl rfl trivial rfl rfl rfl
set_option maxHeartbeats 1000000 in
theorem grread_ok (bl b : Nat) (lv vc : Value) (cut : Int) (ch : List Int) (x : Ln) (a n : Nat) (w : World) (hk : Oks x.ds) (hn0 : 0 < x.ds.length) (hn : x.ds.length ≤ 100000) (ht : thr x.ds.length a n = 0) (hd : x.down = false) (ho : Owns w (lnX bl b lv vc cut ch x)) :
    Fx Tryz.prog 46 [ptr bl, iv a, iv n] w (Ret w [] (fun v : Value => .tuple #[.int .u32 (rtell (rblks x.ds a n)).gen, v, iv 0]) (fun v => [.sl v 9 1 (gstrs (rtell (rblks x.ds a n)).groups)]) (fun _ => True)) := by
  have hown : ∀ w', Kept [] w w' → Owns w' (lnX bl b lv vc cut ch x) := fun w' k => ho.of_kept k (fun _ _ h => by cases h)
  have hlen : (a : Int) + n ≤ x.ds.length ∧ 2 ≤ (n : Int) ∧ (n : Int) ≤ 65536 := by
    unfold thr at ht
    split at ht
    · cases ht
    · omega
  obtain ⟨acts, down, ds⟩ := x
  simp only at hd hk hn hn0 ht hlen ⊢
  subst hd
  refine Fx.of (L0 := []) Tryz.func46 rfl (by kernel_rfl) Tryz.ntmps46 rfl (Owns.nil w) ?_
  refine go (k := ?_)
  refine XL.q (.call (v := iv 0) rfl rfl fun _ w' hs => by
    have := there_ok bl b lv vc cut ch ⟨acts, false, ds⟩ a n w' hk hn (hown w' hs.kept)
    rw [ht] at this; exact this) rfl ?_
  refine go (k := ?_)
  refine XC.addNil 9 1 ?_
  refine XC.loop (α := Nat × Value × Rs) (fun y => [(0, ptr bl), (1, iv a), (2, iv n), (6, .int .u32 y.2.2.gen), (7, y.2.1), (10, .bool y.2.2.going), (11, str y.2.2.group), (25, iv n), (26, iv y.1)]) (fun y => [.sl y.2.1 9 1 (gstrs y.2.2.groups)])
    (fun y => y.1 ≤ n ∧ y.2.2 = rtell ((rblks ds a n).take y.1)) (fun y => n - y.1) (0, .slice none 0 0, rs0) [0] ⟨Nat.zero_le _, rfl⟩ ⟨rfl, rfl, rfl, rfl, rfl, rfl, rfl, rfl, rfl, trivial⟩ rfl rfl ?_
  rintro ⟨k, v, st⟩ ⟨hkn, hst⟩
  simp only at hkn hst ⊢
  by_cases hlt : k < n
  · have hat := rblks_at ds a hlt
    have hbd := rtell_bd ((rblks ds a n).take k) (fun p hp => by have := rblks_bd hk a n p (List.mem_of_mem_take hp); omega)
    rw [← hst, List.length_take, rblks_len, Nat.min_eq_left (Nat.le_of_lt hlt)] at hbd
    have hs1 : rtell ((rblks ds a n).take (k + 1)) = rstep st (k, (drd ds (a + k : Nat)).1) := by
      rw [take_snoc hat, rtell_snoc, ← hst]
    have hdr : Ln.read ⟨acts, false, ds⟩ ((a : Int) + (k : Int)) = ((drd ds (a + k : Nat)).1, 0) := by
      unfold Ln.read
      rw [if_neg (by simp)]
      have h1 : (drd ds ((a : Int) + (k : Int))).2 = 0 := by
        unfold drd
        rw [if_neg (by omega), if_neg (by omega)]
      have h2 : ((a : Int) + (k : Int)) = ((a + k : Nat) : Int) := by omega
      rw [← h1, h2]
    have hsl := drd_len hk (a + k : Nat)
    obtain ⟨s, hs⟩ : ∃ s, s = (drd ds (a + k : Nat)).1 := ⟨_, rfl⟩
    rw [← hs] at hs1 hdr hsl
    obtain ⟨gen, groups, group, going⟩ := st
    simp only at hbd hst ⊢
    refine go (k := ?_)
    refine XL.q (.call (v := .tuple #[str s, iv 0]) rfl rfl fun _ w hs => by
      have := lread_ok bl b lv vc cut ch ⟨acts, false, ds⟩ ((a : Int) + (k : Int)) w hk hn0 (hown w hs.kept)
      rw [hdr] at this; exact this) rfl ?_
    by_cases h0 : k = 0
    · subst h0
      refine go (k := ?_)
      refine XL.q (.call rfl rfl fun _ w _ => header_ok s w (by omega)) rfl ?_
      refine go (k := ?_)
      refine XE.mid (0 + 1, v, _) [0] ⟨⟨by simp only; omega, by simp only; rw [hs1]⟩, by simp only; omega⟩ ?_ rfl ?_
      · unfold rstep; rw [if_pos rfl]; exact ⟨rfl, rfl, rfl, rfl, rfl, rfl, rfl, rfl, rfl, trivial⟩
      · unfold rstep; rw [if_pos rfl]; rfl
    · have h0' : ¬ (k : Int) = 0 := by omega
      have e1 : rstep ⟨gen, groups, group, going⟩ (k, s) = if (going && (pce k s).2.2) = false then ⟨gen, groups, group, false⟩ else if (pce k s).2.1 = true then ⟨gen, groups ++ [group ++ (pce k s).1], [], going⟩ else ⟨gen, groups, group ++ (pce k s).1, going⟩ := by
        unfold rstep; rw [if_neg (show ¬ (k, s).1 = 0 from h0)]
      rw [e1] at hs1
      have hpl : (pce k s).1.length ≤ 1000 := by
        have := (rstep_bd (st := ⟨0, [], [], true⟩) (p := (k, s)) (m := 0) (Nat.zero_le _) (Nat.zero_le _) (by simp only; omega)).1
        have := (rtell_bd [(k, s)] (by simp; omega)).1
        unfold pce
        simp only
        split
        · exact Nat.zero_le _
        · have a := rfix_rest (s, 0) (2 : Nat)
          have b := rfix_rest (rfix (s, 0) (2 : Nat)).2 (1 : Nat)
          have c := rfix_rest (rfix (rfix (s, 0) (2 : Nat)).2 (1 : Nat)).2 (1 : Nat)
          have d := rfix_rest (rfix (rfix (rfix (s, 0) (2 : Nat)).2 (1 : Nat)).2 (1 : Nat)).2 (gnum (rfix (rfix (rfix (s, 0) (2 : Nat)).2 (1 : Nat)).2 (1 : Nat)).1 : Nat)
          simp only at a ⊢
          omega
      refine go (k := ?_)
      refine XL.q (.call rfl rfl fun _ w _ => piece_ok k s w (by omega) (by omega)) rfl ?_
      obtain ⟨⟨t, en, wh⟩, hp⟩ : ∃ p, p = pce k s := ⟨_, rfl⟩
      rw [← hp] at hs1 hpl ⊢
      simp only at hs1 hpl ⊢
      cases going with
      | false =>
        simp only [Bool.false_and, if_true] at hs1
        refine go (k := ?_)
        exact XE.mid (k + 1, v, _) [0] ⟨⟨by simp only; omega, by simp only; rw [hs1]⟩, by simp only; omega⟩ ⟨rfl, rfl, rfl, rfl, rfl, rfl, rfl, rfl, rfl, trivial⟩ rfl rfl
      | true =>
        cases wh with
        | false =>
          simp only [Bool.and_false, if_true] at hs1
          refine go (k := ?_)
          exact XE.mid (k + 1, v, _) [0] ⟨⟨by simp only; omega, by simp only; rw [hs1]⟩, by simp only; omega⟩ ⟨rfl, rfl, rfl, rfl, rfl, rfl, rfl, rfl, rfl, trivial⟩ rfl rfl
        | true =>
          simp only [Bool.and_true, Bool.true_eq_false, if_false] at hs1
          cases en with
          | false =>
            simp only [Bool.false_eq_true, if_false] at hs1
            refine go (k := ?_)
            exact XE.mid (k + 1, v, _) [0] ⟨⟨by simp only; omega, by simp only; rw [hs1]⟩, by simp only; omega⟩ ⟨rfl, rfl, rfl, rfl, rfl, rfl, rfl, rfl, rfl, trivial⟩ rfl rfl
          | true =>
            simp only [if_true] at hs1
            refine go (k := ?_)
            refine XL.make (.bslice rfl rfl rfl rfl rfl rfl) rfl fun _ _ hb => ?_
            obtain ⟨bs, rfl, rfl⟩ := hb
            refine go (k := ?_)
            refine XL.app (m := 1) (news := [str (group ++ t)]) (L' := fun v'' => _ :: .sl v'' 9 1 (gstrs groups ++ [str (group ++ t)]) :: _) rfl rfl rfl rfl rfl rfl (by decide) (.tail _ (.head _)) (.blk (.head _) rfl (Nat.le_refl _) rfl) rfl (by simp only [gstrs_len, List.length_singleton]; omega) (by simp only [gstrs_len, List.length_singleton]; omega) (fun _ => .there .here) rfl fun v2 => ?_
            refine go (k := ?_)
            exact XE.mid (k + 1, v2, _) [1] ⟨⟨by simp only; omega, by simp only; rw [hs1]⟩, by simp only; omega⟩ ⟨rfl, rfl, rfl, rfl, rfl, rfl, rfl, rfl, rfl, trivial⟩ rfl (by simp [X.pick, gstrs])
  · obtain rfl : k = n := by omega
    rw [List.take_of_length_le (by rw [rblks_len]; exact Nat.le_refl _)] at hst
    subst hst
    refine go (k := ?_)
    exact XE.ret3 v [0] rfl rfl rfl rfl trivial rfl rfl rfl
end Go.X
/- Package region: plain facts: what blocks tell, whole and torn. -/
namespace Go.X
open Go Go.Proofs
theorem gfold_eq : ∀ (l : List UInt8) (a : Nat), l.foldl (fun n c => n * 256 + c.toNat) a = a * 256 ^ l.length + gnum l
  | [], a => by simp [gnum]
  | c :: l, a => by
    unfold gnum
    rw [List.foldl_cons, List.foldl_cons, gfold_eq l, gfold_eq l, List.length_cons, Nat.pow_succ, Nat.add_mul, Nat.zero_mul, Nat.zero_add, Nat.mul_assoc, Nat.mul_comm 256, Nat.add_assoc]
theorem gnum_cons (c : UInt8) (l : List UInt8) : gnum (c :: l) = c.toNat * 256 ^ l.length + gnum l := by
  show List.foldl _ _ _ = _
  rw [List.foldl_cons, gfold_eq, Nat.zero_mul, Nat.zero_add]
theorem gnum_be (n : Nat) : ∀ k, gnum (be n k) = n % 256 ^ k
  | 0 => by simp [be, gnum, Nat.mod_one]
  | k + 1 => by
    have h2 : n % 256 ^ (k + 1) = n % 256 ^ k + 256 ^ k * (n / 256 ^ k % 256) := Nat.mod_pow_succ
    have : n / 256 ^ k % 256 % 2 ^ 8 = n / 256 ^ k % 256 := by omega
    rw [be, gnum_cons, be_len, gnum_be n k, UInt8.toNat_ofNat', this, h2, Nat.mul_comm, Nat.add_comm]
theorem gnum_zb : ∀ n, gnum (zbytes n) = 0
  | 0 => rfl
  | n + 1 => by
    show gnum (0 :: zbytes n) = 0
    rw [gnum_cons, gnum_zb n]; simp
theorem dropWhile_nil {p : UInt8 → Bool} : ∀ {l : List UInt8}, l.dropWhile p = [] ↔ ∀ x ∈ l, p x = true
  | [] => by simp
  | a :: l => by
    rw [List.dropWhile_cons]
    split
    · rename_i h
      rw [dropWhile_nil]
      simp [h]
    · rename_i h
      simp [h]
theorem trimB_nil {l : List UInt8} : Lib.trimB l 0 = [] ↔ ∀ c ∈ l, c = 0 := by
  unfold Lib.trimB Lib.trimLeftB Lib.trimRightB
  constructor
  · intro h
    have h1 : ∀ x ∈ l.reverse.dropWhile (· == 0), (x == (0 : UInt8)) = true := by
      intro x hx
      exact dropWhile_nil.1 h x (List.mem_reverse.2 hx)
    have h2 : l.reverse.dropWhile (· == 0) = [] := by
      cases hd : l.reverse.dropWhile (· == 0) with
      | nil => rfl
      | cons a t =>
        have h3 := List.head_dropWhile_not (fun x : UInt8 => x == 0) (by rw [hd]; exact List.cons_ne_nil _ _ : l.reverse.dropWhile (· == 0) ≠ [])
        have h4 := h1 _ (List.head_mem (by rw [hd]; exact List.cons_ne_nil _ _ : l.reverse.dropWhile (· == 0) ≠ []))
        rw [h4] at h3; cases h3
    intro c hc
    simpa using dropWhile_nil.1 h2 c (List.mem_reverse.2 hc)
  · intro h
    have h2 : l.reverse.dropWhile (· == 0) = [] := dropWhile_nil.2 (fun x hx => by simp [h x (List.mem_reverse.1 hx)])
    rw [h2]; rfl
theorem trimB_zb (n : Nat) : Lib.trimB (zbytes n) 0 = [] := trimB_nil.2 fun _ hc => (List.mem_replicate.1 hc).2
theorem rfix0 {s : List UInt8} {n : Nat} (h : n ≤ s.length) : rfix (s, 0) (n : Nat) = (s.take n, (s.drop n, 0)) := by
  unfold rfix
  by_cases h0 : n = 0
  · subst h0; rw [if_pos (.inr (Int.le_refl _))]; simp
  · rw [if_neg (by simp; omega), if_neg (by simp; omega)]; rfl
theorem rfix_app {a r : List UInt8} {n : Nat} (h : a.length = n) : rfix (a ++ r, 0) (n : Nat) = (a, (r, 0)) := by
  rw [rfix0 (by rw [List.length_append]; omega), List.take_left' h, List.drop_left' h]
theorem hdr64 {s : List UInt8} (h : s.length = 64) : hdr s = if Lib.trimB ((s.drop 4).take 56) 0 = [] ∧ gnum ((s.drop 60).take 4) = gnum (s.take 4) then gnum (s.take 4) else 0 := by
  unfold hdr
  have e1 : rfix (s, 0) (4 : Nat) = (s.take 4, (s.drop 4, 0)) := rfix0 (by omega)
  have e2 : rfix (s.drop 4, 0) (56 : Nat) = ((s.drop 4).take 56, ((s.drop 4).drop 56, 0)) := rfix0 (by rw [List.length_drop]; omega)
  have e3 : rfix ((s.drop 4).drop 56, 0) (4 : Nat) = (((s.drop 4).drop 56).take 4, (((s.drop 4).drop 56).drop 4, 0)) := rfix0 (by simp only [List.length_drop]; omega)
  rw [e1]; simp only; rw [e2]; simp only; rw [e3]; simp only
  rw [List.drop_drop]
theorem pce64 (i : Nat) {s : List UInt8} (h : s.length = 64) : pce i s = if gnum (s.take 2) ≠ i ∨ 1 < gnum ((s.drop 2).take 1) ∨ 58 < gnum ((s.drop 3).take 1) ∨ (gnum ((s.drop 2).take 1) = 0 ∧ gnum ((s.drop 3).take 1) < 58) then ([], false, false)
    else ((s.drop 4).take (gnum ((s.drop 3).take 1)), decide (gnum ((s.drop 2).take 1) = 1), decide (gnum ((s.drop 62).take 2) = i ∧ Lib.trimB ((s.drop (4 + gnum ((s.drop 3).take 1))).take (58 - gnum ((s.drop 3).take 1))) 0 = [])) := by
  unfold pce
  have e1 : rfix (s, 0) (2 : Nat) = (s.take 2, (s.drop 2, 0)) := rfix0 (by omega)
  have e2 : rfix (s.drop 2, 0) (1 : Nat) = ((s.drop 2).take 1, ((s.drop 2).drop 1, 0)) := rfix0 (by rw [List.length_drop]; omega)
  have e3 : rfix ((s.drop 2).drop 1, 0) (1 : Nat) = (((s.drop 2).drop 1).take 1, (((s.drop 2).drop 1).drop 1, 0)) := rfix0 (by simp only [List.length_drop]; omega)
  rw [List.drop_drop] at e2 e3
  rw [List.drop_drop] at e3
  simp only [e1]; simp only [e2]; simp only [e3]
  split
  · rfl
  · rename_i hb
    have hk : gnum ((s.drop 3).take 1) ≤ 58 := by simp only [Nat.reduceAdd] at hb ⊢; omega
    simp only [Nat.reduceAdd]
    obtain ⟨k, hkk⟩ : ∃ k, k = gnum ((s.drop 3).take 1) := ⟨_, rfl⟩
    rw [← hkk] at hk ⊢
    have e4 : rfix (s.drop 4, 0) (k : Nat) = ((s.drop 4).take k, ((s.drop 4).drop k, 0)) := rfix0 (by simp only [List.length_drop]; omega)
    have e5 : rfix ((s.drop 4).drop k, 0) (58 - k : Nat) = (((s.drop 4).drop k).take (58 - k), (((s.drop 4).drop k).drop (58 - k), 0)) := rfix0 (by simp only [List.length_drop]; omega)
    have e6 : rfix (((s.drop 4).drop k).drop (58 - k), 0) (2 : Nat) = ((((s.drop 4).drop k).drop (58 - k)).take 2, ((((s.drop 4).drop k).drop (58 - k)).drop 2, 0)) := rfix0 (by simp only [List.length_drop]; omega)
    rw [e4]; simp only; rw [e5]; simp only; rw [e6]; simp only
    rw [List.drop_drop (l := s.drop 4), List.drop_drop (i := k) (l := s), List.drop_drop (l := s), show 4 + (k + (58 - k)) = 62 by omega]
theorem hblk_len (g : Nat) : (hblk g).length = 64 := by unfold hblk; simp [be_len, zbytes_len]
theorem hblk_4 (g : Nat) : (hblk g).take 4 = be g 4 := by
  unfold hblk
  rw [List.nil_append, List.append_assoc, List.take_left' (be_len g 4)]
theorem hblk_60 (g : Nat) : (hblk g).drop 60 = be g 4 := by
  unfold hblk
  rw [List.nil_append, List.drop_left' (by simp [be_len, zbytes_len])]
theorem hblk_m (g : Nat) : ((hblk g).drop 4).take 56 = zbytes 56 := by
  unfold hblk
  rw [List.nil_append, List.append_assoc, List.drop_left' (be_len g 4), List.take_left' (zbytes_len 56)]
theorem hdr_hblk {g : Nat} (h : g < 4294967296) : hdr (hblk g) = g := by
  rw [hdr64 (hblk_len g), hblk_4, hblk_60, hblk_m, trimB_zb, List.take_of_length_le (by rw [be_len]; exact Nat.le_refl _), if_pos ⟨rfl, rfl⟩, gnum_be, Nat.mod_eq_of_lt h]
theorem be_zero : ∀ k, be 0 k = zbytes k
  | 0 => rfl
  | k + 1 => by rw [be, be_zero k, Nat.zero_div]; rfl
theorem hblk_zero : hblk 0 = zbytes 64 := by
  unfold hblk
  rw [be_zero, List.nil_append]
  unfold zbytes
  rw [List.replicate_append_replicate, List.replicate_append_replicate]
theorem hdr_zb : hdr (zbytes 64) = 0 := by rw [← hblk_zero]; exact hdr_hblk (by decide)
/-- the first c bytes of one, behind them the other's -/
def mix (c : Nat) (a b : List UInt8) : List UInt8 := a.take c ++ b.drop c
theorem mix_len {c : Nat} {a b : List UInt8} (ha : a.length = 64) (hb : b.length = 64) (hc : c ≤ 64) : (mix c a b).length = 64 := by
  unfold mix; rw [List.length_append, List.length_take, List.length_drop]; omega
theorem mix_take {c m : Nat} {a b : List UInt8} (ha : a.length = 64) (hc : c ≤ 64) (hm : m ≤ c) : (mix c a b).take m = a.take m := by
  unfold mix
  rw [List.take_append_of_le_length (by rw [List.length_take]; omega), List.take_take, Nat.min_eq_left hm]
theorem mix_drop {c m : Nat} {a b : List UInt8} (ha : a.length = 64) (hc : c ≤ 64) (hm : c ≤ m) : (mix c a b).drop m = b.drop m := by
  unfold mix
  rw [List.drop_append, List.drop_of_length_le (by rw [List.length_take]; omega), List.nil_append, List.length_take, Nat.min_eq_left (by omega), List.drop_drop]
  congr 1; omega
theorem mix_full {a b : List UInt8} (ha : a.length = 64) (hb : b.length = 64) : mix 64 a b = a := by
  unfold mix
  rw [List.take_of_length_le (by omega), List.drop_of_length_le (by omega), List.append_nil]
theorem mix_same (c : Nat) (a : List UInt8) : mix c a a = a := List.take_append_drop c a
theorem hdr_mix {c new old : Nat} (hn : new < 4294967296) (ho : old < 4294967296) (hc : c ≤ 64) : hdr (mix c (hblk new) (hblk old)) = 0 ∨ hdr (mix c (hblk new) (hblk old)) = new ∨ hdr (mix c (hblk new) (hblk old)) = old := by
  rw [hdr64 (mix_len (hblk_len new) (hblk_len old) hc)]
  split
  · rename_i h
    by_cases h4 : 4 ≤ c
    · right; left
      rw [mix_take (hblk_len new) hc h4, hblk_4, gnum_be, Nat.mod_eq_of_lt hn]
    · right; right
      rw [← h.2, mix_drop (hblk_len new) hc (by omega), hblk_60, List.take_of_length_le (by rw [be_len]; exact Nat.le_refl _), gnum_be, Nat.mod_eq_of_lt ho]
  · exact .inl rfl
/-! ### log blocks -/
theorem rblk_len {i fl : Nat} {p : List UInt8} (h : p.length ≤ 58) : (rblk i fl p).length = 64 := by
  unfold rblk; simp only [List.nil_append, List.length_append, be_len, zbytes_len]; omega
theorem pce_rblk {i fl : Nat} {p : List UInt8} (hi : i < 65536) (hf : fl ≤ 1) (hp : p.length ≤ 58) (h0 : fl = 0 → p.length = 58) : pce i (rblk i fl p) = (p, decide (fl = 1), true) := by
  have e : rblk i fl p = be i 2 ++ (be fl 1 ++ (be p.length 1 ++ (p ++ (zbytes (58 - p.length) ++ be i 2)))) := by unfold rblk; simp
  have g1 : gnum (be i 2) = i := by rw [gnum_be]; omega
  have g2 : gnum (be fl 1) = fl := by rw [gnum_be]; omega
  have g3 : gnum (be p.length 1) = p.length := by rw [gnum_be]; omega
  rw [e]
  unfold pce
  simp only [rfix_app (be_len i 2)]
  simp only [rfix_app (be_len fl 1)]
  simp only [rfix_app (be_len p.length 1)]
  simp only [g1, g2, g3]
  rw [if_neg (by omega), rfix_app rfl]
  simp only
  rw [rfix_app (zbytes_len _)]
  simp only
  have e7 : rfix (be i 2, 0) (2 : Nat) = (be i 2, ([], 0)) := by
    have := rfix_app (r := []) (be_len i 2); rwa [List.append_nil] at this
  rw [e7]
  simp only
  rw [g1, trimB_zb]
  simp
theorem pce_zb {i : Nat} (h : i ≠ 0) : (pce i (zbytes 64)).2.2 = false := by
  rw [pce64 i (zbytes_len 64)]
  rw [if_pos]
  left
  have : (zbytes 64).take 2 = zbytes 2 := by unfold zbytes; rw [List.take_replicate]; rfl
  rw [this, gnum_zb]; exact fun e => h e.symm
/-- a log block that is torn over zeros is not whole: its last byte lacks -/
theorem pce_mix {i c : Nat} {a : List UInt8} (ha : a.length = 64) (hc : c < 64) (hi : i % 256 ≠ 0) : (pce i (mix c a (zbytes 64))).2.2 = false := by
  have hl := mix_len ha (zbytes_len 64) (Nat.le_of_lt hc)
  rw [pce64 i hl]
  split
  · rfl
  · simp only [decide_eq_false_iff_not, not_and]
    intro h
    exfalso
    have h63 : ((mix c a (zbytes 64)).drop 63) = [0] := by
      rw [mix_drop ha (Nat.le_of_lt hc) (by omega)]; rfl
    obtain ⟨x, hx⟩ : ∃ x, ((mix c a (zbytes 64)).drop 62) = [x, 0] := by
      have h62 : 62 < (mix c a (zbytes 64)).length := by omega
      exact ⟨_, by rw [List.drop_eq_getElem_cons h62, h63]⟩
    rw [hx] at h
    have : gnum (List.take 2 [x, 0]) = x.toNat * 256 := by simp [gnum]
    rw [this] at h
    omega
end Go.X
/- Package region: plain law: what a log is on a device, and what is read of it. -/
namespace Go.X
open Go Go.Proofs
/-- a piece of a group: its bytes, and whether the group ends with it -/
abbrev Pc := List UInt8 × Nat
def gps (s : List UInt8) : List Pc := (List.range (nd s.length)).map fun k => (gpc s k, gfl s.length k)
def lps (all : List (List UInt8)) : List Pc := all.flatMap gps
def POk (p : Pc) : Prop := p.2 ≤ 1 ∧ p.1.length ≤ 58 ∧ (p.2 = 0 → p.1.length = 58)
theorem gps_len (s : List UInt8) : (gps s).length = nd s.length := by unfold gps; rw [List.length_map, List.length_range]
theorem gps_at {s : List UInt8} {k : Nat} (h : k < nd s.length) : (gps s)[k]? = some (gpc s k, gfl s.length k) := by unfold gps; rw [List.getElem?_map, List.getElem?_range h]; rfl
theorem gpc_ok {s : List UInt8} {k : Nat} (h : k < nd s.length) : POk (gpc s k, gfl s.length k) := by
  refine ⟨?_, gpc_len h, fun h0 => ?_⟩
  · show gfl s.length k ≤ 1
    unfold gfl; split <;> decide
  · obtain ⟨g1, g2, g3, g4⟩ := gend_bd h
    have : k + 1 ≠ nd s.length := by
      intro e
      unfold gfl at h0
      rw [if_pos e] at h0; cases h0
    have := g4 this
    unfold gpc
    rw [List.length_drop, List.length_take]; omega
theorem gps_ok (s : List UInt8) : ∀ p ∈ gps s, POk p := by
  intro p hp
  unfold gps at hp
  obtain ⟨k, hk, rfl⟩ := List.mem_map.1 hp
  exact gpc_ok (List.mem_range.1 hk)
theorem lps_ok (all : List (List UInt8)) : ∀ p ∈ lps all, POk p := by
  intro p hp
  obtain ⟨s, _, hs⟩ := List.mem_flatMap.1 hp
  exact gps_ok s p hs
theorem lps_snoc (all : List (List UInt8)) (s : List UInt8) : lps (all ++ [s]) = lps all ++ gps s := by unfold lps; rw [List.flatMap_append]; simp
theorem lps_cons (all : List (List UInt8)) (s : List UInt8) : lps (s :: all) = gps s ++ lps all := by unfold lps; rw [List.flatMap_cons]
/-- what pieces tell -/
def pstep (st : List (List UInt8) × List UInt8) (p : Pc) : List (List UInt8) × List UInt8 := if p.2 = 1 then (st.1 ++ [st.2 ++ p.1], []) else (st.1, st.2 ++ p.1)
theorem gpc_next {s : List UInt8} {k : Nat} (h : k < nd s.length) : s.take (k * 58) ++ gpc s k = s.take (gend s.length k) := by
  obtain ⟨g1, _, _, _⟩ := gend_bd h
  unfold gpc
  have e : s.take (k * 58) = (s.take (gend s.length k)).take (k * 58) := by rw [List.take_take, Nat.min_eq_left g1]
  rw [e, List.take_append_drop]
theorem gps_part (s : List UInt8) (G : List (List UInt8)) : ∀ j, j < nd s.length → ((gps s).take j).foldl pstep (G, []) = (G, s.take (j * 58))
  | 0, _ => by simp
  | j + 1, h => by
    have hj : j < nd s.length := by omega
    obtain ⟨_, _, _, g4⟩ := gend_bd hj
    have ne : ¬ j + 1 = nd s.length := by omega
    rw [take_snoc (gps_at hj), List.foldl_append, gps_part s G j hj]
    have hf : gfl s.length j = 0 := by unfold gfl; rw [if_neg ne]
    simp only [List.foldl_cons, List.foldl_nil, pstep, hf]
    rw [if_neg (by decide), gpc_next hj, g4 ne]
theorem gps_all (s : List UInt8) (G : List (List UInt8)) : (gps s).foldl pstep (G, []) = (G ++ [s], []) := by
  have hp := nd_pos s.length
  obtain ⟨m, hm⟩ : ∃ m, nd s.length = m + 1 := ⟨nd s.length - 1, by omega⟩
  have hlt : m < nd s.length := by omega
  have e : gps s = (gps s).take m ++ [(gpc s m, gfl s.length m)] := by
    rw [← take_snoc (gps_at hlt), List.take_of_length_le (by rw [gps_len]; omega)]
  rw [e, List.foldl_append, gps_part s G m hlt]
  have hf : gfl s.length m = 1 := by unfold gfl; rw [if_pos hm.symm]
  have hg : gend s.length m = s.length := by unfold gend; rw [if_pos hm.symm]
  simp only [List.foldl_cons, List.foldl_nil, pstep, hf]
  rw [if_pos trivial, gpc_next hlt, hg, List.take_length]
theorem lps_tell : ∀ (all : List (List UInt8)) (W : Nat) (G : List (List UInt8)), ∃ r, r ≤ all.length ∧ (((lps all).take W).foldl pstep (G, [])).1 = G ++ all.take r ∧ ∀ q, q ≤ all.length → (lps (all.take q)).length ≤ W → q ≤ r
  | [], W, G => ⟨0, Nat.le_refl _, by simp [lps], fun q h _ => h⟩
  | s :: t, W, G => by
    rw [lps_cons]
    by_cases hW : (gps s).length ≤ W
    · obtain ⟨r, h1, h2, h3⟩ := lps_tell t (W - (gps s).length) (G ++ [s])
      refine ⟨r + 1, by rw [List.length_cons]; omega, ?_, ?_⟩
      · rw [List.take_append, List.take_of_length_le hW, List.foldl_append, gps_all, h2, List.take_succ_cons, List.append_assoc]; rfl
      · intro q hq hl
        cases q with
        | zero => omega
        | succ q =>
          rw [List.take_succ_cons, lps_cons, List.length_append] at hl
          have := h3 q (by rw [List.length_cons] at hq; omega) (by omega)
          omega
    · refine ⟨0, Nat.zero_le _, ?_, ?_⟩
      · rw [List.take_append_of_le_length (by omega), gps_part s G W (by rw [gps_len] at hW; omega)]; simp
      · intro q hq hl
        cases q with
        | zero => exact Nat.le_refl _
        | succ q =>
          rw [List.take_succ_cons, lps_cons, List.length_append] at hl
          omega
/-- block i (from 1 on) of a log -/
def lbk (ps : List Pc) (i : Nat) : List UInt8 := match ps[i - 1]? with
  | some p => rblk i p.2 p.1
  | none => zbytes 64
theorem lbk_app {ps qs : List Pc} {i : Nat} (h1 : 1 ≤ i) (h : i ≤ ps.length) : lbk (ps ++ qs) i = lbk ps i := by
  unfold lbk; rw [List.getElem?_append_left (by omega)]
theorem lbk_len {ps : List Pc} (h : ∀ p ∈ ps, POk p) (i : Nat) : (lbk ps i).length = 64 := by
  unfold lbk
  cases hp : ps[i - 1]? with
  | none => exact zbytes_len 64
  | some p => exact rblk_len (h p (List.mem_of_getElem? hp)).2.1
theorem pce_lbk {ps : List Pc} (h : ∀ p ∈ ps, POk p) {i : Nat} {p : Pc} (hi : i < 65536) (hp : ps[i - 1]? = some p) : pce i (lbk ps i) = (p.1, decide (p.2 = 1), true) := by
  obtain ⟨h1, h2, h3⟩ := h p (List.mem_of_getElem? hp)
  unfold lbk
  rw [hp]
  exact pce_rblk hi h1 h2 h3
/-- what stands in block k, as it is read -/
def rdk (ds : List Slot) (k : Nat) : List UInt8 := (ds.getD k slot0).read
theorem rdk_at {ds : List Slot} {k : Nat} {s : Slot} (h : ds[k]? = some s) : rdk ds k = s.read := by unfold rdk; rw [List.getD_eq_getElem?_getD, h]; rfl
theorem drd_rdk {ds : List Slot} {k : Nat} (h : k < ds.length) : (drd ds (k : Nat)).1 = rdk ds k := by
  unfold drd rdk
  rw [if_neg (by omega), if_neg (by omega), Int.toNat_natCast]
/-- behind a crash: each log block is the document's, or is not whole; the first F are the document's -/
structure Torn (a n : Nat) (ps : List Pc) (F : Nat) (ds : List Slot) : Prop where
  len : a + n ≤ ds.length
  blk : ∀ i, 1 ≤ i → i < n → (i ≤ ps.length ∧ rdk ds (a + i) = lbk ps i) ∨ (pce i (rdk ds (a + i))).2.2 = false
  sure : ∀ i, 1 ≤ i → i ≤ F → i ≤ ps.length ∧ rdk ds (a + i) = lbk ps i
  room : ps.length < n
  ok : ∀ p ∈ ps, POk p
theorem Torn.whole {a n : Nat} {ps : List Pc} {F : Nat} {ds : List Slot} (h : Torn a n ps F ds) (hn : n ≤ 65536) : ∀ m, m < n → ∃ W, W ≤ m ∧ (∀ i, 1 ≤ i → i ≤ W → i ≤ ps.length ∧ rdk ds (a + i) = lbk ps i) ∧ (W = m ∨ (pce (W + 1) (rdk ds (a + (W + 1)))).2.2 = false) ∧ (F ≤ W ∨ W = m)
  | 0, _ => ⟨0, Nat.le_refl _, fun i h1 h2 => by omega, .inl rfl, .inr rfl⟩
  | m + 1, hm => by
    obtain ⟨W, h1, h2, h3, h4⟩ := h.whole hn m (by omega)
    rcases h3 with rfl | h3
    · rcases h.blk (W + 1) (by omega) hm with hb | hb
      · exact ⟨W + 1, Nat.le_refl _, fun i hi1 hi2 => by
          rcases Nat.lt_or_ge i (W + 1) with hlt | hge
          · exact h2 i hi1 (by omega)
          · obtain rfl : i = W + 1 := by omega
            exact hb, .inl rfl, .inr rfl⟩
      · refine ⟨W, by omega, h2, .inr hb, .inl ?_⟩
        rcases Nat.lt_or_ge W F with hlt | hge
        · exfalso
          obtain ⟨g1, g2⟩ := h.sure (W + 1) (by omega) (by omega)
          obtain ⟨p, hp⟩ : ∃ p, ps[W + 1 - 1]? = some p := ⟨_, List.getElem?_eq_getElem (by omega)⟩
          rw [g2, pce_lbk h.ok (by omega) hp] at hb
          cases hb
        · exact hge
    · refine ⟨W, by omega, h2, .inr h3, .inl ?_⟩
      rcases h4 with h4 | rfl
      · exact h4
      · rcases Nat.lt_or_ge W F with hlt | hge
        · exfalso
          obtain ⟨g1, g2⟩ := h.sure (W + 1) (by omega) (by omega)
          obtain ⟨p, hp⟩ : ∃ p, ps[W + 1 - 1]? = some p := ⟨_, List.getElem?_eq_getElem (by omega)⟩
          rw [g2, pce_lbk h.ok (by omega) hp] at h3
          cases h3
        · exact hge
theorem rblks_rdk {ds : List Slot} {a n : Nat} (h : a + n ≤ ds.length) {k : Nat} (hk : k < n) : (rblks ds a n)[k]? = some (k, rdk ds (a + k)) := by
  rw [rblks_at ds a hk, drd_rdk (by omega)]
theorem rtell_ps {a n : Nat} {ps : List Pc} {ds : List Slot} (hl : a + n ≤ ds.length) (hn : n ≤ 65536) (hok : ∀ p ∈ ps, POk p) {W : Nat} (hW : W < n) (h : ∀ i, 1 ≤ i → i ≤ W → i ≤ ps.length ∧ rdk ds (a + i) = lbk ps i) :
    rtell ((rblks ds a n).take (W + 1)) = ⟨hdr (rdk ds a), ((ps.take W).foldl pstep ([], [])).1, ((ps.take W).foldl pstep ([], [])).2, true⟩ := by
  induction W with
  | zero =>
    rw [take_snoc (rblks_rdk hl hW), rtell_snoc, List.take_zero]
    rfl
  | succ W ih =>
    have ih' := ih (by omega) (fun i h1 h2 => h i h1 (by omega))
    obtain ⟨g1, g2⟩ := h (W + 1) (by omega) (Nat.le_refl _)
    obtain ⟨p, hp⟩ : ∃ p, ps[W]? = some p := ⟨_, List.getElem?_eq_getElem (by omega)⟩
    rw [take_snoc (rblks_rdk hl hW), rtell_snoc, ih', g2, take_snoc hp, List.foldl_append]
    unfold rstep
    rw [if_neg (by simp)]
    simp only
    rw [pce_lbk hok (by omega) (p := p) (by simpa using hp)]
    simp only [Bool.and_self, Bool.true_eq_false, if_false, List.foldl_cons, List.foldl_nil, decide_eq_true_eq]
    unfold pstep
    split <;> rfl
theorem rtell_rest : ∀ (l : List (Nat × List UInt8)) (st : Rs), st.going = false → (∀ p ∈ l, p.1 ≠ 0) → l.foldl rstep st = st
  | [], _, _, _ => rfl
  | p :: l, st, h, hp => by
    have e : rstep st p = st := by
      unfold rstep
      rw [if_neg (hp p (.head _)), if_pos (by rw [h]; rfl)]
      obtain ⟨g, gs, gr, go⟩ := st
      simp only at h; subst h; rfl
    rw [List.foldl_cons, e]
    exact rtell_rest l st h (fun q hq => hp q (.tail _ hq))
theorem rtell_stop {a n : Nat} {ds : List Slot} (hl : a + n ≤ ds.length) {W : Nat} (hW : W < n) (hW0 : 0 < W) {st : Rs} (h : rtell ((rblks ds a n).take W) = st) (hb : (pce W (rdk ds (a + W))).2.2 = false) :
    (rtell (rblks ds a n)).groups = st.groups ∧ (rtell (rblks ds a n)).gen = st.gen := by
  have e : rblks ds a n = (rblks ds a n).take (W + 1) ++ (rblks ds a n).drop (W + 1) := (List.take_append_drop _ _).symm
  have e1 : rtell ((rblks ds a n).take (W + 1)) = { st with going := false } := by
    rw [take_snoc (rblks_rdk hl hW), rtell_snoc, h]
    unfold rstep
    rw [if_neg (by simp only; omega), if_pos (by rw [hb, Bool.and_false])]
  have e2 : rtell (rblks ds a n) = { st with going := false } := by
    rw [e]
    unfold rtell at e1 ⊢
    rw [List.foldl_append, e1]
    refine rtell_rest _ _ rfl (fun p hp => ?_)
    obtain ⟨j, hj⟩ := List.getElem?_of_mem hp
    rw [List.getElem?_drop] at hj
    have hlt : W + 1 + j < n := by
      have := (List.getElem?_eq_some_iff.1 hj).1; rwa [rblks_len] at this
    rw [rblks_rdk hl hlt] at hj
    cases hj
    simp only; omega
  rw [e2]
  exact ⟨rfl, rfl⟩
/-- what is read of a log behind a crash -/
theorem Torn.tell {a n : Nat} {all : List (List UInt8)} {F : Nat} {ds : List Slot} (h : Torn a n (lps all) F ds) (hn : n ≤ 65536) (hn2 : 2 ≤ n) :
    (rtell (rblks ds a n)).gen = hdr (rdk ds a) ∧ ∃ r, r ≤ all.length ∧ (rtell (rblks ds a n)).groups = all.take r ∧ ∀ q, q ≤ all.length → (lps (all.take q)).length ≤ F → q ≤ r := by
  have hlen := h.len
  have hroom := h.room
  obtain ⟨W, h1, h2, h3, h4⟩ := h.whole hn (n - 1) (by omega)
  have hFW : F ≤ W := by
    rcases h4 with h4 | rfl
    · exact h4
    · rcases Nat.lt_or_ge (n - 1) F with hlt | hge
      · have := (h.sure (n - 1 + 1) (by omega) (by omega)).1; omega
      · exact hge
  have e1 := rtell_ps hlen hn h.ok (by omega : W < n) h2
  obtain ⟨r, r1, r2, r3⟩ := lps_tell all W []
  rw [List.nil_append] at r2
  rcases h3 with rfl | h3
  · rw [show n - 1 + 1 = n by omega, List.take_of_length_le (by rw [rblks_len]; exact Nat.le_refl _)] at e1
    rw [e1]
    exact ⟨rfl, r, r1, r2, fun q hq hl => r3 q hq (by omega)⟩
  · rcases Nat.lt_or_ge (W + 1) n with hlt | hge
    · obtain ⟨g1, g2⟩ := rtell_stop hlen hlt (by omega) e1 h3
      rw [g1, g2]
      exact ⟨rfl, r, r1, r2, fun q hq hl => r3 q hq (by omega)⟩
    · rw [show W + 1 = n by omega, List.take_of_length_le (by rw [rblks_len]; exact Nat.le_refl _)] at e1
      rw [e1]
      exact ⟨rfl, r, r1, r2, fun q hq hl => r3 q hq (by omega)⟩
/-- all is sure: all is told -/
theorem Torn.tellAll {a n : Nat} {all : List (List UInt8)} {ds : List Slot} (h : Torn a n (lps all) (lps all).length ds) (hn : n ≤ 65536) (hn2 : 2 ≤ n) :
    (rtell (rblks ds a n)).gen = hdr (rdk ds a) ∧ (rtell (rblks ds a n)).groups = all := by
  obtain ⟨h1, r, r1, r2, r3⟩ := h.tell hn hn2
  refine ⟨h1, ?_⟩
  have := r3 all.length (Nat.le_refl _) (by rw [List.take_length]; exact Nat.le_refl _)
  rw [r2, List.take_of_length_le this]
end Go.X
