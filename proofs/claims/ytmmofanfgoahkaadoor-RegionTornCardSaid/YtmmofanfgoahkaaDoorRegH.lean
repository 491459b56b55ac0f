/- Package region: Read. -/
import Derived.Test.YtmmofanfgoahkaaDoorRegG
namespace Go.X
open Go Go.Proofs
abbrev gstrs (l : List (List UInt8)) : List Value := l.map str
theorem gstrs_len (l : List (List UInt8)) : (gstrs l).length = l.length := List.length_map _
theorem rstep_bd {st : Rs} {p : Nat × List UInt8} {m : Nat} (hg : st.group.length ≤ 1000 * m) (hs : st.groups.length ≤ m) (hp : p.2.length ≤ 1000) : (rstep st p).group.length ≤ 1000 * (m + 1) ∧ (rstep st p).groups.length ≤ m + 1 := by
  have h1 : (pce p.1 p.2).1.length ≤ 1000 := by
    unfold pce
    simp only
    split
    · exact Nat.zero_le _
    · have a := rfix_rest (p.2, 0) (2 : Nat)
      have b := rfix_rest (rfix (p.2, 0) (2 : Nat)).2 (1 : Nat)
      have c := rfix_rest (rfix (rfix (p.2, 0) (2 : Nat)).2 (1 : Nat)).2 (1 : Nat)
      have d := rfix_rest (rfix (rfix (rfix (p.2, 0) (2 : Nat)).2 (1 : Nat)).2 (1 : Nat)).2 (gnum (rfix (rfix (rfix (p.2, 0) (2 : Nat)).2 (1 : Nat)).2 (1 : Nat)).1 : Nat)
      simp only at a ⊢
      omega
  unfold rstep
  split
  · exact ⟨by simp only; omega, by simp only; omega⟩
  · split
    · exact ⟨by simp only; omega, by simp only; omega⟩
    · split
      · exact ⟨by simp, by simp only [List.length_append, List.length_singleton]; omega⟩
      · exact ⟨by simp only [List.length_append]; omega, by simp only; omega⟩
theorem rtell_bd : ∀ (l : List (Nat × List UInt8)), (∀ p ∈ l, p.2.length ≤ 1000) → (rtell l).group.length ≤ 1000 * l.length ∧ (rtell l).groups.length ≤ l.length := by
  have key : ∀ (l : List (Nat × List UInt8)) (st : Rs) (m : Nat), st.group.length ≤ 1000 * m → st.groups.length ≤ m → (∀ p ∈ l, p.2.length ≤ 1000) → (l.foldl rstep st).group.length ≤ 1000 * (m + l.length) ∧ (l.foldl rstep st).groups.length ≤ m + l.length := by
    intro l
    induction l with
    | nil => intro st m h1 h2 _; exact ⟨h1, h2⟩
    | cons p l ih =>
      intro st m h1 h2 h
      obtain ⟨h3, h4⟩ := rstep_bd h1 h2 (h p (.head _))
      have := ih (rstep st p) (m + 1) h3 h4 (fun q hq => h q (.tail _ hq))
      rw [List.length_cons, List.foldl_cons, show m + (l.length + 1) = m + 1 + l.length by omega]
      exact this
  intro l h
  have := key l rs0 0 (Nat.zero_le _) (Nat.zero_le _) h
  rwa [Nat.zero_add] at this
theorem gnum_le4 (l : List UInt8) (h : l.length ≤ 4) : gnum l < 4294967296 := Nat.lt_of_lt_of_le (gnum_lt l) (pow_le4 h)
theorem hdr_lt (s : List UInt8) : hdr s < 4294967296 := by
  unfold hdr
  split
  · exact gnum_le4 _ (rfix_len _ _)
  · decide
def rblks (ds : List Slot) (a n : Nat) : List (Nat × List UInt8) := (List.range n).map fun k => (k, (drd ds (a + k : Nat)).1)
theorem rblks_at (ds : List Slot) (a : Nat) {n k : Nat} (h : k < n) : (rblks ds a n)[k]? = some (k, (drd ds (a + k : Nat)).1) := by unfold rblks; rw [List.getElem?_map, List.getElem?_range h]; rfl
theorem rblks_len (ds : List Slot) (a n : Nat) : (rblks ds a n).length = n := by unfold rblks; rw [List.length_map, List.length_range]
theorem drd_len {ds : List Slot} (h : Oks ds) (k : Int) : (drd ds k).1.length ≤ 64 := by
  unfold drd
  split
  · exact Nat.zero_le _
  · split
    · exact Nat.zero_le _
    · simp only [List.getD_eq_getElem?_getD]
      cases hd : ds[k.toNat]? with
      | none => simp [slot0, zbytes]
      | some s => simp [(h s (List.mem_of_getElem? hd)).2]
theorem rblks_bd {ds : List Slot} (h : Oks ds) (a n : Nat) : ∀ p ∈ rblks ds a n, p.2.length ≤ 64 := by
  intro p hp
  unfold rblks at hp
  obtain ⟨k, _, rfl⟩ := List.mem_map.1 hp
  exact drd_len h _
/-- there is no such stretch -/
theorem rread_bad (bl b : Nat) (lv vc : Value) (cut : Int) (ch : List Int) (x : Ln) (a n : Int) (w : World) (hk : Oks x.ds) (hn : x.ds.length ≤ 100000) (ht : thr x.ds.length a n ≠ 0) (ho : Owns w (lnX bl b lv vc cut ch x)) :
    Fx Tryd.prog 17 [ptr bl, iv a, iv n] w (Pure w (.tuple #[.int .u32 0, .slice none 0 0, iv (thr x.ds.length a n)])) := by
  have hown : ∀ w', Kept [] w w' → Owns w' (lnX bl b lv vc cut ch x) := fun w' k => ho.of_kept k (fun _ _ h => by cases h)
  refine Fx.of (L0 := []) Tryd.func17 rfl (by kernel_rfl) Tryd.ntmps17 rfl (Owns.nil w) ?_
  refine go (k := ?_)
  refine XL.q (.call rfl rfl fun _ w' hs => there_ok bl b lv vc cut ch x a n w' hk hn (hown w' hs.kept)) rfl ?_
  refine go (k := ?_)
  exact XE.ret3 () [] rfl rfl rfl rfl trivial rfl rfl rfl
theorem rread_down (bl b : Nat) (lv vc : Value) (cut : Int) (ch : List Int) (x : Ln) (a n : Nat) (w : World) (hk : Oks x.ds) (hn0 : 0 < x.ds.length) (hn : x.ds.length ≤ 100000) (ht : thr x.ds.length a n = 0) (hd : x.down = true) (ho : Owns w (lnX bl b lv vc cut ch x)) :
    Fx Tryd.prog 17 [ptr bl, iv a, iv n] w (Pure w (.tuple #[.int .u32 0, .slice none 0 0, iv 8])) := by
  have hown : ∀ w', Kept [] w w' → Owns w' (lnX bl b lv vc cut ch x) := fun w' k => ho.of_kept k (fun _ _ h => by cases h)
  have hlen : (a : Int) + n ≤ 200000 ∧ 2 ≤ (n : Int) := by
    unfold thr at ht
    split at ht
    · cases ht
    · omega
  obtain ⟨acts, down, ds⟩ := x
  simp only at hd hk hn hn0 ht
  subst hd
  refine Fx.of (L0 := []) Tryd.func17 rfl (by kernel_rfl) Tryd.ntmps17 rfl (Owns.nil w) ?_
  refine go (k := ?_)
  refine XL.q (.call (v := iv 0) rfl rfl fun _ w' hs => by
    have := there_ok bl b lv vc cut ch ⟨acts, true, ds⟩ a n w' hk hn (hown w' hs.kept)
    rw [ht] at this; exact this) rfl ?_
  refine go (k := ?_)
  refine XC.loop (α := Unit) (fun _ => [(0, ptr bl), (1, iv a), (2, iv n), (25, iv n), (26, iv 0)]) (fun _ => []) (fun _ => True) (fun _ => 0) () [] trivial ⟨rfl, rfl, rfl, rfl, rfl, trivial⟩ rfl rfl ?_
  rintro ⟨⟩ _
  have h0 : (0 : Int) < (n : Int) := by omega
  refine go (k := ?_)
  refine XL.q (.call (v := .tuple #[str [], iv 8]) rfl rfl fun _ w hs => lread_ok bl b lv vc cut ch ⟨acts, true, ds⟩ _ w hk hn0 (hown w hs.kept)) rfl ?_
  refine go (k := ?_)
  exact XE.ret3 () [] rfl rfl rfl rfl trivial rfl rfl rfl
set_option maxHeartbeats 1000000 in
theorem rread_ok (bl b : Nat) (lv vc : Value) (cut : Int) (ch : List Int) (x : Ln) (a n : Nat) (w : World) (hk : Oks x.ds) (hn0 : 0 < x.ds.length) (hn : x.ds.length ≤ 100000) (ht : thr x.ds.length a n = 0) (hd : x.down = false) (ho : Owns w (lnX bl b lv vc cut ch x)) :
    Fx Tryd.prog 17 [ptr bl, iv a, iv n] w (Ret w [] (fun v : Value => .tuple #[.int .u32 (rtell (rblks x.ds a n)).gen, v, iv 0]) (fun v => [.sl v 9 1 (gstrs (rtell (rblks x.ds a n)).groups)]) (fun _ => True)) := by
  have hown : ∀ w', Kept [] w w' → Owns w' (lnX bl b lv vc cut ch x) := fun w' k => ho.of_kept k (fun _ _ h => by cases h)
  have hlen : (a : Int) + n ≤ x.ds.length ∧ 2 ≤ (n : Int) ∧ (n : Int) ≤ 65536 := by
    unfold thr at ht
    split at ht
    · cases ht
    · omega
  obtain ⟨acts, down, ds⟩ := x
  simp only at hd hk hn hn0 ht hlen ⊢
  subst hd
  refine Fx.of (L0 := []) Tryd.func17 rfl (by kernel_rfl) Tryd.ntmps17 rfl (Owns.nil w) ?_
  refine go (k := ?_)
  refine XL.q (.call (v := iv 0) rfl rfl fun _ w' hs => by
    have := there_ok bl b lv vc cut ch ⟨acts, false, ds⟩ a n w' hk hn (hown w' hs.kept)
    rw [ht] at this; exact this) rfl ?_
  refine go (k := ?_)
  refine XC.addNil 9 1 ?_
  refine XC.loop (α := Nat × Value × Rs) (fun y => [(0, ptr bl), (1, iv a), (2, iv n), (6, .int .u32 y.2.2.gen), (7, y.2.1), (10, .bool y.2.2.going), (11, str y.2.2.group), (25, iv n), (26, iv y.1)]) (fun y => [.sl y.2.1 9 1 (gstrs y.2.2.groups)])
    (fun y => y.1 ≤ n ∧ y.2.2 = rtell ((rblks ds a n).take y.1)) (fun y => n - y.1) (0, .slice none 0 0, rs0) [0] ⟨Nat.zero_le _, rfl⟩ ⟨rfl, rfl, rfl, rfl, rfl, rfl, rfl, rfl, rfl, trivial⟩ rfl rfl ?_
  rintro ⟨k, v, st⟩ ⟨hkn, hst⟩
  simp only at hkn hst ⊢
  by_cases hlt : k < n
  · have hat := rblks_at ds a hlt
    have hbd := rtell_bd ((rblks ds a n).take k) (fun p hp => by have := rblks_bd hk a n p (List.mem_of_mem_take hp); omega)
    rw [← hst, List.length_take, rblks_len, Nat.min_eq_left (Nat.le_of_lt hlt)] at hbd
    have hs1 : rtell ((rblks ds a n).take (k + 1)) = rstep st (k, (drd ds (a + k : Nat)).1) := by
      rw [take_snoc hat, rtell_snoc, ← hst]
    have hdr : Ln.read ⟨acts, false, ds⟩ ((a : Int) + (k : Int)) = ((drd ds (a + k : Nat)).1, 0) := by
      unfold Ln.read
      rw [if_neg (by simp)]
      have h1 : (drd ds ((a : Int) + (k : Int))).2 = 0 := by
        unfold drd
        rw [if_neg (by omega), if_neg (by omega)]
      have h2 : ((a : Int) + (k : Int)) = ((a + k : Nat) : Int) := by omega
      rw [← h1, h2]
    have hsl := drd_len hk (a + k : Nat)
    obtain ⟨s, hs⟩ : ∃ s, s = (drd ds (a + k : Nat)).1 := ⟨_, rfl⟩
    rw [← hs] at hs1 hdr hsl
    obtain ⟨gen, groups, group, going⟩ := st
    simp only at hbd hst ⊢
    refine go (k := ?_)
    refine XL.q (.call (v := .tuple #[str s, iv 0]) rfl rfl fun _ w hs => by
      have := lread_ok bl b lv vc cut ch ⟨acts, false, ds⟩ ((a : Int) + (k : Int)) w hk hn0 (hown w hs.kept)
      rw [hdr] at this; exact this) rfl ?_
    by_cases h0 : k = 0
    · subst h0
      refine go (k := ?_)
      refine XL.q (.call rfl rfl fun _ w _ => header_ok s w (by omega)) rfl ?_
      refine go (k := ?_)
      refine XE.mid (0 + 1, v, _) [0] ⟨⟨by simp only; omega, by simp only; rw [hs1]⟩, by simp only; omega⟩ ?_ rfl ?_
      · unfold rstep; rw [if_pos rfl]; exact ⟨rfl, rfl, rfl, rfl, rfl, rfl, rfl, rfl, rfl, trivial⟩
      · unfold rstep; rw [if_pos rfl]; rfl
    · have h0' : ¬ (k : Int) = 0 := by omega
      have e1 : rstep ⟨gen, groups, group, going⟩ (k, s) = if (going && (pce k s).2.2) = false then ⟨gen, groups, group, false⟩ else if (pce k s).2.1 = true then ⟨gen, groups ++ [group ++ (pce k s).1], [], going⟩ else ⟨gen, groups, group ++ (pce k s).1, going⟩ := by
        unfold rstep; rw [if_neg (show ¬ (k, s).1 = 0 from h0)]
      rw [e1] at hs1
      have hpl : (pce k s).1.length ≤ 1000 := by
        have := (rstep_bd (st := ⟨0, [], [], true⟩) (p := (k, s)) (m := 0) (Nat.zero_le _) (Nat.zero_le _) (by simp only; omega)).1
        have := (rtell_bd [(k, s)] (by simp; omega)).1
        unfold pce
        simp only
        split
        · exact Nat.zero_le _
        · have a := rfix_rest (s, 0) (2 : Nat)
          have b := rfix_rest (rfix (s, 0) (2 : Nat)).2 (1 : Nat)
          have c := rfix_rest (rfix (rfix (s, 0) (2 : Nat)).2 (1 : Nat)).2 (1 : Nat)
          have d := rfix_rest (rfix (rfix (rfix (s, 0) (2 : Nat)).2 (1 : Nat)).2 (1 : Nat)).2 (gnum (rfix (rfix (rfix (s, 0) (2 : Nat)).2 (1 : Nat)).2 (1 : Nat)).1 : Nat)
          simp only at a ⊢
          omega
      refine go (k := ?_)
      refine XL.q (.call rfl rfl fun _ w _ => piece_ok k s w (by omega) (by omega)) rfl ?_
      obtain ⟨⟨t, en, wh⟩, hp⟩ : ∃ p, p = pce k s := ⟨_, rfl⟩
      rw [← hp] at hs1 hpl ⊢
      simp only at hs1 hpl ⊢
      cases going with
      | false =>
        simp only [Bool.false_and, if_true] at hs1
        refine go (k := ?_)
        exact XE.mid (k + 1, v, _) [0] ⟨⟨by simp only; omega, by simp only; rw [hs1]⟩, by simp only; omega⟩ ⟨rfl, rfl, rfl, rfl, rfl, rfl, rfl, rfl, rfl, trivial⟩ rfl rfl
      | true =>
        cases wh with
        | false =>
          simp only [Bool.and_false, if_true] at hs1
          refine go (k := ?_)
          exact XE.mid (k + 1, v, _) [0] ⟨⟨by simp only; omega, by simp only; rw [hs1]⟩, by simp only; omega⟩ ⟨rfl, rfl, rfl, rfl, rfl, rfl, rfl, rfl, rfl, trivial⟩ rfl rfl
        | true =>
          simp only [Bool.and_true, Bool.true_eq_false, if_false] at hs1
          cases en with
          | false =>
            simp only [Bool.false_eq_true, if_false] at hs1
            refine go (k := ?_)
            exact XE.mid (k + 1, v, _) [0] ⟨⟨by simp only; omega, by simp only; rw [hs1]⟩, by simp only; omega⟩ ⟨rfl, rfl, rfl, rfl, rfl, rfl, rfl, rfl, rfl, trivial⟩ rfl rfl
          | true =>
            simp only [if_true] at hs1
            refine go (k := ?_)
            refine XL.make (.bslice rfl rfl rfl rfl rfl rfl) rfl fun _ _ hb => ?_
            obtain ⟨bs, rfl, rfl⟩ := hb
            refine go (k := ?_)
            refine XL.app (m := 1) (news := [str (group ++ t)]) (L' := fun v'' => _ :: .sl v'' 9 1 (gstrs groups ++ [str (group ++ t)]) :: _) rfl rfl rfl rfl rfl rfl (by decide) (.tail _ (.head _)) (.blk (.head _) rfl (Nat.le_refl _) rfl) rfl (by simp only [gstrs_len, List.length_singleton]; omega) (by simp only [gstrs_len, List.length_singleton]; omega) (fun _ => .there .here) rfl fun v2 => ?_
            refine go (k := ?_)
            exact XE.mid (k + 1, v2, _) [1] ⟨⟨by simp only; omega, by simp only; rw [hs1]⟩, by simp only; omega⟩ ⟨rfl, rfl, rfl, rfl, rfl, rfl, rfl, rfl, rfl, trivial⟩ rfl (by simp [X.pick, gstrs])
  · obtain rfl : k = n := by omega
    rw [List.take_of_length_le (by rw [rblks_len]; exact Nat.le_refl _)] at hst
    subst hst
    refine go (k := ?_)
    exact XE.ret3 v [0] rfl rfl rfl rfl trivial rfl rfl rfl
end Go.X
