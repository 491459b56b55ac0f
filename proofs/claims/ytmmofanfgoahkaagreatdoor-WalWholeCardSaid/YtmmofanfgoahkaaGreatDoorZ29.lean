/- Package wal: Open. -/
import Derived.Test.YtmmofanfgoahkaaGreatDoorZ28
namespace Go.X
open Go Go.Proofs Go.RowKit
abbrev rgen (ds : List Slot) (a n : Nat) : Nat := (rtell (rblks ds a n)).gen
abbrev rgrp (ds : List Slot) (a n : Nat) : List (List UInt8) := (rtell (rblks ds a n)).groups
/-- what two regions tell -/
def wat (ds : List Slot) (n : Nat) : Nat := if rgen ds 0 n < rgen ds n n then 1 else 0
def wgen (ds : List Slot) (n : Nat) : Nat := if rgen ds 0 n < rgen ds n n then rgen ds n n else rgen ds 0 n
def wgrp (ds : List Slot) (n : Nat) : List (List UInt8) := if rgen ds 0 n < rgen ds n n then rgrp ds n n else rgrp ds 0 n
theorem open_nil (w : World) : Fx Tryz.prog 27 [.pointer none] w (Pure w (.tuple #[.pointer none, .slice none 0 0, iv 1])) := by
  refine Fx.of (L0 := []) Tryz.func27 rfl (by kernel_rfl) Tryz.ntmps27 rfl (Owns.nil w) ?_
  refine go (k := ?_)
  refine XL.q (.call rfl rfl fun _ w _ => over_nil w) rfl ?_
  refine go (k := ?_)
  exact XE.ret3 () [] rfl rfl rfl rfl trivial rfl rfl rfl
theorem open_down (bl b : Nat) (lv vc : Value) (cut : Int) (ch : List Int) (x : Ln) (n m k : Nat) (w : World) (hld : LD m k x) (hm : m ≤ 40000) (h4 : m / 4 = n) (h8 : 2 ≤ n) (hd : x.down = true) (ho : Owns w (lnX bl b lv vc cut ch x)) :
    Fx Tryz.prog 27 [ptr bl] w (Ret w (lnX bl b lv vc cut ch x) (fun _ : Unit => .tuple #[.pointer none, .slice none 0 0, iv 8]) (fun _ => lnX bl b lv vc cut ch x) (fun _ => True)) := by
  have hlen := hld.li.len
  have ht : thr x.ds.length (0 : Nat) n = 0 := by rw [hlen]; exact thr_0 (by omega) (by omega) (by omega)
  refine Fx.of Tryz.func27 rfl (by kernel_rfl) Tryz.ntmps27 rfl ho ?_
  refine go (k := ?_)
  refine XL.call [0, 1, 2] [] rfl rfl rfl rfl rfl (fun _ w1 _ ho => over_ok bl b lv vc cut ch x w1 hld.li.ok (by omega) ho) fun bw _ => ?_
  rw [hlen, h4]
  refine XL.nm (M := waX bw bl b lv vc cut ch ⟨n, 0, 0, none, false⟩ x) ?_ rfl
  refine go (k := ?_)
  refine XL.q (.call rfl rfl fun _ w hs => gread_down bl b lv vc cut ch x 0 n w hld.li.ok (by omega) (by omega) ht hd (hs.own.pick (is := [2, 3, 4]) (by decide))) rfl ?_
  refine go (k := ?_)
  exact XE.ret3 () [2, 3, 4] rfl rfl rfl rfl trivial rfl rfl rfl
set_option maxHeartbeats 4000000 in
theorem open_ok (bl b : Nat) (lv vc : Value) (cut : Int) (ch : List Int) (x : Ln) (n m k : Nat) (w : World) (hld : LD m k x) (hm : m ≤ 40000) (h4 : m / 4 = n) (h8 : 2 ≤ n) (hd : x.down = false) (ho : Owns w (lnX bl b lv vc cut ch x)) :
    Fx Tryz.prog 27 [ptr bl] w (Ret w (lnX bl b lv vc cut ch x) (fun y : Nat × Value => if wgen x.ds n = 0 then .tuple #[.pointer none, .slice none 0 0, iv 5] else .tuple #[ptr y.1, y.2, iv 0])
      (fun y => if wgen x.ds n = 0 then lnX bl b lv vc cut ch x else waX y.1 bl b lv vc cut ch ⟨n, wat x.ds n, wgen x.ds n, none, false⟩ x ++ [.sl y.2 9 1 (gstrs (wgrp x.ds n))]) (fun _ => True)) := by
  have hlen := hld.li.len
  have ht : thr x.ds.length (0 : Nat) n = 0 := by rw [hlen]; exact thr_0 (by omega) (by omega) (by omega)
  have ht2 : thr x.ds.length (n : Nat) n = 0 := by rw [hlen]; exact thr_0 (by omega) (by omega) (by omega)
  refine Fx.of Tryz.func27 rfl (by kernel_rfl) Tryz.ntmps27 rfl ho ?_
  refine go (k := ?_)
  refine XL.call [0, 1, 2] [] rfl rfl rfl rfl rfl (fun _ w1 _ ho => over_ok bl b lv vc cut ch x w1 hld.li.ok (by omega) ho) fun bw _ => ?_
  rw [hlen, h4]
  refine XL.nm (M := waX bw bl b lv vc cut ch ⟨n, 0, 0, none, false⟩ x) ?_ rfl
  refine go (k := ?_)
  refine XL.call (α := Value) [] [0, 1, 2, 3, 4] rfl rfl rfl rfl rfl (fun _ w hs _ => grread_ok bl b lv vc cut ch x 0 n w hld.li.ok (by omega) (by omega) ht hd (hs.own.pick (is := [2, 3, 4]) (by decide))) fun v1 _ => ?_
  refine XL.pk (M := waX bw bl b lv vc cut ch ⟨n, 0, 0, none, false⟩ x ++ [.sl v1 9 1 (gstrs (rgrp x.ds 0 n))]) [1, 2, 3, 4, 5, 0] (by decide) rfl ?_
  refine goD (k := ?_)
  refine XC.via (α := Value) (fun v2 => [(9, .int .u32 (rgen x.ds n n)), (10, v2), (8, iv 0), (7, v1), (6, .int .u32 (rgen x.ds 0 n)), (5, ptr bw)]) (fun v2 => .sl v2 9 1 (gstrs (rgrp x.ds n n)) :: (waX bw bl b lv vc cut ch ⟨n, 0, 0, none, false⟩ x ++ [.sl v1 9 1 (gstrs (rgrp x.ds 0 n))])) (fun _ => True) ?_ ?_
  · refine XC.dr ?_
    refine go (k := ?_)
    refine XD.make (.call rfl rfl fun _ w hs => grread_ok bl b lv vc cut ch x n n w hld.li.ok (by omega) (by omega) ht2 hd (hs.own.pick (is := [2, 3, 4]) (by decide))) rfl rfl ?_
    refine XD.tailG1 (by decide +kernel) (by decide +kernel) (by decide +kernel) ?_
    rintro v H ⟨v2, _, rfl, rfl⟩
    repeat' (first
      | refine XG.s1 10 (by decide +kernel) rfl rfl ?_
      | refine XG.s3 11 12 13 (by decide +kernel) rfl rfl rfl rfl ?_ ?_ ?_
      | refine XG.s2 12 13 (by decide +kernel) rfl rfl rfl ?_ ?_
      | refine XG.s3 12 13 14 (by decide +kernel) rfl rfl rfl rfl ?_ ?_ ?_
      | refine XG.s2 11 13 (by decide +kernel) rfl rfl rfl ?_ ?_
      | refine XG.s2 11 12 (by decide +kernel) rfl rfl rfl ?_ ?_
      | refine XG.s1 11 (by decide +kernel) rfl rfl ?_
      | refine XG.s1 12 (by decide +kernel) rfl rfl ?_
      | refine XG.s1 13 (by decide +kernel) rfl rfl ?_
      | refine XG.s1 14 (by decide +kernel) rfl rfl ?_
      | refine XG.s1 15 (by decide +kernel) rfl rfl ?_
      | refine XG.s1 16 (by decide +kernel) rfl rfl ?_
      | refine XG.s2 13 14 (by decide +kernel) rfl rfl rfl ?_ ?_
      | refine XG.s2 12 14 (by decide +kernel) rfl rfl rfl ?_ ?_
      | refine XG.s2 13 15 (by decide +kernel) rfl rfl rfl ?_ ?_
      | exact XG.done (by decide +kernel) (by decide +kernel) (XE.mid v2 [0, 1, 2, 3, 4, 5, 6] trivial ⟨rfl, rfl, rfl, rfl, rfl, rfl, trivial⟩ rfl rfl)
      | refine XE.toG ?_
      | refine go1 (k := ?_))
  intro v2 _
  obtain ⟨A, hA⟩ : ∃ A, A = rgen x.ds 0 n := ⟨_, rfl⟩
  obtain ⟨C, hC⟩ : ∃ C, C = rgen x.ds n n := ⟨_, rfl⟩
  have hwat : wat x.ds n = if A < C then 1 else 0 := by rw [hA, hC]; rfl
  have hwgen : wgen x.ds n = if A < C then C else A := by rw [hA, hC]; rfl
  have hwgrp : wgrp x.ds n = if A < C then rgrp x.ds n n else rgrp x.ds 0 n := by rw [hA, hC]; rfl
  rw [hwat, hwgen, hwgrp, ← hA, ← hC]
  clear hwat hwgen hwgrp hA hC
  by_cases hlt : A < C
  · simp only [if_pos hlt, if_neg (show ¬ C = 0 by omega)]
    by_cases h0 : A = 0
    · subst h0
      refine go (k := ?_)
      exact XE.ret3 (bw, v2) [1, 2, 3, 4, 5, 0] rfl rfl rfl rfl trivial rfl rfl rfl
    · refine go (k := ?_)
      exact XE.ret3 (bw, v2) [1, 2, 3, 4, 5, 0] rfl rfl rfl rfl trivial rfl rfl rfl
  · simp only [if_neg hlt]
    by_cases h0 : A = 0
    · subst h0
      obtain rfl : C = 0 := by omega
      simp only [if_true]
      refine go (k := ?_)
      exact XE.ret3 (bw, v2) [3, 4, 5] rfl rfl rfl rfl trivial rfl rfl rfl
    · simp only [if_neg h0]
      refine go (k := ?_)
      exact XE.ret3 (bw, v1) [1, 2, 3, 4, 5, 6] rfl rfl rfl rfl trivial rfl rfl rfl
end Go.X
/- Package wal: Commit. -/
namespace Go.X
open Go Go.Proofs Go.RowKit
abbrev cmB (b2 b3 bw bl br : Nat) (y : Wa) (s : List UInt8) : Heap := [.blk b2 [ptr bw] 55, .blk b3 [str s] 9, .blk bw [ptr bl, iv y.n, iv y.at_, .int .u32 y.gen, ptr br, .bool y.broken] 78]
abbrev cmX (b2 b3 bw br bl b : Nat) (lv vc : Value) (cut : Int) (ch : List Int) (y : Wa) (s : List UInt8) (p : Rg × Ln) : Heap := cmB b2 b3 bw bl br y s ++ rgX br bl b lv vc cut ch p.1 p.2
section
variable (b2 b3 bw br bl b : Nat) (lv vc : Value) (cut : Int) (ch : List Int) (y : Wa) (s : List UInt8) (p : Rg × Ln) (m k : Nat) (w : World)
theorem commit1_ok (h : AnOk m k p) (hk : k ≤ 700000) (hm0 : 0 < m) (hm : m ≤ 100000) (hd : s.length ≤ 100000) (hl : ch.length ≤ 1000000) (hw : ∀ a ∈ ch, -9223372036854775808 ≤ a ∧ a ≤ 9223372036854775807) (ho : Owns w (cmX b2 b3 bw br bl b lv vc cut ch y s p)) :
    Fx Tryz.prog 69 [ptr b2, ptr b3] w (Ret w (cmX b2 b3 bw br bl b lv vc cut ch y s p) (fun _ : Unit => iv (p.1.append cut ch s p.2).1) (fun _ => cmX b2 b3 bw br bl b lv vc cut ch y s (p.1.append cut ch s p.2).2) (fun _ => True)) := by
  obtain ⟨g, x⟩ := p
  obtain ⟨hld, hg⟩ := h
  simp only at hld hg ⊢
  have hli : LIn m 700000 x := ⟨hld.li.ok, hld.li.len, by have := hld.li.acts; omega⟩
  refine Fx.of Tryz.func69 rfl (by kernel_rfl) Tryz.ntmps69 rfl ho ?_
  refine goD (k := ?_)
  refine XC.pk (M := rgX br bl b lv vc cut ch g x ++ cmB b2 b3 bw bl br y s) [3, 4, 5, 6, 0, 1, 2] (by decide) rfl ?_
  refine XC.drawM (C0 := rgX br bl b lv vc cut ch g x) (L := cmB b2 b3 bw bl br y s) Tab.mix ?_
  refine go (k := ?_)
  refine XD.mut (.call rfl rfl fun _ w1 _ ho => rappend_ok br bl b lv vc cut ch g x s m w1 hli hm0 hm hd hg hl hw ho) rfl rfl ?_
  refine XD.tail1 rfl (by decide +kernel) ?_
  rintro v H ⟨_, _, rfl, rfl⟩
  refine go (k := ?_)
  exact XE.ret1 () [4, 5, 6, 0, 1, 2, 3] rfl rfl trivial rfl rfl rfl
theorem cmF_ok (h : AnOk m k p) (hk : k ≤ 700000) (hm : m ≤ 100000) (hl : ch.length ≤ 1000000) (hw : ∀ a ∈ ch, -9223372036854775808 ≤ a ∧ a ≤ 9223372036854775807) (ho : Owns w (cmX b2 b3 bw br bl b lv vc cut ch y s p)) :
    Fx Tryz.prog 56 [ptr br] w (Ret w (cmX b2 b3 bw br bl b lv vc cut ch y s p) (fun _ : Unit => iv (p.1.flush cut ch p.2).1) (fun _ => cmX b2 b3 bw br bl b lv vc cut ch y s (p.1.flush cut ch p.2).2) (fun _ => True)) := by
  obtain ⟨g, x⟩ := p
  obtain ⟨hld, hg⟩ := h
  simp only at hld hg ⊢
  have hli : LIn m 900000 x := ⟨hld.li.ok, hld.li.len, by have := hld.li.acts; omega⟩
  have h1 := grflush_ok br bl b lv vc cut ch g x m w hli hm hl hw (ho.right (L := cmB b2 b3 bw bl br y s))
  refine h1.mono fun en w' hr => ?_
  cases en with
  | panicked _ => exact hr.elim
  | outgrown => exact hr.elim
  | returned v =>
    obtain ⟨u, hu, hv, ho', hk', hn⟩ := hr
    refine ⟨u, hu, hv, ?_, hk'.mono (fun q hq => by rw [ids_append]; exact List.mem_append_right _ hq), ?_⟩
    · refine Owns.append ((ho.left (M := rgX br bl b lv vc cut ch g x)).of_kept hk' (fun q hq => ho.apart q hq)) ho' (fun q hq hq' => ?_)
      rcases hn q hq' with h2 | h2
      · exact ho.apart q hq h2
      · have := (ho.left (M := rgX br bl b lv vc cut ch g x)).live q hq; omega
    · intro q hq
      rw [ids_append] at hq ⊢
      rcases List.mem_append.1 hq with hq | hq
      · exact .inl (List.mem_append_left _ hq)
      · exact (hn q hq).imp (List.mem_append_right _) id
end
abbrev cmSteps (cut : Int) (ch : List Int) (s : List UInt8) : List (Rg × Ln → Int × Rg × Ln) := [fun p => p.1.append cut ch s p.2, fun p => p.1.flush cut ch p.2]
theorem cmS_ok (b2 b3 bw br bl b bs : Nat) (lv vc : Value) (cut : Int) (ch : List Int) (y : Wa) (s : List UInt8) (p : Rg × Ln) (m k : Nat) (w : World) (h : AnOk m k p) (hk : k ≤ 400000) (hm0 : 0 < m) (hm : m ≤ 100000) (hd : s.length ≤ 100000) (hl : ch.length ≤ 1000000)
    (hw : ∀ a ∈ ch, -9223372036854775808 ≤ a ∧ a ≤ 9223372036854775807)
    (hrow : ∀ w', Kept (ids (cmX b2 b3 bw br bl b lv vc cut ch y s p)) w w' → RowAt w' (.slice (some ⟨bs, 0, none⟩) 2 2) 1 2 [.func (.func 69) #[] #[ptr b2, ptr b3], .func (.func 56) #[ptr br] #[]])
    (ho : Owns w (cmX b2 b3 bw br bl b lv vc cut ch y s p)) :
    Fx Tryz.prog 68 [.slice (some ⟨bs, 0, none⟩) 2 2] w (Ret w (cmX b2 b3 bw br bl b lv vc cut ch y s p) (fun _ : Unit => iv (fr (cmSteps cut ch s) p).1) (fun _ => cmX b2 b3 bw br bl b lv vc cut ch y s (fr (cmSteps cut ch s) p).2) (fun _ => True)) := by
  have hnd : nd s.length ≤ 100001 := by have := nd_le s.length; omega
  refine first_ok (α := Rg × Ln) (cmX b2 b3 bw br bl b lv vc cut ch y s) (fun i q => AnOk m (k + 100001 * i) q) [⟨69, [], [ptr b2, ptr b3], fun p => p.1.append cut ch s p.2⟩, ⟨56, [ptr br], [], fun p => p.1.flush cut ch p.2⟩] (.slice (some ⟨bs, 0, none⟩) 2 2) p w (by simp) h hrow ?_ ?_ (fun _ => ⟨rfl, rfl⟩) ho
  · intro i t q w' hs hq ho'
    match i, hs, hq with
    | 0, hs, hq => cases hs; exact commit1_ok b2 b3 bw br bl b lv vc cut ch y s q m _ w' hq (by omega) hm0 hm hd hl hw ho'
    | 1, hs, hq => cases hs; exact cmF_ok b2 b3 bw br bl b lv vc cut ch y s q m _ w' hq (by omega) hm hl hw ho'
    | i + 2, hs, _ => simp at hs
  · intro i t q hs hq _
    match i, hs, hq with
    | 0, hs, hq => cases hs; exact ⟨(hq.ld.append q.1 s).mono (by omega), RgB.append hq.g _ _ _ _⟩
    | 1, hs, hq => cases hs; exact ⟨(hq.ld.rflush q.1).mono (by omega), RgB.flush hq.g _ _ _⟩
    | i + 2, hs, _ => simp at hs
/-- what Commit answers, and what is left -/
def Wa.commit (cut : Int) (ch : List Int) (s : List UInt8) (y : Wa) (x : Ln) : Int × Wa × Ln := match y.r with
  | none => (17, y, x)
  | some (br, g) => if y.fits s.length = false then (7, y, x) else
    if (fr (cmSteps cut ch s) (g, x)).1 ≠ 0 then ((fr (cmSteps cut ch s) (g, x)).1, { y with r := none, broken := true }, (fr (cmSteps cut ch s) (g, x)).2.2)
    else (0, { y with r := some (br, (fr (cmSteps cut ch s) (g, x)).2.1) }, (fr (cmSteps cut ch s) (g, x)).2.2)
set_option maxHeartbeats 4000000 in
theorem commit_ok (bw bl b : Nat) (lv vc : Value) (cut : Int) (ch : List Int) (y : Wa) (x : Ln) (s : List UInt8) (m k : Nat) (w : World) (hld : LD m k x) (hk : k ≤ 300000) (hm0 : 0 < m) (hm : m ≤ 100000) (hr : ∀ br g, y.r = some (br, g) → RgB g) (hs : s.length ≤ 100000)
    (hl : ch.length ≤ 1000000) (hw : ∀ a ∈ ch, -9223372036854775808 ≤ a ∧ a ≤ 9223372036854775807) (ho : Owns w (waX bw bl b lv vc cut ch y x)) :
    Fx Tryz.prog 32 [ptr bw, str s] w (Ret w (waX bw bl b lv vc cut ch y x) (fun _ : Unit => iv (y.commit cut ch s x).1) (fun _ => waX bw bl b lv vc cut ch (y.commit cut ch s x).2.1 (y.commit cut ch s x).2.2) (fun _ => True)) := by
  obtain ⟨n, at_, gen, r, broken⟩ := y
  simp only at hr
  have hg : ∀ b g, r = some (b, g) → g.n ≤ 1000000 ∧ g.used ≤ 1000000 := fun b g h => by obtain ⟨h1, h2, _⟩ := hr b g h; omega
  refine Fx.of Tryz.func32 rfl (by kernel_rfl) Tryz.ntmps32 rfl ho ?_
  refine go (k := ?_)
  refine XL.box (zs := [ptr bw]) rfl rfl rfl fun b2 => ?_
  refine go (k := ?_)
  refine XL.box (zs := [str s]) rfl rfl rfl fun b3 => ?_
  refine go (k := ?_)
  refine XL.q (.call rfl rfl fun _ w hs => wis_at bw bl ⟨n, at_, gen, r, broken⟩ _ _ w (hs.own.ok _ (.tail _ (.tail _ (.head _))))) rfl ?_
  cases r with
  | none =>
    refine go (k := ?_)
    exact XE.ret1 () [2, 3, 4, 5, 6] rfl rfl trivial rfl rfl rfl
  | some o =>
    obtain ⟨br, g⟩ := o
    have hgb := hr br g rfl
    unfold Wa.commit
    simp only
    obtain ⟨ft, hft⟩ : ∃ ft, ft = (Wa.mk n at_ gen (some (br, g)) broken).fits s.length := ⟨_, rfl⟩
    rw [← hft]
    refine go (k := ?_)
    refine XL.q (.call (v := .bool ft) rfl rfl fun _ w hs => by rw [hft]; exact wfits_ok bw bl b lv vc cut ch ⟨n, at_, gen, some (br, g), broken⟩ x s.length w (by omega) hg (hs.own.pick (is := [2, 3, 4, 5, 6]) (by decide))) rfl ?_
    cases ft with
    | false =>
      refine go (k := ?_)
      exact XE.ret1 () [2, 3, 4, 5, 6] rfl rfl trivial rfl rfl rfl
    | true =>
      simp only [Bool.true_eq_false, if_false]
      have hS := fun bs w1 hrow ho => cmS_ok b2 b3 bw br bl b bs lv vc cut ch ⟨n, at_, gen, some (br, g), broken⟩ s (g, x) m k w1 ⟨hld, hgb⟩ (by omega) hm0 hm hs hl hw hrow ho
      obtain ⟨R, hR⟩ : ∃ R, R = fr (cmSteps cut ch s) (g, x) := ⟨_, rfl⟩
      rw [← hR] at hS ⊢
      clear hR
      obtain ⟨e1, g1, x2⟩ := R
      simp only at hS ⊢
      refine go (k := ?_)
      refine XL.make (.bslice rfl rfl rfl rfl rfl rfl) rfl fun _ _ hb => ?_
      obtain ⟨bs, rfl, rfl⟩ := hb
      refine XL.pk (M := [grp [rgB br bl g], .blk b2 [ptr bw] 55, .blk b3 [str s] 9, waB bw bl ⟨n, at_, gen, some (br, g), broken⟩, .blk bs [.func (.func 69) #[] #[ptr b2, ptr b3], .func (.func 56) #[ptr br] #[]] _] ++ lnX bl b lv vc cut ch x) [4, 2, 1, 3, 0, 5, 6, 7] (by decide) rfl ?_
      refine XL.openG ?_
      refine XL.call (α := Unit) [1, 2, 3, 0, 5, 6, 7] [] rfl rfl rfl rfl rfl (fun _ w1 hs ho => hS bs w1 (fun w' hk' => ?_) ho) fun _ _ => ?_
      · have h8 := hs.own.pick (is := [1, 2, 3, 0, 5, 6, 7, 4]) (by decide)
        have h9 : Owns w1 (cmX b2 b3 bw br bl b lv vc cut ch ⟨n, at_, gen, some (br, g), broken⟩ s (g, x) ++ [.blk bs [.func (.func 69) #[] #[ptr b2, ptr b3], .func (.func 56) #[ptr br] #[]] _]) := h8
        have hb : w1.heap[bs]? = some (.cells _ _ (0, 0)) := h9.right.ok _ (.head _)
        have hn : bs ∉ ids (cmX b2 b3 bw br bl b lv vc cut ch ⟨n, at_, gen, some (br, g), broken⟩ s (g, x)) := fun h => h9.apart bs h (by simp [X.ids, Ent.ids])
        exact ⟨_, _, rfl, rfl, Nat.le_refl _, .inr ⟨bs, 0, _, _, _, rfl, (hk'.same bs (Array.getElem?_eq_some_iff.1 hb).1 hn).trans hb, rfl⟩⟩
      by_cases h1 : e1 = 0
      · subst h1
        rw [if_neg (by simp)]
        refine go (k := ?_)
        refine XE.pk (M := [rgB br bl g1] ++ (lnX bl b lv vc cut ch x2 ++ [waB bw bl ⟨n, at_, gen, some (br, g1), broken⟩])) [3, 4, 5, 6, 2] (by decide) rfl ?_
        refine XE.shutG ?_
        exact XE.ret1 () [4, 0, 1, 2, 3] rfl rfl trivial rfl rfl rfl
      · rw [if_pos h1]
        refine goD (k := ?_)
        refine XC.pk (M := [waB bw bl ⟨n, at_, gen, some (br, g), broken⟩] ++ (.blk b2 [ptr bw] 55 :: lnX bl b lv vc cut ch x2)) [2, 0, 4, 5, 6] (by decide) rfl ?_
        refine XC.drawH 8 Tab.mix (by decide +kernel) (by decide +kernel) (by decide +kernel) (by decide +kernel) ?_
        repeat (first | refine XH.st (by first | exact .mv rfl | exact .ld rfl rfl rfl (by repeat (first | exact .head _ | refine .tail _ ?_)) rfl | exact .nilCheck rfl | exact .fldA rfl rfl rfl rfl) rfl ?_ | refine XH.sto (.st rfl rfl rfl rfl rfl .here rfl) ?_)
        refine XH.nil rfl ?_
        refine go (k := ?_)
        refine XE.shutG (G := []) ?_
        exact XE.ret1 () [1, 0, 3, 4, 5] rfl rfl trivial rfl rfl rfl
end Go.X
/- Package wal: Checkpoint. -/
namespace Go.X
open Go Go.Proofs Go.RowKit
/-- what Checkpoint answers, and what is left -/
def Wa.cp (cut : Int) (ch : List Int) (s : List UInt8) (y : Wa) (x : Ln) (br : Nat) : Int × Wa × Ln :=
  if y.broken = true then (17, y, x) else if 58 * (y.n - 1) < s.length then (7, y, x) else
    ((anewR cut ch ((1 - y.at_) * y.n : Nat) y.n (y.gen + 1) s x).1, y.after (1 - y.at_) (y.gen + 1) br (anewR cut ch ((1 - y.at_) * y.n : Nat) y.n (y.gen + 1) s x), (anewR cut ch ((1 - y.at_) * y.n : Nat) y.n (y.gen + 1) s x).2.2)
def Wa.cpe (cut : Int) (ch : List Int) (s : List UInt8) (y : Wa) (x : Ln) : Int :=
  if y.broken = true then 17 else if 58 * (y.n - 1) < s.length then 7 else (anewR cut ch ((1 - y.at_) * y.n : Nat) y.n (y.gen + 1) s x).1
set_option maxHeartbeats 4000000 in
theorem checkpoint_ok (bw bl b : Nat) (lv vc : Value) (cut : Int) (ch : List Int) (y : Wa) (x : Ln) (s : List UInt8) (m k : Nat) (w : World) (hld : LD m k x) (hk : k ≤ 50000) (hm0 : 0 < m) (hm : m ≤ 50000) (hn : 2 ≤ y.n ∧ y.n ≤ 20000 ∧ 2 * y.n ≤ m) (hat : y.at_ = 0 ∨ y.at_ = 1) (hgen : y.gen < 4294967295) (hs : s.length ≤ 100000)
    (hl : ch.length ≤ 1000000) (hw : ∀ a ∈ ch, -9223372036854775808 ≤ a ∧ a ≤ 9223372036854775807) (ho : Owns w (waX bw bl b lv vc cut ch y x)) :
    Fx Tryz.prog 34 [ptr bw, str s] w (Ret w (waX bw bl b lv vc cut ch y x) (fun _ : Nat => iv (y.cpe cut ch s x)) (fun br => waX bw bl b lv vc cut ch (y.cp cut ch s x br).2.1 (y.cp cut ch s x br).2.2) (fun _ => True)) := by
  obtain ⟨n, at_, gen, r, broken⟩ := y
  simp only at hn hat hgen
  have hown : ∀ w', Kept [] w w' → Owns w' (waX bw bl b lv vc cut ch ⟨n, at_, gen, r, broken⟩ x) := fun w' k => ho.of_kept k (fun _ _ h => by cases h)
  unfold Wa.cp Wa.cpe
  simp only
  refine Fx.of Tryz.func34 rfl (by kernel_rfl) Tryz.ntmps34 rfl ho ?_
  refine go (k := ?_)
  refine XL.q (.call rfl rfl fun _ w hs => wis_at bw bl ⟨n, at_, gen, r, broken⟩ _ _ w (hs.own.ok _ (.head _))) rfl ?_
  cases broken with
  | true =>
    simp only [if_true]
    refine go (k := ?_)
    exact XE.ret1 0 [0, 1, 2, 3, 4] rfl rfl trivial rfl rfl rfl
  | false =>
    simp only [Bool.false_eq_true, if_false]
    refine go (k := ?_)
    refine XL.q (.call rfl rfl fun _ w hs => wroom_at bw bl ⟨n, at_, gen, r, false⟩ _ _ w ⟨by show 1 ≤ n; omega, by show n ≤ 1000000; omega⟩ (hs.own.ok _ (.head _))) rfl ?_
    simp only
    by_cases h1 : 58 * (n - 1) < s.length
    · simp only [if_pos h1]
      refine go (k := ?_)
      exact XE.ret1 0 [0, 1, 2, 3, 4] rfl rfl trivial rfl rfl rfl
    · simp only [if_neg h1]
      have ha1 : ((1 : Int) - (at_ : Int)) = ((1 - at_ : Nat) : Int) := by omega
      have hg1 : ((gen : Int) + 1) = ((gen + 1 : Nat) : Int) := by omega
      have hA := fun w1 ho => wanew_ok bw bl b lv vc cut ch ⟨n, at_, gen, r, false⟩ x (1 - at_) (gen + 1) s m k w1 (by omega) hld hk hm0 hm hn hs (by omega) hl hw ho
      simp only at hA
      refine go (k := ?_)
      rw [ha1, hg1]
      refine XL.call (α := Nat) [0, 1, 2, 3, 4] [] rfl rfl rfl rfl rfl (fun _ w1 _ ho => hA w1 ho) fun br _ => ?_
      refine go (k := ?_)
      exact XE.ret1 br [0, 1, 2, 3, 4] rfl rfl trivial rfl rfl rfl
end Go.X
/- revertlaw14: tells. -/
namespace Go.X
open Go Go.Proofs Go.RowKit
theorem wgrp_len {ds : List Slot} (hk : Oks ds) (n : Nat) (hn : n ≤ 65536) : (wgrp ds n).length ≤ 100000 := by
  have key : ∀ a, (rtell (rblks ds a n)).groups.length ≤ 100000 := fun a => by
    have := (rtell_bd (rblks ds a n) (fun p hp => by have := rblks_bd hk a n p hp; omega)).2
    rw [rblks_len] at this; omega
  unfold wgrp
  split
  · exact key n
  · exact key 0
/-- Open, where it tells -/
theorem open_run (bl b : Nat) (lv vc : Value) (cut : Int) (ch : List Int) (x : Ln) (n m k : Nat) (w : World) (hld : LD m k x) (hm : m ≤ 40000) (h4 : m / 4 = n) (h8 : 2 ≤ n) (hd : x.down = false) (hz : wgen x.ds n ≠ 0) (ho : Owns w (lnX bl b lv vc cut ch x)) :
    Fx Tryz.prog 27 [ptr bl] w (Ret w (lnX bl b lv vc cut ch x) (fun y : Nat × Value => .tuple #[ptr y.1, y.2, iv 0])
      (fun y => waX y.1 bl b lv vc cut ch ⟨n, wat x.ds n, wgen x.ds n, none, false⟩ x ++ [.sl y.2 9 1 (gstrs (wgrp x.ds n))]) (fun _ => True)) := by
  have := open_ok bl b lv vc cut ch x n m k w hld hm h4 h8 hd ho
  simp only [if_neg hz] at this
  exact this
theorem open_none (bl b : Nat) (lv vc : Value) (cut : Int) (ch : List Int) (x : Ln) (n m k : Nat) (w : World) (hld : LD m k x) (hm : m ≤ 40000) (h4 : m / 4 = n) (h8 : 2 ≤ n) (hd : x.down = false) (hz : wgen x.ds n = 0) (ho : Owns w (lnX bl b lv vc cut ch x)) :
    Fx Tryz.prog 27 [ptr bl] w (Ret w (lnX bl b lv vc cut ch x) (fun _ : Nat × Value => .tuple #[.pointer none, .slice none 0 0, iv 5]) (fun _ => lnX bl b lv vc cut ch x) (fun _ => True)) := by
  have := open_ok bl b lv vc cut ch x n m k w hld hm h4 h8 hd ho
  simp only [if_pos hz] at this
  exact this
set_option maxHeartbeats 2000000 in
theorem tells14_ok (b : Nat) (lv : Value) (ds : List Slot) (n m gen : Nat) (gs : List (List UInt8)) (u : Value) (w : World) (hk : Oks ds) (hi : DInv ds) (hlen : ds.length = m) (hm : m ≤ 40000) (h4 : m / 4 = n) (h8 : 2 ≤ n)
    (h1 : wgen ds n = gen) (h0 : gen ≠ 0) (h2 : wgrp ds n = gs) (hu : ∀ w', Kept (ids [devE b lv ds]) w w' → RowAt w' u 1 gs.length (gstrs gs)) (ho : Owns w [devE b lv ds]) :
    Fx Tryz.prog 29 [ptr b, .int .u32 gen, u] w (Ret w [devE b lv ds] (fun _ : Unit => .bool true) (fun _ => [devE b lv ds]) (fun _ => True)) := by
  have hrl : ∀ L : Heap, Rd w (ids [devE b lv ds]) L u 1 gs.length (gstrs gs) := fun L w' _ hk' => hu w' hk'
  have hgl : gs.length ≤ 100000 := by rw [← h2]; exact wgrp_len hk n (by omega)
  have hop : ∀ bl vc w1, Owns w1 (lnX bl b lv vc (-1) [] ⟨0, false, ds⟩) → Fx Tryz.prog 27 [ptr bl] w1 (Ret w1 (lnX bl b lv vc (-1) [] ⟨0, false, ds⟩) (fun y : Nat × Value => .tuple #[ptr y.1, y.2, iv 0])
      (fun y => waX y.1 bl b lv vc (-1) [] ⟨n, wat ds n, gen, none, false⟩ ⟨0, false, ds⟩ ++ [.sl y.2 9 1 (gstrs gs)]) (fun _ => True)) := fun bl vc w1 ho => by
    have := open_run bl b lv vc (-1) [] ⟨0, false, ds⟩ n m 0 w1 ⟨⟨hk, hlen, Nat.le_refl _⟩, hi⟩ hm h4 h8 rfl (by rw [h1]; exact h0) ho
    simp only at this
    rw [h1, h2] at this
    exact this
  clear h1 h2
  refine Fx.of Tryz.func29 rfl (by kernel_rfl) Tryz.ntmps29 rfl ho ?_
  refine XC.rdv (hrl _) fun ao mc hv _ _ hao => ?_
  subst hv
  refine go (k := ?_)
  refine XL.call [0] [] rfl rfl rfl rfl rfl (fun _ w1 hs ho => lnew_ok b lv ds (-1) _ [] w1 hk (by omega) (by decide) (fun w' hk' => rdNil w') ho) fun y _ => ?_
  obtain ⟨bl, vc⟩ := y
  refine XL.nm (M := lnX bl b lv vc (-1) [] ⟨0, false, ds⟩) ?_ rfl
  refine go (k := ?_)
  refine XL.call [0, 1, 2] [] rfl rfl rfl rfl rfl (fun _ w1 _ ho => hop bl vc w1 ho) fun y _ => ?_
  obtain ⟨bw, v⟩ := y
  refine XL.pk (M := .sl v 9 1 (gstrs gs) :: waX bw bl b lv vc (-1) [] ⟨n, wat ds n, gen, none, false⟩ ⟨0, false, ds⟩) [5, 0, 1, 2, 3, 4] (by decide) rfl ?_
  refine XL.slv (.head _) fun a1 q1 m1 hv hq _ => ?_
  subst hv
  obtain rfl : q1 = gs.length := by simpa using hq
  refine go (k := ?_)
  refine XL.q (.call rfl rfl fun _ w hs => wgen_at bw bl ⟨n, wat ds n, gen, none, false⟩ _ _ w (hs.own.ok _ (.tail _ (.head _)))) rfl ?_
  refine XL.pk (M := [.sl (.slice a1 gs.length m1) 9 1 (gstrs gs), devE b lv ds]) [0, 5] (by decide) rfl ?_
  refine go (k := ?_)
  refine XC.loop (α := Nat) (fun i => [(8, .slice a1 gs.length m1), (2, .slice ao gs.length mc), (10, iv i)]) (fun _ => [.sl (.slice a1 gs.length m1) 9 1 (gstrs gs), devE b lv ds]) (fun i => i ≤ gs.length) (fun i => gs.length - i) 0 [0, 1] (Nat.zero_le _) ⟨rfl, rfl, rfl, trivial⟩ rfl rfl ?_
  intro (i : Nat) (hi : i ≤ gs.length)
  by_cases hlt : i < gs.length
  · obtain ⟨s, hs⟩ : ∃ s, gs[i]? = some s := ⟨_, List.getElem?_eq_getElem hlt⟩
    obtain ⟨b1, o1, rfl⟩ : ∃ b off, ao = some ⟨b, off, none⟩ := hao.resolve_left (by omega)
    have hv1 : (gstrs gs)[i * 1]? = some (str s) := by simp [gstrs, hs]
    have hr1 : ∀ L : Heap, (Ent.sl (.slice a1 gs.length m1) 9 1 (gstrs gs)) ∈ L → Rd w (ids [devE b lv ds]) L (.slice a1 gs.length m1) 1 gs.length (gstrs gs) := fun L hm => .sl hm (by decide) (by simp)
    refine XC.rdv (hr1 _ (.head _)) fun ao2 m2 hv2 _ _ hao2 => ?_
    cases hv2
    obtain ⟨b2, o2, rfl⟩ : ∃ b off, a1 = some ⟨b, off, none⟩ := hao2.resolve_left (by omega)
    refine go (k := ?_)
    refine XD.q (.ldRd (j := i * 1) rfl rfl rfl (hr1 _ (.head _)) (by omega) hv1) rfl ?_
    refine go (k := ?_)
    refine XD.q (.ldRd (j := i * 1) rfl rfl rfl (hrl _) (by omega) hv1) rfl ?_
    refine go (k := ?_)
    refine XE.mid (i + 1) [0, 1] ⟨show i + 1 ≤ gs.length by omega, show gs.length - (i + 1) < gs.length - i by omega⟩ ⟨rfl, rfl, rfl, trivial⟩ rfl rfl
  · obtain rfl : i = gs.length := by omega
    refine go (k := ?_)
    exact XE.ret1 () [1] rfl rfl trivial rfl rfl rfl
end Go.X
/- Package wal: plain law: headers, what two regions tell. -/
namespace Go.X
open Go Go.Proofs
/-- a header whose generation fits one byte, whole or torn -/
def hbl (u v : UInt8) : List UInt8 := [0, 0, 0, u] ++ zbytes 56 ++ [0, 0, 0, v]
theorem hbl_len (u v : UInt8) : (hbl u v).length = 64 := rfl
theorem hblk_hbl {g : Nat} (h : g < 256) : hblk g = hbl (UInt8.ofNat g) (UInt8.ofNat g) := by
  have : be g 4 = [0, 0, 0, UInt8.ofNat g] := by
    simp only [be]
    have h1 : g / 256 ^ 3 % 256 = 0 := by rw [Nat.div_eq_of_lt (by omega)]
    have h2 : g / 256 ^ 2 % 256 = 0 := by rw [Nat.div_eq_of_lt (by omega)]
    have h3 : g / 256 ^ 1 % 256 = 0 := by rw [Nat.div_eq_of_lt (by omega)]
    have h4 : g / 256 ^ 0 % 256 = g := by rw [Nat.pow_zero, Nat.div_one, Nat.mod_eq_of_lt h]
    rw [h1, h2, h3, h4]; rfl
  unfold hblk hbl
  rw [this]; rfl
theorem hdr_hbl (u v : UInt8) : hdr (hbl u v) = if u = v then u.toNat else 0 := by
  rw [hdr64 (hbl_len u v)]
  have e1 : ((hbl u v).drop 4).take 56 = zbytes 56 := rfl
  have e2 : ((hbl u v).drop 60).take 4 = [0, 0, 0, v] := rfl
  have e3 : (hbl u v).take 4 = [0, 0, 0, u] := rfl
  rw [e1, e2, e3]
  have g1 : ∀ c : UInt8, gnum [0, 0, 0, c] = c.toNat := fun c => by simp [gnum]
  rw [g1, g1]
  by_cases h : u = v
  · subst h; rw [if_pos rfl, if_pos ⟨trimB_zb 56, rfl⟩]
  · rw [if_neg h, if_neg]
    rintro ⟨_, h2⟩
    exact h (UInt8.toNat_inj.1 h2.symm)
theorem mix_hbl (u v u' v' : UInt8) : ∀ c, c ≤ 64 → mix c (hbl u' v') (hbl u v) = hbl (if c < 4 then u else u') (if c < 64 then v else v')
  | 0, _ => rfl
  | 1, _ => rfl
  | 2, _ => rfl
  | 3, _ => rfl
  | 4, _ => rfl
  | 5, _ => rfl
  | 6, _ => rfl
  | 7, _ => rfl
  | 8, _ => rfl
  | 9, _ => rfl
  | 10, _ => rfl
  | 11, _ => rfl
  | 12, _ => rfl
  | 13, _ => rfl
  | 14, _ => rfl
  | 15, _ => rfl
  | 16, _ => rfl
  | 17, _ => rfl
  | 18, _ => rfl
  | 19, _ => rfl
  | 20, _ => rfl
  | 21, _ => rfl
  | 22, _ => rfl
  | 23, _ => rfl
  | 24, _ => rfl
  | 25, _ => rfl
  | 26, _ => rfl
  | 27, _ => rfl
  | 28, _ => rfl
  | 29, _ => rfl
  | 30, _ => rfl
  | 31, _ => rfl
  | 32, _ => rfl
  | 33, _ => rfl
  | 34, _ => rfl
  | 35, _ => rfl
  | 36, _ => rfl
  | 37, _ => rfl
  | 38, _ => rfl
  | 39, _ => rfl
  | 40, _ => rfl
  | 41, _ => rfl
  | 42, _ => rfl
  | 43, _ => rfl
  | 44, _ => rfl
  | 45, _ => rfl
  | 46, _ => rfl
  | 47, _ => rfl
  | 48, _ => rfl
  | 49, _ => rfl
  | 50, _ => rfl
  | 51, _ => rfl
  | 52, _ => rfl
  | 53, _ => rfl
  | 54, _ => rfl
  | 55, _ => rfl
  | 56, _ => rfl
  | 57, _ => rfl
  | 58, _ => rfl
  | 59, _ => rfl
  | 60, _ => rfl
  | 61, _ => rfl
  | 62, _ => rfl
  | 63, _ => rfl
  | 64, _ => rfl
  | n + 65, h => absurd h (by omega)
theorem zb_hbl : zbytes 64 = hbl 0 0 := rfl
/-- a header that tells no generation from gen on -/
structure LowH (gen : Nat) (B : List UInt8) : Prop where
  is : ∃ u v : UInt8, B = hbl u v ∧ (u = 0 ∨ v = 0 ∨ (u.toNat < gen ∧ v.toNat < gen))
theorem LowH.hdr {gen : Nat} {B : List UInt8} (h : LowH gen B) (hg : 0 < gen) : hdr B < gen := by
  obtain ⟨u, v, rfl, h⟩ := h
  rw [hdr_hbl]
  split
  · rename_i e
    subst e
    rcases h with rfl | rfl | ⟨h, _⟩
    · exact hg
    · exact hg
    · exact h
  · exact hg
theorem LowH.zero {gen : Nat} : LowH gen (zbytes 64) := ⟨0, 0, zb_hbl, .inl rfl⟩
theorem LowH.mono {gen gen' : Nat} {B : List UInt8} (h : LowH gen B) (hg : gen ≤ gen') : LowH gen' B := by
  obtain ⟨u, v, e, h⟩ := h
  exact ⟨u, v, e, h.imp_right (Or.imp_right fun ⟨a, b⟩ => ⟨by omega, by omega⟩)⟩
theorem LowH.mixZ {gen c : Nat} {B : List UInt8} (h : LowH gen B) (hc : c ≤ 64) : LowH gen (mix c (zbytes 64) B) := by
  obtain ⟨u, v, rfl, h⟩ := h
  rw [zb_hbl, mix_hbl u v 0 0 c hc]
  refine ⟨_, _, rfl, ?_⟩
  by_cases h1 : c < 4
  · rw [if_pos h1, if_pos (by omega)]; exact h
  · rw [if_neg h1]; exact .inl rfl
theorem LowH.of {gen g : Nat} (hg : g < gen) (h : g < 256) : LowH gen (hblk g) := by
  refine ⟨_, _, hblk_hbl h, .inr (.inr ?_)⟩
  have : (UInt8.ofNat g).toNat = g := by simp; omega
  rw [this]; exact ⟨hg, hg⟩
/-- a header that was torn while it was sealed over noughts -/
theorem seal_mix {g c : Nat} (h : g < 256) (hc : c ≤ 64) : mix c (hblk g) (hblk 0) = hblk g ∨ ∀ gen, LowH gen (mix c (hblk g) (hblk 0)) := by
  rw [hblk_hbl h, hblk_hbl (show 0 < 256 by decide), mix_hbl _ _ _ _ c hc]
  by_cases h1 : c < 64
  · right
    intro gen
    rw [if_pos h1]
    exact ⟨_, _, rfl, .inr (.inl rfl)⟩
  · left
    rw [if_neg h1, if_neg (by omega)]
end Go.X
/- Package wal: plain law: a device at rest. -/
namespace Go.X
open Go Go.Proofs
theorem foldl_gen : ∀ (l : List (Nat × List UInt8)) (st : Rs), (∀ p ∈ l, p.1 ≠ 0) → (l.foldl rstep st).gen = st.gen
  | [], _, _ => rfl
  | p :: l, st, h => by
    rw [List.foldl_cons, foldl_gen l _ (fun q hq => h q (.tail _ hq))]
    unfold rstep
    rw [if_neg (h p (.head _))]
    split
    · rfl
    · split <;> rfl
theorem rblks_map {ds : List Slot} {a n : Nat} (h : a + n ≤ ds.length) : rblks ds a n = (List.range n).map fun k => (k, rdk ds (a + k)) := by
  unfold rblks
  refine List.map_congr_left fun k hk => ?_
  rw [drd_rdk (by have := List.mem_range.1 hk; omega)]
theorem rgen_hdr {ds : List Slot} {a n : Nat} (h : a + n ≤ ds.length) (hn : 0 < n) : rgen ds a n = hdr (rdk ds a) := by
  unfold rgen
  rw [rblks_map h]
  obtain ⟨k, rfl⟩ : ∃ k, n = k + 1 := ⟨n - 1, by omega⟩
  rw [List.range_succ_eq_map, List.map_cons]
  unfold rtell
  rw [List.foldl_cons, foldl_gen]
  · rfl
  · intro p hp
    simp only [List.map_map, List.mem_map] at hp
    obtain ⟨q, _, rfl⟩ := hp
    simp
/-- nothing is fresh -/
def Still (ds : List Slot) : Prop := ∀ s ∈ ds, s.fresh = false
theorem Still.settled {ds : List Slot} (h : Still ds) (F : Nat → Nat) : X.settled F ds = ds := by
  refine List.ext_getElem? fun i => ?_
  rw [settled_at]
  cases hx : ds[i]? with
  | none => rfl
  | some s => simp only [Option.map_some]; rw [if_neg (by rw [h s (List.mem_of_getElem? hx)]; decide)]
theorem settled_still (F : Nat → Nat) (ds : List Slot) : Still (settled F ds) := by
  intro s hs
  obtain ⟨i, hi⟩ := List.mem_iff_getElem?.1 hs
  rw [settled_at] at hi
  cases hx : ds[i]? with
  | none => rw [hx] at hi; cases hi
  | some t =>
    rw [hx] at hi
    simp only [Option.map_some, Option.some.injEq] at hi
    subst hi
    split
    · rfl
    · rename_i h; simpa using h
theorem still_rep (m : Nat) : Still (List.replicate m slot0) := fun s hs => by rw [(List.mem_replicate.1 hs).2]; rfl
/-- beside a stretch nothing changes -/
structure Out (a n : Nat) (d0 d1 : List Slot) : Prop where
  len : d1.length = d0.length
  at_ : ∀ k, (k < a ∨ a + n ≤ k) → d1[k]? = d0[k]?
theorem Out.refl (a n : Nat) (d : List Slot) : Out a n d d := ⟨rfl, fun _ _ => rfl⟩
theorem Out.trans {a n : Nat} {d1 d2 d3 : List Slot} (h : Out a n d1 d2) (k : Out a n d2 d3) : Out a n d1 d3 := ⟨k.len.trans h.len, fun i hi => (k.at_ i hi).trans (h.at_ i hi)⟩
theorem Out.same {a n : Nat} {d0 d1 : List Slot} (hs : Still d0) (h : SameS a n d0 d1) : Out a n d0 d1 := ⟨h.len, fun k hk => by
  cases hx : d0[k]? with
  | some s => exact h.at_ k hk s hx (hs s (List.mem_of_getElem? hx))
  | none => rw [List.getElem?_eq_none_iff] at hx ⊢; rw [h.len]; exact hx⟩
theorem Out.settled {a n : Nat} {d0 d1 : List Slot} (hs : Still d0) (h : Out a n d0 d1) (F : Nat → Nat) : Out a n d0 (X.settled F d1) := ⟨by rw [settled_len]; exact h.len, fun k hk => by
  rw [settled_at, h.at_ k hk]
  cases hx : d0[k]? with
  | none => rfl
  | some s => simp only [Option.map_some]; rw [if_neg (by rw [hs s (List.mem_of_getElem? hx)]; decide)]⟩
theorem Out.rdk {a n : Nat} {d0 d1 : List Slot} (h : Out a n d0 d1) {k : Nat} (hk : k < a ∨ a + n ≤ k) : X.rdk d1 k = X.rdk d0 k := by
  unfold X.rdk
  rw [List.getD_eq_getElem?_getD, List.getD_eq_getElem?_getD, h.at_ k hk]
theorem Out.rblks {a n b q : Nat} {d0 d1 : List Slot} (h : Out a n d0 d1) (hb : b + q ≤ d0.length) (hk : b + q ≤ a ∨ a + n ≤ b) : X.rblks d1 b q = X.rblks d0 b q := by
  rw [rblks_map hb, rblks_map (by rw [h.len]; exact hb)]
  refine List.map_congr_left fun k hk2 => ?_
  have := List.mem_range.1 hk2
  rw [h.rdk (by omega)]
/-- a device with a log, between what is done -/
structure WS (n m at_ gen : Nat) (all : List (List UInt8)) (ds : List Slot) : Prop where
  oks : Oks ds
  inv : DInv ds
  len : ds.length = m
  still : Still ds
  two : at_ = 0 ∨ at_ = 1
  hn : 2 ≤ n ∧ 2 * n ≤ m ∧ n ≤ 256
  g0 : 0 < gen ∧ gen < 256
  hd : rdk ds (at_ * n) = hblk gen
  ta : rgrp ds (at_ * n) n = all
  low : LowH gen (rdk ds ((1 - at_) * n))
section
variable {n m at_ gen : Nat} {all : List (List UInt8)} {ds d1 : List Slot}
theorem WS.bnd (h : WS n m at_ gen all ds) : at_ * n + n ≤ m ∧ (1 - at_) * n + n ≤ m ∧ ((at_ * n = 0 ∧ (1 - at_) * n = n) ∨ (at_ * n = n ∧ (1 - at_) * n = 0)) := by
  have := h.hn
  rcases h.two with rfl | rfl
  · refine ⟨by omega, by omega, .inl ⟨by omega, by omega⟩⟩
  · refine ⟨by omega, by omega, .inr ⟨by omega, by omega⟩⟩
theorem WS.tells (h : WS n m at_ gen all ds) : wat ds n = at_ ∧ wgen ds n = gen ∧ wgrp ds n = all := by
  obtain ⟨h1, h2, h3⟩ := h.bnd
  have hlen := h.len
  have hn := h.hn
  have e1 : rgen ds (at_ * n) n = gen := by rw [rgen_hdr (by omega) (by omega), h.hd, hdr_hblk (by have := h.g0; omega)]
  have e2 : rgen ds ((1 - at_) * n) n < gen := by rw [rgen_hdr (by omega) (by omega)]; exact h.low.hdr h.g0.1
  have e3 := h.ta
  unfold wat wgen wgrp
  rcases h.two with rfl | rfl
  · simp only [Nat.zero_mul, Nat.sub_zero, Nat.one_mul] at e1 e2 e3
    rw [if_neg (by omega), if_neg (by omega), if_neg (by omega)]
    exact ⟨rfl, e1, e3⟩
  · simp only [Nat.zero_mul, Nat.sub_self, Nat.one_mul] at e1 e2 e3
    rw [if_pos (by omega), if_pos (by omega), if_pos (by omega)]
    exact ⟨rfl, e1, e3⟩
/-- the other region was worked in -/
theorem WS.keep (h : WS n m at_ gen all ds) (ho : Out ((1 - at_) * n) n ds d1) (hk : Oks d1) (hi : DInv d1) (hs : Still d1) (hl : LowH gen (rdk d1 ((1 - at_) * n))) : WS n m at_ gen all d1 := by
  obtain ⟨h1, h2, h3⟩ := h.bnd
  have hlen := h.len
  have hn := h.hn
  refine ⟨hk, hi, ho.len.trans h.len, hs, h.two, h.hn, h.g0, ?_, ?_, hl⟩
  · rw [ho.rdk (by omega)]; exact h.hd
  · unfold rgrp; rw [ho.rblks (by omega) (by omega)]; exact h.ta
/-- the other region is the log now -/
theorem WS.turn {all' : List (List UInt8)} (h : WS n m at_ gen all ds) (ho : Out ((1 - at_) * n) n ds d1) (hk : Oks d1) (hi : DInv d1) (hs : Still d1) (hg : gen + 1 < 256) (hd : rdk d1 ((1 - at_) * n) = hblk (gen + 1)) (ha : rgrp d1 ((1 - at_) * n) n = all') : WS n m (1 - at_) (gen + 1) all' d1 := by
  obtain ⟨h1, h2, h3⟩ := h.bnd
  have hn := h.hn
  refine ⟨hk, hi, ho.len.trans h.len, hs, by have := h.two; omega, h.hn, ⟨by omega, hg⟩, hd, ha, ?_⟩
  have e : 1 - (1 - at_) = at_ := by have := h.two; omega
  rw [e, ho.rdk (by omega), h.hd]
  exact .of (by omega) h.g0.2
end
end Go.X
