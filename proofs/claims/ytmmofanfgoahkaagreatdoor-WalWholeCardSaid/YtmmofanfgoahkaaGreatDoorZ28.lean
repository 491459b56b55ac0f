/- Package wal: anew, the walk. -/
import Derived.Test.YtmmofanfgoahkaaGreatDoorZ25
import Derived.Test.YtmmofanfgoahkaaGreatDoorDrawH
import Derived.Test.YtmmofanfgoahkaaGreatDoorZ21
import Derived.LaidEqlPtr
import Derived.Test.YtmmofanfgoahkaaGreatDoorZ20
namespace Go.X
open Go Go.Proofs Go.RowKit
abbrev RgB (g : Rg) : Prop := g.n ≤ 65536 ∧ g.used < g.n ∧ g.at_ ≤ 100000
theorem RgB.append {g : Rg} (h : RgB g) (cut : Int) (ch : List Int) (s : List UInt8) (x : Ln) : RgB (g.append cut ch s x).2.1 := by
  obtain ⟨h1, h2, h3⟩ := h
  unfold Rg.append
  split
  · exact ⟨h1, h2, h3⟩
  · split
    · exact ⟨h1, h2, h3⟩
    · split
      · exact ⟨h1, h2, h3⟩
      · exact ⟨h1, by simp only; omega, h3⟩
theorem RgB.flush {g : Rg} (h : RgB g) (cut : Int) (ch : List Int) (x : Ln) : RgB (g.flush cut ch x).2.1 := by
  unfold Rg.flush
  split
  · exact h
  · exact h
theorem RgB.sealG {g : Rg} (h : RgB g) (cut : Int) (ch : List Int) (v : Nat) (x : Ln) : RgB (g.sealG cut ch v x).2.1 := by
  unfold Rg.sealG
  split
  · exact h
  · split
    · exact h
    · split
      · exact h
      · exact RgB.flush (g := g.did 0) h _ _ _
theorem format_err (bl b : Nat) (lv vc : Value) (cut : Int) (ch : List Int) (x y : Ln) (a n m : Nat) (e : Int) (w : World) (h : fmt cut ch a n x = (e, y)) (he : e ≠ 0) (hx : LIn m 100000 x) (hm0 : 0 < m) (hm : m ≤ 100000) (ht : thr m a n = 0) (hn : n ≤ 65536)
    (hl : ch.length ≤ 1000000) (hw : ∀ a ∈ ch, -9223372036854775808 ≤ a ∧ a ≤ 9223372036854775807) (ho : Owns w (lnX bl b lv vc cut ch x)) :
    Fx Tryz.prog 12 [ptr bl, iv a, iv n] w (Ret w (lnX bl b lv vc cut ch x) (fun _ : Nat => .tuple #[.pointer none, iv e]) (fun _ => lnX bl b lv vc cut ch y) (fun _ => True)) := by
  have := format_ok bl b lv vc cut ch x a n m w hx hm0 hm ht hn hl hw ho
  rw [h] at this
  simp only [if_neg he] at this
  exact this
def Wa.after (y : Wa) (at_ gen br : Nat) (R : Int × Option Rg × Ln) : Wa := match R.2.1 with
  | none => { y with r := none, broken := true }
  | some g => { y with at_ := at_, gen := gen, r := some (br, g), broken := false }
abbrev anSteps (cut : Int) (ch : List Int) (gen : Nat) (dump : List UInt8) : List (Rg × Ln → Int × Rg × Ln) := [fun p => p.1.append cut ch dump p.2, fun p => p.1.flush cut ch p.2, fun p => p.1.sealG cut ch gen p.2]
theorem anewR_err {cut : Int} {ch : List Int} {a n gen : Nat} {dump : List UInt8} {x x1 : Ln} {e : Int} (h : fmt cut ch a n x = (e, x1)) (he : e ≠ 0) : anewR cut ch a n gen dump x = (e, none, x1) := by unfold anewR; rw [h, if_pos he]
theorem anewR_run {cut : Int} {ch : List Int} {a n gen : Nat} {dump : List UInt8} {x x1 : Ln} (h : fmt cut ch a n x = (0, x1)) : anewR cut ch a n gen dump x = if (fr (anSteps cut ch gen dump) (⟨a, n, 0, false⟩, x1)).1 ≠ 0 then ((fr (anSteps cut ch gen dump) (⟨a, n, 0, false⟩, x1)).1, none, (fr (anSteps cut ch gen dump) (⟨a, n, 0, false⟩, x1)).2.2) else (0, some (fr (anSteps cut ch gen dump) (⟨a, n, 0, false⟩, x1)).2.1, (fr (anSteps cut ch gen dump) (⟨a, n, 0, false⟩, x1)).2.2) := by
  unfold anewR; rw [h, if_neg (by simp)]
/-- the three steps of anew -/
theorem anewS_ok (b9 b7 b6 br bl b bs : Nat) (lv vc : Value) (cut : Int) (ch : List Int) (dump : List UInt8) (gen : Nat) (p : Rg × Ln) (m k : Nat) (w : World) (h : AnOk m k p) (hk : k ≤ 400000) (hm0 : 0 < m) (hm : m ≤ 100000) (hd : dump.length ≤ 100000) (hgen : gen < 4294967296) (hl : ch.length ≤ 1000000)
    (hw : ∀ a ∈ ch, -9223372036854775808 ≤ a ∧ a ≤ 9223372036854775807)
    (hrow : ∀ w', Kept (ids (anX b9 b7 b6 br bl b lv vc cut ch dump gen p)) w w' → RowAt w' (.slice (some ⟨bs, 0, none⟩) 3 3) 1 3 [.func (.func 101) #[] #[ptr b9, ptr b7], .func (.func 56) #[ptr br] #[], .func (.func 102) #[] #[ptr b9, ptr b6]])
    (ho : Owns w (anX b9 b7 b6 br bl b lv vc cut ch dump gen p)) :
    Fx Tryz.prog 68 [.slice (some ⟨bs, 0, none⟩) 3 3] w (Ret w (anX b9 b7 b6 br bl b lv vc cut ch dump gen p) (fun _ : Unit => iv (fr (anSteps cut ch gen dump) p).1) (fun _ => anX b9 b7 b6 br bl b lv vc cut ch dump gen (fr (anSteps cut ch gen dump) p).2) (fun _ => True)) := by
  have hnd : nd dump.length ≤ 100001 := by have := nd_le dump.length; omega
  refine first_ok (α := Rg × Ln) (anX b9 b7 b6 br bl b lv vc cut ch dump gen) (fun i q => AnOk m (k + 100001 * i) q) [⟨101, [], [ptr b9, ptr b7], fun p => p.1.append cut ch dump p.2⟩, ⟨56, [ptr br], [], fun p => p.1.flush cut ch p.2⟩, ⟨102, [], [ptr b9, ptr b6], fun p => p.1.sealG cut ch gen p.2⟩] (.slice (some ⟨bs, 0, none⟩) 3 3) p w (by simp) h hrow ?_ ?_ (fun _ => ⟨rfl, rfl⟩) ho
  · intro i s q w' hs hq ho'
    match i, hs, hq with
    | 0, hs, hq => cases hs; exact anew2_ok b9 b7 b6 br bl b lv vc cut ch dump gen q m _ w' hq (by omega) hm0 hm hd hl hw ho'
    | 1, hs, hq => cases hs; exact anewF_ok b9 b7 b6 br bl b lv vc cut ch dump gen q m _ w' hq (by omega) hm hl hw ho'
    | 2, hs, hq => cases hs; exact anew3_ok b9 b7 b6 br bl b lv vc cut ch dump gen q m _ w' hq (by omega) hm0 hm hgen hl hw ho'
    | i + 3, hs, _ => simp at hs
  · intro i s q hs hq _
    match i, hs, hq with
    | 0, hs, hq => cases hs; exact ⟨(hq.ld.append q.1 dump).mono (by omega), RgB.append hq.g _ _ _ _⟩
    | 1, hs, hq => cases hs; exact ⟨(hq.ld.rflush q.1).mono (by omega), RgB.flush hq.g _ _ _⟩
    | 2, hs, hq => cases hs; exact ⟨(hq.ld.sealG q.1 gen).mono (by omega), RgB.sealG hq.g _ _ _ _⟩
    | i + 3, hs, _ => simp at hs
set_option maxHeartbeats 4000000 in
theorem wanew_ok (bw bl b : Nat) (lv vc : Value) (cut : Int) (ch : List Int) (y : Wa) (x : Ln) (at_ gen : Nat) (dump : List UInt8) (m k : Nat) (w : World) (hat : at_ = 0 ∨ at_ = 1) (hld : LD m k x) (hk : k ≤ 50000) (hm0 : 0 < m) (hm : m ≤ 50000) (hn : 2 ≤ y.n ∧ y.n ≤ 20000 ∧ 2 * y.n ≤ m) (hd : dump.length ≤ 100000) (hgen : gen < 4294967296)
    (hl : ch.length ≤ 1000000) (hw : ∀ a ∈ ch, -9223372036854775808 ≤ a ∧ a ≤ 9223372036854775807) (ho : Owns w (waX bw bl b lv vc cut ch y x)) :
    Fx Tryz.prog 64 [ptr bw, iv at_, .int .u32 gen, str dump] w (Ret w (waX bw bl b lv vc cut ch y x) (fun _ : Nat => iv (anewR cut ch (at_ * y.n) y.n gen dump x).1) (fun br => waX bw bl b lv vc cut ch (y.after at_ gen br (anewR cut ch (at_ * y.n) y.n gen dump x)) (anewR cut ch (at_ * y.n) y.n gen dump x).2.2) (fun _ => True)) := by
  obtain ⟨n, at0, gen0, r, broken⟩ := y
  simp only at hn
  have hli : LIn m 100000 x := ⟨hld.li.ok, hld.li.len, by have := hld.li.acts; omega⟩
  have hmul : at_ * n ≤ n := by rcases hat with rfl | rfl <;> omega
  have ht : thr m ((at_ * n : Nat) : Int) n = 0 := by
    refine thr_0 (by omega) (by omega) ?_
    rcases hat with rfl | rfl <;> omega
  have hmi : (at_ : Int) * (n : Int) = ((at_ * n : Nat) : Int) := by rcases hat with rfl | rfl <;> omega
  have hmb : (at_ : Int) * (n : Int) ≤ 20000 ∧ 0 ≤ (at_ : Int) * (n : Int) := by omega
  have hf := hld.fmt (cut := cut) (ch := ch) ((at_ * n : Nat) : Int) n
  obtain ⟨A, hA⟩ : ∃ A : Nat, A = at_ * n := ⟨_, rfl⟩
  rw [← hA] at ht hmi hf
  have hAR : at_ * n = A := hA.symm
  simp only
  rw [hAR]
  clear hAR hmul
  obtain ⟨r0, hr0⟩ : ∃ r, r = fmt cut ch (A : Int) n x := ⟨_, rfl⟩
  rw [← hr0] at hf
  obtain ⟨e0, x1⟩ := r0
  simp only at hf
  replace hr0 := Hold.mk hr0.symm
  refine Fx.of Tryz.func64 rfl (by kernel_rfl) Tryz.ntmps64 rfl ho ?_
  refine go (k := ?_)
  refine XL.box (zs := [ptr bw]) rfl rfl rfl fun b4 => ?_
  refine go (k := ?_)
  refine XL.box (zs := [.int .u32 gen]) rfl rfl rfl fun b6 => ?_
  refine go (k := ?_)
  refine XL.box (zs := [str dump]) rfl rfl rfl fun b7 => ?_
  refine go (k := ?_)
  refine XL.alloc (zs := [iv 0]) rfl rfl rfl fun b8 => ?_
  refine go (k := ?_)
  refine XL.defer rfl rfl ?_
  refine goD (k := ?_)
  refine XC.pk (M := lnX bl b lv vc cut ch x ++ [.blk b8 [iv 0] 38, .blk b7 [str dump] 9, .blk b6 [.int .u32 gen] 44, .blk b4 [ptr bw] 55, waB bw bl ⟨n, at0, gen0, none, broken⟩]) [6, 7, 8, 0, 1, 2, 3, 4] (by decide) rfl ?_
  obtain ⟨pv, H1, hf1, hpv⟩ : ∃ (pv : Nat → Option Addr) (H1 : Nat → Heap), (∀ w1, Owns w1 (lnX bl b lv vc cut ch x) → Fx Tryz.prog 12 [ptr bl, iv (A : Int), iv n] w1 (Ret w1 (lnX bl b lv vc cut ch x) (fun br : Nat => .tuple #[.pointer (pv br), iv e0]) H1 (fun _ => True))) ∧
      (if e0 = 0 then pv = (fun br => some ⟨br, 0, none⟩) ∧ H1 = (fun br => rgX br bl b lv vc cut ch ⟨A, n, 0, false⟩ x1) else pv = (fun _ => none) ∧ H1 = (fun _ => lnX bl b lv vc cut ch x1)) := by
    by_cases he : e0 = 0
    · subst he
      refine ⟨fun br => some ⟨br, 0, none⟩, _, fun w1 ho => format_run bl b lv vc cut ch x x1 A n m w1 hr0.out hli hm0 (by omega) ht (by omega) hl hw ho, ?_⟩
      rw [if_pos rfl]
      exact ⟨rfl, rfl⟩
    · refine ⟨fun _ => none, _, fun w1 ho => format_err bl b lv vc cut ch x x1 A n m e0 w1 hr0.out he hli hm0 (by omega) ht (by omega) hl hw ho, ?_⟩
      rw [if_neg he]
      exact ⟨rfl, rfl⟩
  refine XC.via (α := Nat × Nat) (fun y => [(9, ptr y.2), (8, ptr b8), (7, ptr b7), (6, ptr b6), (4, ptr b4), (1, iv (at_ : Int))])
    (fun y => [.blk y.2 [.pointer (pv y.1)] 37, grp (H1 y.1), .blk b8 [iv e0] 38, .blk b7 [str dump] 9, .blk b6 [.int .u32 gen] 44, .blk b4 [ptr bw] 55, waB bw bl ⟨n, at0, gen0, none, broken⟩]) (fun _ => True) ?_ ?_
  · refine XC.drawA (Φ := fun v H => ∃ b9, v = ptr b9 ∧ H = [.blk b9 [.pointer none] 37]) 14 18 9 Tab.mix (by decide +kernel) (by decide +kernel) (by decide +kernel) rfl rfl rfl (by decide +kernel) (.alloc rfl rfl) ?_
    repeat (refine XA.st (by first | exact .mv rfl | exact .ld rfl rfl rfl (by repeat (first | exact .head _ | refine .tail _ ?_)) rfl | exact .nilCheck rfl | exact .fldA rfl rfl rfl rfl | exact .mul rfl rfl (by simp only [inR]; omega)) rfl ?_)
    rw [hmi]
    refine XA.last rfl rfl rfl ?_ ?_
    · repeat' (first
        | refine XG.s2 14 18 (by decide +kernel) rfl rfl rfl ?_ ?_
        | refine XG.s1 14 (by decide +kernel) rfl rfl ?_
        | refine XG.s1 15 (by decide +kernel) rfl rfl ?_
        | refine XG.s2 15 18 (by decide +kernel) rfl rfl rfl ?_ ?_
        | refine XG.s2 16 17 (by decide +kernel) rfl rfl rfl ?_ ?_
        | refine XG.s3 16 17 18 (by decide +kernel) rfl rfl rfl rfl ?_ ?_ ?_
        | refine XG.s1 17 (by decide +kernel) rfl rfl ?_
        | refine XG.s1 18 (by decide +kernel) rfl rfl ?_
        | refine XG.s2 17 18 (by decide +kernel) rfl rfl rfl ?_ ?_
        | refine XG.s2 16 18 (by decide +kernel) rfl rfl rfl ?_ ?_
        | refine XG.s1 19 (by decide +kernel) rfl rfl ?_
        | refine XG.s2 17 19 (by decide +kernel) rfl rfl rfl ?_ ?_
        | refine XG.s1 16 (by decide +kernel) rfl rfl ?_
        | refine XG.s1 20 (by decide +kernel) rfl rfl ?_
        | refine XG.s2 16 19 (by decide +kernel) rfl rfl rfl ?_ ?_
        | exact XG.done (by decide +kernel) (by decide +kernel) (XE.mid (br, b9) [0, 1, 2, 3, 4, 5, 6] trivial ⟨rfl, rfl, rfl, rfl, rfl, rfl, trivial⟩ rfl rfl)
        | exact XG.done (by decide +kernel) (by decide +kernel) (XE.mid (br, b9) [1, 0, 2, 3, 4, 5, 6] trivial ⟨rfl, rfl, rfl, rfl, rfl, rfl, trivial⟩ rfl rfl)
        | refine XE.toG ?_
        | (refine XL.call (α := Nat) [0, 1, 2] [3, 4, 5, 6, 7] rfl rfl rfl rfl rfl (fun _ w1 _ ho => hf1 w1 ho) fun br _ => ?_
           refine XL.shutG ?_
           refine XL.nm ?_)
        | (refine XL.call (α := Nat) [1, 2, 3] [0, 4, 5, 6, 7, 8] rfl rfl rfl rfl rfl (fun _ w1 _ ho => hf1 w1 ho) fun br _ => ?_
           refine XL.shutG ?_
           refine XL.nm ?_)
        | refine XL.alloc (zs := [.pointer none]) rfl rfl rfl fun b9 => ?_
        | refine go1 (k := ?_))
    · rintro _ _ ⟨b9, rfl, rfl⟩
      repeat' (first
        | refine XG.s2 14 18 (by decide +kernel) rfl rfl rfl ?_ ?_
        | refine XG.s1 14 (by decide +kernel) rfl rfl ?_
        | refine XG.s1 15 (by decide +kernel) rfl rfl ?_
        | refine XG.s2 15 18 (by decide +kernel) rfl rfl rfl ?_ ?_
        | refine XG.s2 16 17 (by decide +kernel) rfl rfl rfl ?_ ?_
        | refine XG.s3 16 17 18 (by decide +kernel) rfl rfl rfl rfl ?_ ?_ ?_
        | refine XG.s1 17 (by decide +kernel) rfl rfl ?_
        | refine XG.s1 18 (by decide +kernel) rfl rfl ?_
        | refine XG.s2 17 18 (by decide +kernel) rfl rfl rfl ?_ ?_
        | refine XG.s2 16 18 (by decide +kernel) rfl rfl rfl ?_ ?_
        | refine XG.s1 19 (by decide +kernel) rfl rfl ?_
        | refine XG.s2 17 19 (by decide +kernel) rfl rfl rfl ?_ ?_
        | refine XG.s1 16 (by decide +kernel) rfl rfl ?_
        | refine XG.s1 20 (by decide +kernel) rfl rfl ?_
        | refine XG.s2 16 19 (by decide +kernel) rfl rfl rfl ?_ ?_
        | exact XG.done (by decide +kernel) (by decide +kernel) (XE.mid (br, b9) [0, 1, 2, 3, 4, 5, 6] trivial ⟨rfl, rfl, rfl, rfl, rfl, rfl, trivial⟩ rfl rfl)
        | exact XG.done (by decide +kernel) (by decide +kernel) (XE.mid (br, b9) [1, 0, 2, 3, 4, 5, 6] trivial ⟨rfl, rfl, rfl, rfl, rfl, rfl, trivial⟩ rfl rfl)
        | refine XE.toG ?_
        | (refine XL.call (α := Nat) [1, 2, 3] [0, 4, 5, 6, 7, 8] rfl rfl rfl rfl rfl (fun _ w1 _ ho => hf1 w1 ho) fun br _ => ?_
           refine XL.shutG ?_
           refine XL.nm ?_)
        | refine XL.alloc (zs := [.pointer none]) rfl rfl rfl fun b9 => ?_
        | refine go1 (k := ?_))
  · rintro ⟨br, b9⟩ _
    refine go (k := ?_)
    by_cases he : e0 = 0
    · subst he
      rw [if_pos rfl] at hpv
      obtain ⟨rfl, rfl⟩ := hpv
      rw [anewR_run hr0.out]
      refine go (k := ?_)
      refine XL.make (.bslice rfl rfl rfl rfl rfl rfl) rfl fun _ _ hb => ?_
      obtain ⟨bs, rfl, rfl⟩ := hb
      have hS := fun w1 hrow ho => anewS_ok b9 b7 b6 br bl b bs lv vc cut ch dump gen (⟨A, n, 0, false⟩, x1) m (k + n + 1) w1 ⟨hf, ⟨by show n ≤ 65536; omega, by show 0 < n; omega, by show A ≤ 100000; omega⟩⟩ (by omega) hm0 (by omega) hd hgen hl hw hrow ho
      obtain ⟨R, hR⟩ : ∃ R, R = fr (anSteps cut ch gen dump) (⟨A, n, 0, false⟩, x1) := ⟨_, rfl⟩
      rw [← hR] at hS ⊢
      clear hR
      obtain ⟨e1, g1, x2⟩ := R
      simp only at hS ⊢
      refine XL.pk (M := [grp (rgX br bl b lv vc cut ch ⟨A, n, 0, false⟩ x1), .blk b9 [ptr br] 37, .blk b7 [str dump] 9, .blk b6 [.int .u32 gen] 44, .blk bs [.func (.func 101) #[] #[ptr b9, ptr b7], .func (.func 56) #[ptr br] #[], .func (.func 102) #[] #[ptr b9, ptr b6]] _, .blk b8 [iv 0] 38, .blk b4 [ptr bw] 55, waB bw bl ⟨n, at0, gen0, none, broken⟩]) [2, 1, 4, 5, 0, 3, 6, 7] (by decide) rfl ?_
      refine XL.openG ?_
      refine XL.call (α := Unit) [4, 5, 6, 0, 1, 2, 3] [8, 9, 10] rfl rfl rfl rfl rfl (fun _ w1 hs ho => hS w1 (fun w' hk' => ?_) ho) fun _ _ => ?_
      · have h8 := hs.own.pick (is := [4, 5, 6, 0, 1, 2, 3, 7]) (by decide)
        have h9 : Owns w1 (anX b9 b7 b6 br bl b lv vc cut ch dump gen (⟨A, n, 0, false⟩, x1) ++ [.blk bs [.func (.func 101) #[] #[ptr b9, ptr b7], .func (.func 56) #[ptr br] #[], .func (.func 102) #[] #[ptr b9, ptr b6]] _]) := h8
        have hb : w1.heap[bs]? = some (.cells _ _ (0, 0)) := h9.right.ok _ (.head _)
        have hn : bs ∉ ids (anX b9 b7 b6 br bl b lv vc cut ch dump gen (⟨A, n, 0, false⟩, x1)) := fun h => h9.apart bs h (by simp [X.ids, Ent.ids])
        exact ⟨_, _, rfl, rfl, Nat.le_refl _, .inr ⟨bs, 0, _, _, _, rfl, (hk'.same bs (Array.getElem?_eq_some_iff.1 hb).1 hn).trans hb, rfl⟩⟩
      refine XL.pk (M := rgX br bl b lv vc cut ch g1 x2 ++ [.blk b9 [ptr br] 37, .blk b7 [str dump] 9, .blk b6 [.int .u32 gen] 44, .blk b8 [iv 0] 38, .blk b4 [ptr bw] 55, waB bw bl ⟨n, at0, gen0, none, broken⟩]) [3, 4, 5, 6, 0, 1, 2, 7, 8, 9] (by decide) rfl ?_
      refine XL.shutG ?_
      by_cases h1 : e1 = 0
      · subst h1
        rw [if_neg (by simp)]
        refine goD (k := ?_)
        refine XC.pk (M := [waB bw bl ⟨n, at0, gen0, none, broken⟩] ++ [grp (rgX br bl b lv vc cut ch g1 x2), .blk b9 [ptr br] 37, .blk b6 [.int .u32 gen] 44, .blk b8 [iv 0] 38, .blk b4 [ptr bw] 55]) [6, 0, 1, 3, 4, 5] (by decide) rfl ?_
        refine XC.drawH 15 Tab.mix (by decide +kernel) (by decide +kernel) (by decide +kernel) (by decide +kernel) ?_
        repeat (first | refine XH.st (by first | exact .mv rfl | exact .ld rfl rfl rfl (by repeat (first | exact .head _ | refine .tail _ ?_)) rfl | exact .nilCheck rfl | exact .fldA rfl rfl rfl rfl) rfl ?_ | refine XH.sto (.st rfl rfl rfl rfl rfl .here rfl) ?_)
        refine XH.nil rfl ?_
        refine go (k := ?_)
        refine XE.pk (M := [.blk b8 [iv 0] 38, .blk b4 [ptr bw] 55, waB bw bl ⟨n, at_, gen, some (br, g1), broken⟩, grp (rgX br bl b lv vc cut ch g1 x2)]) [4, 5, 0, 1] (by decide) rfl ?_
        refine XE.dret (.inl rfl) (fun _ w1 hs => anew1_ok b8 b4 bw bl 0 ⟨n, at_, gen, some (br, g1), broken⟩ (grp (rgX br bl b lv vc cut ch g1 x2)) w1 hs.own) fun _ _ => ?_
        refine XE.pk (M := [grp (rgX br bl b lv vc cut ch g1 x2), waB bw bl ⟨n, at_, gen, some (br, g1), false⟩, .blk b8 [iv 0] 38]) [3, 2, 0] (by decide) rfl ?_
        refine XE.openG ?_
        refine XE.pk (M := [rgB br bl g1] ++ (lnX bl b lv vc cut ch x2 ++ [waB bw bl ⟨n, at_, gen, some (br, g1), false⟩, .blk b8 [iv 0] 38])) [0, 1, 2, 3, 4, 5] (by decide) rfl ?_
        refine XE.shutG ?_
        exact XE.retC1 br [4, 0, 1, 2, 3] rfl rfl rfl rfl (.tail _ (.tail _ (.tail _ (.tail _ (.tail _ (.head _)))))) rfl trivial rfl rfl rfl
      · rw [if_pos h1]
        have hd1 : decide (e1 ≠ 0) = true := by simp [h1]
        refine go (k := ?_)
        refine XE.pk (M := [.blk b8 [iv e1] 38, .blk b4 [ptr bw] 55, waB bw bl ⟨n, at0, gen0, none, broken⟩, grp (rgX br bl b lv vc cut ch g1 x2)]) [4, 5, 6, 0] (by decide) rfl ?_
        refine XE.dret (.inl rfl) (fun _ w1 hs => anew1_ok b8 b4 bw bl e1 ⟨n, at0, gen0, none, broken⟩ (grp (rgX br bl b lv vc cut ch g1 x2)) w1 hs.own) fun _ _ => ?_
        rw [hd1]
        refine XE.pk (M := [grp (rgX br bl b lv vc cut ch g1 x2), waB bw bl ⟨n, at0, gen0, none, true⟩, .blk b8 [iv e1] 38]) [3, 2, 0] (by decide) rfl ?_
        refine XE.openG ?_
        refine XE.shutG (G := []) ?_
        exact XE.retC1 br [5, 0, 2, 3, 4] rfl rfl rfl rfl (.tail _ (.tail _ (.tail _ (.tail _ (.tail _ (.tail _ (.head _))))))) rfl trivial rfl rfl rfl
    · rw [if_neg he] at hpv
      obtain ⟨rfl, rfl⟩ := hpv
      rw [anewR_err hr0.out he]
      have hd0 : decide (e0 ≠ 0) = true := by simp [he]
      refine go (k := ?_)
      refine XE.pk (M := [.blk b8 [iv e0] 38, .blk b4 [ptr bw] 55, waB bw bl ⟨n, at0, gen0, none, broken⟩, grp (lnX bl b lv vc cut ch x1)]) [2, 5, 6, 1] (by decide) rfl ?_
      refine XE.dret (.inl rfl) (fun _ w1 hs => anew1_ok b8 b4 bw bl e0 ⟨n, at0, gen0, none, broken⟩ (grp (lnX bl b lv vc cut ch x1)) w1 hs.own) fun _ _ => ?_
      rw [hd0]
      refine XE.pk (M := [grp (lnX bl b lv vc cut ch x1), waB bw bl ⟨n, at0, gen0, none, true⟩, .blk b8 [iv e0] 38]) [3, 2, 0] (by decide) rfl ?_
      refine XE.openG ?_
      refine XE.shutG (G := []) ?_
      exact XE.retC1 br [4, 0, 1, 2, 3] rfl rfl rfl rfl (.tail _ (.tail _ (.tail _ (.tail _ (.tail _ (.head _)))))) rfl trivial rfl rfl rfl
end Go.X
/- LineCuts: run, plain law and walk. -/
namespace Go.X
open Go Go.Proofs Go.RowKit
def lop (a : LAct) : Option (List Slot → Int × List Slot) := if a.what % 5 = 2 then some (fun ds => (0, settled F64 ds)) else if a.what % 5 < 2 then some (fun ds => dwr ds a.at_ a.s) else none
def lr1 (cut : Int) (ch : List Int) (most : Nat) (p : Nat × Ln) (a : LAct) : Nat × Ln := if p.1 < most then (match lop a with
  | some o => (p.1 + 1, (p.2.act cut ch (o p.2.ds).1 (o p.2.ds).2).2)
  | none => p) else p
def lrun (cut : Int) (ch : List Int) (most : Nat) (p : Nat × Ln) (l : List LAct) : Nat × Ln := l.foldl (lr1 cut ch most) p
theorem lrun_snoc (cut : Int) (ch : List Int) (most : Nat) (p : Nat × Ln) (l : List LAct) (a : LAct) : lrun cut ch most p (l ++ [a]) = lr1 cut ch most (lrun cut ch most p l) a := by simp [lrun]
theorem lr1_full {cut : Int} {ch : List Int} {most : Nat} {p : Nat × Ln} (h : most ≤ p.1) (a : LAct) : lr1 cut ch most p a = p := by unfold lr1; rw [if_neg (by omega)]
theorem lrun_full {cut : Int} {ch : List Int} {most : Nat} {p : Nat × Ln} (h : most ≤ p.1) : ∀ l, lrun cut ch most p l = p
  | [] => rfl
  | a :: l => by
    show lrun cut ch most (lr1 cut ch most p a) l = p
    rw [lr1_full h]; exact lrun_full h l
theorem lr1_op {cut : Int} {ch : List Int} {most : Nat} {p : Nat × Ln} {a : LAct} {o : List Slot → Int × List Slot} (h : p.1 < most) (ho : lop a = some o) : lr1 cut ch most p a = (p.1 + 1, (p.2.act cut ch (o p.2.ds).1 (o p.2.ds).2).2) := by
  unfold lr1; rw [if_pos h, ho]
theorem lr1_none {cut : Int} {ch : List Int} {most : Nat} {p : Nat × Ln} {a : LAct} (ho : lop a = none) : lr1 cut ch most p a = p := by
  unfold lr1
  split
  · rw [ho]
  · rfl
theorem lrun_le (cut : Int) (ch : List Int) (most : Nat) : ∀ (l : List LAct) (p : Nat × Ln), (lrun cut ch most p l).1 ≤ p.1 + l.length
  | [], p => Nat.le_refl _
  | a :: l, p => by
    have h1 := lrun_le cut ch most l (lr1 cut ch most p a)
    have h2 : (lr1 cut ch most p a).1 ≤ p.1 + 1 := by
      unfold lr1
      split
      · split
        · exact Nat.le_refl _
        · exact Nat.le_succ _
      · exact Nat.le_succ _
    show (lrun cut ch most (lr1 cut ch most p a) l).1 ≤ _
    rw [List.length_cons]; omega
theorem lr1_lok {cut : Int} {ch : List Int} {most n : Nat} {p : Nat × Ln} (h : LOk p.2 n) (a : LAct) : LOk (lr1 cut ch most p a).2 (n + 1) := by
  cases hl : lop a with
  | none => rw [lr1_none hl]; exact h.mono (Nat.le_succ _)
  | some o =>
    by_cases hm : p.1 < most
    · rw [lr1_op hm hl]
      unfold lop at hl
      split at hl
      · obtain rfl := Option.some.inj hl; exact h.flush
      · split at hl
        · obtain rfl := Option.some.inj hl; exact h.write _ _
        · cases hl
    · rw [lr1_full (by omega)]; exact h.mono (Nat.le_succ _)
theorem lrun_lok {cut : Int} {ch : List Int} {most : Nat} : ∀ (l : List LAct) {n : Nat} {p : Nat × Ln}, LOk p.2 n → LOk (lrun cut ch most p l).2 (n + l.length)
  | [], _, _, h => h
  | a :: l, n, p, h => by
    have := lrun_lok (cut := cut) (ch := ch) (most := most) l (lr1_lok (cut := cut) (ch := ch) (most := most) h a)
    rw [show n + 1 + l.length = n + (a :: l).length by rw [List.length_cons]; omega] at this
    exact this
/-! ### the plain law -/
structure CR (n : Nat) (ch : List Int) (A B Y Y1 : Nat × Ln) : Prop where
  b : B = (A.1, ⟨A.1, false, B.2.ds⟩)
  lo : A.1 ≤ n → A.2 = B.2 ∧ Y = B ∧ Y1 = B
  hi : n < A.1 → A.2 = ⟨n + 1, true, settled (Fc ch) (if oddc ch = true then Y1.2.ds else Y.2.ds)⟩ ∧ Y.1 = n ∧ Y1.1 = n + 1
theorem CR.zero (n : Nat) (ch : List Int) : CR n ch (0, ln0) (0, ln0) (0, ln0) (0, ln0) := ⟨rfl, fun _ => ⟨rfl, rfl, rfl⟩, fun h => by simp at h⟩
theorem CR.step {n : Nat} {ch : List Int} {A B Y Y1 : Nat × Ln} (h : CR n ch A B Y Y1) (hA : A.1 < 100) (a : LAct) : CR n ch (lr1 n ch 100 A a) (lr1 (-1) [] 100 B a) (lr1 (-1) [] n Y a) (lr1 (-1) [] (n + 1) Y1 a) := by
  cases hl : lop a with
  | none => rw [lr1_none hl, lr1_none hl, lr1_none hl, lr1_none hl]; exact h
  | some o =>
    obtain ⟨c, x⟩ := A
    obtain ⟨hb, hlo, hhi⟩ := h
    simp only at hA hb hlo hhi
    obtain ⟨D, hD⟩ : ∃ D, D = B.2.ds := ⟨_, rfl⟩
    rw [← hD] at hb
    subst hb
    have hB : ∀ most, c < most → lr1 (-1) [] most (c, ⟨c, false, D⟩) a = (c + 1, ⟨c + 1, false, (o D).2⟩) := fun most hm => by
      rw [lr1_op hm hl]
      simp only [Ln.act, if_neg (show ¬ (false = true) by decide), if_neg (show ¬ ((c : Int) = -1) by omega)]
    rw [hB 100 hA, lr1_op (p := (c, x)) hA hl]
    by_cases h1 : c ≤ n
    · obtain ⟨rfl, rfl, rfl⟩ := hlo h1
      by_cases h2 : c = n
      · subst h2
        simp only
        rw [lr1_full (most := c) (p := (c, ⟨c, false, D⟩)) (Nat.le_refl c), hB (c + 1) (by omega)]
        refine ⟨rfl, fun h => by simp only at h; omega, fun _ => ⟨?_, rfl, rfl⟩⟩
        simp only [Ln.act, if_neg (show ¬ (false = true) by decide), if_pos trivial]
      · rw [hB n (by omega), hB (n + 1) (by omega)]
        refine ⟨rfl, fun _ => ⟨?_, rfl, rfl⟩, fun h => by simp only at h; omega⟩
        simp only [Ln.act, if_neg (show ¬ (false = true) by decide), if_neg (show ¬ ((c : Int) = (n : Int)) by omega)]
    · obtain ⟨rfl, hY, hY1⟩ := hhi (by omega)
      rw [lr1_full (p := Y) (by omega), lr1_full (p := Y1) (by omega)]
      refine ⟨rfl, fun h => by simp only at h; omega, fun _ => ⟨?_, hY, hY1⟩⟩
      simp only [Ln.act, if_pos trivial]
theorem CR.all (n : Nat) (ch : List Int) (l : List LAct) (hl : l.length ≤ 60) : ∀ k, k ≤ l.length → CR n ch (lrun n ch 100 (0, ln0) (l.take k)) (lrun (-1) [] 100 (0, ln0) (l.take k)) (lrun (-1) [] n (0, ln0) (l.take k)) (lrun (-1) [] (n + 1) (0, ln0) (l.take k))
  | 0, _ => CR.zero n ch
  | k + 1, hk => by
    obtain ⟨a, ha⟩ : ∃ a, l[k]? = some a := ⟨_, List.getElem?_eq_getElem (by omega)⟩
    rw [take_snoc ha, lrun_snoc, lrun_snoc, lrun_snoc, lrun_snoc]
    refine (CR.all n ch l hl k (by omega)).step ?_ a
    have := lrun_le n ch 100 (l.take k) (0, ln0)
    rw [List.length_take] at this
    simp only at this
    omega
end Go.X
/- LineCuts: the walk. -/
namespace Go.X
open Go Go.Proofs Go.RowKit
theorem ids_l {L M : Heap} : ∀ b ∈ ids L, b ∈ ids (L ++ M) := fun b hb => by
  obtain ⟨x, hx, hbx⟩ := mem_ids.1 hb
  exact mem_ids.2 ⟨x, List.mem_append_left _ hx, hbx⟩
theorem ids_r {L M : Heap} : ∀ b ∈ ids M, b ∈ ids (L ++ M) := fun b hb => by
  obtain ⟨x, hx, hbx⟩ := mem_ids.1 hb
  exact mem_ids.2 ⟨x, List.mem_append_right _ hx, hbx⟩
theorem rd0 (w' : World) : RowAt w' (.slice none 0 0) 1 0 (ivs []) := (Rd.nil : Rd w' [] [] _ 1 0 (ivs [])) w' (Owns.nil _) (Kept.refl _ _)
end Go.X
/- LineKnown. -/
namespace Go.X
open Go Go.Proofs
theorem Quiet.nePS {P : Program} [T : Tab P] {r : Option Nat} {w0 : World} {B : List Nat} {n : Nat} {e : Env} {ds : List Deferred} {L : Heap} {x y : Operand} {ty t t' el : TypeId} {a : Addr} {s by' : Nat} {z : Value} (hx : ev e x = some (.pointer (some a))) (hy : ev e y = some (.pointer (some a))) (ht : T.und t = some (.pointer el))
    (hi : T.inf el = some (s, by', z)) : Quiet P r w0 B n ds L (.binOp .neq t x y t') ty e (.bool false) :=
  .neV hx hy (fun _ => rfl) fun w => by
    obtain ⟨i, hi1, _⟩ := T.hinf el s by' z hi
    show ((Op.equal t (.pointer (some a)) (.pointer (some a)) >>= fun b => pure (.bool !b) : Sem Value)).run P w = _
    rw [Sem.run_bind, run_equal (b := true) (fun d => by simp [Op.equalIn, run_underlying (T.hund _ _ ht), sizeOf, typeInfo, hi1, run_sameAddr_same])]; rfl
abbrev NoIs (x : Value) (w : World) : Prop := ∀ w', Kept [] w w' → Fx Tryz.prog 97 [x] w' (Pure w' (.bool false))
theorem NoIs.to {x : Value} {w w1 : World} (h : NoIs x w) (k : Kept [] w w1) : NoIs x w1 := fun w' k' => h w' (k.trans k' fun b hb => by cases hb)
theorem is_nil (w : World) : NoIs (.pointer none) w := fun w _ => by
  refine Fx.of (L0 := []) Tryz.func97 rfl (by kernel_rfl) Tryz.ntmps97 rfl (Owns.nil w) ?_
  refine go (k := ?_)
  exact XE.ret1 () [] rfl rfl trivial rfl rfl rfl
abbrev zln : List Value := [.pointer none, iv 0, .slice none 0 0, iv 0, .bool false]
theorem is_zero (bz : Nat) (t : TypeId) (fz : Nat × Nat) (w : World) (hb : w.heap[bz]? = some (.cells zln.toArray t fz)) : NoIs (ptr bz) w := fun w' hk => by
  have hb' : w'.heap[bz]? = some (.cells zln.toArray t fz) := (hk.same bz (Array.getElem?_eq_some_iff.1 hb).1 (by simp)).trans hb
  clear hb hk
  refine Fx.of (L0 := []) Tryz.func97 rfl (by kernel_rfl) Tryz.ntmps97 rfl (Owns.nil w') ?_
  have hB : bz ∉ ids ([] : Heap) := by simp [X.ids]
  have h0 : zln[0 + 0]? = some (.pointer none) := rfl
  refine go (k := ?_)
  exact XE.ret1 () [] rfl rfl trivial rfl rfl rfl
theorem holds_no (x : Value) (w : World) (h : NoIs x w) : Fx Tryz.prog 60 [x] w (Pure w (iv 1)) := by
  refine Fx.of (L0 := []) Tryz.func60 rfl (by kernel_rfl) Tryz.ntmps60 rfl (Owns.nil w) ?_
  refine go (k := ?_)
  refine XL.q (.call rfl rfl fun _ w' hs => h w' hs.kept) rfl ?_
  refine go (k := ?_)
  exact XE.ret1 () [] rfl rfl trivial rfl rfl rfl
theorem ldev_no (x : Value) (w : World) (h : NoIs x w) : Fx Tryz.prog 79 [x] w (Pure w (.pointer none)) := by
  refine Fx.of (L0 := []) Tryz.func79 rfl (by kernel_rfl) Tryz.ntmps79 rfl (Owns.nil w) ?_
  refine go (k := ?_)
  refine XL.q (.call rfl rfl fun _ w' hs => h w' hs.kept) rfl ?_
  refine go (k := ?_)
  exact XE.ret1 () [] rfl rfl trivial rfl rfl rfl
theorem blow_no (x : Value) (w : World) (h : NoIs x w) : Fx Tryz.prog 22 [x] w (Pure w (.tuple #[])) := by
  refine Fx.of (L0 := []) Tryz.func22 rfl (by kernel_rfl) Tryz.ntmps22 rfl (Owns.nil w) ?_
  refine go (k := ?_)
  refine XL.q (.call rfl rfl fun _ w' hs => holds_no x w' (h.to hs.kept)) rfl ?_
  refine go (k := ?_)
  exact XE.end0 () [] rfl trivial rfl rfl rfl
theorem lread_no (x : Value) (k : Int) (w : World) (h : NoIs x w) : Fx Tryz.prog 83 [x, iv k] w (Pure w (.tuple #[str [], iv 1])) := by
  refine Fx.of (L0 := []) Tryz.func83 rfl (by kernel_rfl) Tryz.ntmps83 rfl (Owns.nil w) ?_
  refine go (k := ?_)
  refine XL.q (.call rfl rfl fun _ w' hs => holds_no x w' (h.to hs.kept)) rfl ?_
  refine go (k := ?_)
  exact XE.ret2 () [] rfl rfl rfl trivial rfl rfl rfl
theorem act_no (x f : Value) (w : World) (h : NoIs x w) : Fx Tryz.prog 49 [x, f] w (Pure w (iv 1)) := by
  refine Fx.of (L0 := []) Tryz.func49 rfl (by kernel_rfl) Tryz.ntmps49 rfl (Owns.nil w) ?_
  refine go (k := ?_)
  refine XL.q (.call rfl rfl fun _ w' hs => holds_no x w' (h.to hs.kept)) rfl ?_
  refine go (k := ?_)
  exact XE.ret1 () [] rfl rfl trivial rfl rfl rfl
theorem lwrite_no (x : Option Addr) (k : Int) (s : List UInt8) (w : World) (h : NoIs (.pointer x) w) : Fx Tryz.prog 15 [.pointer x, iv k, str s] w (Pure w (iv 1)) := by
  refine Fx.of (L0 := []) Tryz.func15 rfl (by kernel_rfl) Tryz.ntmps15 rfl (Owns.nil w) ?_
  refine go (k := ?_)
  refine XL.box rfl rfl rfl fun b3 => ?_
  refine go (k := ?_)
  refine XL.box rfl rfl rfl fun b4 => ?_
  refine go (k := ?_)
  refine XL.box rfl rfl rfl fun b5 => ?_
  refine go (k := ?_)
  refine XL.q (.call rfl rfl fun _ w' hs => act_no (.pointer x) _ w' (h.to hs.kept)) rfl ?_
  refine go (k := ?_)
  exact XE.ret1 () [] rfl rfl trivial rfl rfl rfl
theorem lflush_no (x : Option Addr) (w : World) (h : NoIs (.pointer x) w) : Fx Tryz.prog 43 [.pointer x] w (Pure w (iv 1)) := by
  refine Fx.of (L0 := []) Tryz.func43 rfl (by kernel_rfl) Tryz.ntmps43 rfl (Owns.nil w) ?_
  refine go (k := ?_)
  refine XL.box rfl rfl rfl fun b3 => ?_
  refine go (k := ?_)
  refine XL.q (.call rfl rfl fun _ w' hs => act_no (.pointer x) _ w' (h.to hs.kept)) rfl ?_
  refine go (k := ?_)
  exact XE.ret1 () [] rfl rfl trivial rfl rfl rfl
theorem lnew_no (x v : Value) (cut : Int) (w : World) (h : ∀ w', Kept [] w w' → Fx Tryz.prog 40 [x] w' (Pure w' (iv 0))) : Fx Tryz.prog 11 [x, iv cut, v] w (Pure w (.pointer none)) := by
  refine Fx.of (L0 := []) Tryz.func11 rfl (by kernel_rfl) Tryz.ntmps11 rfl (Owns.nil w) ?_
  refine go (k := ?_)
  refine XL.q (.call rfl rfl fun _ w' hs => h w' hs.kept) rfl ?_
  refine go (k := ?_)
  exact XE.ret1 () [] rfl rfl trivial rfl rfl rfl
/-! ### the law -/
def lk1 : Int × Ln := Ln.write (-1) [] ln0 5 [97, 98]
def lk2 : Int × Ln := Ln.flush (-1) [] lk1.2
def lk3 : Int × Ln := Ln.write (-1) [] lk2.2 5 [120, 121]
def lk4 : Int × Ln := Ln.write (-1) [] lk3.2 256 []
def lkOk : Bool := decide (lk1.1 = 0 ∧ lk1.2.acts = 1 ∧ lk1.2.down = false ∧ lk2.1 = 0 ∧ lk2.2.acts = 2 ∧ lk2.2.down = false ∧ lk3.1 = 0 ∧ lk3.2.acts = 3 ∧ lk3.2.down = false ∧ lk4.1 = 2 ∧ lk4.2.acts = 4 ∧ lk4.2.down = false ∧ ((settled (Fc []) lk4.2.ds)[5]?.map fun s => s.read.take 2) = some [97, 98])
theorem lkOk_true : lkOk = true := by decide +kernel
theorem cbw3 : cbOk 65 [97, 98] [99, 100] = true := by decide +kernel
theorem cbw4 : cbOk (-1) [97, 98] [99, 100] = true := by decide +kernel
theorem blown_false (ch : List Int) (ds : List Slot) : blown ch false ds = settled (Fc ch) ds := rfl
end Go.X
/- Package wal: over, Make. -/
namespace Go.X
open Go Go.Proofs Go.RowKit
theorem over_nil (w : World) : Fx Tryz.prog 63 [.pointer none] w (Pure w (.pointer none)) := by
  refine Fx.of (L0 := []) Tryz.func63 rfl (by kernel_rfl) Tryz.ntmps63 rfl (Owns.nil w) ?_
  refine go (k := ?_)
  refine XL.q (.call rfl rfl fun _ w _ => ldev_no (.pointer none) w (is_nil w)) rfl ?_
  refine go (k := ?_)
  exact XE.ret1 () [] rfl rfl trivial rfl rfl rfl
theorem over_ok (bl b : Nat) (lv vc : Value) (cut : Int) (ch : List Int) (x : Ln) (w : World) (hk : Oks x.ds) (hn : x.ds.length ≤ 100000) (ho : Owns w (lnX bl b lv vc cut ch x)) :
    Fx Tryz.prog 63 [ptr bl] w (Ret w (lnX bl b lv vc cut ch x) (fun bw : Nat => ptr bw) (fun bw => waX bw bl b lv vc cut ch ⟨x.ds.length / 4, 0, 0, none, false⟩ x) (fun _ => True)) := by
  obtain ⟨acts, down, ds⟩ := x
  simp only at hk hn
  refine Fx.of Tryz.func63 rfl (by kernel_rfl) Tryz.ntmps63 rfl ho ?_
  refine go (k := ?_)
  refine XL.q (.call rfl rfl fun _ w hs => ldev_at bl b cut vc acts down _ _ w (hs.own.ok _ (.head _))) rfl ?_
  refine go (k := ?_)
  refine XL.q (.call rfl rfl fun _ w hs => ldev_at bl b cut vc acts down _ _ w (hs.own.ok _ (.head _))) rfl ?_
  refine go (k := ?_)
  refine XL.q (.call rfl rfl fun _ w hs => blocks_ok b lv ds w hk (hs.own.grp (.tail _ (.tail _ (.head _))))) rfl ?_
  refine go (k := ?_)
  have hq : ((ds.length : Int) / 4) = ((ds.length / 4 : Nat) : Int) := by omega
  rw [hq]
  refine XL.box (zs := waCs bl ⟨ds.length / 4, 0, 0, none, false⟩) rfl rfl rfl fun bw => ?_
  refine go (k := ?_)
  refine XE.shutG (G := []) ?_
  exact XE.ret1 bw [1, 0, 2, 3, 4] rfl rfl trivial rfl rfl rfl
/-- what is given of a log that may be none -/
def mkH (bw bl b : Nat) (lv vc : Value) (cut : Int) (ch : List Int) (y : Option Wa) (x : Ln) : Heap := match y with
  | none => lnX bl b lv vc cut ch x
  | some y => waX bw bl b lv vc cut ch y x
theorem make_nil (s : List UInt8) (w : World) : Fx Tryz.prog 24 [.pointer none, str s] w (Pure w (.tuple #[.pointer none, iv 1])) := by
  refine Fx.of (L0 := []) Tryz.func24 rfl (by kernel_rfl) Tryz.ntmps24 rfl (Owns.nil w) ?_
  refine go (k := ?_)
  refine XL.q (.call rfl rfl fun _ w _ => over_nil w) rfl ?_
  refine go (k := ?_)
  exact XE.ret2 () [] rfl rfl rfl trivial rfl rfl rfl
theorem make_full (bl b : Nat) (lv vc : Value) (cut : Int) (ch : List Int) (x : Ln) (s : List UInt8) (w : World) (hk : Oks x.ds) (h4 : 8 ≤ x.ds.length) (hn : x.ds.length ≤ 100000) (hs : 58 * (x.ds.length / 4 - 1) < s.length) (ho : Owns w (lnX bl b lv vc cut ch x)) :
    Fx Tryz.prog 24 [ptr bl, str s] w (Ret w (lnX bl b lv vc cut ch x) (fun _ : Unit => .tuple #[.pointer none, iv 7]) (fun _ => lnX bl b lv vc cut ch x) (fun _ => True)) := by
  refine Fx.of Tryz.func24 rfl (by kernel_rfl) Tryz.ntmps24 rfl ho ?_
  refine go (k := ?_)
  refine XL.call [0, 1, 2] [] rfl rfl rfl rfl rfl (fun _ w1 _ ho => over_ok bl b lv vc cut ch x w1 hk hn ho) fun bw _ => ?_
  refine XL.nm (M := waX bw bl b lv vc cut ch ⟨x.ds.length / 4, 0, 0, none, false⟩ x) ?_ rfl
  refine go (k := ?_)
  refine XL.q (.call rfl rfl fun _ w hs => wroom_at bw bl ⟨x.ds.length / 4, 0, 0, none, false⟩ _ _ w ⟨by show 1 ≤ x.ds.length / 4; omega, by show x.ds.length / 4 ≤ 1000000; omega⟩ (hs.own.ok _ (.head _))) rfl ?_
  refine go (k := ?_)
  exact XE.ret2 () [2, 3, 4] rfl rfl rfl trivial rfl rfl rfl
set_option maxHeartbeats 4000000 in
theorem make_run (bl b : Nat) (lv vc : Value) (cut : Int) (ch : List Int) (x x1 x2 : Ln) (s : List UInt8) (g : Rg) (n m k : Nat) (w : World) (hld : LD m k x) (hk : k ≤ 20000) (hm : m ≤ 40000) (h4 : m / 4 = n) (h8 : 2 ≤ n) (hs : s.length ≤ 58 * (n - 1)) (hs2 : s.length ≤ 100000)
    (h1 : fmt cut ch n n x = (0, x1)) (h2 : anewR cut ch 0 n 1 s x1 = (0, some g, x2)) (hl : ch.length ≤ 1000000) (hw : ∀ a ∈ ch, -9223372036854775808 ≤ a ∧ a ≤ 9223372036854775807) (ho : Owns w (lnX bl b lv vc cut ch x)) :
    Fx Tryz.prog 24 [ptr bl, str s] w (Ret w (lnX bl b lv vc cut ch x) (fun y : Nat × Nat => .tuple #[ptr y.1, iv 0]) (fun y => waX y.1 bl b lv vc cut ch ⟨n, 0, 1, some (y.2, g), false⟩ x2) (fun _ => True)) := by
  have hli : LIn m 100000 x := ⟨hld.li.ok, hld.li.len, by have := hld.li.acts; omega⟩
  have hlen := hld.li.len
  have ht : thr m (n : Int) n = 0 := thr_0 (by omega) (by omega) (by omega)
  have hld1 : LD m (k + n + 1) x1 := by have := hld.fmt (cut := cut) (ch := ch) (n : Int) n; rw [h1] at this; exact this
  refine Fx.of Tryz.func24 rfl (by kernel_rfl) Tryz.ntmps24 rfl ho ?_
  refine go (k := ?_)
  refine XL.call [0, 1, 2] [] rfl rfl rfl rfl rfl (fun _ w1 _ ho => over_ok bl b lv vc cut ch x w1 hld.li.ok (by omega) ho) fun bw _ => ?_
  rw [hlen, h4]
  refine XL.nm (M := waX bw bl b lv vc cut ch ⟨n, 0, 0, none, false⟩ x) ?_ rfl
  refine go (k := ?_)
  refine XL.q (.call rfl rfl fun _ w hs => wroom_at bw bl ⟨n, 0, 0, none, false⟩ _ _ w ⟨by show 1 ≤ n; omega, by show n ≤ 1000000; omega⟩ (hs.own.ok _ (.head _))) rfl ?_
  simp only
  refine goD (k := ?_)
  refine XC.pk (M := lnX bl b lv vc cut ch x ++ [waB bw bl ⟨n, 0, 0, none, false⟩, grp (wrH bl none)]) [2, 3, 4, 0, 1] (by decide) rfl ?_
  refine XC.via (α := Nat) (fun _ => [(8, iv 0), (6, ptr bw), (1, str s)]) (fun br => rgB br bl ⟨n, n, 0, false⟩ :: (lnX bl b lv vc cut ch x1 ++ [waB bw bl ⟨n, 0, 0, none, false⟩, grp (wrH bl none)])) (fun _ => True) ?_ ?_
  · refine XC.drawM (C0 := lnX bl b lv vc cut ch x) (L := [waB bw bl ⟨n, 0, 0, none, false⟩, grp (wrH bl none)]) Tab.mix ?_
    refine go (k := ?_)
    refine XD.mut (.call rfl rfl fun _ w1 _ ho => format_run bl b lv vc cut ch x x1 n n m w1 h1 hli (by omega) (by omega) ht (by omega) hl hw ho) rfl rfl ?_
    refine XD.tailG1 (by decide +kernel) (by decide +kernel) (by decide +kernel) ?_
    rintro v H ⟨br, _, rfl, rfl⟩
    repeat' (first
      | refine XG.s1 10 (by decide +kernel) rfl rfl ?_
      | refine XG.s2 11 12 (by decide +kernel) rfl rfl rfl ?_ ?_
      | refine XG.s2 12 13 (by decide +kernel) rfl rfl rfl ?_ ?_
      | refine XG.s1 11 (by decide +kernel) rfl rfl ?_
      | refine XG.s1 12 (by decide +kernel) rfl rfl ?_
      | refine XG.s1 13 (by decide +kernel) rfl rfl ?_
      | refine XG.s1 14 (by decide +kernel) rfl rfl ?_
      | exact XG.done (by decide +kernel) (by decide +kernel) (XE.mid br [0, 1, 2, 3, 4, 5] trivial ⟨rfl, rfl, rfl, trivial⟩ rfl rfl)
      | refine XE.toG ?_
      | refine go1 (k := ?_))
  intro br _
  refine go (k := ?_)
  refine XL.call [4, 5, 1, 2, 3] [] rfl rfl rfl rfl rfl (fun _ w1 _ ho => wanew_ok bw bl b lv vc cut ch ⟨n, 0, 0, none, false⟩ x1 0 1 s m (k + n + 1) w1 (.inl rfl) hld1 (by omega) (by omega) (by omega) ⟨h8, by show n ≤ 20000; omega, by show 2 * n ≤ m; omega⟩ hs2 (by decide) hl hw ho) fun bq _ => ?_
  simp only [Nat.zero_mul]
  rw [h2]
  refine XL.nm (M := waX bw bl b lv vc cut ch ⟨n, 0, 1, some (bq, g), false⟩ x2) ?_ rfl
  refine go (k := ?_)
  exact XE.ret2 (bw, bq) [0, 1, 2, 3, 4] rfl rfl rfl trivial rfl rfl rfl
end Go.X
