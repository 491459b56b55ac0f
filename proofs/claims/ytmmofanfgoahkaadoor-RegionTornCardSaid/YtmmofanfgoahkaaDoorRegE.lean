/- Package region: Flush, Seal. -/
import Derived.Test.YtmmofanfgoahkaaDoorRegD
namespace Go.X
open Go Go.Proofs
abbrev rgX (br bl b : Nat) (lv vc : Value) (cut : Int) (ch : List Int) (g : Rg) (x : Ln) : Heap := rgB br bl g :: lnX bl b lv vc cut ch x
def Rg.did (g : Rg) (e : Int) : Rg := { g with broken := g.broken || decide (e ≠ 0) }
def Rg.flush (cut : Int) (ch : List Int) (g : Rg) (x : Ln) : Int × Rg × Ln := if g.broken = true then (17, g, x) else ((x.flush cut ch).1, g.did (x.flush cut ch).1, (x.flush cut ch).2)
theorem rflush_ok (br bl b : Nat) (lv vc : Value) (cut : Int) (ch : List Int) (g : Rg) (x : Ln) (m : Nat) (w : World) (hx : LI m 900000 x) (hm : m ≤ 100000)
    (hl : ch.length ≤ 1000000) (hw : ∀ a ∈ ch, -9223372036854775808 ≤ a ∧ a ≤ 9223372036854775807) (ho : Owns w (rgX br bl b lv vc cut ch g x)) :
    Fx Tryd.prog 19 [ptr br] w (Ret w (rgX br bl b lv vc cut ch g x) (fun _ : Unit => iv (g.flush cut ch x).1) (fun _ => rgX br bl b lv vc cut ch (g.flush cut ch x).2.1 (g.flush cut ch x).2.2) (fun _ => True)) := by
  have ha := hx.acts
  refine Fx.of Tryd.func19 rfl (by kernel_rfl) Tryd.ntmps19 rfl ho ?_
  refine go (k := ?_)
  refine XL.q (.call rfl rfl fun _ w hs => may_at br bl g _ _ w (hs.own.ok _ (.head _))) rfl ?_
  cases hb : g.broken with
  | true =>
    have e : g.flush cut ch x = (17, g, x) := by unfold Rg.flush; rw [if_pos hb]
    rw [e]
    refine go (k := ?_)
    exact XE.ret1 () [0, 1, 2, 3] rfl rfl trivial rfl rfl rfl
  | false =>
    have e : g.flush cut ch x = ((x.flush cut ch).1, g.did (x.flush cut ch).1, (x.flush cut ch).2) := by unfold Rg.flush; rw [if_neg (by rw [hb]; decide)]
    rw [e]
    obtain ⟨r, hr⟩ : ∃ r, r = x.flush cut ch := ⟨_, rfl⟩
    refine go (k := ?_)
    refine XL.call [1, 2, 3] [0] rfl rfl rfl rfl rfl (fun _ w _ ho => lflush_ok bl b lv vc cut ch x w hx.ok (by rw [hx.len]; exact hm) (by omega) hl hw ho) fun _ _ => ?_
    rw [← hr]
    obtain ⟨e1, y1⟩ := r
    simp only
    refine XL.nm (M := lnX bl b lv vc cut ch y1 ++ [rgB br bl g]) ?_ rfl
    refine go (k := ?_)
    refine XL.call [3] [0, 1, 2] rfl rfl rfl rfl rfl (fun _ w _ ho => did_ok br bl g e1 w ho) fun _ _ => ?_
    refine go (k := ?_)
    exact XE.ret1 () [0, 1, 2, 3] rfl rfl trivial rfl rfl rfl
/-- the header of a generation -/
def hblk (gen : Nat) : List UInt8 := [] ++ be gen 4 ++ zbytes 56 ++ be gen 4
def Rg.sealG (cut : Int) (ch : List Int) (gen : Nat) (g : Rg) (x : Ln) : Int × Rg × Ln :=
  if gen = 0 then (2, g, x) else if g.broken = true then (17, g, x)
  else if (x.write cut ch g.at_ (hblk gen)).1 ≠ 0 then ((x.write cut ch g.at_ (hblk gen)).1, g.did (x.write cut ch g.at_ (hblk gen)).1, (x.write cut ch g.at_ (hblk gen)).2)
  else (g.did 0).flush cut ch (x.write cut ch g.at_ (hblk gen)).2
set_option maxHeartbeats 1000000 in
theorem rseal_ok (br bl b : Nat) (lv vc : Value) (cut : Int) (ch : List Int) (g : Rg) (x : Ln) (gen m : Nat) (w : World) (hx : LI m 800000 x) (hm0 : 0 < m) (hm : m ≤ 100000) (hg : gen < 4294967296)
    (hl : ch.length ≤ 1000000) (hw : ∀ a ∈ ch, -9223372036854775808 ≤ a ∧ a ≤ 9223372036854775807) (ho : Owns w (rgX br bl b lv vc cut ch g x)) :
    Fx Tryd.prog 16 [ptr br, .int .u32 gen] w (Ret w (rgX br bl b lv vc cut ch g x) (fun _ : Unit => iv (g.sealG cut ch gen x).1) (fun _ => rgX br bl b lv vc cut ch (g.sealG cut ch gen x).2.1 (g.sealG cut ch gen x).2.2) (fun _ => True)) := by
  have ha := hx.acts
  refine Fx.of Tryd.func16 rfl (by kernel_rfl) Tryd.ntmps16 rfl ho ?_
  refine go (k := ?_)
  refine XL.q (.call rfl rfl fun _ w hs => may_at br bl g _ _ w (hs.own.ok _ (.head _))) rfl ?_
  by_cases h0 : gen = 0
  · have e : g.sealG cut ch gen x = (2, g, x) := by unfold Rg.sealG; rw [if_pos h0]
    rw [e]
    subst h0
    cases hb : g.broken with
    | true =>
      refine go (k := ?_)
      exact XE.ret1 () [0, 1, 2, 3] rfl rfl trivial rfl rfl rfl
    | false =>
      refine go (k := ?_)
      exact XE.ret1 () [0, 1, 2, 3] rfl rfl trivial rfl rfl rfl
  have h0' : ¬ (gen : Int) = 0 := by omega
  cases hb : g.broken with
  | true =>
    have e : g.sealG cut ch gen x = (17, g, x) := by unfold Rg.sealG; rw [if_neg h0, if_pos hb]
    rw [e]
    refine go (k := ?_)
    exact XE.ret1 () [0, 1, 2, 3] rfl rfl trivial rfl rfl rfl
  | false =>
    refine go (k := ?_)
    refine XL.alloc rfl rfl rfl fun bw => ?_
    refine XL.addNil 5 1 ?_
    refine go (k := ?_)
    refine XL.call [1, 0] [2, 3, 4, 5] rfl rfl rfl rfl rfl (fun _ w _ ho => wu32_ok bw (.slice none 0 0) [] gen w hg (by simp) ho) fun v1 _ => ?_
    refine XL.nm (M := wrG bw v1 ([] ++ be gen 4) ++ rgX br bl b lv vc cut ch g x) ?_ rfl
    refine go (k := ?_)
    refine XL.q (.call rfl rfl fun _ w _ => noughts_ok 56 w (by decide)) rfl ?_
    refine go (k := ?_)
    refine XL.call [0, 1] [2, 3, 4, 5] rfl rfl rfl rfl rfl (fun _ w _ ho => wraw_ok bw v1 ([] ++ be gen 4) (zbytes 56) w (by simp [be_len, zbytes_len]) ho) fun v2 _ => ?_
    refine XL.nm (M := wrG bw v2 ([] ++ be gen 4 ++ zbytes 56) ++ rgX br bl b lv vc cut ch g x) ?_ rfl
    refine go (k := ?_)
    refine XL.call [0, 1] [2, 3, 4, 5] rfl rfl rfl rfl rfl (fun _ w _ ho => wu32_ok bw v2 ([] ++ be gen 4 ++ zbytes 56) gen w hg (by simp [be_len, zbytes_len]) ho) fun v3 _ => ?_
    refine XL.pk (M := lnX bl b lv vc cut ch x ++ (wrG bw v3 (hblk gen) ++ [rgB br bl g])) [3, 4, 5, 0, 1, 2] (by decide) rfl ?_
    refine go1 (k := ?_)
    refine go1 (k := ?_)
    refine go1 (k := ?_)
    refine go1 (k := ?_)
    refine XC.drawM (C0 := lnX bl b lv vc cut ch x) (L := wrG bw v3 (hblk gen) ++ [rgB br bl g]) rfl ?_
    refine go (k := ?_)
    refine XD.q (.call (v := str (hblk gen)) rfl rfl fun _ w hs => wbytes_ok bw v3 _ w (hs.own.pick (is := [0, 1]) (by decide))) rfl ?_
    refine go (k := ?_)
    refine XD.mut (.call rfl rfl fun _ w _ ho => lwrite_ok bl b lv vc cut ch x g.at_ (hblk gen) w hx.ok (by rw [hx.len]; exact hm0) (by rw [hx.len]; exact hm) (by omega) hl hw ho) rfl rfl ?_
    refine XD.tail1 rfl (by decide +kernel) ?_
    rintro v H ⟨_, _, rfl, rfl⟩
    have hxi := hx.write cut ch g.at_ (hblk gen)
    have e : g.sealG cut ch gen x = if (x.write cut ch g.at_ (hblk gen)).1 ≠ 0 then ((x.write cut ch g.at_ (hblk gen)).1, g.did (x.write cut ch g.at_ (hblk gen)).1, (x.write cut ch g.at_ (hblk gen)).2) else (g.did 0).flush cut ch (x.write cut ch g.at_ (hblk gen)).2 := by
      unfold Rg.sealG; rw [if_neg h0, if_neg (by rw [hb]; decide)]
    rw [e]
    obtain ⟨r, hr⟩ : ∃ r, r = x.write cut ch g.at_ (hblk gen) := ⟨_, rfl⟩
    rw [← hr] at hxi ⊢
    obtain ⟨e1, y1⟩ := r
    simp only at hxi ⊢
    refine XL.pk (M := lnX bl b lv vc cut ch y1 ++ [rgB br bl g]) [0, 1, 2, 5] (by decide) rfl ?_
    refine XL.call [3] [0, 1, 2] rfl rfl rfl rfl rfl (fun _ w _ ho => did_ok br bl g e1 w ho) fun _ _ => ?_
    refine XL.nm (M := rgX br bl b lv vc cut ch (g.did e1) y1) ?_ rfl
    by_cases he : e1 = 0
    · subst he
      rw [if_neg (by simp)]
      refine go (k := ?_)
      refine XL.call [0, 1, 2, 3] [] rfl rfl rfl rfl rfl (fun _ w _ ho => rflush_ok br bl b lv vc cut ch (g.did 0) y1 m w ⟨hxi.ok, hxi.len, by have := hxi.acts; omega⟩ hm hl hw ho) fun _ _ => ?_
      refine go (k := ?_)
      exact XE.ret1 () [0, 1, 2, 3] rfl rfl trivial rfl rfl rfl
    · rw [if_pos he]
      refine go (k := ?_)
      exact XE.ret1 () [0, 1, 2, 3] rfl rfl trivial rfl rfl rfl
end Go.X
