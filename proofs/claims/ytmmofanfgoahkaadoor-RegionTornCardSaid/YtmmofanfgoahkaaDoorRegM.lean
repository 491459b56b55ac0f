/- Package region: contracts in the forms that the laws use; regions that are none; awake, few. -/
import Derived.Test.YtmmofanfgoahkaaDoorRegL
namespace Go.X
open Go Go.Proofs Go.RowKit
theorem rdNil (w' : World) : RowAt w' (.slice none 0 0) 1 0 (ivs []) := (Rd.nil : Rd w' [] [] _ 1 0 (ivs [])) w' (Owns.nil _) (Kept.refl _ _)
theorem gsNil (w' : World) : RowAt w' (.slice none 0 0) 1 0 (gstrs []) := (Rd.nil : Rd w' [] [] _ 1 0 (gstrs [])) w' (Owns.nil _) (Kept.refl _ _)
theorem needs_neg (n : Int) (w : World) (h : n ≤ 58) : Fx Tryd.prog 11 [iv n] w (Pure w (iv 1)) := by
  refine Fx.of (L0 := []) Tryd.func11 rfl (by kernel_rfl) Tryd.ntmps11 rfl (Owns.nil w) ?_
  refine go (k := ?_)
  exact XE.ret1 () [] rfl rfl trivial rfl rfl rfl
theorem format_run (bl b : Nat) (lv vc : Value) (cut : Int) (ch : List Int) (x y : Ln) (a n m : Nat) (w : World) (h : fmt cut ch a n x = (0, y)) (hx : LI m 100000 x) (hm0 : 0 < m) (hm : m ≤ 100000) (ht : thr m a n = 0) (hn : n ≤ 65536)
    (hl : ch.length ≤ 1000000) (hw : ∀ a ∈ ch, -9223372036854775808 ≤ a ∧ a ≤ 9223372036854775807) (ho : Owns w (lnX bl b lv vc cut ch x)) :
    Fx Tryd.prog 9 [ptr bl, iv a, iv n] w (Ret w (lnX bl b lv vc cut ch x) (fun br : Nat => .tuple #[ptr br, iv 0]) (fun br => rgX br bl b lv vc cut ch ⟨a, n, 0, false⟩ y) (fun _ => True)) := by
  have := format_ok bl b lv vc cut ch x a n m w hx hm0 hm ht hn hl hw ho
  rw [h] at this
  exact this
theorem format_bad (bl b : Nat) (lv vc : Value) (cut : Int) (ch : List Int) (x : Ln) (a n : Int) (w : World) (hk : Oks x.ds) (hn : x.ds.length ≤ 100000) (ht : thr x.ds.length a n ≠ 0) (ho : Owns w (lnX bl b lv vc cut ch x)) :
    Fx Tryd.prog 9 [ptr bl, iv a, iv n] w (Pure w (.tuple #[.pointer none, iv (thr x.ds.length a n)])) := by
  have hown : ∀ w', Kept [] w w' → Owns w' (lnX bl b lv vc cut ch x) := fun w' k => ho.of_kept k (fun _ _ h => by cases h)
  refine Fx.of (L0 := []) Tryd.func9 rfl (by kernel_rfl) Tryd.ntmps9 rfl (Owns.nil w) ?_
  refine go (k := ?_)
  refine XL.q (.call rfl rfl fun _ w' hs => there_ok bl b lv vc cut ch x a n w' hk hn (hown w' hs.kept)) rfl ?_
  refine go (k := ?_)
  exact XE.ret2 () [] rfl rfl rfl trivial rfl rfl rfl
theorem there_nil (a n : Int) (w : World) : Fx Tryd.prog 28 [.pointer none, iv a, iv n] w (Pure w (iv 1)) := by
  refine Fx.of (L0 := []) Tryd.func28 rfl (by kernel_rfl) Tryd.ntmps28 rfl (Owns.nil w) ?_
  refine go (k := ?_)
  exact XE.ret1 () [] rfl rfl trivial rfl rfl rfl
theorem format_nil (a n : Int) (w : World) : Fx Tryd.prog 9 [.pointer none, iv a, iv n] w (Pure w (.tuple #[.pointer none, iv 1])) := by
  refine Fx.of (L0 := []) Tryd.func9 rfl (by kernel_rfl) Tryd.ntmps9 rfl (Owns.nil w) ?_
  refine go (k := ?_)
  refine XL.q (.call rfl rfl fun _ w' hs => there_nil a n w') rfl ?_
  refine go (k := ?_)
  exact XE.ret2 () [] rfl rfl rfl trivial rfl rfl rfl
theorem rread_nil (a n : Int) (w : World) : Fx Tryd.prog 17 [.pointer none, iv a, iv n] w (Pure w (.tuple #[.int .u32 0, .slice none 0 0, iv 1])) := by
  refine Fx.of (L0 := []) Tryd.func17 rfl (by kernel_rfl) Tryd.ntmps17 rfl (Owns.nil w) ?_
  refine go (k := ?_)
  refine XL.q (.call rfl rfl fun _ w' hs => there_nil a n w') rfl ?_
  refine go (k := ?_)
  exact XE.ret3 () [] rfl rfl rfl rfl trivial rfl rfl rfl
theorem rappend_nil (s : List UInt8) (w : World) : Fx Tryd.prog 13 [.pointer none, str s] w (Pure w (iv 1)) := by
  refine Fx.of (L0 := []) Tryd.func13 rfl (by kernel_rfl) Tryd.ntmps13 rfl (Owns.nil w) ?_
  refine go (k := ?_)
  refine XL.box (zs := [.pointer none]) rfl rfl rfl fun b2 => ?_
  refine go (k := ?_)
  refine XL.alloc rfl rfl rfl fun b4 => ?_
  refine go (k := ?_)
  refine XL.q (.call rfl rfl fun _ w _ => may_nil w) rfl ?_
  refine go (k := ?_)
  exact XE.retC1 () [] rfl rfl rfl rfl (.head _) rfl trivial rfl rfl rfl
theorem rseal_nil (g : Nat) (w : World) : Fx Tryd.prog 16 [.pointer none, .int .u32 g] w (Pure w (iv 1)) := by
  refine Fx.of (L0 := []) Tryd.func16 rfl (by kernel_rfl) Tryd.ntmps16 rfl (Owns.nil w) ?_
  refine go (k := ?_)
  refine XL.q (.call rfl rfl fun _ w _ => may_nil w) rfl ?_
  refine go (k := ?_)
  exact XE.ret1 () [] rfl rfl trivial rfl rfl rfl
abbrev rg0Cs : List Value := [.pointer none, iv 0, iv 0, iv 0, .bool false, .bool false]
theorem may_zero (br : Nat) (t : TypeId) (fz : Nat × Nat) (w : World) (hb : w.heap[br]? = some (.cells rg0Cs.toArray t fz)) : Fx Tryd.prog 36 [ptr br] w (Pure w (iv 1)) := by
  have hB : br ∉ ids ([] : Heap) := by simp [X.ids]
  have h5 : rg0Cs[0 + 5]? = some (.bool false) := rfl
  refine Fx.of (L0 := []) Tryd.func36 rfl (by kernel_rfl) Tryd.ntmps36 rfl (Owns.nil w) ?_
  refine go (k := ?_)
  exact XE.ret1 () [] rfl rfl trivial rfl rfl rfl
theorem rflush_zero (br : Nat) (t : TypeId) (fz : Nat × Nat) (w : World) (hb : w.heap[br]? = some (.cells rg0Cs.toArray t fz)) : Fx Tryd.prog 19 [ptr br] w (Pure w (iv 1)) := by
  refine Fx.of (L0 := []) Tryd.func19 rfl (by kernel_rfl) Tryd.ntmps19 rfl (Owns.nil w) ?_
  refine go (k := ?_)
  refine XL.q (.call rfl rfl fun _ w' hs => may_zero br t fz w' ((hs.kept.same br (Array.getElem?_eq_some_iff.1 hb).1 (by simp [X.ids])).trans hb)) rfl ?_
  refine go (k := ?_)
  exact XE.ret1 () [] rfl rfl trivial rfl rfl rfl
theorem left_zero (br : Nat) (t : TypeId) (fz : Nat × Nat) (w : World) (hb : w.heap[br]? = some (.cells rg0Cs.toArray t fz)) : Fx Tryd.prog 14 [ptr br] w (Pure w (iv 0)) := by
  have hB : br ∉ ids ([] : Heap) := by simp [X.ids]
  have h5 : rg0Cs[0 + 5]? = some (.bool false) := rfl
  refine Fx.of (L0 := []) Tryd.func14 rfl (by kernel_rfl) Tryd.ntmps14 rfl (Owns.nil w) ?_
  refine go (k := ?_)
  exact XE.ret1 () [] rfl rfl trivial rfl rfl rfl
theorem rappend_run (br bl b : Nat) (lv vc : Value) (cut : Int) (ch : List Int) (g g' : Rg) (x y : Ln) (s : List UInt8) (e : Int) (m : Nat) (w : World) (h : g.append cut ch s x = (e, g', y)) (hx : LI m 700000 x) (hm0 : 0 < m) (hm : m ≤ 100000) (hs : s.length ≤ 100000) (hg : g.n ≤ 65536 ∧ g.used < g.n ∧ g.at_ ≤ 100000)
    (hl : ch.length ≤ 1000000) (hw : ∀ a ∈ ch, -9223372036854775808 ≤ a ∧ a ≤ 9223372036854775807) (ho : Owns w (rgX br bl b lv vc cut ch g x)) :
    Fx Tryd.prog 13 [ptr br, str s] w (Ret w (rgX br bl b lv vc cut ch g x) (fun _ : Unit => iv e) (fun _ => rgX br bl b lv vc cut ch g' y) (fun _ => True)) := by
  have := rappend_ok br bl b lv vc cut ch g x s m w hx hm0 hm hs hg hl hw ho
  rw [h] at this
  exact this
theorem rflush_run (br bl b : Nat) (lv vc : Value) (cut : Int) (ch : List Int) (g g' : Rg) (x y : Ln) (e : Int) (m : Nat) (w : World) (h : g.flush cut ch x = (e, g', y)) (hx : LI m 900000 x) (hm : m ≤ 100000)
    (hl : ch.length ≤ 1000000) (hw : ∀ a ∈ ch, -9223372036854775808 ≤ a ∧ a ≤ 9223372036854775807) (ho : Owns w (rgX br bl b lv vc cut ch g x)) :
    Fx Tryd.prog 19 [ptr br] w (Ret w (rgX br bl b lv vc cut ch g x) (fun _ : Unit => iv e) (fun _ => rgX br bl b lv vc cut ch g' y) (fun _ => True)) := by
  have := rflush_ok br bl b lv vc cut ch g x m w hx hm hl hw ho
  rw [h] at this
  exact this
theorem rseal_run (br bl b : Nat) (lv vc : Value) (cut : Int) (ch : List Int) (g g' : Rg) (x y : Ln) (e : Int) (gen m : Nat) (w : World) (h : g.sealG cut ch gen x = (e, g', y)) (hx : LI m 800000 x) (hm0 : 0 < m) (hm : m ≤ 100000) (hg : gen < 4294967296)
    (hl : ch.length ≤ 1000000) (hw : ∀ a ∈ ch, -9223372036854775808 ≤ a ∧ a ≤ 9223372036854775807) (ho : Owns w (rgX br bl b lv vc cut ch g x)) :
    Fx Tryd.prog 16 [ptr br, .int .u32 gen] w (Ret w (rgX br bl b lv vc cut ch g x) (fun _ : Unit => iv e) (fun _ => rgX br bl b lv vc cut ch g' y) (fun _ => True)) := by
  have := rseal_ok br bl b lv vc cut ch g x gen m w hx hm0 hm hg hl hw ho
  rw [h] at this
  exact this
/-- where nothing cuts the line -/
theorem append_free {a n : Nat} {ps : List Pc} {F gen old : Nat} {g : Rg} {x : Ln} (s : List UInt8) (hg : RgOk a n ps g) (hd : x.down = false) (h : LG a n ps ps.length F gen old x.ds) (hr : nd s.length + 1 + ps.length ≤ n) :
    ∃ ds', g.append (-1) [] s x = (0, { g with used := ps.length + nd s.length }, ⟨x.acts + nd s.length, false, ds'⟩) ∧ LG a n (ps ++ gps s) (ps ++ gps s).length F gen old ds' ∧ SameS a n x.ds ds' := by
  rcases append_log (cut := -1) (ch := []) s hg hd h with ⟨h1, _⟩ | ⟨_, ds', h1, h2, h3, _⟩ | ⟨_, ⟨j, _, h1⟩, _⟩
  · omega
  · exact ⟨ds', h1, h2, h3⟩
  · omega
theorem flush_free {a n : Nat} {ps : List Pc} {F gen old : Nat} {g : Rg} {x : Ln} (hg : g.broken = false) (hd : x.down = false) (h : LG a n ps ps.length F gen old x.ds) :
    ∃ ds', g.flush (-1) [] x = (0, g, ⟨x.acts + 1, false, ds'⟩) ∧ LG a n ps ps.length ps.length gen gen ds' ∧ SameS a n x.ds ds' := by
  rcases flush_log (cut := -1) (ch := []) hg hd h with ⟨_, h⟩ | ⟨h1, _⟩
  · exact h
  · omega
theorem seal_free {a n : Nat} {ps : List Pc} {F gen : Nat} {g : Rg} {x : Ln} (v : Nat) (hv : v ≠ 0) (hg : RgOk a n ps g) (hd : x.down = false) (h : LG a n ps ps.length F gen gen x.ds) :
    ∃ ds', g.sealG (-1) [] v x = (0, g, ⟨x.acts + 2, false, ds'⟩) ∧ LG a n ps ps.length ps.length v v ds' ∧ SameS a n x.ds ds' := by
  rcases seal_log (cut := -1) (ch := []) v hv hg hd h with ⟨_, _, h⟩ | ⟨h1, _⟩
  · exact h
  · omega
theorem LG.tells {a n : Nat} {all : List (List UInt8)} {F gen old : Nat} {ds : List Slot} (h : LG a n (lps all) (lps all).length F gen old ds) (hn : n ≤ 65536) (hn2 : 2 ≤ n) (hg : gen < 4294967296) :
    (rtell (rblks ds a n)).gen = gen ∧ (rtell (rblks ds a n)).groups = all := by
  obtain ⟨h1, h2⟩ := h.asIs
  obtain ⟨h3, h4⟩ := h1.tellAll hn hn2
  exact ⟨by rw [h3, h2, hdr_hblk hg], h4⟩
theorem LG.li {a n : Nat} {ps : List Pc} {W F gen old k m : Nat} {x : Ln} (h : LG a n ps W F gen old x.ds) (hl : x.ds.length = m) (ha : x.acts ≤ k) : LI m k x := ⟨h.oks, hl, ha⟩
theorem fmt_free {a n m : Nat} (h2 : 2 ≤ n) (hl : a + n ≤ m) : ∃ D, fmt (-1) [] a n ⟨0, false, List.replicate m slot0⟩ = (0, ⟨n + 1, false, D⟩) ∧ LG a n [] 0 0 0 0 D ∧ D.length = m := by
  obtain ⟨D, h1, h3, h4, _⟩ := fmt_log (a := a) (n := n) (cut := -1) (ch := []) (x := ⟨0, false, List.replicate m slot0⟩) rfl (rep_ok m) (rep_inv m) (by simp only [List.length_replicate]; exact hl) h2 (fun j _ => by simp only; omega)
  simp only [Nat.zero_add, List.length_replicate] at h1 h4
  exact ⟨D, h1, h3, h4⟩
set_option maxHeartbeats 1000000 in
theorem awake13_ok (w : World) : Fx Tryd.prog 20 [] w (Pure w (.bool true)) := by
  obtain ⟨D1, f1, f2, f3⟩ := fmt_free (a := 64) (n := 64) (m := 256) (by decide) (by decide)
  obtain ⟨D2, a1, a2, a3⟩ := append_free (g := ⟨64, 64, 0, false⟩) (x := ⟨64 + 1, false, D1⟩) [97, 98] ⟨rfl, rfl, rfl, rfl⟩ rfl f2 (by decide)
  have l2 : D2.length = 256 := a3.len.trans f3
  have ct : ∀ (bl b : Nat) (lv vc u : Value) (w : World), RowAt w u 1 1 (gstrs [[97, 98]]) → Owns w (lnX bl b lv vc (-1) [] ⟨66, false, D2⟩) → Fx Tryd.prog 12 [ptr bl, .int .u32 (0 : Nat), u] w (Pure w (.bool true)) := fun bl b lv vc u w hu ho => by
    have t2 := LG.tells (all := [[97, 98]]) a2 (by decide) (by decide) (by decide)
    exact tells13_ok bl b lv vc (-1) [] ⟨66, false, D2⟩ 0 [[97, 98]] _ w a2.oks l2 rfl t2.1 t2.2 hu ho
  replace f1 := Hold.mk f1
  replace a1 := Hold.mk a1
  refine Fx.of (L0 := []) Tryd.func20 rfl (by kernel_rfl) Tryd.ntmps20 rfl (Owns.nil w) ?_
  refine go (k := ?_)
  refine XL.call [] [] rfl rfl rfl rfl rfl (fun _ w _ _ => dnew_ok 256 w (by decide) (by decide)) fun x _ => ?_
  obtain ⟨b, lv⟩ := x
  refine go (k := ?_)
  refine XL.call [0] [] rfl rfl rfl rfl rfl (fun _ w1 hs ho => lnew_ok b lv (List.replicate 256 slot0) (-1) _ [] w1 (rep_ok 256) (by rw [List.length_replicate]; decide) (by decide) (fun w' hk' => rdNil w') ho) fun x _ => ?_
  obtain ⟨bl, vc⟩ := x
  refine XL.nm (M := lnX bl b lv vc (-1) [] ⟨0, false, List.replicate 256 slot0⟩) ?_ rfl
  refine go (k := ?_)
  refine XL.call [0, 1, 2] [] rfl rfl rfl rfl rfl (fun _ w _ ho => format_run bl b lv vc (-1) [] ⟨0, false, List.replicate 256 slot0⟩ ⟨64 + 1, false, D1⟩ 64 64 256 w f1.out ⟨rep_ok 256, List.length_replicate, Nat.zero_le _⟩ (by decide) (by decide) (thr_0 (by decide) (by decide) (by decide)) (by decide) (by decide) (fun a ha => by cases ha) ho) fun br _ => ?_
  refine XL.nm (M := rgX br bl b lv vc (-1) [] ⟨64, 64, 0, false⟩ ⟨64 + 1, false, D1⟩) ?_ rfl
  refine go (k := ?_)
  refine XL.call [0, 1, 2, 3] [] rfl rfl rfl rfl rfl (fun _ w _ ho => rappend_run br bl b lv vc (-1) [] _ _ _ _ [97, 98] 0 256 w a1.out (f2.li f3 (show (65 : Nat) ≤ _ by decide)) (by decide) (by decide) (by decide) ⟨by decide, by decide, by decide⟩ (by decide) (fun a ha => by cases ha) ho) fun _ _ => ?_
  refine XL.nm (M := rgX br bl b lv vc (-1) [] ⟨64, 64, 1, false⟩ ⟨66, false, D2⟩) ?_ rfl
  refine go (k := ?_)
  refine XL.q (.call rfl rfl fun _ w hs => left_at br bl _ _ _ w ⟨by decide, by decide⟩ (hs.own.ok _ (.head _))) rfl ?_
  refine go (k := ?_)
  refine XL.make (.bslice rfl rfl rfl rfl rfl rfl) rfl fun _ _ hb => ?_
  obtain ⟨bs, rfl, rfl⟩ := hb
  refine XL.nm (M := [.blk bs [str [97, 98]] 9] ++ rgX br bl b lv vc (-1) [] ⟨64, 64, 1, false⟩ ⟨66, false, D2⟩) ?_ rfl
  refine go (k := ?_)
  refine XL.q (.call rfl rfl fun _ w hs => ct bl b lv vc _ w ((Rd.blk (.head _) rfl (Nat.le_refl _) rfl : Rd _ _ _ _ 1 1 (gstrs [[97, 98]])) w hs.own hs.kept) (hs.own.pick (is := [2, 3, 4]) (by decide))) rfl ?_
  refine go (k := ?_)
  refine XL.q (.call rfl rfl fun _ w _ => needs_ok 59 w (by decide)) rfl ?_
  refine go (k := ?_)
  exact XE.ret1 () [] rfl rfl trivial rfl rfl rfl
end Go.X
