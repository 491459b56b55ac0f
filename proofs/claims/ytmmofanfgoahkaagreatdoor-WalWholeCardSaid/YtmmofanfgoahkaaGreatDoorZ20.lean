/- Package region: contracts in the forms that the laws use; regions that are none; awake, few. -/
import Derived.Test.YtmmofanfgoahkaaGreatDoorZ19
import Derived.Test.YtmmofanfgoahkaaGreatDoorZ13
import Derived.Test.YtmmofanfgoahkaaGreatDoorZ15
namespace Go.X
open Go Go.Proofs Go.RowKit
theorem rdNil (w' : World) : RowAt w' (.slice none 0 0) 1 0 (ivs []) := (Rd.nil : Rd w' [] [] _ 1 0 (ivs [])) w' (Owns.nil _) (Kept.refl _ _)
theorem gsNil (w' : World) : RowAt w' (.slice none 0 0) 1 0 (gstrs []) := (Rd.nil : Rd w' [] [] _ 1 0 (gstrs [])) w' (Owns.nil _) (Kept.refl _ _)
theorem needs_neg (n : Int) (w : World) (h : n ≤ 58) : Fx Tryz.prog 20 [iv n] w (Pure w (iv 1)) := by
  refine Fx.of (L0 := []) Tryz.func20 rfl (by kernel_rfl) Tryz.ntmps20 rfl (Owns.nil w) ?_
  refine go (k := ?_)
  exact XE.ret1 () [] rfl rfl trivial rfl rfl rfl
theorem format_run (bl b : Nat) (lv vc : Value) (cut : Int) (ch : List Int) (x y : Ln) (a n m : Nat) (w : World) (h : fmt cut ch a n x = (0, y)) (hx : LIn m 100000 x) (hm0 : 0 < m) (hm : m ≤ 100000) (ht : thr m a n = 0) (hn : n ≤ 65536)
    (hl : ch.length ≤ 1000000) (hw : ∀ a ∈ ch, -9223372036854775808 ≤ a ∧ a ≤ 9223372036854775807) (ho : Owns w (lnX bl b lv vc cut ch x)) :
    Fx Tryz.prog 12 [ptr bl, iv a, iv n] w (Ret w (lnX bl b lv vc cut ch x) (fun br : Nat => .tuple #[ptr br, iv 0]) (fun br => rgX br bl b lv vc cut ch ⟨a, n, 0, false⟩ y) (fun _ => True)) := by
  have := format_ok bl b lv vc cut ch x a n m w hx hm0 hm ht hn hl hw ho
  rw [h] at this
  exact this
theorem format_bad (bl b : Nat) (lv vc : Value) (cut : Int) (ch : List Int) (x : Ln) (a n : Int) (w : World) (hk : Oks x.ds) (hn : x.ds.length ≤ 100000) (ht : thr x.ds.length a n ≠ 0) (ho : Owns w (lnX bl b lv vc cut ch x)) :
    Fx Tryz.prog 12 [ptr bl, iv a, iv n] w (Pure w (.tuple #[.pointer none, iv (thr x.ds.length a n)])) := by
  have hown : ∀ w', Kept [] w w' → Owns w' (lnX bl b lv vc cut ch x) := fun w' k => ho.of_kept k (fun _ _ h => by cases h)
  refine Fx.of (L0 := []) Tryz.func12 rfl (by kernel_rfl) Tryz.ntmps12 rfl (Owns.nil w) ?_
  refine go (k := ?_)
  refine XL.q (.call rfl rfl fun _ w' hs => there_ok bl b lv vc cut ch x a n w' hk hn (hown w' hs.kept)) rfl ?_
  refine go (k := ?_)
  exact XE.ret2 () [] rfl rfl rfl trivial rfl rfl rfl
theorem there_nil (a n : Int) (w : World) : Fx Tryz.prog 42 [.pointer none, iv a, iv n] w (Pure w (iv 1)) := by
  refine Fx.of (L0 := []) Tryz.func42 rfl (by kernel_rfl) Tryz.ntmps42 rfl (Owns.nil w) ?_
  refine go (k := ?_)
  exact XE.ret1 () [] rfl rfl trivial rfl rfl rfl
theorem format_nil (a n : Int) (w : World) : Fx Tryz.prog 12 [.pointer none, iv a, iv n] w (Pure w (.tuple #[.pointer none, iv 1])) := by
  refine Fx.of (L0 := []) Tryz.func12 rfl (by kernel_rfl) Tryz.ntmps12 rfl (Owns.nil w) ?_
  refine go (k := ?_)
  refine XL.q (.call rfl rfl fun _ w' hs => there_nil a n w') rfl ?_
  refine go (k := ?_)
  exact XE.ret2 () [] rfl rfl rfl trivial rfl rfl rfl
theorem gread_nil (a n : Int) (w : World) : Fx Tryz.prog 46 [.pointer none, iv a, iv n] w (Pure w (.tuple #[.int .u32 0, .slice none 0 0, iv 1])) := by
  refine Fx.of (L0 := []) Tryz.func46 rfl (by kernel_rfl) Tryz.ntmps46 rfl (Owns.nil w) ?_
  refine go (k := ?_)
  refine XL.q (.call rfl rfl fun _ w' hs => there_nil a n w') rfl ?_
  refine go (k := ?_)
  exact XE.ret3 () [] rfl rfl rfl rfl trivial rfl rfl rfl
theorem rappend_nil (s : List UInt8) (w : World) : Fx Tryz.prog 38 [.pointer none, str s] w (Pure w (iv 1)) := by
  refine Fx.of (L0 := []) Tryz.func38 rfl (by kernel_rfl) Tryz.ntmps38 rfl (Owns.nil w) ?_
  refine go (k := ?_)
  refine XL.box (zs := [.pointer none]) rfl rfl rfl fun b2 => ?_
  refine go (k := ?_)
  refine XL.alloc rfl rfl rfl fun b4 => ?_
  refine go (k := ?_)
  refine XL.q (.call rfl rfl fun _ w _ => may_nil w) rfl ?_
  refine go (k := ?_)
  exact XE.retC1 () [] rfl rfl rfl rfl (.head _) rfl trivial rfl rfl rfl
theorem rseal_nil (g : Nat) (w : World) : Fx Tryz.prog 58 [.pointer none, .int .u32 g] w (Pure w (iv 1)) := by
  refine Fx.of (L0 := []) Tryz.func58 rfl (by kernel_rfl) Tryz.ntmps58 rfl (Owns.nil w) ?_
  refine go (k := ?_)
  refine XL.q (.call rfl rfl fun _ w _ => may_nil w) rfl ?_
  refine go (k := ?_)
  exact XE.ret1 () [] rfl rfl trivial rfl rfl rfl
abbrev rg0Cs : List Value := [.pointer none, iv 0, iv 0, iv 0, .bool false, .bool false]
theorem may_zero (br : Nat) (t : TypeId) (fz : Nat × Nat) (w : World) (hb : w.heap[br]? = some (.cells rg0Cs.toArray t fz)) : Fx Tryz.prog 76 [ptr br] w (Pure w (iv 1)) := by
  have hB : br ∉ ids ([] : Heap) := by simp [X.ids]
  have h5 : rg0Cs[0 + 5]? = some (.bool false) := rfl
  refine Fx.of (L0 := []) Tryz.func76 rfl (by kernel_rfl) Tryz.ntmps76 rfl (Owns.nil w) ?_
  refine go (k := ?_)
  exact XE.ret1 () [] rfl rfl trivial rfl rfl rfl
theorem rflush_zero (br : Nat) (t : TypeId) (fz : Nat × Nat) (w : World) (hb : w.heap[br]? = some (.cells rg0Cs.toArray t fz)) : Fx Tryz.prog 56 [ptr br] w (Pure w (iv 1)) := by
  refine Fx.of (L0 := []) Tryz.func56 rfl (by kernel_rfl) Tryz.ntmps56 rfl (Owns.nil w) ?_
  refine go (k := ?_)
  refine XL.q (.call rfl rfl fun _ w' hs => may_zero br t fz w' ((hs.kept.same br (Array.getElem?_eq_some_iff.1 hb).1 (by simp [X.ids])).trans hb)) rfl ?_
  refine go (k := ?_)
  exact XE.ret1 () [] rfl rfl trivial rfl rfl rfl
theorem left_zero (br : Nat) (t : TypeId) (fz : Nat × Nat) (w : World) (hb : w.heap[br]? = some (.cells rg0Cs.toArray t fz)) : Fx Tryz.prog 18 [ptr br] w (Pure w (iv 0)) := by
  have hB : br ∉ ids ([] : Heap) := by simp [X.ids]
  have h5 : rg0Cs[0 + 5]? = some (.bool false) := rfl
  refine Fx.of (L0 := []) Tryz.func18 rfl (by kernel_rfl) Tryz.ntmps18 rfl (Owns.nil w) ?_
  refine go (k := ?_)
  exact XE.ret1 () [] rfl rfl trivial rfl rfl rfl
theorem rappend_run (br bl b : Nat) (lv vc : Value) (cut : Int) (ch : List Int) (g g' : Rg) (x y : Ln) (s : List UInt8) (e : Int) (m : Nat) (w : World) (h : g.append cut ch s x = (e, g', y)) (hx : LIn m 700000 x) (hm0 : 0 < m) (hm : m ≤ 100000) (hs : s.length ≤ 100000) (hg : g.n ≤ 65536 ∧ g.used < g.n ∧ g.at_ ≤ 100000)
    (hl : ch.length ≤ 1000000) (hw : ∀ a ∈ ch, -9223372036854775808 ≤ a ∧ a ≤ 9223372036854775807) (ho : Owns w (rgX br bl b lv vc cut ch g x)) :
    Fx Tryz.prog 38 [ptr br, str s] w (Ret w (rgX br bl b lv vc cut ch g x) (fun _ : Unit => iv e) (fun _ => rgX br bl b lv vc cut ch g' y) (fun _ => True)) := by
  have := rappend_ok br bl b lv vc cut ch g x s m w hx hm0 hm hs hg hl hw ho
  rw [h] at this
  exact this
theorem rflush_run (br bl b : Nat) (lv vc : Value) (cut : Int) (ch : List Int) (g g' : Rg) (x y : Ln) (e : Int) (m : Nat) (w : World) (h : g.flush cut ch x = (e, g', y)) (hx : LIn m 900000 x) (hm : m ≤ 100000)
    (hl : ch.length ≤ 1000000) (hw : ∀ a ∈ ch, -9223372036854775808 ≤ a ∧ a ≤ 9223372036854775807) (ho : Owns w (rgX br bl b lv vc cut ch g x)) :
    Fx Tryz.prog 56 [ptr br] w (Ret w (rgX br bl b lv vc cut ch g x) (fun _ : Unit => iv e) (fun _ => rgX br bl b lv vc cut ch g' y) (fun _ => True)) := by
  have := grflush_ok br bl b lv vc cut ch g x m w hx hm hl hw ho
  rw [h] at this
  exact this
theorem rseal_run (br bl b : Nat) (lv vc : Value) (cut : Int) (ch : List Int) (g g' : Rg) (x y : Ln) (e : Int) (gen m : Nat) (w : World) (h : g.sealG cut ch gen x = (e, g', y)) (hx : LIn m 800000 x) (hm0 : 0 < m) (hm : m ≤ 100000) (hg : gen < 4294967296)
    (hl : ch.length ≤ 1000000) (hw : ∀ a ∈ ch, -9223372036854775808 ≤ a ∧ a ≤ 9223372036854775807) (ho : Owns w (rgX br bl b lv vc cut ch g x)) :
    Fx Tryz.prog 58 [ptr br, .int .u32 gen] w (Ret w (rgX br bl b lv vc cut ch g x) (fun _ : Unit => iv e) (fun _ => rgX br bl b lv vc cut ch g' y) (fun _ => True)) := by
  have := rseal_ok br bl b lv vc cut ch g x gen m w hx hm0 hm hg hl hw ho
  rw [h] at this
  exact this
/-- where nothing cuts the line -/
theorem append_free {a n : Nat} {ps : List Pc} {F gen old : Nat} {g : Rg} {x : Ln} (s : List UInt8) (hg : RgOk a n ps g) (hd : x.down = false) (h : LG a n ps ps.length F gen old x.ds) (hr : nd s.length + 1 + ps.length ≤ n) :
    ∃ ds', g.append (-1) [] s x = (0, { g with used := ps.length + nd s.length }, ⟨x.acts + nd s.length, false, ds'⟩) ∧ LG a n (ps ++ gps s) (ps ++ gps s).length F gen old ds' ∧ SameS a n x.ds ds' := by
  rcases append_log (cut := -1) (ch := []) s hg hd h with ⟨h1, _⟩ | ⟨_, ds', h1, h2, h3, _⟩ | ⟨_, ⟨j, _, h1⟩, _⟩
  · omega
  · exact ⟨ds', h1, h2, h3⟩
  · omega
theorem flush_free {a n : Nat} {ps : List Pc} {F gen old : Nat} {g : Rg} {x : Ln} (hg : g.broken = false) (hd : x.down = false) (h : LG a n ps ps.length F gen old x.ds) :
    ∃ ds', g.flush (-1) [] x = (0, g, ⟨x.acts + 1, false, ds'⟩) ∧ LG a n ps ps.length ps.length gen gen ds' ∧ SameS a n x.ds ds' := by
  rcases flush_log (cut := -1) (ch := []) hg hd h with ⟨_, h⟩ | ⟨h1, _⟩
  · exact h
  · omega
theorem seal_free {a n : Nat} {ps : List Pc} {F gen : Nat} {g : Rg} {x : Ln} (v : Nat) (hv : v ≠ 0) (hg : RgOk a n ps g) (hd : x.down = false) (h : LG a n ps ps.length F gen gen x.ds) :
    ∃ ds', g.sealG (-1) [] v x = (0, g, ⟨x.acts + 2, false, ds'⟩) ∧ LG a n ps ps.length ps.length v v ds' ∧ SameS a n x.ds ds' := by
  rcases seal_log (cut := -1) (ch := []) v hv hg hd h with ⟨_, _, h⟩ | ⟨h1, _⟩
  · exact h
  · omega
theorem LG.tells {a n : Nat} {all : List (List UInt8)} {F gen old : Nat} {ds : List Slot} (h : LG a n (lps all) (lps all).length F gen old ds) (hn : n ≤ 65536) (hn2 : 2 ≤ n) (hg : gen < 4294967296) :
    (rtell (rblks ds a n)).gen = gen ∧ (rtell (rblks ds a n)).groups = all := by
  obtain ⟨h1, h2⟩ := h.asIs
  obtain ⟨h3, h4⟩ := h1.tellAll hn hn2
  exact ⟨by rw [h3, h2, hdr_hblk hg], h4⟩
theorem LG.li {a n : Nat} {ps : List Pc} {W F gen old k m : Nat} {x : Ln} (h : LG a n ps W F gen old x.ds) (hl : x.ds.length = m) (ha : x.acts ≤ k) : LIn m k x := ⟨h.oks, hl, ha⟩
theorem fmt_free {a n m : Nat} (h2 : 2 ≤ n) (hl : a + n ≤ m) : ∃ D, fmt (-1) [] a n ⟨0, false, List.replicate m slot0⟩ = (0, ⟨n + 1, false, D⟩) ∧ LG a n [] 0 0 0 0 D ∧ D.length = m := by
  obtain ⟨D, h1, h3, h4, _⟩ := fmt_log (a := a) (n := n) (cut := -1) (ch := []) (x := ⟨0, false, List.replicate m slot0⟩) rfl (rep_ok m) (rep_inv m) (by simp only [List.length_replicate]; exact hl) h2 (fun j _ => by simp only; omega)
  simp only [Nat.zero_add, List.length_replicate] at h1 h4
  exact ⟨D, h1, h3, h4⟩
set_option maxHeartbeats 1000000 in
theorem awake13_ok (w : World) : Fx Tryz.prog 8 [] w (Pure w (.bool true)) := by
  obtain ⟨D1, f1, f2, f3⟩ := fmt_free (a := 64) (n := 64) (m := 256) (by decide) (by decide)
  obtain ⟨D2, a1, a2, a3⟩ := append_free (g := ⟨64, 64, 0, false⟩) (x := ⟨64 + 1, false, D1⟩) [97, 98] ⟨rfl, rfl, rfl, rfl⟩ rfl f2 (by decide)
  have l2 : D2.length = 256 := a3.len.trans f3
  have ct : ∀ (bl b : Nat) (lv vc u : Value) (w : World), RowAt w u 1 1 (gstrs [[97, 98]]) → Owns w (lnX bl b lv vc (-1) [] ⟨66, false, D2⟩) → Fx Tryz.prog 39 [ptr bl, .int .u32 (0 : Nat), u] w (Pure w (.bool true)) := fun bl b lv vc u w hu ho => by
    have t2 := LG.tells (all := [[97, 98]]) a2 (by decide) (by decide) (by decide)
    exact tells13_ok bl b lv vc (-1) [] ⟨66, false, D2⟩ 0 [[97, 98]] _ w a2.oks l2 rfl t2.1 t2.2 hu ho
  replace f1 := Hold.mk f1
  replace a1 := Hold.mk a1
  refine Fx.of (L0 := []) Tryz.func8 rfl (by kernel_rfl) Tryz.ntmps8 rfl (Owns.nil w) ?_
  refine go (k := ?_)
  refine XL.call [] [] rfl rfl rfl rfl rfl (fun _ w _ _ => dnew_ok 256 w (by decide) (by decide)) fun x _ => ?_
  obtain ⟨b, lv⟩ := x
  refine go (k := ?_)
  refine XL.call [0] [] rfl rfl rfl rfl rfl (fun _ w1 hs ho => lnew_ok b lv (List.replicate 256 slot0) (-1) _ [] w1 (rep_ok 256) (by rw [List.length_replicate]; decide) (by decide) (fun w' hk' => rdNil w') ho) fun x _ => ?_
  obtain ⟨bl, vc⟩ := x
  refine XL.nm (M := lnX bl b lv vc (-1) [] ⟨0, false, List.replicate 256 slot0⟩) ?_ rfl
  refine go (k := ?_)
  refine XL.call [0, 1, 2] [] rfl rfl rfl rfl rfl (fun _ w _ ho => format_run bl b lv vc (-1) [] ⟨0, false, List.replicate 256 slot0⟩ ⟨64 + 1, false, D1⟩ 64 64 256 w f1.out ⟨rep_ok 256, List.length_replicate, Nat.zero_le _⟩ (by decide) (by decide) (thr_0 (by decide) (by decide) (by decide)) (by decide) (by decide) (fun a ha => by cases ha) ho) fun br _ => ?_
  refine XL.nm (M := rgX br bl b lv vc (-1) [] ⟨64, 64, 0, false⟩ ⟨64 + 1, false, D1⟩) ?_ rfl
  refine go (k := ?_)
  refine XL.call [0, 1, 2, 3] [] rfl rfl rfl rfl rfl (fun _ w _ ho => rappend_run br bl b lv vc (-1) [] _ _ _ _ [97, 98] 0 256 w a1.out (f2.li f3 (show (65 : Nat) ≤ _ by decide)) (by decide) (by decide) (by decide) ⟨by decide, by decide, by decide⟩ (by decide) (fun a ha => by cases ha) ho) fun _ _ => ?_
  refine XL.nm (M := rgX br bl b lv vc (-1) [] ⟨64, 64, 1, false⟩ ⟨66, false, D2⟩) ?_ rfl
  refine go (k := ?_)
  refine XL.q (.call rfl rfl fun _ w hs => left_at br bl _ _ _ w ⟨by decide, by decide⟩ (hs.own.ok _ (.head _))) rfl ?_
  refine go (k := ?_)
  refine XL.make (.bslice rfl rfl rfl rfl rfl rfl) rfl fun _ _ hb => ?_
  obtain ⟨bs, rfl, rfl⟩ := hb
  refine XL.nm (M := [.blk bs [str [97, 98]] 9] ++ rgX br bl b lv vc (-1) [] ⟨64, 64, 1, false⟩ ⟨66, false, D2⟩) ?_ rfl
  refine go (k := ?_)
  refine XL.q (.call rfl rfl fun _ w hs => ct bl b lv vc _ w ((Rd.blk (.head _) rfl (Nat.le_refl _) rfl : Rd _ _ _ _ 1 1 (gstrs [[97, 98]])) w hs.own hs.kept) (hs.own.pick (is := [2, 3, 4]) (by decide))) rfl ?_
  refine go (k := ?_)
  refine XL.q (.call rfl rfl fun _ w _ => needs_ok 59 w (by decide)) rfl ?_
  refine go (k := ?_)
  exact XE.ret1 () [] rfl rfl trivial rfl rfl rfl
end Go.X
/- RegionKnown. -/
namespace Go.X
open Go Go.Proofs Go.RowKit
/-- a region in good order, over a line that nothing has cut -/
structure RSt (a n m : Nat) (all : List (List UInt8)) (gen : Nat) (g : Rg) (x : Ln) : Prop where
  rg : RgOk a n (lps all) g
  up : x.down = false
  log : ∃ F, LG a n (lps all) (lps all).length F gen gen x.ds
  len : x.ds.length = m
section
variable {a n m : Nat} {all : List (List UInt8)} {gen : Nat} {g : Rg} {x : Ln}
theorem RSt.append (h : RSt a n m all gen g x) (s : List UInt8) (hr : nd s.length + 1 + (lps all).length ≤ n) : ∃ g' x', g.append (-1) [] s x = (0, g', x') ∧ RSt a n m (all ++ [s]) gen g' x' ∧ x'.acts = x.acts + nd s.length ∧ SameS a n x.ds x'.ds := by
  obtain ⟨F, hl⟩ := h.log
  obtain ⟨ds', h1, h2, h3⟩ := append_free s h.rg h.up hl hr
  refine ⟨_, _, h1, ⟨⟨h.rg.at_, h.rg.n, ?_, h.rg.ok⟩, rfl, ⟨F, ?_⟩, h3.len.trans h.len⟩, rfl, h3⟩
  · simp only; rw [lps_snoc, List.length_append, gps_len]
  · rw [lps_snoc]; exact h2
theorem RSt.full (h : RSt a n m all gen g x) (s : List UInt8) (hr : n < nd s.length + 1 + (lps all).length) : g.append (-1) [] s x = (7, g, x) := by
  unfold Rg.append
  rw [if_neg (by rw [h.rg.ok]; decide), if_pos (by rw [h.rg.n, h.rg.used]; exact hr)]
theorem RSt.flush (h : RSt a n m all gen g x) : ∃ x', g.flush (-1) [] x = (0, g, x') ∧ RSt a n m all gen g x' ∧ x'.acts = x.acts + 1 ∧ SameS a n x.ds x'.ds := by
  obtain ⟨F, hl⟩ := h.log
  obtain ⟨ds', h1, h2, h3⟩ := flush_free h.rg.ok h.up hl
  exact ⟨_, h1, ⟨h.rg, rfl, ⟨_, h2⟩, h3.len.trans h.len⟩, rfl, h3⟩
theorem RSt.sealG (h : RSt a n m all gen g x) (v : Nat) (hv : v ≠ 0) : ∃ x', g.sealG (-1) [] v x = (0, g, x') ∧ RSt a n m all v g x' ∧ x'.acts = x.acts + 2 ∧ SameS a n x.ds x'.ds := by
  obtain ⟨F, hl⟩ := h.log
  obtain ⟨ds', h1, h2, h3⟩ := seal_free v hv h.rg h.up hl
  exact ⟨_, h1, ⟨h.rg, rfl, ⟨_, h2⟩, h3.len.trans h.len⟩, rfl, h3⟩
theorem RSt.li (h : RSt a n m all gen g x) {k : Nat} (hk : x.acts ≤ k) : LIn m k x := by
  obtain ⟨F, hl⟩ := h.log
  exact hl.li h.len hk
theorem RSt.oks (h : RSt a n m all gen g x) : Oks x.ds := by
  obtain ⟨F, hl⟩ := h.log
  exact hl.oks
theorem RSt.reg (h : RSt a n m all gen g x) (hn : n ≤ 65536) (ha : a ≤ 100000) : g.n ≤ 65536 ∧ g.used < g.n ∧ g.at_ ≤ 100000 := by
  obtain ⟨F, hl⟩ := h.log
  have := hl.room
  rw [h.rg.n, h.rg.used, h.rg.at_]; exact ⟨hn, this, ha⟩
theorem RSt.tells (h : RSt a n m all gen g x) (hn : n ≤ 65536) (hn2 : 2 ≤ n) (hg : gen < 4294967296) : (rtell (rblks x.ds a n)).gen = gen ∧ (rtell (rblks x.ds a n)).groups = all := by
  obtain ⟨F, hl⟩ := h.log
  exact hl.tells hn hn2 hg
theorem RSt.blk (h : RSt a n m all gen g x) {i : Nat} (h1 : 1 ≤ i) (h2 : i ≤ (lps all).length) : ∃ s, x.ds[a + i]? = some s ∧ s.read = lbk (lps all) i := by
  obtain ⟨F, hl⟩ := h.log
  obtain ⟨s, g1, g2, _⟩ := hl.wr i h1 h2
  exact ⟨s, g1, g2⟩
end
theorem fmt_rst {a n m : Nat} (h2 : 2 ≤ n) (hl : a + n ≤ m) : ∃ D, fmt (-1) [] a n ⟨0, false, List.replicate m slot0⟩ = (0, ⟨n + 1, false, D⟩) ∧ RSt a n m [] 0 ⟨a, n, 0, false⟩ ⟨n + 1, false, D⟩ := by
  obtain ⟨D, h1, h3, h4⟩ := fmt_free h2 hl
  exact ⟨D, h1, ⟨rfl, rfl, rfl, rfl⟩, rfl, ⟨0, h3⟩, h4⟩
theorem tells_run (bl b : Nat) (lv vc : Value) (cut : Int) (ch : List Int) {g : Rg} (x : Ln) (gen : Nat) (all : List (List UInt8)) (u : Value) (w : World) (h : RSt 64 64 256 all gen g x) (hg : gen < 4294967296) (hu : RowAt w u 1 all.length (gstrs all)) (ho : Owns w (lnX bl b lv vc cut ch x)) :
    Fx Tryz.prog 39 [ptr bl, .int .u32 gen, u] w (Pure w (.bool true)) := by
  obtain ⟨h1, h2⟩ := h.tells (by decide) (by decide) hg
  exact tells13_ok bl b lv vc cut ch x gen all u w h.oks h.len h.up h1 h2 hu ho
end Go.X
/- Laws of region: lists of acts; few. -/
namespace Go.X
open Go Go.Proofs Go.RowKit
structure RAct where
  what : Int
  s : List UInt8
  gen : Int
  at_ : Int
  n : Int
instance : Inhabited RAct := ⟨⟨0, [], 0, 0, 0⟩⟩
def racell (a : RAct) : List Value := [.int .u8 a.what, str a.s, .int .u32 a.gen, iv a.at_, iv a.n]
def racells (l : List RAct) : List Value := l.flatMap racell
structure RActOk (a : RAct) : Prop where
  what : 0 ≤ a.what ∧ a.what ≤ 255
  s : a.s.length ≤ maxLen
  gen : 0 ≤ a.gen ∧ a.gen ≤ 4294967295
  at_ : -9223372036854775808 ≤ a.at_ ∧ a.at_ ≤ 9223372036854775807
  n : -9223372036854775808 ≤ a.n ∧ a.n ≤ 9223372036854775807
theorem racells_at : ∀ {l : List RAct} {i : Nat} {a : RAct}, l[i]? = some a → (racells l)[i * 5]? = some (.int .u8 a.what) ∧ (racells l)[i * 5 + 1]? = some (str a.s) ∧ (racells l)[i * 5 + 2]? = some (.int .u32 a.gen) ∧ (racells l)[i * 5 + 3]? = some (iv a.at_) ∧ (racells l)[i * 5 + 4]? = some (iv a.n)
  | [], i, p, h => by simp at h
  | q :: l, 0, p, h => by simp at h; subst h; exact ⟨rfl, rfl, rfl, rfl, rfl⟩
  | q :: l, i + 1, p, h => by
    have := racells_at (l := l) (i := i) (by simpa using h)
    rw [show (i + 1) * 5 = i * 5 + 1 + 1 + 1 + 1 + 1 by omega]
    exact this
theorem racts_of {H : Type} {enc : TypeId × Value → H} {w : World} {spare : Nat → Bool} {held : Bool} {v : Value} (h : KOk enc Tryz.prog w 0 spare held (.sl 46) v) :
    ∃ l : List RAct, RowAt w v 5 l.length (racells l) ∧ l.length ≤ maxLen ∧ ∀ a ∈ l, RActOk a :=
  rows_of racell (Q := RActOk) (by decide) (by kernel_rfl) (fun cs fuel x hl h => by
    obtain ⟨c0, c1, c2, c3, c4, rfl⟩ := len5 hl
    have hf := flat_ok 3 (l := [(0, .int .u8), (1, .str), (2, .int .u32), (3, .int .i64), (4, .int .i64)]) (by kernel_rfl) h
    obtain ⟨_, e0, n0, rfl, b0⟩ := hf (0, .int .u8) (.head _)
    obtain ⟨_, e1, s1, rfl, b1⟩ := hf (1, .str) (.tail _ (.head _))
    obtain ⟨_, e2, n2, rfl, b2⟩ := hf (2, .int .u32) (.tail _ (.tail _ (.head _)))
    obtain ⟨_, e3, n3, rfl, b3⟩ := hf (3, .int .i64) (.tail _ (.tail _ (.tail _ (.head _))))
    obtain ⟨_, e4, n4, rfl, b4⟩ := hf (4, .int .i64) (.tail _ (.tail _ (.tail _ (.tail _ (.head _)))))
    obtain rfl := Option.some.inj e0
    obtain rfl := Option.some.inj e1
    obtain rfl := Option.some.inj e2
    obtain rfl := Option.some.inj e3
    obtain rfl := Option.some.inj e4
    exact ⟨⟨n0, s1.data.toList, n2, n3, n4⟩, rfl, ⟨wf_u8 b0, b1, wf_u32 b2, wf_i64 b3, wf_i64 b4⟩⟩) h
def fewG : Nat → List RAct → Bool
  | _, [] => true
  | left, a :: l => if 5000 < a.s.length ∨ left < a.s.length then false else fewG (left - a.s.length) l
def fewR (l : List RAct) : Bool := fewG 20000 (l.take 60) && decide (l.length ≤ 50)
theorem fewG_spec : ∀ (l : List RAct) (left : Nat), fewG left l = true → ∀ a ∈ l, a.s.length ≤ 5000
  | [], _, _, a, h => by cases h
  | b :: l, left, hf, a, ha => by
    unfold fewG at hf
    split at hf
    · cases hf
    · rename_i hb
      rcases List.mem_cons.1 ha with rfl | ha
      · omega
      · exact fewG_spec l _ hf a ha
theorem fewR_spec {l : List RAct} (h : fewR l = true) : (∀ a ∈ l, a.s.length ≤ 5000) ∧ l.length ≤ 50 := by
  simp only [fewR, Bool.and_eq_true, decide_eq_true_eq] at h
  refine ⟨fun a ha => fewG_spec _ _ h.1 a ?_, h.2⟩
  rw [List.take_of_length_le (by omega)]; exact ha
theorem fewR_ok (v : Value) (l : List RAct) (w : World) (hv : RowAt w v 5 l.length (racells l)) (hl : l.length ≤ maxLen) (hs : ∀ a ∈ l, RActOk a) :
    Fx Tryz.prog 7 [v] w (Pure w (.bool (fewR l))) := by
  have hr : ∀ L : Heap, Rd w (ids []) L v 5 l.length (racells l) := fun L => .old hv (fun _ _ _ => by simp [X.ids])
  simp only [maxLen] at hl
  refine Fx.of (L0 := []) Tryz.func7 rfl (by kernel_rfl) Tryz.ntmps7 rfl (Owns.nil w) ?_
  refine XC.rdv (hr _) fun ao m hva _ _ haa => ?_
  subst hva
  refine go (k := ?_)
  refine XC.loop (α := Nat × Nat) (fun y => [(0, .slice ao l.length m), (3, iv y.2), (4, iv y.1)]) (fun _ => []) (fun y => y.1 ≤ l.length ∧ y.1 ≤ 60 ∧ y.2 ≤ 20000 ∧ fewG 20000 (l.take 60) = fewG y.2 ((l.take 60).drop y.1)) (fun y => l.length - y.1) (0, 20000) [] ⟨Nat.zero_le _, Nat.zero_le _, Nat.le_refl _, by simp⟩ ⟨rfl, rfl, rfl, trivial⟩ rfl rfl ?_
  rintro ⟨k, left⟩ ⟨hk, hk60, hlf, hpre⟩
  simp only at hk hk60 hlf hpre ⊢
  have hfin : (k = 60 ∨ k = l.length) → fewR l = decide ((l.length : Int) ≤ 50) := by
    intro h
    unfold fewR
    rw [hpre, List.drop_of_length_le (by rw [List.length_take]; omega)]
    simp only [fewG, Bool.true_and]
    exact decide_eq_decide.2 (by omega)
  by_cases hkl : k < l.length
  · obtain ⟨a, ha⟩ : ∃ a, l[k]? = some a := ⟨_, List.getElem?_eq_getElem hkl⟩
    obtain ⟨b1, o1, rfl⟩ : ∃ b off, ao = some ⟨b, off, none⟩ := haa.resolve_left (by omega)
    obtain ⟨_, c1, _⟩ := racells_at ha
    have hok := hs a (List.mem_of_getElem? ha)
    have hsl := hok.s
    simp only [maxLen] at hsl
    by_cases h60 : k < 60
    · have hdr : (l.take 60).drop k = a :: (l.take 60).drop (k + 1) := by
        have hlt : k < (l.take 60).length := by rw [List.length_take]; omega
        rw [List.drop_eq_getElem_cons hlt]
        congr 1
        have := (List.getElem?_eq_some_iff.1 ha).2
        rw [List.getElem_take]; exact this
      rw [hdr, fewG] at hpre
      by_cases hlong : 5000 < a.s.length
      · rw [if_pos (.inl hlong)] at hpre
        have hf : fewR l = false := by unfold fewR; rw [hpre]; rfl
        rw [hf]
        refine go (k := ?_)
        refine XL.q (.ldRd (j := k * 5 + 1) rfl rfl rfl (hr _) (by omega) c1) rfl ?_
        refine go (k := ?_)
        exact XE.ret1 () [] rfl rfl trivial rfl rfl rfl
      · by_cases hleft : left < a.s.length
        · rw [if_pos (.inr hleft)] at hpre
          have hf : fewR l = false := by unfold fewR; rw [hpre]; rfl
          rw [hf]
          refine go (k := ?_)
          refine XL.q (.ldRd (j := k * 5 + 1) rfl rfl rfl (hr _) (by omega) c1) rfl ?_
          refine go (k := ?_)
          refine XL.q (.ldRd (j := k * 5 + 1) rfl rfl rfl (hr _) (by omega) c1) rfl ?_
          refine go (k := ?_)
          exact XE.ret1 () [] rfl rfl trivial rfl rfl rfl
        · rw [if_neg (by omega)] at hpre
          refine go (k := ?_)
          refine XL.q (.ldRd (j := k * 5 + 1) rfl rfl rfl (hr _) (by omega) c1) rfl ?_
          refine go (k := ?_)
          refine XL.q (.ldRd (j := k * 5 + 1) rfl rfl rfl (hr _) (by omega) c1) rfl ?_
          refine go (k := ?_)
          refine XL.q (.ldRd (j := k * 5 + 1) rfl rfl rfl (hr _) (by omega) c1) rfl ?_
          refine go (k := ?_)
          refine XE.mid (k + 1, left - a.s.length) [] ⟨⟨by simp only; omega, by simp only; omega, by simp only; omega, hpre⟩, by simp only; omega⟩ ⟨rfl, gi rfl (by omega), rfl, trivial⟩ rfl rfl
    · obtain rfl : k = 60 := by omega
      rw [hfin (.inl rfl)]
      refine go (k := ?_)
      exact XE.ret1 () [] rfl rfl trivial rfl rfl rfl
  · obtain rfl : k = l.length := by omega
    rw [hfin (.inr rfl)]
    refine go (k := ?_)
    exact XE.ret1 () [] rfl rfl trivial rfl rfl rfl
end Go.X
/- The laws' own helpers for package device: given, begins, left, awake. -/
namespace Go.X
open Go Go.Proofs
def G5 : Slot := ⟨zbytes 64, padTo [97, 98], true⟩
def gds : List Slot := (List.replicate 256 slot0).set 5 G5
theorem G5_ok : G5.ok := ⟨zbytes_len 64, padTo_len (by decide)⟩
theorem gds_ok : Oks gds := (rep_ok 256).set G5_ok
theorem gds_len : gds.length = 256 := by unfold gds; rw [List.length_set, List.length_replicate]
theorem gds_5 : gds[5]? = some G5 := by unfold gds; rw [List.getElem?_set_self (by rw [List.length_replicate]; decide)]
end Go.X
/- DeviceOrder: plain laws. -/
namespace Go.X
open Go Go.Proofs Go.RowKit
structure Page where
  at_ : Nat
  s : List UInt8
instance : Inhabited Page := ⟨⟨0, []⟩⟩
def pcells (p : Page) : List Value := [.int .u8 (p.at_ : Int), str p.s]
def pgcells (l : List Page) : List Value := l.flatMap pcells
theorem pgcells_len : ∀ l, (pgcells l).length = l.length * 2
  | [] => rfl
  | a :: l => by
    have := pgcells_len l
    unfold pgcells at this ⊢
    simp only [List.flatMap_cons, List.length_append, this, List.length_cons, pcells, List.length_nil]; omega
theorem pgcells_at : ∀ {l : List Page} {i : Nat} {a : Page}, l[i]? = some a → (pgcells l)[i * 2]? = some (.int .u8 (a.at_ : Int)) ∧ (pgcells l)[i * 2 + 1]? = some (str a.s)
  | [], i, p, h => by simp at h
  | q :: l, 0, p, h => by simp at h; subst h; exact ⟨rfl, rfl⟩
  | q :: l, i + 1, p, h => by
    have := pgcells_at (l := l) (i := i) (by simpa using h)
    rw [show (i + 1) * 2 = i * 2 + 1 + 1 by omega]
    exact this
/-- which page was the last one for a block (its number, from 1 on) -/
def LI (l : List Page) : Nat → Nat → Nat
  | 0, _ => 0
  | k + 1, p => match l[k]? with
    | some x => if x.at_ = p then k + 1 else LI l k p
    | none => LI l k p
theorem LI_le (l : List Page) : ∀ k p, LI l k p ≤ k
  | 0, _ => Nat.le_refl _
  | k + 1, p => by
    have := LI_le l k p
    simp only [LI]
    split
    · split <;> omega
    · omega
theorem LI_step {l : List Page} {k : Nat} {x : Page} (h : l[k]? = some x) (p : Nat) : LI l (k + 1) p = if x.at_ = p then k + 1 else LI l k p := by simp only [LI, h]
theorem LI_at (l : List Page) : ∀ k p j, LI l k p = j + 1 → ∃ x, l[j]? = some x ∧ x.at_ = p
  | 0, p, j, h => by cases h
  | k + 1, p, j, h => by
    simp only [LI] at h
    cases hx : l[k]? with
    | none => rw [hx] at h; exact LI_at l k p j h
    | some x =>
      rw [hx] at h
      simp only at h
      split at h
      · rename_i e
        obtain rfl : k = j := by omega
        exact ⟨x, hx, e⟩
      · exact LI_at l k p j h
def wslot (l : List Page) : Nat → Slot
  | 0 => slot0
  | j + 1 => ⟨zbytes 64, padTo (l.getD j default).s, true⟩
def Aof (l : List Page) (k : Nat) : List Slot := (List.range 256).map fun p => wslot l (LI l k p)
def Bof (l : List Page) (i : Nat) : List Slot := (List.range 256).map fun p => if i < LI l l.length p then wslot l (LI l l.length p) else slot0
theorem rng_get {α : Type} (f : Nat → α) {i : Nat} (h : i < 256) : ((List.range 256).map f)[i]? = some (f i) := by rw [List.getElem?_map, List.getElem?_range h]; rfl
theorem rng_set {α : Type} {f g : Nat → α} {i : Nat} (h : i < 256) (hg : ∀ p, p < 256 → p ≠ i → g p = f p) : ((List.range 256).map f).set i (g i) = (List.range 256).map g := by
  apply List.ext_getElem?
  intro j
  by_cases hj : j < 256
  · rw [rng_get _ hj]
    by_cases e : i = j
    · subst e; rw [List.getElem?_set_self (by rw [List.length_map, List.length_range]; exact h)]
    · rw [List.getElem?_set_ne e, rng_get _ hj, hg j hj (fun x => e x.symm)]
  · rw [List.getElem?_eq_none (by rw [List.length_set, List.length_map, List.length_range]; omega), List.getElem?_eq_none (by rw [List.length_map, List.length_range]; omega)]
theorem rng_const {α : Type} (x : α) : (List.range 256).map (fun _ => x) = List.replicate 256 x := by
  rw [List.map_const', List.length_range]
theorem Aof_zero (l : List Page) : Aof l 0 = List.replicate 256 slot0 := by unfold Aof; simp only [LI, wslot]; exact rng_const _
theorem Aof_step {l : List Page} {k : Nat} {x : Page} (h : l[k]? = some x) (hx : x.at_ < 256) : (Aof l k).set x.at_ ⟨zbytes 64, padTo x.s, true⟩ = Aof l (k + 1) := by
  have hg := rng_set (f := fun p => wslot l (LI l k p)) (g := fun p => wslot l (LI l (k + 1) p)) hx (fun p _ hp => by rw [LI_step h, if_neg (fun e => hp e.symm)])
  unfold Aof
  rw [← hg]
  congr 1
  rw [LI_step h, if_pos rfl]
  simp only [wslot, List.getD_eq_getElem?_getD, h, Option.getD_some]
theorem wslot_firm (l : List Page) (j : Nat) : (wslot l j).firm = zbytes 64 := by cases j <;> rfl
theorem Aof_at (l : List Page) (k : Nat) {p : Nat} (h : p < 256) : (Aof l k)[p]? = some (wslot l (LI l k p)) := rng_get _ h
theorem wslot_ok {l : List Page} (hl : ∀ x ∈ l, x.s.length ≤ 64) (j : Nat) : (wslot l j).ok := by
  cases j with
  | zero => exact slot0_ok
  | succ j =>
    refine ⟨zbytes_len 64, padTo_len ?_⟩
    rw [List.getD_eq_getElem?_getD]
    cases h : l[j]? with
    | none => show (0 : Nat) ≤ 64; omega
    | some x => exact hl x (List.mem_of_getElem? h)
theorem Aof_len (l : List Page) (k : Nat) : (Aof l k).length = 256 := by simp only [Aof, List.length_map, List.length_range]
theorem Bof_len (l : List Page) (k : Nat) : (Bof l k).length = 256 := by simp only [Bof, List.length_map, List.length_range]
theorem Aof_ok {l : List Page} {k : Nat} (hl : ∀ i x, i < k → l[i]? = some x → x.s.length ≤ 64) : Oks (Aof l k) := by
  intro s hs
  obtain ⟨p, _, rfl⟩ := List.mem_map.1 hs
  have hle := LI_le l k p
  cases hj : LI l k p with
  | zero => exact slot0_ok
  | succ j =>
    obtain ⟨x, hx, _⟩ := LI_at l k p j hj
    refine ⟨zbytes_len 64, padTo_len ?_⟩
    rw [List.getD_eq_getElem?_getD, hx]
    exact hl j x (by omega) hx
theorem Bof_ok {l : List Page} {i : Nat} (hl : ∀ x ∈ l, x.s.length ≤ 64) : Oks (Bof l i) := by
  intro s hs
  obtain ⟨p, _, rfl⟩ := List.mem_map.1 hs
  split
  · exact wslot_ok hl _
  · exact slot0_ok
theorem Bof_top (l : List Page) : Bof l l.length = List.replicate 256 slot0 := by
  rw [← rng_const]
  refine List.map_congr_left fun p _ => ?_
  rw [if_neg (by have := LI_le l l.length p; omega)]
theorem Bof_zero (l : List Page) : Bof l 0 = Aof l l.length := by
  refine List.map_congr_left fun p _ => ?_
  cases hj : LI l l.length p with
  | zero => rfl
  | succ j => rw [if_pos (by omega)]
theorem Bof_at (l : List Page) (i : Nat) {p : Nat} (h : p < 256) : (Bof l i)[p]? = some (if i < LI l l.length p then wslot l (LI l l.length p) else slot0) := rng_get _ h
theorem Bof_hit {l : List Page} {i : Nat} {x : Page} (h : l[i]? = some x) (hx : x.at_ < 256) (hli : LI l l.length x.at_ = i + 1) : (Bof l (i + 1)).set x.at_ ⟨zbytes 64, padTo x.s, true⟩ = Bof l i := by
  have hg := rng_set (f := fun p => if i + 1 < LI l l.length p then wslot l (LI l l.length p) else slot0) (g := fun p => if i < LI l l.length p then wslot l (LI l l.length p) else slot0) hx (fun p _ hp => by
    by_cases e : LI l l.length p = i + 1
    · obtain ⟨y, hy, hyp⟩ := LI_at l _ p i e
      rw [h] at hy
      exact absurd (hyp ▸ (Option.some.inj hy) ▸ rfl) hp
    · have : (i < LI l l.length p) ↔ (i + 1 < LI l l.length p) := by omega
      simp only [this])
  unfold Bof
  rw [← hg]
  congr 1
  rw [hli, if_pos (by omega)]
  simp only [wslot, List.getD_eq_getElem?_getD, h, Option.getD_some]
theorem Bof_miss {l : List Page} {i : Nat} {x : Page} (h : l[i]? = some x) (hli : LI l l.length x.at_ ≠ i + 1) : Bof l (i + 1) = Bof l i := by
  refine List.map_congr_left fun p _ => ?_
  by_cases e : LI l l.length p = i + 1
  · obtain ⟨y, hy, hyp⟩ := LI_at l _ p i e
    rw [h] at hy
    exact absurd (by rw [Option.some.inj hy, hyp]; exact e) hli
  · have : (i < LI l l.length p) ↔ (i + 1 < LI l l.length p) := by omega
    simp only [this]
/-- the law's own record -/
def lcells (l : List Page) (k : Nat) : List Value := (List.range 256).map fun p => iv (LI l k p)
theorem lcells_at (l : List Page) (k : Nat) {p : Nat} (h : p < 256) : (lcells l k)[p]? = some (iv (LI l k p)) := rng_get _ h
theorem lcells_len (l : List Page) (k : Nat) : (lcells l k).length = 256 := by simp only [lcells, List.length_map, List.length_range]
theorem lcells_spl {l : List Page} {k : Nat} {x : Page} (h : l[k]? = some x) (hx : x.at_ < 256) : SplL (lcells l k) (0 + x.at_ * 1) [iv ((k : Int) + 1)] (lcells l (k + 1)) := by
  have h1 := SplL.one (cs := lcells l k) (k := 0 + x.at_ * 1) (iv ((k : Int) + 1)) (by rw [lcells_len]; omega)
  have hg := rng_set (f := fun p => iv (LI l k p)) (g := fun p => iv (LI l (k + 1) p)) hx (fun p _ hp => by rw [LI_step h, if_neg (fun e => hp e.symm)])
  have e : (lcells l k).set (0 + x.at_ * 1) (iv ((k : Int) + 1)) = lcells l (k + 1) := by
    rw [show 0 + x.at_ * 1 = x.at_ by omega]
    unfold lcells
    rw [← hg, LI_step h, if_pos rfl]
    rfl
  rw [e] at h1
  exact h1
theorem lcells_zero (l : List Page) : lcells l 0 = List.replicate 256 (iv 0) := by unfold lcells; simp only [LI]; exact rng_const _
end Go.X
/- Acts on a device: few, run. -/
namespace Go.X
open Go Go.Proofs Go.RowKit
structure DAct where
  what : Int
  at_ : Int
  s : List UInt8
  cv : Value
  ch : List Int
instance : Inhabited DAct := ⟨⟨0, 0, [], .slice none 0 0, []⟩⟩
def dacell (a : DAct) : List Value := [.int .u8 a.what, iv a.at_, str a.s, a.cv]
def dacells (l : List DAct) : List Value := l.flatMap dacell
/-- what is known of an act that came in -/
structure DActOk (w : World) (a : DAct) : Prop where
  what : 0 ≤ a.what ∧ a.what ≤ 255
  at_ : -9223372036854775808 ≤ a.at_ ∧ a.at_ ≤ 9223372036854775807
  s : a.s.length ≤ maxLen
  row : RowAt w a.cv 1 a.ch.length (ivs a.ch)
  chl : a.ch.length ≤ maxLen
  chw : ∀ x ∈ a.ch, -9223372036854775808 ≤ x ∧ x ≤ 9223372036854775807
theorem dacells_len : ∀ l, (dacells l).length = l.length * 4
  | [] => rfl
  | a :: l => by
    have := dacells_len l
    unfold dacells at this ⊢
    simp only [List.flatMap_cons, List.length_append, this, List.length_cons, dacell, List.length_nil]; omega
theorem dacells_at : ∀ {l : List DAct} {i : Nat} {a : DAct}, l[i]? = some a → (dacells l)[i * 4]? = some (.int .u8 a.what) ∧ (dacells l)[i * 4 + 1]? = some (iv a.at_) ∧ (dacells l)[i * 4 + 2]? = some (str a.s) ∧ (dacells l)[i * 4 + 3]? = some a.cv
  | [], i, p, h => by simp at h
  | q :: l, 0, p, h => by simp at h; subst h; exact ⟨rfl, rfl, rfl, rfl⟩
  | q :: l, i + 1, p, h => by
    have := dacells_at (l := l) (i := i) (by simpa using h)
    rw [show (i + 1) * 4 = i * 4 + 1 + 1 + 1 + 1 by omega]
    exact this
def fewD (l : List DAct) : Bool := (l.take 80).all (fun a => decide (a.s.length ≤ 200 ∧ a.ch.length ≤ 20)) && decide (l.length ≤ 70)
theorem fewD_spec {l : List DAct} (h : fewD l = true) : (∀ a ∈ l, a.s.length ≤ 200 ∧ a.ch.length ≤ 20) ∧ l.length ≤ 70 := by
  simp only [fewD, Bool.and_eq_true, List.all_eq_true, decide_eq_true_eq] at h
  refine ⟨fun a ha => h.1 a ?_, h.2⟩
  rw [List.take_of_length_le (by omega)]; exact ha
/-! ### run -/
def dstep (ds : List Slot) (a : DAct) : List Slot := if a.what % 6 = 3 then settled F64 ds else if a.what % 6 = 4 then settled (Fc a.ch) ds else if a.what % 6 = 5 then ds else (dwr ds a.at_ a.s).2
theorem dstep_len (ds : List Slot) (a : DAct) : (dstep ds a).length = ds.length := by
  unfold dstep
  split
  · exact settled_len _ _
  · split
    · exact settled_len _ _
    · split
      · rfl
      · exact dwr_len _ _ _
theorem dstep_ok {ds : List Slot} (h : Oks ds) (a : DAct) : Oks (dstep ds a) := by
  unfold dstep
  split
  · exact settled_ok h
  · split
    · exact settled_ok h
    · split
      · exact h
      · exact dwr_ok h _ _
def druns (ds : List Slot) (l : List DAct) : List Slot := l.foldl dstep ds
theorem druns_snoc (ds : List Slot) (l : List DAct) (a : DAct) : druns ds (l ++ [a]) = dstep (druns ds l) a := by simp [druns]
theorem druns_len (l : List DAct) : ∀ ds, (druns ds l).length = ds.length := by
  induction l with
  | nil => intro ds; rfl
  | cons a l ih => intro ds; exact (ih (dstep ds a)).trans (dstep_len ds a)
theorem druns_ok (l : List DAct) : ∀ ds, Oks ds → Oks (druns ds l) := by
  induction l with
  | nil => intro ds h; exact h
  | cons a l ih => intro ds h; exact ih _ (dstep_ok h a)
end Go.X
