/- RegionKnown. -/
import Derived.Test.YtmmofanfgoahkaaDoorRegM
namespace Go.X
open Go Go.Proofs Go.RowKit
/-- a region in good order, over a line that nothing has cut -/
structure RSt (a n m : Nat) (all : List (List UInt8)) (gen : Nat) (g : Rg) (x : Ln) : Prop where
  rg : RgOk a n (lps all) g
  up : x.down = false
  log : ∃ F, LG a n (lps all) (lps all).length F gen gen x.ds
  len : x.ds.length = m
section
variable {a n m : Nat} {all : List (List UInt8)} {gen : Nat} {g : Rg} {x : Ln}
theorem RSt.append (h : RSt a n m all gen g x) (s : List UInt8) (hr : nd s.length + 1 + (lps all).length ≤ n) : ∃ g' x', g.append (-1) [] s x = (0, g', x') ∧ RSt a n m (all ++ [s]) gen g' x' ∧ x'.acts = x.acts + nd s.length ∧ SameS a n x.ds x'.ds := by
  obtain ⟨F, hl⟩ := h.log
  obtain ⟨ds', h1, h2, h3⟩ := append_free s h.rg h.up hl hr
  refine ⟨_, _, h1, ⟨⟨h.rg.at_, h.rg.n, ?_, h.rg.ok⟩, rfl, ⟨F, ?_⟩, h3.len.trans h.len⟩, rfl, h3⟩
  · simp only; rw [lps_snoc, List.length_append, gps_len]
  · rw [lps_snoc]; exact h2
theorem RSt.full (h : RSt a n m all gen g x) (s : List UInt8) (hr : n < nd s.length + 1 + (lps all).length) : g.append (-1) [] s x = (7, g, x) := by
  unfold Rg.append
  rw [if_neg (by rw [h.rg.ok]; decide), if_pos (by rw [h.rg.n, h.rg.used]; exact hr)]
theorem RSt.flush (h : RSt a n m all gen g x) : ∃ x', g.flush (-1) [] x = (0, g, x') ∧ RSt a n m all gen g x' ∧ x'.acts = x.acts + 1 ∧ SameS a n x.ds x'.ds := by
  obtain ⟨F, hl⟩ := h.log
  obtain ⟨ds', h1, h2, h3⟩ := flush_free h.rg.ok h.up hl
  exact ⟨_, h1, ⟨h.rg, rfl, ⟨_, h2⟩, h3.len.trans h.len⟩, rfl, h3⟩
theorem RSt.sealG (h : RSt a n m all gen g x) (v : Nat) (hv : v ≠ 0) : ∃ x', g.sealG (-1) [] v x = (0, g, x') ∧ RSt a n m all v g x' ∧ x'.acts = x.acts + 2 ∧ SameS a n x.ds x'.ds := by
  obtain ⟨F, hl⟩ := h.log
  obtain ⟨ds', h1, h2, h3⟩ := seal_free v hv h.rg h.up hl
  exact ⟨_, h1, ⟨h.rg, rfl, ⟨_, h2⟩, h3.len.trans h.len⟩, rfl, h3⟩
theorem RSt.li (h : RSt a n m all gen g x) {k : Nat} (hk : x.acts ≤ k) : LI m k x := by
  obtain ⟨F, hl⟩ := h.log
  exact hl.li h.len hk
theorem RSt.oks (h : RSt a n m all gen g x) : Oks x.ds := by
  obtain ⟨F, hl⟩ := h.log
  exact hl.oks
theorem RSt.reg (h : RSt a n m all gen g x) (hn : n ≤ 65536) (ha : a ≤ 100000) : g.n ≤ 65536 ∧ g.used < g.n ∧ g.at_ ≤ 100000 := by
  obtain ⟨F, hl⟩ := h.log
  have := hl.room
  rw [h.rg.n, h.rg.used, h.rg.at_]; exact ⟨hn, this, ha⟩
theorem RSt.tells (h : RSt a n m all gen g x) (hn : n ≤ 65536) (hn2 : 2 ≤ n) (hg : gen < 4294967296) : (rtell (rblks x.ds a n)).gen = gen ∧ (rtell (rblks x.ds a n)).groups = all := by
  obtain ⟨F, hl⟩ := h.log
  exact hl.tells hn hn2 hg
theorem RSt.blk (h : RSt a n m all gen g x) {i : Nat} (h1 : 1 ≤ i) (h2 : i ≤ (lps all).length) : ∃ s, x.ds[a + i]? = some s ∧ s.read = lbk (lps all) i := by
  obtain ⟨F, hl⟩ := h.log
  obtain ⟨s, g1, g2, _⟩ := hl.wr i h1 h2
  exact ⟨s, g1, g2⟩
end
theorem fmt_rst {a n m : Nat} (h2 : 2 ≤ n) (hl : a + n ≤ m) : ∃ D, fmt (-1) [] a n ⟨0, false, List.replicate m slot0⟩ = (0, ⟨n + 1, false, D⟩) ∧ RSt a n m [] 0 ⟨a, n, 0, false⟩ ⟨n + 1, false, D⟩ := by
  obtain ⟨D, h1, h3, h4⟩ := fmt_free h2 hl
  exact ⟨D, h1, ⟨rfl, rfl, rfl, rfl⟩, rfl, ⟨0, h3⟩, h4⟩
theorem tells_run (bl b : Nat) (lv vc : Value) (cut : Int) (ch : List Int) {g : Rg} (x : Ln) (gen : Nat) (all : List (List UInt8)) (u : Value) (w : World) (h : RSt 64 64 256 all gen g x) (hg : gen < 4294967296) (hu : RowAt w u 1 all.length (gstrs all)) (ho : Owns w (lnX bl b lv vc cut ch x)) :
    Fx Tryd.prog 12 [ptr bl, .int .u32 gen, u] w (Pure w (.bool true)) := by
  obtain ⟨h1, h2⟩ := h.tells (by decide) (by decide) hg
  exact tells13_ok bl b lv vc cut ch x gen all u w h.oks h.len h.up h1 h2 hu ho
set_option maxHeartbeats 4000000 in
theorem regionKnown_ok (w : World) : Fx Tryd.prog 3 [] w (Pure w (.bool true)) := by
  obtain ⟨xl, hxl, hxn⟩ : ∃ y, Lib.repeatL [120] 59 = y ∧ y.length = 59 := ⟨_, rfl, by rw [Lib.repeatL_length]; rfl⟩
  obtain ⟨yl, hyl, hyn⟩ : ∃ y, Lib.repeatL [121] 3480 = y ∧ y.length = 3480 := ⟨_, rfl, by rw [Lib.repeatL_length]; rfl⟩
  obtain ⟨zl, hzl, hzn⟩ : ∃ y, Lib.repeatL [121] 3481 = y ∧ y.length = 3481 := ⟨_, rfl, by rw [Lib.repeatL_length]; rfl⟩
  have rx : ∀ w, Fx Tryd.prog 10 [str [120], iv 59] w (Pure w (str xl)) := fun w => by
    have := repeat_ok [120] 59 w (by decide) (by decide); rw [hxl] at this; exact this
  have ry : ∀ w, Fx Tryd.prog 10 [str [121], iv 3480] w (Pure w (str yl)) := fun w => by
    have := repeat_ok [121] 3480 w (by decide) (by decide); rw [hyl] at this; exact this
  have rz : ∀ w, Fx Tryd.prog 10 [str [121], iv 3481] w (Pure w (str zl)) := fun w => by
    have := repeat_ok [121] 3481 w (by decide) (by decide); rw [hzl] at this; exact this
  clear hxl hyl hzl
  have n1 : nd xl.length = 2 := by rw [hxn]; rfl
  have n2 : nd yl.length = 60 := by rw [hyn]; rfl
  have n3 : nd zl.length = 61 := by rw [hzn]; rfl
  obtain ⟨D1, f1, s1⟩ := fmt_rst (a := 64) (n := 64) (m := 256) (by decide) (by decide)
  have p1 : (lps ([] : List (List UInt8))).length = 0 := rfl
  obtain ⟨g2, x2, a2, s2, t2, _⟩ := s1.append [97, 98] (by decide)
  have p2 : (lps ([] ++ [[97, 98]])).length = 1 := by rw [lps_snoc, List.length_append, gps_len]; rfl
  obtain ⟨g3, x3, a3, s3, t3, _⟩ := s2.append xl (by omega)
  have p3 : (lps ([] ++ [[97, 98]] ++ [xl])).length = 3 := by rw [lps_snoc, List.length_append, gps_len, p2, n1]
  obtain ⟨x4, a4, s4, t4, _⟩ := s3.sealG 7 (by decide)
  have a5 := s4.full zl (by omega)
  obtain ⟨g6, x6, a6, s6, t6, _⟩ := s4.append yl (by omega)
  have p6 : (lps ([] ++ [[97, 98]] ++ [xl] ++ [yl])).length = 63 := by rw [lps_snoc, List.length_append, gps_len, p3, n2]
  have a7 := s6.full [] (by rw [p6]; decide)
  rw [n1] at t3
  rw [n2] at t6
  replace t2 : x2.acts = 66 := t2
  obtain ⟨s65, b65, c65⟩ := s3.blk (i := 1) (by decide) (by omega)
  have e65 : s65.read = rblk 1 1 [97, 98] := by
    rw [c65, lps_snoc, lbk_app (by decide) (by omega)]
    decide +kernel
  have e65a : (rblk 1 1 [97, 98]).take 6 = [0, 1, 1, 2, 97, 98] := by decide +kernel
  have e65b : (rblk 1 1 [97, 98]).drop 62 = [0, 1] := by decide +kernel
  have e65c : (rblk 1 1 [97, 98]).length = 64 := by decide +kernel
  rw [← e65] at e65a e65b e65c
  clear e65 c65
  obtain ⟨d65, he65⟩ : ∃ d, s65.read = d := ⟨_, rfl⟩
  have rd65 : ∀ (b : Nat) (lv : Value) (w : World), Owns w (devG b lv x3.ds) → Fx Tryd.prog 15 [ptr b, iv (65 : Nat)] w (Pure w (.tuple #[str d65, iv 0])) := fun b lv w ho => by
    have := read_ok b lv x3.ds 65 s65 w s3.oks b65 ho
    rw [he65] at this; exact this
  rw [he65] at e65a e65b e65c
  clear b65 he65 s65
  have q65a : ¬ ¬ List.take (5 + 1) d65 = [0, 1, 1, 2, 97, 98] := fun h => h e65a
  have q65b : ¬ ¬ List.drop (61 + 1) d65 = [0, 1] := fun h => h e65b
  have q65c : ¬ ¬ List.drop 62 d65 = [0, 1] := fun h => h e65b
  have u3 : g3.used = 3 := s3.rg.used.trans p3
  have u3n : g3.n = 64 := s3.rg.n
  have u6 : g6.used = 63 := s6.rg.used.trans p6
  have u6n : g6.n = 64 := s6.rg.n
  have ok6 : g6.broken = false := s6.rg.ok
  have b8 : x6.down = false := s6.up
  obtain ⟨y6, hy6⟩ : ∃ y : Ln, y = ⟨x6.acts, true, blown [] x6.down x6.ds⟩ := ⟨_, rfl⟩
  have oy : LI 256 200 y6 := by
    rw [hy6]; refine ⟨?_, ?_, by simp only; omega⟩
    · simp only [blown, b8]; exact settled_ok s6.oks
    · simp only [blown, b8]; exact (settled_len _ _).trans s6.len
  have a9 : g6.flush (-1) [] y6 = (8, { g6 with broken := true }, y6) := by
    unfold Rg.flush; rw [if_neg (by rw [ok6]; decide)]
    unfold Ln.flush; rw [act_down (by rw [hy6])]; simp [Rg.did]
  have a10 : ({ g6 with broken := true } : Rg).flush (-1) [] y6 = (17, { g6 with broken := true }, y6) := by unfold Rg.flush; rw [if_pos rfl]
  have a11 : ({ g6 with broken := true } : Rg).sealG (-1) [] 1 y6 = (17, { g6 with broken := true }, y6) := by unfold Rg.sealG; rw [if_neg (by decide), if_pos rfl]
  have a8 : g6.sealG (-1) [] 0 x6 = (2, g6, x6) := by unfold Rg.sealG; rw [if_pos rfl]
  replace f1 := Hold.mk f1; replace a2 := Hold.mk a2; replace a3 := Hold.mk a3; replace a4 := Hold.mk a4; replace a5 := Hold.mk a5; replace a6 := Hold.mk a6; replace a7 := Hold.mk a7; replace a8 := Hold.mk a8; replace a9 := Hold.mk a9; replace a10 := Hold.mk a10; replace a11 := Hold.mk a11
  replace hy6 := Hold.mk hy6
  have ad1 : 64 + 1 ≤ 200 := by decide
  have ad2 : x2.acts ≤ 200 := by omega
  have ad3 : x3.acts ≤ 200 := by omega
  have ad4 : x4.acts ≤ 200 := by omega
  have ad6 : x6.acts ≤ 200 := by omega
  clear p1 p2 p3 p6 t2 t3 t4 t6
  refine Fx.of (L0 := []) Tryd.func3 rfl (by kernel_rfl) Tryd.ntmps3 rfl (Owns.nil w) ?_
  refine go (k := ?_)
  refine XL.call [] [] rfl rfl rfl rfl rfl (fun _ w _ _ => dnew_ok 256 w (by decide) (by decide)) fun x _ => ?_
  obtain ⟨b, lv⟩ := x
  refine go (k := ?_)
  refine XL.call [0] [] rfl rfl rfl rfl rfl (fun _ w1 hs ho => lnew_ok b lv (List.replicate 256 slot0) (-1) _ [] w1 (rep_ok 256) (by rw [List.length_replicate]; decide) (by decide) (fun w' hk' => rdNil w') ho) fun x _ => ?_
  obtain ⟨bl, vc⟩ := x
  refine XL.nm (M := lnX bl b lv vc (-1) [] ⟨0, false, List.replicate 256 slot0⟩) ?_ rfl
  refine go (k := ?_)
  refine XL.call [0, 1, 2] [] rfl rfl rfl rfl rfl (fun _ w _ ho => format_run bl b lv vc (-1) [] ⟨0, false, List.replicate 256 slot0⟩ ⟨64 + 1, false, D1⟩ 64 64 256 w f1.out ⟨rep_ok 256, List.length_replicate, Nat.zero_le _⟩ (by decide) (by decide) (thr_0 (by decide) (by decide) (by decide)) (by decide) (by decide) (fun a ha => by cases ha) ho) fun br _ => ?_
  refine XL.nm (M := rgX br bl b lv vc (-1) [] ⟨64, 64, 0, false⟩ ⟨64 + 1, false, D1⟩) ?_ rfl
  refine go (k := ?_)
  refine XL.q (.call rfl rfl fun _ w _ => rx w) rfl ?_
  refine go (k := ?_)
  refine XL.q (.call rfl rfl fun _ w _ => needs_ok 0 w (by decide)) rfl ?_
  refine go (k := ?_)
  refine XL.q (.call rfl rfl fun _ w _ => needs_ok 58 w (by decide)) rfl ?_
  refine go (k := ?_)
  refine XL.q (.call rfl rfl fun _ w _ => needs_neg (-5) w (by decide)) rfl ?_
  refine go (k := ?_)
  refine XL.q (.call rfl rfl fun _ w hs => tells_run bl b lv vc (-1) [] _ 0 [] _ w s1 (by decide) (gsNil w) (hs.own.pick (is := [1, 2, 3]) (by decide))) rfl ?_
  refine go (k := ?_)
  refine XL.call [0, 1, 2, 3] [] rfl rfl rfl rfl rfl (fun _ w _ ho => rappend_run br bl b lv vc (-1) [] _ _ _ _ [97, 98] 0 256 w a2.out (s1.li (show (65 : Nat) ≤ _ by decide)) (by decide) (by decide) (by decide) (s1.reg (by decide) (by decide)) (by decide) (fun a ha => by cases ha) ho) fun _ _ => ?_
  refine XL.nm (M := rgX br bl b lv vc (-1) [] g2 x2) ?_ rfl
  refine go (k := ?_)
  refine XL.call [0, 1, 2, 3] [] rfl rfl rfl rfl rfl (fun _ w _ ho => rappend_run br bl b lv vc (-1) [] _ _ _ _ xl 0 256 w a3.out (s2.li (by omega)) (by decide) (by decide) (by omega) (s2.reg (by decide) (by decide)) (by decide) (fun a ha => by cases ha) ho) fun _ _ => ?_
  refine XL.nm (M := rgX br bl b lv vc (-1) [] g3 x3) ?_ rfl
  refine go (k := ?_)
  refine XL.q (.call (v := iv 60) rfl rfl fun _ w hs => by
    have := left_at br bl g3 _ _ w ⟨by omega, by omega⟩ (hs.own.ok _ (.head _))
    rw [u3, u3n] at this; exact this) rfl ?_
  refine go (k := ?_)
  refine XL.make (.bslice rfl rfl rfl rfl rfl rfl) rfl fun _ _ hb => ?_
  obtain ⟨bs, rfl, rfl⟩ := hb
  refine XL.nm (M := [.blk bs [str [97, 98], str xl] 9] ++ rgX br bl b lv vc (-1) [] g3 x3) ?_ rfl
  refine go (k := ?_)
  refine XL.q (.call rfl rfl fun _ w hs => tells_run bl b lv vc (-1) [] _ 0 ([] ++ [[97, 98]] ++ [xl]) _ w s3 (by decide) ((Rd.blk (.head _) rfl (Nat.le_refl _) rfl : Rd _ _ _ _ 1 2 (gstrs [[97, 98], xl])) w hs.own hs.kept) (hs.own.pick (is := [2, 3, 4]) (by decide))) rfl ?_
  refine XL.pk (M := rgX br bl b lv vc (-1) [] g3 x3) [1, 2, 3, 4] (by decide) rfl ?_
  refine go (k := ?_)
  refine XL.q (.call rfl rfl fun _ w hs => rd65 b lv w (hs.own.grp (.tail _ (.tail _ (.tail _ (.head _)))))) rfl ?_
  refine go (k := ?_)
  refine XL.call [0, 1, 2, 3] [] rfl rfl rfl rfl rfl (fun _ w _ ho => rseal_run br bl b lv vc (-1) [] _ _ _ _ 0 7 256 w a4.out (s3.li (by omega)) (by decide) (by decide) (by decide) (by decide) (fun a ha => by cases ha) ho) fun _ _ => ?_
  refine XL.nm (M := rgX br bl b lv vc (-1) [] g3 x4) ?_ rfl
  refine go (k := ?_)
  refine XL.make (.bslice rfl rfl rfl rfl rfl rfl) rfl fun _ _ hb => ?_
  obtain ⟨bs, rfl, rfl⟩ := hb
  refine XL.nm (M := [.blk bs [str [97, 98], str xl] 9] ++ rgX br bl b lv vc (-1) [] g3 x4) ?_ rfl
  refine go (k := ?_)
  refine XL.q (.call rfl rfl fun _ w hs => tells_run bl b lv vc (-1) [] _ 7 ([] ++ [[97, 98]] ++ [xl]) _ w s4 (by decide) ((Rd.blk (.head _) rfl (Nat.le_refl _) rfl : Rd _ _ _ _ 1 2 (gstrs [[97, 98], xl])) w hs.own hs.kept) (hs.own.pick (is := [2, 3, 4]) (by decide))) rfl ?_
  refine XL.pk (M := rgX br bl b lv vc (-1) [] g3 x4) [1, 2, 3, 4] (by decide) rfl ?_
  refine go (k := ?_)
  refine XL.q (.call rfl rfl fun _ w _ => rz w) rfl ?_
  refine go (k := ?_)
  refine XL.call [0, 1, 2, 3] [] rfl rfl rfl rfl rfl (fun _ w _ ho => rappend_run br bl b lv vc (-1) [] _ _ _ _ zl 7 256 w a5.out (s4.li (by omega)) (by decide) (by decide) (by omega) (s4.reg (by decide) (by decide)) (by decide) (fun a ha => by cases ha) ho) fun _ _ => ?_
  refine XL.nm (M := rgX br bl b lv vc (-1) [] g3 x4) ?_ rfl
  refine go (k := ?_)
  refine XL.q (.call rfl rfl fun _ w _ => ry w) rfl ?_
  refine go (k := ?_)
  refine XL.call [0, 1, 2, 3] [] rfl rfl rfl rfl rfl (fun _ w _ ho => rappend_run br bl b lv vc (-1) [] _ _ _ _ yl 0 256 w a6.out (s4.li (by omega)) (by decide) (by decide) (by omega) (s4.reg (by decide) (by decide)) (by decide) (fun a ha => by cases ha) ho) fun _ _ => ?_
  refine XL.nm (M := rgX br bl b lv vc (-1) [] g6 x6) ?_ rfl
  refine go (k := ?_)
  refine XL.q (.call (v := iv 0) rfl rfl fun _ w hs => by
    have := left_at br bl g6 _ _ w ⟨by omega, by omega⟩ (hs.own.ok _ (.head _))
    rw [u6, u6n] at this; exact this) rfl ?_
  refine go (k := ?_)
  refine XL.call [0, 1, 2, 3] [] rfl rfl rfl rfl rfl (fun _ w _ ho => rappend_run br bl b lv vc (-1) [] _ _ _ _ [] 7 256 w a7.out (s6.li (by omega)) (by decide) (by decide) (by decide) (s6.reg (by decide) (by decide)) (by decide) (fun a ha => by cases ha) ho) fun _ _ => ?_
  refine XL.nm (M := rgX br bl b lv vc (-1) [] g6 x6) ?_ rfl
  refine go (k := ?_)
  refine XL.call [0, 1, 2, 3] [] rfl rfl rfl rfl rfl (fun _ w _ ho => rseal_run br bl b lv vc (-1) [] _ _ _ _ 2 0 256 w a8.out (s6.li (by omega)) (by decide) (by decide) (by decide) (by decide) (fun a ha => by cases ha) ho) fun _ _ => ?_
  refine XL.nm (M := rgX br bl b lv vc (-1) [] g6 x6) ?_ rfl
  have hl6 := s6.len
  refine go (k := ?_)
  refine XL.q (.call (v := .tuple #[.pointer none, iv 2]) rfl rfl fun _ w hs => by
    have := format_bad bl b lv vc (-1) [] x6 0 1 w s6.oks (by omega) (by rw [hl6]; decide) (hs.own.pick (is := [1, 2, 3]) (by decide))
    rw [hl6] at this; exact this) rfl ?_
  refine go (k := ?_)
  refine XL.q (.call (v := .tuple #[.pointer none, iv 2]) rfl rfl fun _ w hs => by
    have := format_bad bl b lv vc (-1) [] x6 200 64 w s6.oks (by omega) (by rw [hl6]; decide) (hs.own.pick (is := [1, 2, 3]) (by decide))
    rw [hl6] at this; exact this) rfl ?_
  refine go (k := ?_)
  refine XL.q (.call rfl rfl fun _ w _ => format_nil 0 64 w) rfl ?_
  refine go (k := ?_)
  refine XL.q (.call (v := .tuple #[.int .u32 0, .slice none 0 0, iv 2]) rfl rfl fun _ w hs => by
    have := rread_bad bl b lv vc (-1) [] x6 (-1) 64 w s6.oks (by omega) (by rw [hl6]; decide) (hs.own.pick (is := [1, 2, 3]) (by decide))
    rw [hl6] at this; exact this) rfl ?_
  refine go (k := ?_)
  refine XL.q (.call rfl rfl fun _ w _ => rread_nil 0 64 w) rfl ?_
  refine go (k := ?_)
  refine XL.q (.call rfl rfl fun _ w _ => ry w) rfl ?_
  refine go (k := ?_)
  refine XL.make (.bslice rfl rfl rfl rfl rfl rfl) rfl fun _ _ hb => ?_
  obtain ⟨bs, rfl, rfl⟩ := hb
  refine XL.nm (M := [.blk bs [str [97, 98], str xl, str yl] 9] ++ rgX br bl b lv vc (-1) [] g6 x6) ?_ rfl
  refine go (k := ?_)
  refine XL.q (.call rfl rfl fun _ w hs => tells_run bl b lv vc (-1) [] _ 7 ([] ++ [[97, 98]] ++ [xl] ++ [yl]) _ w s6 (by decide) ((Rd.blk (.head _) rfl (Nat.le_refl _) rfl : Rd _ _ _ _ 1 3 (gstrs [[97, 98], xl, yl])) w hs.own hs.kept) (hs.own.pick (is := [2, 3, 4]) (by decide))) rfl ?_
  refine XL.pk (M := lnX bl b lv vc (-1) [] x6 ++ [rgB br bl g6]) [2, 3, 4, 1] (by decide) rfl ?_
  refine go (k := ?_)
  refine XL.call [0, 1, 2] [3] rfl rfl rfl rfl rfl (fun _ w _ ho => blow_ok bl b lv vc (-1) [] x6.acts x6.down x6.ds w s6.oks (by omega) (by decide) (fun a ha => by cases ha) ho) fun _ _ => ?_
  refine XL.pk (M := rgX br bl b lv vc (-1) [] g6 y6) [3, 0, 1, 2] (by decide) (by rw [hy6.out]; rfl) ?_
  refine go (k := ?_)
  refine XL.box (zs := rg0Cs) rfl rfl rfl fun bz => ?_
  refine XL.pk (M := rgX br bl b lv vc (-1) [] g6 y6 ++ [.blk bz rg0Cs 43]) [1, 2, 3, 4, 0] (by decide) rfl ?_
  refine go (k := ?_)
  refine XL.call [0, 1, 2, 3] [4] rfl rfl rfl rfl rfl (fun _ w _ ho => rflush_run br bl b lv vc (-1) [] _ _ _ _ 8 256 w a9.out ⟨oy.ok, oy.len, by have := oy.acts; omega⟩ (by decide) (by decide) (fun a ha => by cases ha) ho) fun _ _ => ?_
  refine XL.nm (M := rgX br bl b lv vc (-1) [] { g6 with broken := true } y6 ++ [.blk bz rg0Cs 43]) ?_ rfl
  refine go (k := ?_)
  refine XL.call [0, 1, 2, 3] [4] rfl rfl rfl rfl rfl (fun _ w _ ho => rflush_run br bl b lv vc (-1) [] _ _ _ _ 17 256 w a10.out ⟨oy.ok, oy.len, by have := oy.acts; omega⟩ (by decide) (by decide) (fun a ha => by cases ha) ho) fun _ _ => ?_
  refine XL.nm (M := rgX br bl b lv vc (-1) [] { g6 with broken := true } y6 ++ [.blk bz rg0Cs 43]) ?_ rfl
  refine go (k := ?_)
  refine XL.call [0, 1, 2, 3] [4] rfl rfl rfl rfl rfl (fun _ w _ ho => rseal_run br bl b lv vc (-1) [] _ _ _ _ 17 1 256 w a11.out ⟨oy.ok, oy.len, by have := oy.acts; omega⟩ (by decide) (by decide) (by decide) (by decide) (fun a ha => by cases ha) ho) fun _ _ => ?_
  refine XL.nm (M := rgX br bl b lv vc (-1) [] { g6 with broken := true } y6 ++ [.blk bz rg0Cs 43]) ?_ rfl
  refine go (k := ?_)
  refine XL.q (.call rfl rfl fun _ w _ => rappend_nil [] w) rfl ?_
  refine go (k := ?_)
  refine XL.q (.call rfl rfl fun _ w hs => rflush_zero bz _ _ w (hs.own.ok _ (.tail _ (.tail _ (.tail _ (.tail _ (.head _))))))) rfl ?_
  refine go (k := ?_)
  refine XL.q (.call rfl rfl fun _ w _ => rseal_nil 0 w) rfl ?_
  refine go (k := ?_)
  refine XL.q (.call rfl rfl fun _ w _ => left_nil w) rfl ?_
  refine go (k := ?_)
  refine XL.q (.call rfl rfl fun _ w hs => left_zero bz _ _ w (hs.own.ok _ (.tail _ (.tail _ (.tail _ (.tail _ (.head _))))))) rfl ?_
  refine go (k := ?_)
  refine XL.q (.call rfl rfl fun _ w _ => awake13_ok w) rfl ?_
  refine go (k := ?_)
  exact XE.ret1 () [] rfl rfl trivial rfl rfl rfl
end Go.X
