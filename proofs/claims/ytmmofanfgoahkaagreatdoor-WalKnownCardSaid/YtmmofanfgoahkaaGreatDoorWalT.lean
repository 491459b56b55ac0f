/- WalKnown: the chapter's examples; logs that are none. -/
import Derived.Test.YtmmofanfgoahkaaGreatDoorZ31
import Derived.Test.YtmmofanfgoahkaaGreatDoorZ14
namespace Go.X
open Go Go.Proofs Go.RowKit
theorem lps_one_len (s : List UInt8) : (lps [s]).length = nd s.length := by rw [lps_one, gps_len]
theorem WR.small {n m at_ gen : Nat} {all : List (List UInt8)} {live : Bool} {y : Wa} {x : Ln} (h : WR n m at_ gen all live y x) : y.n = n ∧ (y.at_ = 0 ∨ y.at_ = 1) ∧ y.gen < 256 := ⟨h.yn, by rw [h.ya]; exact h.ws.two, by rw [h.yg]; exact h.ws.g0.2⟩
set_option maxHeartbeats 8000000 in
theorem walKnown_ok (w : World) : Fx Tryz.prog 5 [] w (Pure w (.bool true)) := by
  obtain ⟨ya, hya, hla⟩ : ∃ y, Lib.repeatL [120] 3655 = y ∧ y.length = 3655 := ⟨_, rfl, by rw [Lib.repeatL_length]; rfl⟩
  have hra : ∀ w, Fx Tryz.prog 35 [str [120], iv 3655] w (Pure w (str ya)) := fun w => by
    have := repeat_ok [120] 3655 w (by decide) (by decide)
    rw [hya] at this; exact this
  clear hya
  have hlb : (ya.drop 1).length = 3654 := by rw [List.length_drop, hla]
  have hnb : nd (ya.drop 1).length = 63 := by rw [hlb]; decide
  obtain ⟨g, x2, p2, q2, c2⟩ := make_free (n := 64) (m := 256) (by decide) (by decide) [97, 98] (by decide)
  have n2 : nd [97, 98].length = 1 := by decide
  have o2 := (p2 0).ws.opened (p2 0).up
  have a2 : x2.acts ≤ 200 := by omega
  obtain ⟨f3, x3, p3, q3, c3⟩ := cp_free o2 (by decide) [101, 102] (by decide) (by omega) (by decide)
  have n3 : nd [101, 102].length = 1 := by decide
  have l3 := lps_one_len [101, 102]
  have a3 : x3.acts ≤ 400 := by omega
  refine Fx.of (L0 := []) Tryz.func5 rfl (by kernel_rfl) Tryz.ntmps5 rfl (Owns.nil w) ?_
  refine go (k := ?_)
  refine XL.call [] [] rfl rfl rfl rfl rfl (fun _ w _ _ => dnew_ok 256 w (by decide) (by decide)) fun x _ => ?_
  obtain ⟨b, lv⟩ := x
  refine go (k := ?_)
  refine XL.call [0] [] rfl rfl rfl rfl rfl (fun _ w1 hs ho => lnew_ok b lv (List.replicate 256 slot0) (-1) _ [] w1 (rep_ok 256) (by rw [List.length_replicate]; decide) (by decide) (fun w' hk' => rdNil w') ho) fun x _ => ?_
  obtain ⟨bl, vc⟩ := x
  refine XL.nm (M := lnX bl b lv vc (-1) [] ⟨0, false, List.replicate 256 slot0⟩) ?_ rfl
  refine go (k := ?_)
  refine XL.call [0, 1, 2] [] rfl rfl rfl rfl rfl (fun _ w1 _ ho => open_none bl b lv vc (-1) [] ⟨0, false, List.replicate 256 slot0⟩ 64 256 0 w1 ⟨⟨rep_ok 256, List.length_replicate, Nat.le_refl _⟩, rep_inv 256⟩ (by decide) (by decide) (by decide) rfl wgen_fresh ho) fun _ _ => ?_
  refine XL.nm (M := lnX bl b lv vc (-1) [] ⟨0, false, List.replicate 256 slot0⟩) ?_ rfl
  refine go (k := ?_)
  refine XL.call [0, 1, 2] [] rfl rfl rfl rfl rfl (fun _ w1 _ ho => c2 bl b lv vc w1 ho) fun x _ => ?_
  obtain ⟨bw, bq⟩ := x
  refine XL.nm (M := waX bw bl b lv vc (-1) [] ⟨64, 0, 1, some (bq, g), false⟩ x2) ?_ rfl
  refine go (k := ?_)
  refine XL.q (.call rfl rfl fun _ w _ => works14_ok w) rfl ?_
  refine go (k := ?_)
  refine XL.call [2, 3, 4] [] rfl rfl rfl rfl rfl (fun _ w1 _ ho => open_ws (p2 0).ws (p2 0).up (by decide) (by decide) bl b lv vc (-1) [] w1 ho) fun x _ => ?_
  obtain ⟨bx, vx⟩ := x
  clear c2 p2
  refine XL.pk (M := waX bx bl b lv vc (-1) [] ⟨64, 0, 1, none, false⟩ x2) [0, 1, 2, 3, 4] (by decide) rfl ?_
  refine go (k := ?_)
  refine XL.call [0, 1, 2, 3, 4] [] rfl rfl rfl rfl rfl (fun _ w1 _ ho => state_wr (e := 17) bx bl b lv vc ⟨64, 0, 1, none, false⟩ x2 [120] w1 256 x2.acts (o2.ld (Nat.le_refl _)) (by omega) (by decide) (by decide) rfl rfl (by decide) ho) fun _ _ => ?_
  refine XL.nm (M := waX bx bl b lv vc (-1) [] ⟨64, 0, 1, none, false⟩ x2) ?_ rfl
  refine go (k := ?_)
  refine XL.q (.call (v := .bool false) rfl rfl fun _ w hs => wfits_ok bx bl b lv vc (-1) [] ⟨64, 0, 1, none, false⟩ x2 0 w (by decide) (fun b g h => by cases h) hs.own) rfl ?_
  refine go (k := ?_)
  refine XL.call [0, 1, 2, 3, 4] [] rfl rfl rfl rfl rfl (fun _ w1 _ ho => c3 bx bl b lv vc w1 ho) fun br _ => ?_
  have p3' := p3 br
  clear c3 p3 o2
  obtain ⟨y3, hy3⟩ : ∃ y3, y3 = f3 br := ⟨_, rfl⟩
  rw [← hy3] at p3'
  rw [← hy3]
  clear hy3
  refine XL.nm (M := waX bx bl b lv vc (-1) [] y3 x3) ?_ rfl
  obtain ⟨y4, x4, p4, q4, c4⟩ := commit_free p3' [103, 104] (by rw [l3]; decide) (by omega) (by decide)
  have n4 : nd [103, 104].length = 1 := by decide
  have a4 : x4.acts ≤ 600 := by omega
  refine go (k := ?_)
  refine XL.call [0, 1, 2, 3, 4] [] rfl rfl rfl rfl rfl (fun _ w1 _ ho => c4 bx bl b lv vc w1 ho) fun _ _ => ?_
  clear c4 p3'
  refine XL.nm (M := waX bx bl b lv vc (-1) [] y4 x4) ?_ rfl
  refine go (k := ?_)
  refine XL.make (.bslice rfl rfl rfl rfl rfl rfl) rfl fun _ _ hb => ?_
  obtain ⟨bs, rfl, rfl⟩ := hb
  refine go (k := ?_)
  refine XL.call [5] [1, 2, 3, 4] rfl rfl rfl rfl rfl (fun _ w1 hs ho => tells_ws p4.ws (by decide) (by decide) b lv _ w1 (fun w' hk' => ?_) ho) fun _ _ => ?_
  · exact row_beside (cs := [str [101, 102], str [103, 104]]) (t := 9) (D := [devE b lv x4.ds]) (hs.own.pick (is := [0, 5]) (by decide)) w' hk'
  refine XL.pk (M := waX bx bl b lv vc (-1) [] y4 x4) [1, 2, 3, 4, 0] (by decide) rfl ?_
  refine go (k := ?_)
  refine XL.call [] [0, 1, 2, 3, 4] rfl rfl rfl rfl rfl (fun _ w _ _ => hra w) fun _ _ => ?_
  refine XL.nm (M := waX bx bl b lv vc (-1) [] y4 x4) ?_ rfl
  refine go (k := ?_)
  obtain ⟨s1, s2, s3⟩ := p4.small
  refine XL.call [0, 1, 2, 3, 4] [] rfl rfl rfl rfl rfl (fun _ w1 _ ho => cp_not 7 bx bl b lv vc y4 x4 ya w1 256 x4.acts (p4.ld (Nat.le_refl _)) (by omega) (by decide) (by decide) (by omega) s2 (by omega) (by omega) (.inr ⟨p4.yb, by omega, rfl⟩) ho) fun _ _ => ?_
  refine XL.nm (M := waX bx bl b lv vc (-1) [] y4 x4) ?_ rfl
  refine go (k := ?_)
  refine XL.make (.bslice rfl rfl rfl rfl rfl rfl) rfl fun _ _ hb => ?_
  obtain ⟨bs, rfl, rfl⟩ := hb
  refine go (k := ?_)
  refine XL.call [5] [1, 2, 3, 4] rfl rfl rfl rfl rfl (fun _ w1 hs ho => tells_ws p4.ws (by decide) (by decide) b lv _ w1 (fun w' hk' => ?_) ho) fun _ _ => ?_
  · exact row_beside (cs := [str [101, 102], str [103, 104]]) (t := 9) (D := [devE b lv x4.ds]) (hs.own.pick (is := [0, 5]) (by decide)) w' hk'
  refine XL.pk (M := waX bx bl b lv vc (-1) [] y4 x4) [1, 2, 3, 4, 0] (by decide) rfl ?_
  refine go (k := ?_)
  obtain ⟨f5, x5, p5, q5, c5⟩ := cp_free p4 (by decide) (ya.drop 1) (by omega) (by omega) (by decide)
  have a5 : x5.acts ≤ 800 := by omega
  refine XL.call [0, 1, 2, 3, 4] [] rfl rfl rfl rfl rfl (fun _ w1 _ ho => c5 bx bl b lv vc w1 ho) fun br _ => ?_
  have p5' := p5 br
  clear c5 p5 p4 q4 q5
  obtain ⟨y5, hy5⟩ : ∃ y5, y5 = f5 br := ⟨_, rfl⟩
  rw [← hy5] at p5'
  rw [← hy5]
  clear hy5
  have l5 := lps_one_len (ya.drop 1)
  refine XL.nm (M := waX bx bl b lv vc (-1) [] y5 x5) ?_ rfl
  refine go (k := ?_)
  refine XL.q (.call (v := .bool false) rfl rfl fun _ w hs => by
    have := fits_wr p5' 0 (by decide) bx bl b lv vc (-1) [] w hs.own
    rw [decide_eq_false (by have : nd 0 = 1 := rfl; omega)] at this
    exact this) rfl ?_
  refine go (k := ?_)
  refine XL.q (.call (v := .bool false) rfl rfl fun _ w hs => by
    have := fitsneg_wr p5' (-1) (by decide) bx bl b lv vc (-1) [] w hs.own
    rw [decide_eq_false (by have : nd 0 = 1 := rfl; omega)] at this
    exact this) rfl ?_
  refine go (k := ?_)
  refine XL.call [0, 1, 2, 3, 4] [] rfl rfl rfl rfl rfl (fun _ w1 _ ho => full_wr p5' [] (by have : nd ([] : List UInt8).length = 1 := rfl; omega) (by decide) (by omega) (by decide) bx bl b lv vc w1 ho) fun _ _ => ?_
  refine XL.nm (M := waX bx bl b lv vc (-1) [] y5 x5) ?_ rfl
  refine go (k := ?_)
  refine XL.make (.bslice rfl rfl rfl rfl rfl rfl) rfl fun _ _ hb => ?_
  obtain ⟨bs, rfl, rfl⟩ := hb
  refine go (k := ?_)
  refine XL.call [5] [1, 2, 3, 4] rfl rfl rfl rfl rfl (fun _ w1 hs ho => tells_ws p5'.ws (by decide) (by decide) b lv _ w1 (fun w' hk' => ?_) ho) fun _ _ => ?_
  · exact row_beside (cs := [str (ya.drop 1)]) (t := 9) (D := [devE b lv x5.ds]) (hs.own.pick (is := [0, 5]) (by decide)) w' hk'
  refine XL.pk (M := waX bx bl b lv vc (-1) [] y5 x5) [1, 2, 3, 4, 0] (by decide) rfl ?_
  refine go (k := ?_)
  obtain ⟨f6, x6, p6, q6, c6⟩ := cp_free p5' (by decide) [] (by decide) (by omega) (by decide)
  have n6 : nd ([] : List UInt8).length = 1 := by decide
  have a6 : x6.acts ≤ 1000 := by omega
  refine XL.call [0, 1, 2, 3, 4] [] rfl rfl rfl rfl rfl (fun _ w1 _ ho => c6 bx bl b lv vc w1 ho) fun br _ => ?_
  have p6' := p6 br
  clear c6 p6 p5' q6
  obtain ⟨y6, hy6⟩ : ∃ y6, y6 = f6 br := ⟨_, rfl⟩
  rw [← hy6] at p6'
  rw [← hy6]
  clear hy6
  have l6 := lps_one_len []
  refine XL.nm (M := waX bx bl b lv vc (-1) [] y6 x6) ?_ rfl
  refine go (k := ?_)
  refine XL.q (.call (v := .bool true) rfl rfl fun _ w hs => by
    have := fits_wr p6' 3596 (by decide) bx bl b lv vc (-1) [] w hs.own
    rw [decide_eq_true (by have : nd 3596 = 62 := rfl; omega)] at this
    exact this) rfl ?_
  refine go (k := ?_)
  refine XL.q (.call (v := .bool false) rfl rfl fun _ w hs => by
    have := fits_wr p6' 3597 (by decide) bx bl b lv vc (-1) [] w hs.own
    rw [decide_eq_false (by have : nd 3597 = 63 := rfl; omega)] at this
    exact this) rfl ?_
  refine go (k := ?_)
  refine XL.make (.bslice rfl rfl rfl rfl rfl rfl) rfl fun _ _ hb => ?_
  obtain ⟨bs, rfl, rfl⟩ := hb
  refine go (k := ?_)
  refine XL.call [5] [1, 2, 3, 4] rfl rfl rfl rfl rfl (fun _ w1 hs ho => tells_ws p6'.ws (by decide) (by decide) b lv _ w1 (fun w' hk' => ?_) ho) fun _ _ => ?_
  · exact row_beside (cs := [str []]) (t := 9) (D := [devE b lv x6.ds]) (hs.own.pick (is := [0, 5]) (by decide)) w' hk'
  refine XL.pk (M := waX bx bl b lv vc (-1) [] y6 x6) [1, 2, 3, 4, 0] (by decide) rfl ?_
  refine go (k := ?_)
  refine XL.call [2, 3, 4] [0, 1] rfl rfl rfl rfl rfl (fun _ w1 _ ho => blow_still p6'.ws (by decide) bl b lv vc (-1) [] w1 (by decide) (fun a ha => by cases ha) ho) fun _ _ => ?_
  refine XL.pk (M := waX bx bl b lv vc (-1) [] y6 ⟨x6.acts, true, x6.ds⟩) [3, 4, 0, 1, 2] (by decide) rfl ?_
  refine go (k := ?_)
  have hld7 : LD 256 x6.acts ⟨x6.acts, true, x6.ds⟩ := ⟨⟨p6'.ws.oks, p6'.ws.len, Nat.le_refl _⟩, p6'.ws.inv⟩
  refine XL.call [2, 3, 4] [0, 1] rfl rfl rfl rfl rfl (fun _ w1 _ ho => open_down bl b lv vc (-1) [] ⟨x6.acts, true, x6.ds⟩ 64 256 x6.acts w1 hld7 (by decide) (by decide) (by decide) rfl ho) fun _ _ => ?_
  refine XL.pk (M := waX bx bl b lv vc (-1) [] y6 ⟨x6.acts, true, x6.ds⟩) [3, 4, 0, 1, 2] (by decide) rfl ?_
  refine go (k := ?_)
  refine XL.q (.call rfl rfl fun _ w _ => make_nil [] w) rfl ?_
  refine go (k := ?_)
  refine XL.call [4] [0, 1, 2, 3] rfl rfl rfl rfl rfl (fun _ w1 hs ho => lnew_ok b lv x6.ds (-1) _ [] w1 p6'.ws.oks (by rw [p6'.ws.len]; decide) (by decide) (fun w' hk' => rdNil w') ho) fun x _ => ?_
  obtain ⟨bl2, vc2⟩ := x
  refine XL.nm (M := lnX bl2 b lv vc2 (-1) [] ⟨0, false, x6.ds⟩ ++ [waB bx bl y6, grp (wrH bl y6.r), .blk bl (lnCs b (-1) vc x6.acts true) 91, .sl vc 3 1 (ivs [])]) ?_ rfl
  refine go (k := ?_)
  refine XL.call [0, 1, 2] [3, 4, 5, 6] rfl rfl rfl rfl rfl (fun _ w1 _ ho => make_full bl2 b lv vc2 (-1) [] ⟨0, false, x6.ds⟩ ya w1 p6'.ws.oks (by rw [p6'.ws.len]; decide) (by rw [p6'.ws.len]; decide) (by rw [p6'.ws.len, hla]; decide) ho) fun _ _ => ?_
  refine XL.pk (M := waX bx bl b lv vc (-1) [] y6 ⟨x6.acts, true, x6.ds⟩) [3, 4, 5, 6, 2] (by decide) rfl ?_
  refine go (k := ?_)
  refine XL.call [0, 1, 2, 3, 4] [] rfl rfl rfl rfl rfl (fun _ w1 _ ho => downs_wr p6' [120] (by have : nd [120].length = 1 := rfl; omega) (by decide) (by omega) (by decide) bx bl b lv vc w1 ho) fun _ _ => ?_
  obtain ⟨t1, t2, t3⟩ := p6'.small
  obtain ⟨y7, hy7⟩ : ∃ y7 : Wa, y7 = { y6 with r := none, broken := true } := ⟨_, rfl⟩
  have k1 : y7.r = none := by rw [hy7]
  have k2 : y7.broken = true := by rw [hy7]
  have k3 : y7.n = 64 := by rw [hy7]; exact t1
  have k4 : y7.at_ = 0 ∨ y7.at_ = 1 := by rw [hy7]; exact t2
  have k5 : y7.gen < 256 := by rw [hy7]; exact t3
  rw [← hy7]
  clear hy7
  refine XL.nm (M := waX bx bl b lv vc (-1) [] y7 ⟨x6.acts, true, x6.ds⟩) ?_ rfl
  refine go (k := ?_)
  refine XL.call [0, 1, 2, 3, 4] [] rfl rfl rfl rfl rfl (fun _ w1 _ ho => cp_not 17 bx bl b lv vc y7 ⟨x6.acts, true, x6.ds⟩ [120] w1 256 x6.acts hld7 (by omega) (by decide) (by decide) (by omega) k4 (by omega) (by decide) (.inl ⟨k2, rfl⟩) ho) fun _ _ => ?_
  refine XL.nm (M := waX bx bl b lv vc (-1) [] y7 ⟨x6.acts, true, x6.ds⟩) ?_ rfl
  refine go (k := ?_)
  refine XL.call [0, 1, 2, 3, 4] [] rfl rfl rfl rfl rfl (fun _ w1 _ ho => state_wr (e := 17) bx bl b lv vc y7 ⟨x6.acts, true, x6.ds⟩ [120] w1 256 x6.acts hld7 (by omega) (by decide) (by decide) k1 rfl (by decide) ho) fun _ _ => ?_
  refine XL.pk (M := [devE b lv x6.ds]) [4] (by decide) rfl ?_
  refine go (k := ?_)
  refine XL.box (zs := wzCs) rfl rfl rfl fun bz => ?_
  refine go (k := ?_)
  refine XL.make (.bslice rfl rfl rfl rfl rfl rfl) rfl fun _ _ hb => ?_
  obtain ⟨bs, rfl, rfl⟩ := hb
  refine go (k := ?_)
  refine XL.call [2] [1] rfl rfl rfl rfl rfl (fun _ w1 hs ho => tells_ws p6'.ws (by decide) (by decide) b lv _ w1 (fun w' hk' => ?_) ho) fun _ _ => ?_
  · exact row_beside (cs := [str []]) (t := 9) (D := [devE b lv x6.ds]) (hs.own.pick (is := [0, 2]) (by decide)) w' hk'
  refine go (k := ?_)
  refine XL.call [] [1] rfl rfl rfl rfl rfl (fun _ w1 _ ho => wcommit_nil [] w1) fun _ _ => ?_
  refine XL.nm (M := [.blk bz wzCs 78]) ?_ rfl
  refine go (k := ?_)
  refine XL.q (.call rfl rfl fun _ w hs => wcp_zero bz [] _ _ w (hs.own.ok _ (.head _))) rfl ?_
  refine go (k := ?_)
  refine XL.q (.call rfl rfl fun _ w _ => wgen_nil w) rfl ?_
  refine go (k := ?_)
  refine XL.q (.call rfl rfl fun _ w hs => wroom_zero bz _ _ w (hs.own.ok _ (.head _))) rfl ?_
  refine go (k := ?_)
  refine XL.q (.call rfl rfl fun _ w _ => wfits_nil 0 w) rfl ?_
  refine go (k := ?_)
  refine XL.q (.call rfl rfl fun _ w _ => works14_ok w) rfl ?_
  refine go (k := ?_)
  exact XE.ret1 () [] rfl rfl trivial rfl rfl rfl
end Go.X
