/- Package wal: logs that are none, lines that are down; revertlaw14: with, same, did. -/
import Derived.Test.YtmmofanfgoahkaaGreatDoorZ30
namespace Go.X
open Go Go.Proofs Go.RowKit
/-! ### logs that are none -/
abbrev wzCs : List Value := [.pointer none, iv 0, iv 0, .int .u32 0, .pointer none, .bool false]
theorem wis_nil (w : World) : Fx Tryz.prog 66 [.pointer none] w (Pure w (.bool false)) := by
  refine Fx.of (L0 := []) Tryz.func66 rfl (by kernel_rfl) Tryz.ntmps66 rfl (Owns.nil w) ?_
  refine go (k := ?_)
  exact XE.ret1 () [] rfl rfl trivial rfl rfl rfl
theorem wis_zero (bw : Nat) (t : TypeId) (fz : Nat × Nat) (w : World) (hb : w.heap[bw]? = some (.cells wzCs.toArray t fz)) : Fx Tryz.prog 66 [ptr bw] w (Pure w (.bool false)) := by
  have hB : bw ∉ ids ([] : Heap) := by simp [X.ids]
  have h0 : wzCs[0 + 0]? = some (.pointer none) := rfl
  refine Fx.of (L0 := []) Tryz.func66 rfl (by kernel_rfl) Tryz.ntmps66 rfl (Owns.nil w) ?_
  refine go (k := ?_)
  exact XE.ret1 () [] rfl rfl trivial rfl rfl rfl
theorem wgen_nil (w : World) : Fx Tryz.prog 30 [.pointer none] w (Pure w (.int .u32 0)) := by
  refine Fx.of (L0 := []) Tryz.func30 rfl (by kernel_rfl) Tryz.ntmps30 rfl (Owns.nil w) ?_
  refine go (k := ?_)
  refine XL.q (.call rfl rfl fun _ w _ => wis_nil w) rfl ?_
  refine go (k := ?_)
  exact XE.ret1 () [] rfl rfl trivial rfl rfl rfl
theorem wfits_nil (n : Int) (w : World) : Fx Tryz.prog 33 [.pointer none, iv n] w (Pure w (.bool false)) := by
  refine Fx.of (L0 := []) Tryz.func33 rfl (by kernel_rfl) Tryz.ntmps33 rfl (Owns.nil w) ?_
  refine go (k := ?_)
  refine XD.q (.call rfl rfl fun _ w _ => wis_nil w) rfl ?_
  refine go (k := ?_)
  exact XE.ret1 () [] rfl rfl trivial rfl rfl rfl
theorem wroom_zero (bw : Nat) (t : TypeId) (fz : Nat × Nat) (w : World) (hb : w.heap[bw]? = some (.cells wzCs.toArray t fz)) : Fx Tryz.prog 36 [ptr bw] w (Pure w (iv 0)) := by
  refine Fx.of (L0 := []) Tryz.func36 rfl (by kernel_rfl) Tryz.ntmps36 rfl (Owns.nil w) ?_
  refine go (k := ?_)
  refine XL.q (.call rfl rfl fun _ w' hs => wis_zero bw t fz w' ((hs.kept.same bw (Array.getElem?_eq_some_iff.1 hb).1 (by simp [X.ids])).trans hb)) rfl ?_
  refine go (k := ?_)
  exact XE.ret1 () [] rfl rfl trivial rfl rfl rfl
theorem wcp_zero (bw : Nat) (s : List UInt8) (t : TypeId) (fz : Nat × Nat) (w : World) (hb : w.heap[bw]? = some (.cells wzCs.toArray t fz)) : Fx Tryz.prog 34 [ptr bw, str s] w (Pure w (iv 1)) := by
  refine Fx.of (L0 := []) Tryz.func34 rfl (by kernel_rfl) Tryz.ntmps34 rfl (Owns.nil w) ?_
  refine go (k := ?_)
  refine XL.q (.call rfl rfl fun _ w' hs => wis_zero bw t fz w' ((hs.kept.same bw (Array.getElem?_eq_some_iff.1 hb).1 (by simp [X.ids])).trans hb)) rfl ?_
  refine go (k := ?_)
  exact XE.ret1 () [] rfl rfl trivial rfl rfl rfl
theorem wcommit_nil (s : List UInt8) (w : World) : Fx Tryz.prog 32 [.pointer none, str s] w (Ret w [] (fun _ : Unit => iv 1) (fun _ => []) (fun _ => True)) := by
  refine Fx.of (L0 := []) Tryz.func32 rfl (by kernel_rfl) Tryz.ntmps32 rfl (Owns.nil w) ?_
  refine go (k := ?_)
  refine XL.box (zs := [.pointer none]) rfl rfl rfl fun b2 => ?_
  refine go (k := ?_)
  refine XL.box (zs := [str s]) rfl rfl rfl fun b3 => ?_
  refine go (k := ?_)
  refine XL.q (.call rfl rfl fun _ w hs => wis_nil w) rfl ?_
  refine go (k := ?_)
  exact XE.ret1 () [] rfl rfl trivial rfl rfl rfl
/-! ### a number below 0 -/
theorem wfits_neg (bw bl b : Nat) (lv vc : Value) (cut : Int) (ch : List Int) (y : Wa) (x : Ln) (k : Int) (br : Nat) (g : Rg) (w : World) (hk : k ≤ 0) (hg : g.n ≤ 1000000 ∧ g.used ≤ 1000000) (hy : y.r = some (br, g)) (ho : Owns w (waX bw bl b lv vc cut ch y x)) :
    Fx Tryz.prog 33 [ptr bw, iv k] w (Pure w (.bool (y.fits 0))) := by
  have hown : ∀ w', Kept [] w w' → Owns w' (waX bw bl b lv vc cut ch y x) := fun w' k => ho.of_kept k (fun _ _ h => by cases h)
  have hb : w.heap[bw]? = some (.cells (waCs bl y).toArray _ (0, 0)) := ho.ok _ (.head _)
  have hB : bw ∉ ids ([] : Heap) := by simp [X.ids]
  obtain ⟨n, at_, gen, r, broken⟩ := y
  simp only at hy
  subst hy
  have h4 : (waCs bl ⟨n, at_, gen, some (br, g), broken⟩)[0 + 4]? = some (ptr br) := rfl
  refine Fx.of (L0 := []) Tryz.func33 rfl (by kernel_rfl) Tryz.ntmps33 rfl (Owns.nil w) ?_
  refine go (k := ?_)
  refine XD.q (.call rfl rfl fun _ w' hs => wis_at bw bl ⟨n, at_, gen, some (br, g), broken⟩ _ _ w' ((hown w' hs.kept).ok _ (.head _))) rfl ?_
  refine go (k := ?_)
  refine XD.qY rfl rfl rfl (.call rfl rfl fun _ w _ => needs_neg k w (by omega)) rfl ?_
  refine go (k := ?_)
  refine XL.q (.call rfl rfl fun _ w' hs => left_at br bl g _ _ w' hg (((hown w' hs.kept).grp (.tail _ (.head _))).ok _ (.head _))) rfl ?_
  refine go (k := ?_)
  exact XE.ret1 () [] rfl rfl trivial rfl rfl rfl
/-! ### over a line that is down -/
theorem wrs_down {cut : Int} {ch : List Int} {x : Ln} (hd : x.down = true) : ∀ (l : List (Int × List UInt8)), l ≠ [] → wrs cut ch l x = (8, x)
  | [], h => absurd rfl h
  | p :: l, _ => by
    have e : x.write cut ch p.1 p.2 = (8, x) := by unfold Ln.write Ln.act; rw [if_pos hd]
    rw [wrs, e, if_pos (by simp)]
theorem commit_down {cut : Int} {ch : List Int} {y : Wa} {x : Ln} {br : Nat} {g : Rg} {s : List UInt8} (hd : x.down = true) (hy : y.r = some (br, g)) (hg : g.broken = false) (hf : nd s.length + 1 + g.used ≤ g.n) (hl : apl g s ≠ []) :
    y.commit cut ch s x = (8, { y with r := none, broken := true }, x) := by
  have e1 : g.append cut ch s x = (8, g.did 8, x) := by
    unfold Rg.append
    rw [if_neg (by rw [hg]; decide), if_neg (by omega), wrs_down hd _ hl, if_pos (by simp)]
  have e2 : fr (cmSteps cut ch s) (g, x) = (8, g.did 8, x) := by
    simp only [fr, e1]
    simp
  have e3 : y.fits s.length = true := by unfold Wa.fits; rw [hy]; simp only [decide_eq_true_eq]; omega
  unfold Wa.commit
  rw [hy]
  simp only
  rw [e3, if_neg (by decide), e2, if_pos (by simp)]
/-! ### revertlaw14 -/
theorem gstrs_one (l : List (List UInt8)) : (gstrs l).all Value.oneCell' = true := by simp [gstrs, Value.oneCell']
theorem gstrs_snoc (l : List (List UInt8)) (s : List UInt8) : gstrs l ++ [str s] = gstrs (l ++ [s]) := by simp [gstrs]
theorem with14_ok (all : List (List UInt8)) (s : List UInt8) (u : Value) (w : World) (hl : all.length ≤ 100000) (hu : RowAt w u 1 all.length (gstrs all)) :
    Fx Tryz.prog 37 [u, str s] w (Ret w [] (fun v : Value => v) (fun v => [.sl v 9 1 (gstrs (all ++ [s]))]) (fun _ => True)) := by
  have hr : ∀ L : Heap, Rd w (ids []) L u 1 all.length (gstrs all) := fun L => .old hu (fun _ _ _ => by simp [X.ids])
  rw [← gstrs_snoc]
  refine Fx.of (L0 := []) Tryz.func37 rfl (by kernel_rfl) Tryz.ntmps37 rfl (Owns.nil w) ?_
  refine go (k := ?_)
  refine XL.make (.app (news := gstrs all) rfl rfl rfl rfl rfl rfl (by decide) (hr _) (gstrs_one _) (by simp; omega) (by simp; omega)) rfl fun v H hH => ?_
  subst hH
  refine go (k := ?_)
  refine XL.make (.bslice rfl rfl rfl rfl rfl rfl) rfl fun _ _ hb => ?_
  obtain ⟨bs, rfl, rfl⟩ := hb
  refine go (k := ?_)
  refine XL.app (m := 1) (news := [str s]) (L' := fun v'' => [.blk bs [str s] 9, .sl v'' 9 1 (gstrs all ++ [str s])]) rfl rfl rfl rfl rfl rfl (by decide) (.tail _ (.head _)) (.blk (.head _) rfl (Nat.le_refl _) rfl) rfl (by simp; omega) (by simp; omega) (fun _ => .there .here) rfl fun v3 => ?_
  refine go (k := ?_)
  exact XE.ret1 v3 [1] rfl rfl trivial rfl rfl rfl
end Go.X
/- WalFull: what is committed is told as long as there is room; what finds none changes nothing. -/
namespace Go.X
open Go Go.Proofs Go.RowKit
/-- a list that is owned beside what a call takes -/
theorem row_beside_sl {w1 : World} {v : Value} {cs : List Value} {t : TypeId} {D : Heap} (h : Owns w1 ([.sl v t 1 cs] ++ D)) : ∀ w', Kept (ids D) w1 w' → RowAt w' v 1 cs.length cs := fun w' hk =>
  ((h.left.of_kept hk fun x hx hd => h.apart x hx hd).ok _ (.head _) : SlOk w' v _ 1 _).rowAt (by decide) (by simp)
theorem texts14_of {H : Type} {enc : TypeId × Value → H} {w : World} {spare : Nat → Bool} {held : Bool} {v : Value} (h : KOk enc Tryz.prog w 0 spare held (.sl 9) v) :
    ∃ l : List (List UInt8), RowAt w v 1 l.length (gstrs l) ∧ l.length ≤ maxLen ∧ ∀ s ∈ l, s.length ≤ maxLen := by
  obtain ⟨l, h1, h2, h3⟩ := rows_of (k := 1) (fun s : List UInt8 => [str s]) (Q := fun s => s.length ≤ maxLen) (by decide) (by kernel_rfl) (fun cs fuel x hl h => by
    obtain ⟨c0, rfl⟩ := len1 hl
    have hf := flat_ok 1 (l := [(0, .str)]) (by kernel_rfl) h
    obtain ⟨_, e0, s0, rfl, b0⟩ := hf (0, .str) (.head _)
    obtain rfl := Option.some.inj e0
    exact ⟨s0.data.toList, rfl, b0⟩) h
  refine ⟨l, ?_, h2, h3⟩
  have e : l.flatMap (fun s : List UInt8 => [str s]) = gstrs l := by
    clear h1 h2 h3
    induction l with
    | nil => rfl
    | cons a l ih => rw [List.flatMap_cons, ih]; rfl
  rw [← e]; exact h1
theorem WR.room {n m at_ gen : Nat} {all : List (List UInt8)} {y : Wa} {x : Ln} (h : WR n m at_ gen all true y x) : (lps all).length + 1 ≤ n := by
  have h1 := h.r
  rw [if_pos rfl] at h1
  obtain ⟨br, g, e, h2, h3⟩ := h1
  have := h3.room
  omega
structure FSt where
  i : Nat
  must : List (List UInt8)
  vm : Value
  gen : Nat
  at_ : Nat
  y : Wa
  x : Ln
structure FOk (k : Nat) (s : FSt) : Prop where
  le : s.i ≤ k
  wr : WR 64 256 s.at_ s.gen s.must true s.y s.x
  len : s.must.length ≤ s.i + 1
  gen : s.gen ≤ s.i + 1
  acts : s.x.acts ≤ 200 + 200 * s.i
set_option maxHeartbeats 4000000 in
theorem walFull_ok (l : List (List UInt8)) (v : Value) (ag : Int) (w : World) (hv : RowAt w v 1 l.length (gstrs l)) (hl : l.length ≤ maxLen) (hs : ∀ s ∈ l, s.length ≤ maxLen) (hag : 0 ≤ ag ∧ ag ≤ 255) :
    Fx Tryz.prog 6 [v, .int .u8 ag] w (Pure w (.bool true)) := by
  have hr : ∀ L : Heap, Rd w (ids []) L v 1 l.length (gstrs l) := fun L => .old hv (fun _ _ _ => by simp [X.ids])
  simp only [maxLen] at hl hs
  obtain ⟨g, x2, p2, q2, c2⟩ := make_free (n := 64) (m := 256) (by decide) (by decide) [102, 105, 114, 115, 116] (by decide)
  have n2 : nd [102, 105, 114, 115, 116].length = 1 := by decide
  refine Fx.of (L0 := []) Tryz.func6 rfl (by kernel_rfl) Tryz.ntmps6 rfl (Owns.nil w) ?_
  refine XC.rdv (hr _) fun ao mc hva _ _ haa => ?_
  subst hva
  refine go (k := ?_)
  refine XL.call [] [] rfl rfl rfl rfl rfl (fun _ w _ _ => dnew_ok 256 w (by decide) (by decide)) fun x _ => ?_
  obtain ⟨b, lv⟩ := x
  refine go (k := ?_)
  refine XL.call [0] [] rfl rfl rfl rfl rfl (fun _ w1 hs ho => lnew_ok b lv (List.replicate 256 slot0) (-1) _ [] w1 (rep_ok 256) (by rw [List.length_replicate]; decide) (by decide) (fun w' hk' => rdNil w') ho) fun x _ => ?_
  obtain ⟨bl, vc⟩ := x
  refine XL.nm (M := lnX bl b lv vc (-1) [] ⟨0, false, List.replicate 256 slot0⟩) ?_ rfl
  refine go (k := ?_)
  refine XL.call [0, 1, 2] [] rfl rfl rfl rfl rfl (fun _ w1 _ ho => c2 bl b lv vc w1 ho) fun x _ => ?_
  obtain ⟨bw, bq⟩ := x
  refine XL.nm (M := waX bw bl b lv vc (-1) [] ⟨64, 0, 1, some (bq, g), false⟩ x2) ?_ rfl
  refine go (k := ?_)
  by_cases h60 : 60 < l.length
  · refine go (k := ?_)
    refine XL.q (.call rfl rfl fun _ w _ => works14_ok w) rfl ?_
    refine go (k := ?_)
    exact XE.ret1 () [] rfl rfl trivial rfl rfl rfl
  refine go (k := ?_)
  refine XL.make (.bslice rfl rfl rfl rfl rfl rfl) rfl fun _ _ hb => ?_
  obtain ⟨bs, rfl, rfl⟩ := hb
  refine XL.pk (M := waX bw bl b lv vc (-1) [] ⟨64, 0, 1, some (bq, g), false⟩ x2 ++ [.blk bs [str [102, 105, 114, 115, 116]] 9]) [1, 2, 3, 4, 5, 0] (by decide) rfl ?_
  refine XL.shutSl (m := 1) (cap := 1) (k := 1) (xs := [str [102, 105, 114, 115, 116]]) (.tail _ (.tail _ (.tail _ (.tail _ (.tail _ (.head _)))))) rfl (Nat.le_refl _) (Nat.le_refl _) rfl (.there (.there (.there (.there (.there .here))))) ?_
  refine go (k := ?_)
  refine XC.loop (α := FSt) (fun s => [(0, .slice ao l.length mc), (1, .int .u8 ag), (5, ptr b), (6, ptr bw), (8, s.vm), (9, .int .u32 s.gen), (10, iv s.i)]) (fun s => waX bw bl b lv vc (-1) [] s.y s.x ++ [.sl s.vm 9 1 (gstrs s.must)])
    (FOk l.length) (fun s => l.length - s.i) ⟨0, [[102, 105, 114, 115, 116]], .slice (some ⟨bs, 0, none⟩) 1 1, 1, 0, ⟨64, 0, 1, some (bq, g), false⟩, x2⟩ [0, 1, 2, 3, 4, 5] ⟨Nat.zero_le _, p2 bq, Nat.le_refl _, Nat.le_refl _, by simp only; omega⟩ ⟨rfl, rfl, rfl, rfl, rfl, rfl, rfl, trivial⟩ rfl rfl ?_
  clear p2 q2 c2 n2
  rintro ⟨i, must, vm, gen, at_, y, x⟩ ⟨hi, hw, hm, hg, ha⟩
  simp only at hi hw hm hg ha ⊢
  have hbig : gen < 4294967296 := by omega
  by_cases hlt : i < l.length
  · obtain ⟨s, hsl⟩ : ∃ s, l[i]? = some s := ⟨_, List.getElem?_eq_getElem hlt⟩
    obtain ⟨b1, o1, rfl⟩ : ∃ b off, ao = some ⟨b, off, none⟩ := haa.resolve_left (by omega)
    have hv1 : (gstrs l)[i * 1]? = some (str s) := by simp [gstrs, hsl]
    have hsb := hs s (List.mem_of_getElem? hsl)
    refine go (k := ?_)
    refine XL.q (.ldRd (j := i * 1) rfl rfl rfl (hr _) (by omega) hv1) rfl ?_
    by_cases h15 : 1500 < s.length
    · refine go (k := ?_)
      refine XL.q (.call rfl rfl fun _ w _ => works14_ok w) rfl ?_
      refine go (k := ?_)
      exact XE.ret1 () [] rfl rfl trivial rfl rfl rfl
    · have hnd : nd s.length ≤ 26 := by unfold nd; split <;> omega
      refine go (k := ?_)
      by_cases hmod : (i : Int) % (3 + ag % 20) = 2
      · obtain ⟨f, x3, p3, q3, c3⟩ := cp_free hw (by omega) s (by omega) (by omega) (by decide)
        refine go (k := ?_)
        refine XL.q (.ldRd (j := i * 1) rfl rfl rfl (hr _) (by omega) hv1) rfl ?_
        refine go (k := ?_)
        refine XL.call [0, 1, 2, 3, 4] [5] rfl rfl rfl rfl rfl (fun _ w1 _ ho => c3 bw bl b lv vc w1 ho) fun br _ => ?_
        refine XL.nm (M := waX bw bl b lv vc (-1) [] (f br) x3 ++ [.sl vm 9 1 (gstrs must)]) ?_ rfl
        refine go (k := ?_)
        refine XL.q (.ldRd (j := i * 1) rfl rfl rfl (hr _) (by omega) hv1) rfl ?_
        refine XL.make (.bslice rfl rfl rfl rfl rfl rfl) rfl fun _ _ hb => ?_
        obtain ⟨bs, rfl, rfl⟩ := hb
        refine XL.pk (M := waX bw bl b lv vc (-1) [] (f br) x3 ++ [.blk bs [str s] 9]) [1, 2, 3, 4, 5, 0] (by decide) rfl ?_
        refine XL.shutSl (m := 1) (cap := 1) (k := 1) (xs := [str s]) (.tail _ (.tail _ (.tail _ (.tail _ (.tail _ (.head _)))))) rfl (Nat.le_refl _) (Nat.le_refl _) rfl (.there (.there (.there (.there (.there .here))))) ?_
        refine go (k := ?_)
        exact XE.mid ⟨i + 1, [s], .slice (some ⟨bs, 0, none⟩) 1 1, gen + 1, 1 - at_, f br, x3⟩ [0, 1, 2, 3, 4, 5] ⟨⟨hlt, p3 br, by simp only [List.length_singleton]; omega, by simp only; omega, by simp only; omega⟩, by simp only; omega⟩ ⟨rfl, rfl, rfl, rfl, rfl, rfl, rfl, trivial⟩ rfl rfl
      · refine go (k := ?_)
        refine XL.q (.ldRd (j := i * 1) rfl rfl rfl (hr _) (by omega) hv1) rfl ?_
        refine go (k := ?_)
        have hgb : ∀ b g, y.r = some (b, g) → g.n ≤ 1000000 ∧ g.used ≤ 1000000 := fun b g h => by obtain ⟨h1, h2, _⟩ := hw.hr b g h; omega
        have hfit := hw.fits s.length
        by_cases hft : nd s.length + 1 + (lps must).length ≤ 64
        · obtain ⟨y3, x3, p3, q3, c3⟩ := commit_free hw s hft (by omega) (by decide)
          rw [decide_eq_true hft] at hfit
          refine XL.q (.call (v := .bool true) rfl rfl fun _ w hs => by rw [← hfit]; exact wfits_ok bw bl b lv vc (-1) [] y x s.length w (by omega) hgb (hs.own.pick (is := [0, 1, 2, 3, 4]) (by decide))) rfl ?_
          refine go (k := ?_)
          refine XL.q (.ldRd (j := i * 1) rfl rfl rfl (hr _) (by omega) hv1) rfl ?_
          refine go (k := ?_)
          refine XL.call [0, 1, 2, 3, 4] [5] rfl rfl rfl rfl rfl (fun _ w1 _ ho => c3 bw bl b lv vc w1 ho) fun _ _ => ?_
          refine XL.nm (M := waX bw bl b lv vc (-1) [] y3 x3 ++ [.sl vm 9 1 (gstrs must)]) ?_ rfl
          refine go (k := ?_)
          refine XL.q (.ldRd (j := i * 1) rfl rfl rfl (hr _) (by omega) hv1) rfl ?_
          have hrow : ∀ w', Owns w' (waX bw bl b lv vc (-1) [] y3 x3 ++ [.sl vm 9 1 (gstrs must)]) → RowAt w' vm 1 must.length (gstrs must) := fun w' ho => by
            have := (ho.ok _ (.tail _ (.tail _ (.tail _ (.tail _ (.tail _ (.head _)))))) : SlOk w' vm _ 1 _).rowAt (m := must.length) (by decide) (by simp)
            exact this
          refine XL.call (α := Value) [] [0, 1, 2, 3, 4] rfl rfl rfl rfl rfl (fun _ w1 hs _ => with14_ok must s vm w1 (by omega) (hrow w1 hs.own)) fun vm' _ => ?_
          refine XL.pk (M := waX bw bl b lv vc (-1) [] y3 x3 ++ [.sl vm' 9 1 (gstrs (must ++ [s]))]) [1, 2, 3, 4, 5, 0] (by decide) rfl ?_
          refine go (k := ?_)
          exact XE.mid ⟨i + 1, must ++ [s], vm', gen, at_, y3, x3⟩ [0, 1, 2, 3, 4, 5] ⟨⟨hlt, p3, by simp only [List.length_append, List.length_singleton]; omega, by simp only; omega, by simp only; omega⟩, by simp only; omega⟩ ⟨rfl, rfl, rfl, rfl, rfl, rfl, rfl, trivial⟩ rfl rfl
        · have hfull := hw.full (cut := -1) (ch := []) s (by omega)
          rw [decide_eq_false hft] at hfit
          refine XL.q (.call (v := .bool false) rfl rfl fun _ w hs => by rw [← hfit]; exact wfits_ok bw bl b lv vc (-1) [] y x s.length w (by omega) hgb (hs.own.pick (is := [0, 1, 2, 3, 4]) (by decide))) rfl ?_
          refine go (k := ?_)
          refine XL.q (.ldRd (j := i * 1) rfl rfl rfl (hr _) (by omega) hv1) rfl ?_
          refine go (k := ?_)
          have hcom := fun w1 ho => commit_ok bw bl b lv vc (-1) [] y x s 256 x.acts w1 (hw.ld (Nat.le_refl _)) (by omega) (by decide) (by decide) hw.hr (by omega) (by decide) (fun a ha => by cases ha) ho
          rw [hfull] at hcom
          simp only at hcom
          refine XL.call [0, 1, 2, 3, 4] [5] rfl rfl rfl rfl rfl (fun _ w1 _ ho => hcom w1 ho) fun _ _ => ?_
          refine XL.nm (M := waX bw bl b lv vc (-1) [] y x ++ [.sl vm 9 1 (gstrs must)]) ?_ rfl
          refine go (k := ?_)
          refine XL.call [4] [0, 1, 2, 3, 5] rfl rfl rfl rfl rfl (fun _ w1 hs ho => tells_ws hw.ws (by decide) (by decide) b lv _ w1 (fun w' hk' => ?_) ho) fun _ _ => ?_
          · have := row_beside_sl (D := [devE b lv x.ds]) (hs.own.pick (is := [5, 4]) (by decide)) w' hk'
            rw [gstrs_len] at this
            exact this
          refine XL.pk (M := waX bw bl b lv vc (-1) [] y x ++ [.sl vm 9 1 (gstrs must)]) [1, 2, 3, 4, 0, 5] (by decide) rfl ?_
          refine go (k := ?_)
          exact XE.mid ⟨i + 1, must, vm, gen, at_, y, x⟩ [0, 1, 2, 3, 4, 5] ⟨⟨hlt, hw, by simp only; omega, by simp only; omega, by simp only; omega⟩, by simp only; omega⟩ ⟨rfl, rfl, rfl, rfl, rfl, rfl, rfl, trivial⟩ rfl rfl
  · obtain rfl : i = l.length := by omega
    refine go (k := ?_)
    refine XL.pk (M := [.sl vm 9 1 (gstrs must), devE b lv x.ds]) [5, 4] (by decide) rfl ?_
    refine XL.call [1] [0] rfl rfl rfl rfl rfl (fun _ w1 hs ho => tells_ws hw.ws (by decide) (by decide) b lv _ w1 (fun w' hk' => ?_) ho) fun _ _ => ?_
    · have := row_beside_sl (D := [devE b lv x.ds]) (hs.own.pick (is := [0, 1]) (by decide)) w' hk'
      rw [gstrs_len] at this
      exact this
    refine go (k := ?_)
    refine XL.q (.call rfl rfl fun _ w _ => works14_ok w) rfl ?_
    refine go (k := ?_)
    exact XE.ret1 () [] rfl rfl trivial rfl rfl rfl
end Go.X
/- Package wal: Open, Blow, Fits over a device at rest or a log in use; a log whose line is down. -/
namespace Go.X
open Go Go.Proofs Go.RowKit
theorem wgen_fresh : wgen (List.replicate 256 slot0) 64 = 0 := by
  have e : ∀ a, a = 0 ∨ a = 64 → rgen (List.replicate 256 slot0) a 64 = 0 := fun a ha => by
    rw [rgen_hdr (by rw [List.length_replicate]; omega) (by decide)]
    have h1 : rdk (List.replicate 256 slot0) a = hblk 0 := by
      rw [hblk_zero]
      rcases ha with rfl | rfl <;> rfl
    rw [h1, hdr_hblk (by decide)]
  unfold wgen
  rw [e 0 (.inl rfl), e 64 (.inr rfl)]
  rfl
section
variable {n m at_ gen : Nat} {all : List (List UInt8)} {live : Bool} {y : Wa} {x : Ln}
theorem open_ws (h : WS n m at_ gen all x.ds) (hd : x.down = false) (h4 : m / 4 = n) (hm : m ≤ 40000) (bl b : Nat) (lv vc : Value) (cut : Int) (ch : List Int) (w : World) (ho : Owns w (lnX bl b lv vc cut ch x)) :
    Fx Tryz.prog 27 [ptr bl] w (Ret w (lnX bl b lv vc cut ch x) (fun y : Nat × Value => .tuple #[ptr y.1, y.2, iv 0]) (fun y => waX y.1 bl b lv vc cut ch ⟨n, at_, gen, none, false⟩ x ++ [.sl y.2 9 1 (gstrs all)]) (fun _ => True)) := by
  obtain ⟨h1, h2, h3⟩ := h.tells
  have := open_run bl b lv vc cut ch x n m x.acts w ⟨⟨h.oks, h.len, Nat.le_refl _⟩, h.inv⟩ hm h4 h.hn.1 hd (by rw [h2]; have := h.g0; omega) ho
  rw [h1, h2, h3] at this
  exact this
theorem WS.opened (h : WS n m at_ gen all x.ds) (hd : x.down = false) : WR n m at_ gen all false ⟨n, at_, gen, none, false⟩ x := ⟨h, hd, rfl, rfl, rfl, rfl, by simp⟩
theorem blow_still (h : WS n m at_ gen all x.ds) (hm : m ≤ 40000) (bl b : Nat) (lv vc : Value) (cut : Int) (ch : List Int) (w : World) (hl : ch.length ≤ 1000000) (hw : ∀ a ∈ ch, -9223372036854775808 ≤ a ∧ a ≤ 9223372036854775807) (ho : Owns w (lnX bl b lv vc cut ch x)) :
    Fx Tryz.prog 22 [ptr bl] w (Ret w (lnX bl b lv vc cut ch x) (fun _ : Unit => .tuple #[]) (fun _ => lnX bl b lv vc cut ch ⟨x.acts, true, x.ds⟩) (fun _ => True)) := by
  have h1 := blow_ok bl b lv vc cut ch x.acts x.down x.ds w h.oks (by have := h.len; omega) hl hw ho
  have e : blown ch x.down x.ds = x.ds := by
    unfold blown
    split
    · rfl
    · exact h.still.settled _
  rw [e] at h1
  exact h1
theorem WR.rOk (h : WR n m at_ gen all live y x) : ∀ b g, y.r = some (b, g) → g.n ≤ 1000000 ∧ g.used ≤ 1000000 := fun b g hb => by obtain ⟨h1, h2, _⟩ := h.hr b g hb; omega
theorem fits_wr (h : WR n m at_ gen all true y x) (k : Nat) (hk : k ≤ 1000000) (bw bl b : Nat) (lv vc : Value) (cut : Int) (ch : List Int) (w : World) (ho : Owns w (waX bw bl b lv vc cut ch y x)) :
    Fx Tryz.prog 33 [ptr bw, iv k] w (Pure w (.bool (decide (nd k + 1 + (lps all).length ≤ n)))) := by
  rw [← h.fits k]
  exact wfits_ok bw bl b lv vc cut ch y x k w hk h.rOk ho
theorem fitsneg_wr (h : WR n m at_ gen all true y x) (k : Int) (hk : k ≤ 0) (bw bl b : Nat) (lv vc : Value) (cut : Int) (ch : List Int) (w : World) (ho : Owns w (waX bw bl b lv vc cut ch y x)) :
    Fx Tryz.prog 33 [ptr bw, iv k] w (Pure w (.bool (decide (nd 0 + 1 + (lps all).length ≤ n)))) := by
  rw [← h.fits 0]
  have h1 := h.r
  rw [if_pos rfl] at h1
  obtain ⟨br, g, e, _⟩ := h1
  exact wfits_neg bw bl b lv vc cut ch y x k br g w hk (h.rOk br g e) e ho
/-- a group that finds no room -/
theorem full_wr (h : WR n m at_ gen all true y x) (s : List UInt8) (hs : n < nd s.length + 1 + (lps all).length) (hl : s.length ≤ 100000) (ha : x.acts ≤ 40000) (hm : m ≤ 40000) (bw bl b : Nat) (lv vc : Value) (w : World) (ho : Owns w (waX bw bl b lv vc (-1) [] y x)) :
    Fx Tryz.prog 32 [ptr bw, str s] w (Ret w (waX bw bl b lv vc (-1) [] y x) (fun _ : Unit => iv 7) (fun _ => waX bw bl b lv vc (-1) [] y x) (fun _ => True)) := by
  have hn := h.ws.hn
  have hcom := commit_ok bw bl b lv vc (-1) [] y x s m x.acts w (h.ld (Nat.le_refl _)) (by omega) (by omega) (by omega) h.hr hl (by decide) (fun a ha => by cases ha) ho
  rw [h.full s hs] at hcom
  exact hcom
/-- a log that may not be written to -/
theorem state_wr {e : Int} (bw bl b : Nat) (lv vc : Value) (y : Wa) (x : Ln) (s : List UInt8) (w : World) (m k : Nat) (hld : LD m k x) (hk : k ≤ 300000) (hm0 : 0 < m) (hm : m ≤ 100000) (hy : y.r = none) (he : e = 17) (hs : s.length ≤ 100000) (ho : Owns w (waX bw bl b lv vc (-1) [] y x)) :
    Fx Tryz.prog 32 [ptr bw, str s] w (Ret w (waX bw bl b lv vc (-1) [] y x) (fun _ : Unit => iv e) (fun _ => waX bw bl b lv vc (-1) [] y x) (fun _ => True)) := by
  have hcom := commit_ok bw bl b lv vc (-1) [] y x s m k w hld hk hm0 hm (fun br g h => by rw [hy] at h; cases h) hs (by decide) (fun a ha => by cases ha) ho
  have e1 : y.commit (-1) [] s x = (17, y, x) := by unfold Wa.commit; rw [hy]
  rw [e1] at hcom
  subst he
  exact hcom
/-- a Checkpoint that is not begun -/
theorem cp_not (e : Int) (bw bl b : Nat) (lv vc : Value) (y : Wa) (x : Ln) (s : List UInt8) (w : World) (m k : Nat) (hld : LD m k x) (hk : k ≤ 50000) (hm0 : 0 < m) (hm : m ≤ 50000) (hn : 2 ≤ y.n ∧ y.n ≤ 20000 ∧ 2 * y.n ≤ m) (hat : y.at_ = 0 ∨ y.at_ = 1) (hgen : y.gen < 4294967295) (hs : s.length ≤ 100000)
    (he : (y.broken = true ∧ e = 17) ∨ (y.broken = false ∧ 58 * (y.n - 1) < s.length ∧ e = 7)) (ho : Owns w (waX bw bl b lv vc (-1) [] y x)) :
    Fx Tryz.prog 34 [ptr bw, str s] w (Ret w (waX bw bl b lv vc (-1) [] y x) (fun _ : Nat => iv e) (fun _ => waX bw bl b lv vc (-1) [] y x) (fun _ => True)) := by
  have hcp := checkpoint_ok bw bl b lv vc (-1) [] y x s m k w hld hk hm0 hm hn hat hgen hs (by decide) (fun a ha => by cases ha) ho
  rcases he with ⟨h1, rfl⟩ | ⟨h1, h2, rfl⟩
  · have e1 : y.cpe (-1) [] s x = 17 := by unfold Wa.cpe; rw [if_pos h1]
    have e2 : ∀ br, y.cp (-1) [] s x br = (17, y, x) := fun br => by unfold Wa.cp; rw [if_pos h1]
    rw [e1] at hcp
    simp only [e2] at hcp
    exact hcp
  · have e1 : y.cpe (-1) [] s x = 7 := by unfold Wa.cpe; rw [if_neg (by rw [h1]; decide), if_pos h2]
    have e2 : ∀ br, y.cp (-1) [] s x br = (7, y, x) := fun br => by unfold Wa.cp; rw [if_neg (by rw [h1]; decide), if_pos h2]
    rw [e1] at hcp
    simp only [e2] at hcp
    exact hcp
/-- a log whose line went down meanwhile -/
theorem downs_wr (h : WR n m at_ gen all true y x) (s : List UInt8) (hs : nd s.length + 1 + (lps all).length ≤ n) (hl : s.length ≤ 100000) (ha : x.acts ≤ 40000) (hm : m ≤ 40000) (bw bl b : Nat) (lv vc : Value) (w : World) (ho : Owns w (waX bw bl b lv vc (-1) [] y ⟨x.acts, true, x.ds⟩)) :
    Fx Tryz.prog 32 [ptr bw, str s] w (Ret w (waX bw bl b lv vc (-1) [] y ⟨x.acts, true, x.ds⟩) (fun _ : Unit => iv 8) (fun _ => waX bw bl b lv vc (-1) [] { y with r := none, broken := true } ⟨x.acts, true, x.ds⟩) (fun _ => True)) := by
  have hn := h.ws.hn
  have h1 := h.r
  rw [if_pos rfl] at h1
  obtain ⟨br, g, e, h2, h3⟩ := h1
  have hcom := commit_ok bw bl b lv vc (-1) [] y ⟨x.acts, true, x.ds⟩ s m x.acts w ⟨⟨h.ws.oks, h.ws.len, Nat.le_refl _⟩, h.ws.inv⟩ (by omega) (by omega) (by omega) h.hr hl (by decide) (fun a ha => by cases ha) ho
  have hnd : 0 < nd s.length := by unfold nd; split <;> omega
  rw [commit_down (br := br) (g := g) rfl e h2.ok (by rw [h2.used, h2.n]; omega) (fun h0 => by have := congrArg List.length h0; rw [apl_len] at this; simp at this; omega)] at hcom
  exact hcom
end
end Go.X
/- revertlaw14: same, did, opened (a story: what is sure, and what may be instead). -/
namespace Go.X
open Go Go.Proofs Go.RowKit
theorem same14_ok (u v : Value) (gs hs : List (List UInt8)) (w : World) (hu : RowAt w u 1 gs.length (gstrs gs)) (hv : RowAt w v 1 hs.length (gstrs hs)) (_hl : gs.length ≤ 1000000) (_hl2 : hs.length ≤ 1000000) :
    Fx Tryz.prog 65 [u, v] w (Pure w (.bool (decide (gs = hs)))) := by
  have hr1 : ∀ L : Heap, Rd w (ids []) L u 1 gs.length (gstrs gs) := fun L => .old hu (fun _ _ _ => by simp [X.ids])
  have hr2 : ∀ L : Heap, Rd w (ids []) L v 1 hs.length (gstrs hs) := fun L => .old hv (fun _ _ _ => by simp [X.ids])
  refine Fx.of (L0 := []) Tryz.func65 rfl (by kernel_rfl) Tryz.ntmps65 rfl (Owns.nil w) ?_
  refine XC.rdv (hr1 _) fun a1 m1 h1 _ _ hao1 => ?_
  subst h1
  refine XC.rdv (hr2 _) fun a2 m2 h2 _ _ hao2 => ?_
  subst h2
  by_cases hlen : gs.length = hs.length
  · refine go (k := ?_)
    refine XC.loop (α := Nat) (fun i => [(0, .slice a1 gs.length m1), (1, .slice a2 hs.length m2), (5, iv i)]) (fun _ => []) (fun i => i ≤ gs.length ∧ gs.take i = hs.take i) (fun i => gs.length - i) 0 [] ⟨Nat.zero_le _, rfl⟩ ⟨rfl, rfl, rfl, trivial⟩ rfl rfl ?_
    rintro i ⟨hi, hpre⟩
    by_cases hlt : i < gs.length
    · obtain ⟨s, hs1⟩ : ∃ s, gs[i]? = some s := ⟨_, List.getElem?_eq_getElem hlt⟩
      obtain ⟨t, ht1⟩ : ∃ t, hs[i]? = some t := ⟨_, List.getElem?_eq_getElem (by omega)⟩
      obtain ⟨b1, o1, rfl⟩ : ∃ b off, a1 = some ⟨b, off, none⟩ := hao1.resolve_left (by omega)
      obtain ⟨b2, o2, rfl⟩ : ∃ b off, a2 = some ⟨b, off, none⟩ := hao2.resolve_left (by omega)
      have hv1 : (gstrs gs)[i * 1]? = some (str s) := by simp [gstrs, hs1]
      have hv2 : (gstrs hs)[i * 1]? = some (str t) := by simp [gstrs, ht1]
      refine go (k := ?_)
      refine XD.q (.ldRd (j := i * 1) rfl rfl rfl (hr1 _) (by omega) hv1) rfl ?_
      refine go (k := ?_)
      refine XD.q (.ldRd (j := i * 1) rfl rfl rfl (hr2 _) (by omega) hv2) rfl ?_
      refine go (k := ?_)
      by_cases hst : s = t
      · subst hst
        have hnx : gs.take (i + 1) = hs.take (i + 1) := by rw [List.take_add_one, List.take_add_one, hpre, hs1, ht1]
        refine go (k := ?_)
        exact XE.mid (i + 1) [] ⟨⟨by omega, hnx⟩, by omega⟩ ⟨rfl, rfl, rfl, trivial⟩ rfl rfl
      · have e : decide (gs = hs) = false := decide_eq_false fun h => hst (by rw [h, ht1] at hs1; exact (Option.some.inj hs1).symm)
        rw [e]
        refine go (k := ?_)
        exact XE.ret1 () [] rfl rfl trivial rfl rfl rfl
    · obtain rfl : i = gs.length := by omega
      have e : gs = hs := by rw [List.take_of_length_le (Nat.le_refl _), List.take_of_length_le (by omega)] at hpre; exact hpre
      rw [decide_eq_true e]
      refine go (k := ?_)
      exact XE.ret1 () [] rfl rfl trivial rfl rfl rfl
  · have e : decide (gs = hs) = false := decide_eq_false fun h => hlen (by rw [h])
    rw [e]
    have hlen' : (gs.length : Int) ≠ hs.length := by omega
    refine go (k := ?_)
    exact XE.ret1 () [] rfl rfl trivial rfl rfl rfl
/-! ### a story -/
abbrev stB (bs : Nat) (vs vm : Value) : Ent := .blk bs [vs, vm] 62
theorem did14_yes (bs : Nat) (vs vm : Value) (a : Option Addr) (n m : Nat) (w : World) (ho : Owns w [stB bs vs vm]) :
    Fx Tryz.prog 67 [ptr bs, iv 0, .slice a n m] w (Ret w [stB bs vs vm] (fun _ : Unit => .bool true) (fun _ => [stB bs (.slice a n m) vm]) (fun _ => True)) := by
  refine Fx.of Tryz.func67 rfl (by kernel_rfl) Tryz.ntmps67 rfl ho ?_
  refine go (k := ?_)
  exact XE.ret1 () [0] rfl rfl trivial rfl rfl rfl
theorem did14_no (bs : Nat) (vs : Value) (a : Option Addr) (n m : Nat) (e : Int) (he : e ≠ 0) (w : World) (ho : Owns w [stB bs vs (.slice none 0 0)]) :
    Fx Tryz.prog 67 [ptr bs, iv e, .slice a n m] w (Ret w [stB bs vs (.slice none 0 0)] (fun _ : Value => .bool false) (fun vm => [stB bs vs vm, .sl vm 59 1 [.slice a n m]]) (fun _ => True)) := by
  refine Fx.of Tryz.func67 rfl (by kernel_rfl) Tryz.ntmps67 rfl ho ?_
  refine go (k := ?_)
  refine XL.make (.bslice rfl rfl rfl rfl rfl rfl) rfl fun _ _ hb => ?_
  obtain ⟨b1, rfl, rfl⟩ := hb
  refine go (k := ?_)
  refine XL.make (.app (news := [.slice a n m]) rfl rfl rfl rfl rfl rfl (by decide) (.blk (.head _) rfl (Nat.le_refl _) rfl) rfl (by simp) (by simp)) rfl fun v H hH => ?_
  subst hH
  refine XL.slv (.head _) fun aq q mq hv' _ _ => ?_
  subst hv'
  refine go (k := ?_)
  exact XE.ret1 (.slice aq q mq) [2, 0] rfl rfl trivial rfl rfl rfl
/-- a story's lists -/
def myH : Option (Value × Value × List (List UInt8)) → Heap
  | none => []
  | some (vm, lv, g) => [.sl vm 59 1 [lv], .sl lv 9 1 (gstrs g)]
def myV : Option (Value × Value × List (List UInt8)) → Value
  | none => .slice none 0 0
  | some (vm, _, _) => vm
abbrev stH (bs : Nat) (vs : Value) (gs : List (List UInt8)) (may : Option (Value × Value × List (List UInt8))) : Heap := stB bs vs (myV may) :: .sl vs 9 1 (gstrs gs) :: myH may
theorem opened14_ok (bs : Nat) (vs u : Value) (gs l : List (List UInt8)) (may : Option (Value × Value × List (List UInt8))) (w : World) (hgl : gs.length ≤ 1000000) (hll : l.length ≤ 1000000) (hf : l = gs ∨ ∃ vm lv, may = some (vm, lv, l))
    (hu : ∀ w', Kept (ids (stH bs vs gs may)) w w' → RowAt w' u 1 l.length (gstrs l)) (ho : Owns w (stH bs vs gs may)) :
    Fx Tryz.prog 28 [ptr bs, u] w (Ret w (stH bs vs gs may) (fun _ : Unit => .bool true) (fun _ => [stB bs u (.slice none 0 0)]) (fun _ => True)) := by
  have hr : ∀ L : Heap, Rd w (ids (stH bs vs gs may)) L u 1 l.length (gstrs l) := fun L w' _ hk' => hu w' hk'
  refine Fx.of Tryz.func28 rfl (by kernel_rfl) Tryz.ntmps28 rfl ho ?_
  refine XC.rdv (hr _) fun ao mc hv _ _ hao => ?_
  subst hv
  refine XC.slv (.tail _ (.head _)) fun a1 q1 m1 hv1 hq1 _ => ?_
  subst hv1
  obtain rfl : q1 = gs.length := by simpa using hq1
  refine go (k := ?_)
  have hrs : ∀ w', Owns w' (stH bs (.slice a1 gs.length m1) gs may) → RowAt w' (.slice a1 gs.length m1) 1 gs.length (gstrs gs) := fun w' ho => (ho.ok _ (.tail _ (.head _)) : SlOk w' _ _ 1 _).rowAt (m := gs.length) (by decide) (by simp)
  refine XL.q (.call rfl rfl fun _ w hs => same14_ok (.slice ao l.length mc) (.slice a1 gs.length m1) l gs w (hu w hs.kept) (hrs w hs.own) hll hgl) rfl ?_
  cases may with
  | none =>
    have e : l = gs := by
      rcases hf with h | ⟨vm, lv, h⟩
      · exact h
      · cases h
    rw [decide_eq_true e]
    refine go (k := ?_)
    refine XC.loop (α := Unit) (fun _ => [(0, ptr bs), (1, .slice ao l.length mc), (5, .bool true), (6, iv 0)]) (fun _ => stH bs (.slice a1 gs.length m1) gs none) (fun _ => True) (fun _ => 0) () [0, 1] trivial ⟨rfl, rfl, rfl, rfl, trivial⟩ rfl rfl ?_
    intro _ _
    refine go (k := ?_)
    exact XE.ret1 () [0] rfl rfl trivial rfl rfl rfl
  | some o =>
    obtain ⟨vm, lv, g⟩ := o
    refine go (k := ?_)
    refine XC.loop (α := Nat × Bool) (fun y => [(0, ptr bs), (1, .slice ao l.length mc), (5, .bool y.2), (6, iv y.1)]) (fun _ => stH bs (.slice a1 gs.length m1) gs (some (vm, lv, g))) (fun y => (y.1 = 0 ∧ y.2 = decide (l = gs)) ∨ (y.1 = 1 ∧ y.2 = true)) (fun y => 1 - y.1) (0, decide (l = gs)) [0, 1, 2, 3] (.inl ⟨rfl, rfl⟩) ⟨rfl, rfl, rfl, rfl, trivial⟩ rfl rfl ?_
    rintro ⟨i, f⟩ h
    simp only at h ⊢
    have hr2 : ∀ L : Heap, (Ent.sl vm 59 1 [lv]) ∈ L → Rd w (ids (stH bs (.slice a1 gs.length m1) gs (some (vm, lv, g)))) L vm 1 1 [lv] := fun L hm => .sl hm (by decide) (by simp)
    refine XC.rdv (hr2 _ (.tail _ (.tail _ (.head _)))) fun a2 m2 hv2 _ hle ha2 => ?_
    cases hv2
    obtain ⟨b2, o2, rfl⟩ : ∃ b off, a2 = some ⟨b, off, none⟩ := ha2.resolve_left (by omega)
    rcases h with ⟨rfl, hfe⟩ | ⟨rfl, rfl⟩
    · cases f with
      | true =>
        refine go (k := ?_)
        exact XE.mid (1, true) [0, 1, 2, 3] ⟨.inr ⟨rfl, rfl⟩, by decide⟩ ⟨rfl, rfl, rfl, rfl, trivial⟩ rfl rfl
      | false =>
        have hne : ¬ l = gs := of_decide_eq_false hfe.symm
        obtain rfl : l = g := by
          rcases hf with h | ⟨vm', lv', h⟩
          · exact absurd h hne
          · cases h; rfl
        refine go (k := ?_)
        refine XL.q (.ldRd (j := 0 * 1) rfl rfl rfl (hr2 _ (.tail _ (.tail _ (.head _)))) (by omega) rfl) rfl ?_
        refine go (k := ?_)
        refine XL.q (.call (v := .bool true) rfl rfl fun _ w hs => by
          have h1 : RowAt w lv 1 l.length (gstrs l) := (hs.own.ok _ (.tail _ (.tail _ (.tail _ (.head _)))) : SlOk w _ _ 1 _).rowAt (m := l.length) (by decide) (by simp)
          have := same14_ok (.slice ao l.length mc) lv l l w (hu w hs.kept) h1 hll hll
          rw [decide_eq_true rfl] at this
          exact this) rfl ?_
        refine go (k := ?_)
        exact XE.mid (1, true) [0, 1, 2, 3] ⟨.inr ⟨rfl, rfl⟩, by decide⟩ ⟨rfl, rfl, rfl, rfl, trivial⟩ rfl rfl
    · refine go (k := ?_)
      exact XE.ret1 () [0] rfl rfl trivial rfl rfl rfl
end Go.X
