/- Package region: Append. -/
import Derived.Test.YtmmofanfgoahkaaDoorRegE
import Derived.Test.YtmmofanfgoahkaaDoorIterA
namespace Go.X
open Go Go.Proofs
def apl (g : Rg) (s : List UInt8) : List (Int × List UInt8) := (List.range (nd s.length)).map fun k : Nat => ((g.at_ : Int) + ((g.used + 1 + k : Nat) : Int), gblk (g.used + 1) s k)
def Rg.append (cut : Int) (ch : List Int) (s : List UInt8) (g : Rg) (x : Ln) : Int × Rg × Ln :=
  if g.broken = true then (17, g, x) else if g.n < nd s.length + 1 + g.used then (7, g, x)
  else if (wrs cut ch (apl g s) x).1 ≠ 0 then ((wrs cut ch (apl g s) x).1, g.did (wrs cut ch (apl g s) x).1, (wrs cut ch (apl g s) x).2)
  else (0, { g with used := g.used + nd s.length }, (wrs cut ch (apl g s) x).2)
set_option maxHeartbeats 1000000 in
theorem rappend_ok (br bl b : Nat) (lv vc : Value) (cut : Int) (ch : List Int) (g : Rg) (x : Ln) (s : List UInt8) (m : Nat) (w : World) (hx : LI m 700000 x) (hm0 : 0 < m) (hm : m ≤ 100000) (hs : s.length ≤ 100000) (hg : g.n ≤ 65536 ∧ g.used < g.n ∧ g.at_ ≤ 100000)
    (hl : ch.length ≤ 1000000) (hw : ∀ a ∈ ch, -9223372036854775808 ≤ a ∧ a ≤ 9223372036854775807) (ho : Owns w (rgX br bl b lv vc cut ch g x)) :
    Fx Tryd.prog 13 [ptr br, str s] w (Ret w (rgX br bl b lv vc cut ch g x) (fun _ : Unit => iv (g.append cut ch s x).1) (fun _ => rgX br bl b lv vc cut ch (g.append cut ch s x).2.1 (g.append cut ch s x).2.2) (fun _ => True)) := by
  have ha := hx.acts
  refine Fx.of Tryd.func13 rfl (by kernel_rfl) Tryd.ntmps13 rfl ho ?_
  refine go (k := ?_)
  refine XL.box (zs := [ptr br]) rfl rfl rfl fun b2 => ?_
  refine go (k := ?_)
  refine XL.alloc rfl rfl rfl fun b4 => ?_
  refine go (k := ?_)
  refine XL.q (.call rfl rfl fun _ w hs => may_at br bl g _ _ w (hs.own.ok _ (.tail _ (.tail _ (.head _))))) rfl ?_
  cases hb : g.broken with
  | true =>
    have e : g.append cut ch s x = (17, g, x) := by unfold Rg.append; rw [if_pos hb]
    rw [e]
    refine go (k := ?_)
    exact XE.retC1 () [2, 3, 4, 5] rfl rfl rfl rfl (.head _) rfl trivial rfl rfl rfl
  | false =>
    refine go (k := ?_)
    refine XD.q (.call rfl rfl fun _ w _ => needs_ok s.length w (by omega)) rfl ?_
    refine go (k := ?_)
    refine XL.q (.call rfl rfl fun _ w hs => left_at br bl g _ _ w ⟨by omega, by omega⟩ (hs.own.ok _ (.tail _ (.tail _ (.head _))))) rfl ?_
    by_cases hfull : g.n < nd s.length + 1 + g.used
    · have e : g.append cut ch s x = (7, g, x) := by unfold Rg.append; rw [if_neg (by rw [hb]; decide), if_pos hfull]
      rw [e]
      have hf' : (g.n : Int) - 1 - (g.used : Int) < (nd s.length : Int) := by omega
      refine go (k := ?_)
      exact XE.retC1 () [2, 3, 4, 5] rfl rfl rfl rfl (.head _) rfl trivial rfl rfl rfl
    · have hf' : ¬ (g.n : Int) - 1 - (g.used : Int) < (nd s.length : Int) := by omega
      refine go (k := ?_)
      rw [show (g.used : Int) + 1 = ((g.used + 1 : Nat) : Int) by omega]
      refine XL.call [] [0, 1, 2, 3, 4, 5] rfl rfl rfl rfl rfl (fun _ w _ _ => gblocks_ok ((g.used + 1 : Nat) : Int) s w) fun y _ => ?_
      obtain ⟨bf, bs⟩ := y
      refine XL.nm ?_
      refine go (k := ?_)
      refine XC.rangeFunc (α := Ln) (β := Int × Ln) (Lc := [.blk bf [iv ((g.used + 1 : Nat) : Int)] 3, .blk bs [str s] 9]) (xs := gitems (g.used + 1) s)
        (fun y => [.blk b4 [iv 0] 27, .blk b2 [ptr br] 26, rgB br bl g] ++ lnX bl b lv vc cut ch y) (fun k y => wrs cut ch ((apl g s).take k) x = (0, y))
        (fun y => [.blk b4 [iv y.1] 27, .blk b2 [ptr br] 26, rgB br bl (g.did y.1)] ++ lnX bl b lv vc cut ch y.2) (fun y => y.1 ≠ 0 ∧ wrs cut ch (apl g s) x = y) (fun _ => .ret) x [0, 1, 2, 3, 4, 5, 6, 7]
        (fun vs => zipE [6, 7] vs [(1, str s), (2, .pointer (some ⟨b2, 0, none⟩)), (4, .pointer (some ⟨b4, 0, none⟩))]) rfl (blocks_seq bf bs (g.used + 1) s (by omega) (by omega)) rfl rfl rfl ?_ rfl ?_ ?_ ?_ ?_
      · intro k vs hvs
        unfold gitems at hvs
        rw [List.getElem?_map] at hvs
        obtain ⟨p, _, rfl⟩ := Option.map_eq_some_iff.1 hvs
        rfl
      · intro l k vs w L' hvs
        unfold gitems at hvs
        rw [List.getElem?_map] at hvs
        obtain ⟨p, _, rfl⟩ := Option.map_eq_some_iff.1 hvs
        refine go (k := ?_)
        exact XE.midI () trivial ⟨rfl, rfl, rfl, rfl, rfl, trivial⟩ rfl
      · intro l k vs y w hvs hy _
        have hlk : k < nd s.length := by
          have := (List.getElem?_eq_some_iff.1 hvs).1
          unfold gitems at this; rwa [List.length_map, List.length_range] at this
        have hvs' : vs = [iv ((g.used + 1 + k : Nat) : Int), str (gblk (g.used + 1) s k)] := by
          unfold gitems at hvs; rw [List.getElem?_map, List.getElem?_range hlk] at hvs; exact (Option.some.inj hvs).symm
        subst hvs'
        refine XC.pk (M := lnX bl b lv vc cut ch y ++ [.blk bf [iv ((g.used + 1 : Nat) : Int)] 3, .blk bs [str s] 9, .blk b4 [iv 0] 27, .blk b2 [ptr br] 26, rgB br bl g]) [5, 6, 7, 0, 1, 2, 3, 4] (by decide) rfl ?_
        refine go1 (k := ?_)
        refine go1 (k := ?_)
        have hyi : LI m (700000 + k) y := by
          have := LI.wrs (cut := cut) (ch := ch) ((apl g s).take k) hx
          rw [hy, List.length_take, show (apl g s).length = nd s.length by unfold apl; simp, Nat.min_eq_left (Nat.le_of_lt hlk)] at this
          exact this
        have hya := hyi.acts
        have hndl := nd_le s.length
        have hat : (apl g s)[k]? = some ((g.at_ : Int) + ((g.used + 1 + k : Nat) : Int), gblk (g.used + 1) s k) := by unfold apl; rw [List.getElem?_map, List.getElem?_range hlk]; rfl
        have hsn : wrs cut ch ((apl g s).take (k + 1)) x = y.write cut ch ((g.at_ : Int) + ((g.used + 1 + k : Nat) : Int)) (gblk (g.used + 1) s k) := by
          rw [take_snoc hat, wrs_snoc _ _ _ (by rw [hy]), hy]
        refine XC.drawM (C0 := lnX bl b lv vc cut ch y) rfl ?_
        refine go (k := ?_)
        refine XD.mut (.call rfl rfl fun _ w _ ho => lwrite_ok bl b lv vc cut ch y ((g.at_ : Int) + ((g.used + 1 + k : Nat) : Int)) (gblk (g.used + 1) s k) w hyi.ok (by rw [hyi.len]; exact hm0) (by rw [hyi.len]; exact hm) (by omega) hl hw ho) rfl rfl ?_
        refine XD.tail1 rfl (by decide +kernel) ?_
        rintro v H ⟨_, _, rfl, rfl⟩
        obtain ⟨r, hr⟩ : ∃ r, r = y.write cut ch ((g.at_ : Int) + ((g.used + 1 + k : Nat) : Int)) (gblk (g.used + 1) s k) := ⟨_, rfl⟩
        rw [← hr] at hsn ⊢
        obtain ⟨e1, y1⟩ := r
        simp only
        refine XL.call [7] [0, 1, 2, 3, 4, 5, 6] rfl rfl rfl rfl rfl (fun _ w _ ho => did_ok br bl g e1 w ho) fun _ _ => ?_
        refine XL.nm (M := rgB br bl (g.did e1) :: (lnX bl b lv vc cut ch y1 ++ [.blk bf [iv ((g.used + 1 : Nat) : Int)] 3, .blk bs [str s] 9, .blk b4 [iv 0] 27, .blk b2 [ptr br] 26])) ?_ rfl
        by_cases he : e1 = 0
        · subst he
          have hgd : g.did 0 = g := by unfold Rg.did; simp
          rw [hgd]
          refine go (k := ?_)
          exact XE.round y1 [4, 5, 6, 7, 0, 1, 2, 3] hsn rfl rfl
        · refine go (k := ?_)
          have hall : wrs cut ch (apl g s) x = (e1, y1) := by
            rw [← List.take_append_drop (k + 1) (apl g s), wrs_stop _ _ _ (by rw [hsn]; exact he), hsn]
          exact XE.outRet (e1, y1) [6, 7, 0, 1, 2, 3] ⟨he, hall⟩ rfl rfl rfl
      · intro D y hy
        rw [show (gitems (g.used + 1) s).length = (apl g s).length by unfold gitems apl; simp, List.take_length] at hy
        have e : g.append cut ch s x = (0, { g with used := g.used + nd s.length }, y) := by unfold Rg.append; rw [if_neg (by rw [hb]; decide), if_neg hfull, hy, if_neg (by simp)]
        rw [e]
        refine go (k := ?_)
        refine XD.q (.call rfl rfl fun _ w _ => needs_ok s.length w (by omega)) rfl ?_
        have hnd : nd s.length ≤ 100001 := by have := nd_le s.length; omega
        refine go (k := ?_)
        rw [show (g.used : Int) + (nd s.length : Int) = ((g.used + nd s.length : Nat) : Int) by omega]
        refine XE.mark (.inl rfl) .here ?_
        exact XE.retC1 () [5, 6, 7, 8] rfl rfl rfl rfl (.tail _ (.tail _ (.tail _ (.head _)))) rfl trivial rfl rfl rfl
      · rintro D ⟨e1, y1⟩ ⟨he, hall⟩
        simp only at he
        have e : g.append cut ch s x = (e1, g.did e1, y1) := by unfold Rg.append; rw [if_neg (by rw [hb]; decide), if_neg hfull, hall, if_pos he]
        rw [e]
        refine go (k := ?_)
        refine XE.mark (.inl rfl) .here ?_
        exact XE.retC1 () [3, 4, 5, 6] rfl rfl rfl rfl (.tail _ (.head _)) rfl trivial rfl rfl rfl
end Go.X
