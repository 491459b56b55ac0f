/- DeviceOrder: the walk. -/
import Derived.Test.YtckelpenodabdaaDevE
namespace Go.X
open Go Go.Proofs Go.RowKit
set_option maxHeartbeats 1000000 in
theorem deviceOrder_ok (l : List Page) (ch : List Int) (vl vc : Value) (w : World) (hv : RowAt w vl 2 l.length (pgcells l)) (hl : l.length ≤ maxLen) (hs : ∀ x ∈ l, x.at_ < 256 ∧ x.s.length ≤ maxLen)
    (hc : RowAt w vc 1 ch.length (ivs ch)) (hcl : ch.length ≤ maxLen) (hcw : ∀ a ∈ ch, -9223372036854775808 ≤ a ∧ a ≤ 9223372036854775807) :
    Fx Try.prog 3 [vl, vc] w (Pure w (.bool true)) := by
  have hr : ∀ L : Heap, Rd w (ids []) L vl 2 l.length (pgcells l) := fun L => .old hv (fun _ _ _ => by simp [X.ids])
  have hrc : ∀ L : Heap, Rd w (ids []) L vc 1 ch.length (ivs ch) := fun L => .old hc (fun _ _ _ => by simp [X.ids])
  simp only [maxLen] at hl hcl hs
  refine Fx.of (L0 := []) Try.func3 rfl (by kernel_rfl) Try.ntmps3 rfl (Owns.nil w) ?_
  refine XC.rdv (hr _) fun ao m hva _ _ haa => ?_
  subst hva
  refine XC.rdv (hrc _) fun ac mc hvc _ _ hac => ?_
  subst hvc
  refine go (k := ?_)
  refine XL.call [] [] rfl rfl rfl rfl rfl (fun _ w _ _ => dnew_ok 256 w (by decide) (by decide)) fun x _ => ?_
  obtain ⟨a, la⟩ := x
  refine go (k := ?_)
  refine XL.call [] [0] rfl rfl rfl rfl rfl (fun _ w _ _ => dnew_ok 256 w (by decide) (by decide)) fun x _ => ?_
  obtain ⟨b, lb⟩ := x
  refine XL.nm ?_
  by_cases h60 : 60 < l.length
  · refine go (k := ?_)
    refine XL.q (.call rfl rfl fun _ w _ => awake11_ok w) rfl ?_
    refine go (k := ?_)
    exact XE.ret1 () [] rfl rfl trivial rfl rfl rfl
  by_cases h20 : 20 < ch.length
  · refine go (k := ?_)
    refine XL.q (.call rfl rfl fun _ w _ => awake11_ok w) rfl ?_
    refine go (k := ?_)
    exact XE.ret1 () [] rfl rfl trivial rfl rfl rfl
  refine go (k := ?_)
  refine XL.alloc (zs := List.replicate 256 (iv 0)) rfl (by kernel_rfl) rfl fun b7 => ?_
  refine go (k := ?_)
  refine XC.loop (α := Nat) (fun k => [(0, .slice ao l.length m), (1, .slice ac ch.length mc), (5, ptr a), (6, ptr b), (7, ptr b7), (8, iv k)]) (fun k => [devE a la (Aof l k), devE b lb (List.replicate 256 slot0), .blk b7 (lcells l k) 27])
    (fun k => k ≤ l.length ∧ ∀ i x, i < k → l[i]? = some x → x.s.length ≤ 64) (fun k => l.length - k) 0 [2, 1, 0] ⟨Nat.zero_le _, fun i x h => by omega⟩ ⟨rfl, rfl, rfl, rfl, rfl, rfl, trivial⟩ rfl (by rw [Aof_zero, lcells_zero]; rfl) ?_
  intro k ⟨hk, hpre⟩
  by_cases hkl : k < l.length
  · obtain ⟨x, hx⟩ : ∃ x, l[k]? = some x := ⟨_, List.getElem?_eq_getElem hkl⟩
    obtain ⟨b1, o1, rfl⟩ : ∃ b off, ao = some ⟨b, off, none⟩ := haa.resolve_left (by omega)
    obtain ⟨c1, c2⟩ := pgcells_at hx
    have hxs := hs x (List.mem_of_getElem? hx)
    refine go (k := ?_)
    refine XL.q (.ldRd (j := k * 2 + 1) rfl rfl rfl (hr _) (by omega) c2) rfl ?_
    by_cases hlong : 64 < x.s.length
    · refine go (k := ?_)
      refine XL.q (.call rfl rfl fun _ w _ => awake11_ok w) rfl ?_
      refine go (k := ?_)
      exact XE.ret1 () [] rfl rfl trivial rfl rfl rfl
    · have hpre' : ∀ i y, i < k + 1 → l[i]? = some y → y.s.length ≤ 64 := fun i y hi hy => by
        by_cases e : i = k
        · subst e; rw [hx] at hy; rw [← Option.some.inj hy]; omega
        · exact hpre i y (by omega) hy
      have hspl := lcells_spl hx hxs.1
      refine go (k := ?_)
      refine XD.q (.ldRd (j := k * 2) rfl rfl rfl (hr _) (by omega) c1) rfl ?_
      refine go (k := ?_)
      refine XD.q (.ldRd (j := k * 2 + 1) rfl rfl rfl (hr _) (by omega) c2) rfl ?_
      refine go (k := ?_)
      refine XL.call [0] [1, 2] rfl rfl rfl rfl rfl (fun _ w _ ho => Fx.grp (fun ho => write_ok a la (Aof l k) x.at_ (wslot l (LI l k x.at_)) x.s w (Aof_ok hpre) (Aof_at l k hxs.1) (by omega) ho) ho) fun _ _ => ?_
      rw [wslot_firm, Aof_step hx hxs.1]
      refine XL.nm ?_
      refine go (k := ?_)
      refine XL.q (.ldRd (j := k * 2) rfl rfl rfl (hr _) (by omega) c1) rfl ?_
      refine go (k := ?_)
      exact XE.mid (k + 1) [0, 1, 2] ⟨⟨by omega, hpre'⟩, by omega⟩ ⟨rfl, rfl, rfl, rfl, rfl, rfl, trivial⟩ rfl rfl
  obtain rfl : k = l.length := by omega
  have hall : ∀ x ∈ l, x.s.length ≤ 64 := fun x hx => by
    obtain ⟨i, hi⟩ := List.getElem?_of_mem hx
    exact hpre i x (List.getElem?_eq_some_iff.1 hi).1 hi
  refine go (k := ?_)
  refine XC.loop (α := Nat) (fun j => [(0, .slice ao l.length m), (1, .slice ac ch.length mc), (5, ptr a), (6, ptr b), (7, ptr b7), (9, iv ((j : Int) - 1))]) (fun j => [devE a la (Aof l l.length), devE b lb (Bof l j), .blk b7 (lcells l l.length) 27])
    (fun j => j ≤ l.length) (fun j => j) l.length [0, 1, 2] (Nat.le_refl _) ⟨rfl, rfl, rfl, rfl, rfl, rfl, trivial⟩ rfl (by rw [Bof_top]; rfl) ?_
  intro j hj
  cases j with
  | succ j =>
    rw [show (((j + 1 : Nat) : Int) - 1) = (j : Int) from by omega]
    obtain ⟨x, hx⟩ : ∃ x, l[j]? = some x := ⟨_, List.getElem?_eq_getElem (by omega)⟩
    obtain ⟨b1, o1, rfl⟩ : ∃ b off, ao = some ⟨b, off, none⟩ := haa.resolve_left (by omega)
    obtain ⟨c1, c2⟩ := pgcells_at hx
    have hxs := hs x (List.mem_of_getElem? hx)
    have hat := lcells_at l l.length hxs.1
    have hat0 : (lcells l l.length)[0 + x.at_ * 1]? = some (iv (LI l l.length x.at_)) := by rw [show 0 + x.at_ * 1 = x.at_ by omega]; exact hat
    refine go (k := ?_)
    refine XD.q (.ldRd (j := j * 2) rfl rfl rfl (hr _) (by omega) c1) rfl ?_
    by_cases hli : LI l l.length x.at_ = j + 1
    · have hli' : ((LI l l.length x.at_ : Nat) : Int) = (j : Int) + 1 := by omega
      refine go (k := ?_)
      refine XD.qY rfl rfl (by simp [hli']) (.ldRd (j := j * 2) rfl rfl rfl (hr _) (by omega) c1) rfl ?_
      refine go (k := ?_)
      refine XD.qY rfl rfl (by simp [hli']) (.ldRd (j := j * 2 + 1) rfl rfl rfl (hr _) (by omega) c2) rfl ?_
      refine go (k := ?_)
      have hsl : (if j + 1 < LI l l.length x.at_ then wslot l (LI l l.length x.at_) else slot0).firm = zbytes 64 := by rw [hli, if_neg (by omega)]; rfl
      refine XL.call [1] [0, 2] rfl rfl rfl rfl rfl (fun _ w _ ho => Fx.grp (fun ho => write_ok b lb (Bof l (j + 1)) x.at_ _ x.s w (Bof_ok hall) (Bof_at l (j + 1) hxs.1) (hall x (List.mem_of_getElem? hx)) ho) ho) fun _ _ => ?_
      rw [hsl, Bof_hit hx hxs.1 hli]
      refine XL.nm ?_
      refine go (k := ?_)
      exact XE.mid j [1, 0, 2] ⟨by omega, by omega⟩ ⟨rfl, rfl, rfl, rfl, rfl, rfl, trivial⟩ rfl rfl
    · have hli' : ¬ ((LI l l.length x.at_ : Nat) : Int) = (j : Int) + 1 := by omega
      have hms := Bof_miss hx hli
      refine go (k := ?_)
      exact XE.mid j [0, 1, 2] ⟨by omega, by omega⟩ ⟨rfl, rfl, rfl, rfl, rfl, rfl, trivial⟩ rfl (by rw [hms]; rfl)
  | zero =>
    have hA : Oks (Aof l l.length) := Aof_ok fun i x _ h => hall x (List.mem_of_getElem? h)
    refine go (k := ?_)
    refine XC.loop (α := Nat × List Slot) (fun x => [(1, .slice ac ch.length mc), (5, ptr a), (6, ptr b), (10, iv x.1)]) (fun x => [devE a la x.2, devE b lb x.2])
      (fun x => x.1 ≤ 2 ∧ Oks x.2 ∧ x.2.length = 256 ∧ (0 < x.1 → ∀ k, freshL x.2 k = [])) (fun x => 2 - x.1) (0, Aof l l.length) [0, 1] ⟨by simp, hA, Aof_len _ _, fun h => by simp at h⟩ ⟨rfl, rfl, rfl, rfl, trivial⟩ rfl (by rw [Bof_zero]; rfl) ?_
    rintro ⟨r, ds⟩ ⟨hr2, hdk, hdl, hdf⟩
    simp only at hr2 hdk hdl hdf ⊢
    have hdl' : ds.length ≤ 100000 := by omega
    by_cases hrl : r < 2
    · refine go (k := ?_)
      refine XL.make (.call rfl rfl fun _ w hs => fresh_ok a la ds w hdk hdl' (hs.own.grp (.head _))) rfl fun v H hv => ?_
      obtain ⟨v1, _, rfl, rfl⟩ := hv
      refine XL.nm ?_
      refine XL.slv (.head _) fun ap qp mp hv hq _ => ?_
      subst hv
      obtain rfl : qp = (freshL ds ds.length).length := by simpa using hq
      refine go (k := ?_)
      refine XL.make (.call rfl rfl fun _ w hs => fresh_ok b lb ds w hdk hdl' (hs.own.grp (.tail _ (.tail _ (.head _))))) rfl fun v H hv => ?_
      obtain ⟨v2, _, rfl, rfl⟩ := hv
      refine XL.nm ?_
      refine XL.slv (.head _) fun aq qq mq hv hq _ => ?_
      subst hv
      obtain rfl : qq = (freshL ds ds.length).length := by simpa using hq
      refine go (k := ?_)
      refine XC.loop (α := Nat) (fun k => [(1, .slice ac ch.length mc), (5, ptr a), (6, ptr b), (10, iv r), (13, iv k)]) (fun _ => [devE a la ds, devE b lb ds]) (fun k => k ≤ 256) (fun k => 256 - k) 0 [2, 3] (Nat.zero_le _) ⟨rfl, rfl, rfl, rfl, rfl, trivial⟩ rfl rfl ?_
      intro k hk
      by_cases hkl : k < 256
      · obtain ⟨s, hs⟩ : ∃ s, ds[k]? = some s := ⟨_, List.getElem?_eq_getElem (by omega)⟩
        refine go (k := ?_)
        refine XL.q (.call rfl rfl fun _ w hs' => read_ok a la ds k s w hdk hs (hs'.own.grp (.head _))) rfl ?_
        refine go (k := ?_)
        refine XL.q (.call rfl rfl fun _ w hs' => read_ok b lb ds k s w hdk hs (hs'.own.grp (.tail _ (.head _)))) rfl ?_
        refine go (k := ?_)
        exact XE.mid (k + 1) [0, 1] ⟨by omega, by omega⟩ ⟨rfl, rfl, rfl, rfl, rfl, trivial⟩ rfl rfl
      · refine go (k := ?_)
        refine XL.call [0] [1] rfl rfl rfl rfl rfl (fun _ w1 hs ho => Fx.grp (fun ho => crash_ok a la ds _ ch w1 hdk hdl' (fun w' hk' => hrc [] w' (Owns.nil _) (hs.keptTo hk' (ids_of_mem (x := devE a la ds) (.head _)))) (by omega) hcw ho) ho) fun _ _ => ?_
        refine XL.nm ?_
        refine go (k := ?_)
        refine XL.call [1] [0] rfl rfl rfl rfl rfl (fun _ w1 hs ho => Fx.grp (fun ho => crash_ok b lb ds _ ch w1 hdk hdl' (fun w' hk' => hrc [] w' (Owns.nil _) (hs.keptTo hk' (ids_of_mem (x := devE b lb ds) (.tail _ (.head _))))) (by omega) hcw ho) ho) fun _ _ => ?_
        refine XL.nm ?_
        refine go (k := ?_)
        exact XE.mid (r + 1, settled (Fc ch) ds) [1, 0] ⟨⟨by simp only; omega, settled_ok hdk, by simp only; rw [settled_len]; exact hdl, fun _ k => settled_fresh _ _ k⟩, by simp only; omega⟩ ⟨rfl, rfl, rfl, rfl, trivial⟩ rfl rfl
    · refine go (k := ?_)
      refine XL.make (.call rfl rfl fun _ w hs => fresh_ok a la ds w hdk hdl' (hs.own.grp (.head _))) rfl fun v H hv => ?_
      obtain ⟨v1, _, rfl, rfl⟩ := hv
      rw [hdf (by omega)]
      refine XL.slv (.head _) fun ap qp mp hv hq _ => ?_
      subst hv
      obtain rfl : qp = 0 := by simpa using hq
      refine go (k := ?_)
      refine XL.q (.call rfl rfl fun _ w _ => awake11_ok w) rfl ?_
      refine go (k := ?_)
      exact XE.ret1 () [] rfl rfl trivial rfl rfl rfl
theorem pages_of {H : Type} {enc : TypeId × Value → H} {w : World} {spare : Nat → Bool} {held : Bool} {v : Value} (h : KOk enc Try.prog w 0 spare held (.sl 29) v) :
    ∃ l : List Page, RowAt w v 2 l.length (pgcells l) ∧ l.length ≤ maxLen ∧ ∀ x ∈ l, x.at_ < 256 ∧ x.s.length ≤ maxLen :=
  rows_of pcells (Q := fun x => x.at_ < 256 ∧ x.s.length ≤ maxLen) (by decide) (by kernel_rfl) (fun cs fuel x hl h => by
    obtain ⟨c0, c1, rfl⟩ := len2 hl
    have hf := flat_ok 4 (l := [(0, .int .u8), (1, .str)]) (by kernel_rfl) h
    obtain ⟨_, e0, n0, rfl, b0⟩ := hf (0, .int .u8) (.head _)
    obtain ⟨_, e1, s1, rfl, b1⟩ := hf (1, .str) (.tail _ (.head _))
    obtain rfl := Option.some.inj e0
    obtain rfl := Option.some.inj e1
    have hw := wf_u8 b0
    obtain ⟨a, rfl⟩ : ∃ a : Nat, n0 = a := ⟨n0.toNat, by omega⟩
    exact ⟨⟨a, s1.data.toList⟩, rfl, by simp only; omega, b1⟩) h
end Go.X
