/- NetPlays: the walk. -/
import Derived.Test.YtoeejaikmhedoaaNetT
namespace Go.X
open Go Go.Proofs Go.RowKit
set_option maxHeartbeats 4000000 in
theorem netPlays_no (n : Int) (l : List NAct) (vl : Value) (w : World) (hv : RowAt w vl 5 l.length (nacells l)) (hl : l.length ≤ maxLen) (hs : ∀ a ∈ l, NActOk a) (h : fewN l = false ∨ ¬ (2 ≤ n ∧ n ≤ 8)) :
    Fx Try.prog 5 [iv n, vl] w (Pure w (.bool true)) := by
  have hrl : ∀ L : Heap, Rd w (ids []) L vl 5 l.length (nacells l) := fun L => .old hv (fun _ _ _ => by simp [X.ids])
  have hfew : ∀ w', Kept (ids []) w w' → Fx Try.prog 13 [vl] w' (Pure w' (.bool (fewN l))) := fun w' hk => fewN_ok vl l w' (hrl [] w' (Owns.nil _) hk) hl hs
  refine Fx.of (L0 := []) Try.func5 rfl (by kernel_rfl) Try.ntmps5 rfl (Owns.nil w) ?_
  refine go (k := ?_)
  refine XL.alloc rfl rfl rfl fun b4 => ?_
  by_cases hm : 2 ≤ n ∧ n ≤ 8
  · have hf := h.resolve_right (fun h => h hm)
    refine go (k := ?_)
    refine XL.call [] [0] rfl rfl rfl rfl rfl (fun _ w _ _ => new_ok n w hm.1 hm.2) fun b _ => ?_
    refine go (k := ?_)
    refine XL.q (.call rfl rfl fun _ w' hs' => hfew w' hs'.kept) rfl ?_
    rw [hf]
    refine go (k := ?_)
    refine XL.q (.call rfl rfl fun _ w _ => may29_yes n w) rfl ?_
    rw [decide_eq_true hm]
    refine go (k := ?_)
    refine XL.q (.call rfl rfl fun _ w _ => awake29_ok w) rfl ?_
    refine go (k := ?_)
    exact XE.retC1 () [] rfl rfl rfl rfl (.tail _ (.head _)) rfl trivial rfl rfl rfl
  · have hm' : n < 2 ∨ 8 < n := by omega
    refine go (k := ?_)
    refine XL.q (.call rfl rfl fun _ w _ => new_none n w hm') rfl ?_
    refine go (k := ?_)
    refine XL.q (.call rfl rfl fun _ w' hs' => hfew w' hs'.kept) rfl ?_
    cases hf : fewN l with
    | false =>
      refine go (k := ?_)
      refine XL.q (.call rfl rfl fun _ w _ => may29_yes n w) rfl ?_
      rw [decide_eq_false hm]
      refine go (k := ?_)
      refine XL.q (.call rfl rfl fun _ w _ => awake29_ok w) rfl ?_
      refine go (k := ?_)
      exact XE.retC1 () [] rfl rfl rfl rfl (.head _) rfl trivial rfl rfl rfl
    | true =>
      refine go (k := ?_)
      refine XL.q (.call rfl rfl fun _ w _ => may29_yes n w) rfl ?_
      rw [decide_eq_false hm]
      refine go (k := ?_)
      refine XL.q (.call rfl rfl fun _ w _ => may29_yes n w) rfl ?_
      rw [decide_eq_false hm]
      refine go (k := ?_)
      refine XL.q (.call rfl rfl fun _ w _ => awake29_ok w) rfl ?_
      refine go (k := ?_)
      exact XE.retC1 () [] rfl rfl rfl rfl (.head _) rfl trivial rfl rfl rfl
structure NPw where
  k : Nat
  x : NPs
set_option maxHeartbeats 4000000 in
theorem netPlays_yes (n : Nat) (l : List NAct) (vl : Value) (w : World) (hv : RowAt w vl 5 l.length (nacells l)) (hl : l.length ≤ maxLen) (hs : ∀ a ∈ l, NActOk a) (hn1 : 2 ≤ n) (hn2 : n ≤ 8) (hf : fewN l = true) :
    Fx Try.prog 5 [iv n, vl] w (Pure w (.bool true)) := by
  have hrl : ∀ L : Heap, Rd w (ids []) L vl 5 l.length (nacells l) := fun L => .old hv (fun _ _ _ => by simp [X.ids])
  have hfew : ∀ w', Kept (ids []) w w' → Fx Try.prog 13 [vl] w' (Pure w' (.bool (fewN l))) := fun w' hk => fewN_ok vl l w' (hrl [] w' (Owns.nil _) hk) hl hs
  obtain ⟨hfa, hfl⟩ := fewN_spec hf
  refine Fx.of (L0 := []) Try.func5 rfl (by kernel_rfl) Try.ntmps5 rfl (Owns.nil w) ?_
  refine XC.rdv (hrl _) fun ac mc hvc _ _ hac => ?_
  subst hvc
  refine go (k := ?_)
  refine XL.alloc rfl rfl rfl fun b4 => ?_
  refine go (k := ?_)
  refine XL.call [] [0] rfl rfl rfl rfl rfl (fun _ w _ _ => new_ok n w (by omega) (by omega)) fun b _ => ?_
  refine XL.nm (M := [netE b n 0 ps0, .blk b4 [.bool false] 4]) ?_ rfl
  refine go (k := ?_)
  refine XL.q (.call rfl rfl fun _ w' hs' => hfew w' hs'.kept) rfl ?_
  rw [hf]
  refine go (k := ?_)
  refine XL.q (.call rfl rfl fun _ w _ => may29_yes n w) rfl ?_
  rw [decide_eq_true (show (2 : Int) ≤ n ∧ (n : Int) ≤ 8 by omega)]
  refine go (k := ?_)
  refine XL.box (zs := [iv n, iv 0, nil0]) rfl rfl rfl fun br => ?_
  refine go (k := ?_)
  refine XC.addNil 76 3 ?_
  refine XC.loop (α := NPw) (fun x => [(1, .slice ac l.length mc), (4, ptr b4), (5, ptr b), (6, ptr br), (7, iv x.k)]) (fun x => npG b br n x.x ++ [.blk b4 [.bool false] 4])
    (fun x => x.k ≤ l.length ∧ RN n x.x.ps x.x.L ∧ x.x.lost ≤ 5000 * x.k ∧ x.x.L.length ≤ 2 * x.k) (fun x => l.length - x.k) ⟨0, ⟨0, ps0, nil0, []⟩⟩ [2, 1, 0, 3] ⟨Nat.zero_le _, RN.zero n, Nat.zero_le _, Nat.zero_le _⟩ ⟨rfl, rfl, rfl, rfl, rfl, trivial⟩ rfl rfl ?_
  rintro ⟨k, x⟩ ⟨hk, hR, hlo, hL⟩
  simp only at hk hR hlo hL ⊢
  by_cases hkl : k < l.length
  · obtain ⟨a, ha⟩ : ∃ a, l[k]? = some a := ⟨_, List.getElem?_eq_getElem hkl⟩
    obtain ⟨b1, o1, rfl⟩ : ∃ b off, ac = some ⟨b, off, none⟩ := hac.resolve_left (by omega)
    have hcut := nacells_cut ha
    have hao := hs a (List.mem_of_getElem? ha)
    have hasl := hfa a (List.mem_of_getElem? ha)
    obtain ⟨d0, d1, d2, d3, d4⟩ := nacells_at ha
    refine go (k := ?_)
    refine XD.q (.ldRdN (j := k * 5) rfl rfl rfl rfl (hrl _) (by omega) hcut) rfl ?_
    refine go (k := ?_)
    refine XD.toR (by decide +kernel) (by decide +kernel) (by decide +kernel) ?_
    refine XR.seq (by decide +kernel) ?_
    refine XL.call [0, 1, 2] [3] rfl rfl rfl rfl rfl (fun _ w _ ho => none_ok b br n x a w hR (by omega) hn2 (by omega) (by omega) hao hasl ho) fun y hy => ?_
    obtain ⟨hR', hlo', hL'⟩ := hy
    have hwr : rcnt y.L a.frm a.to = wcnt n y.ps a.frm a.to := rcnt_wcnt hR' hn2 a.frm a.to
    have hwl := wcnt_le (n := n) hR'.nw a.frm a.to
    refine XL.nm (M := npG b br n y ++ [.blk b4 [.bool false] 4]) ?_ rfl
    refine XL.nil (XE.toRk 7 rfl (by decide +kernel) ?_)
    refine XD.run (C := none) (L := npG b br n y ++ [.blk b4 [.bool false] 4]) ?_
    refine go (k := ?_)
    refine XD.qY rfl rfl rfl (.ldRd (j := k * 5 + 1) rfl rfl rfl (hrl _) (by omega) d1) rfl ?_
    refine go (k := ?_)
    refine XD.qY rfl rfl rfl (.ldRd (j := k * 5 + 2) rfl rfl rfl (hrl _) (by omega) d2) rfl ?_
    refine go (k := ?_)
    refine XD.qY rfl rfl rfl (.call rfl rfl fun _ w hs => waits_any b n y.lost y.ps a.frm a.to (by omega) hn2 hR'.nw w (hs.own.grp (.head _))) rfl ?_
    refine go (k := ?_)
    refine XD.qY rfl rfl rfl (.ldRd (j := k * 5 + 1) rfl rfl rfl (hrl _) (by omega) d1) rfl ?_
    refine go (k := ?_)
    refine XD.qY rfl rfl rfl (.ldRd (j := k * 5 + 2) rfl rfl rfl (hrl _) (by omega) d2) rfl ?_
    refine go (k := ?_)
    refine XD.qY rfl rfl rfl (.call (v := iv (wcnt n y.ps a.frm a.to)) rfl rfl fun _ w hs => by
      have := rwaits_ok br n y.lost y.rv y.L a.frm a.to w (by omega) (hs.own.pick (is := [1, 2]) (by decide))
      rw [hwr] at this; exact this) rfl ?_
    have hne : decide ((wcnt n y.ps a.frm a.to : Int) ≠ (wcnt n y.ps a.frm a.to : Int)) = false := by simp
    refine go (k := ?_)
    refine XD.qY rfl rfl hne (.call rfl rfl fun _ w hs => lost_at b n _ _ _ y.lost w ((hs.own.grp (.head _)).ok _ (.head _))) rfl ?_
    refine go (k := ?_)
    exact XE.mid ⟨k + 1, y⟩ [0, 1, 2, 3] ⟨⟨by simp only; omega, hR', by simp only; omega, by simp only; omega⟩, by simp only; omega⟩ ⟨rfl, rfl, rfl, rfl, rfl, trivial⟩ rfl rfl
  · have hnw := hR.nw
    obtain ⟨lost, ps, rv, L⟩ := x
    simp only at hR hlo hL hnw ⊢
    have hRl : ∀ f t, f < n → t < n → (wof L f t).length = (wl ps f t).length := fun f t hf ht => by rw [hR.eq f t (by omega) (by omega)]
    have hwl64 : (wall ps n).length ≤ 64 := Nat.le_trans (wall_len (ps := ps) (n := n)) (Nat.mul_le_mul hn2 hn2)
    refine go (k := ?_)
    refine XL.make (.call rfl rfl fun _ w hs => rways_ok br n lost rv L ps w hn2 (by omega) hRl (hs.own.pick (is := [1, 2]) (by decide))) rfl fun v H hH => ?_
    obtain ⟨v', _, rfl, rfl⟩ := hH
    refine XL.nm ?_
    refine XL.slv (.head _) fun aw q mw hv hq _ => ?_
    subst hv
    obtain rfl : q = (wall ps n).length := by rw [pcs_len] at hq; omega
    refine go (k := ?_)
    refine XL.alloc rfl rfl rfl fun b8 => ?_
    refine go (k := ?_)
    refine XL.call [] [0, 1, 2, 5] rfl rfl rfl rfl rfl (fun _ w _ _ => ways_ok (ptr b) rfl w) fun bx _ => ?_
    refine XL.nm ?_
    refine go (k := ?_)
    refine XL.alloc rfl rfl rfl fun b10 => ?_
    refine go (k := ?_)
    refine XC.rangeFuncA (α := Nat) (β := Empty) (Lc := fun _ => [.blk bx [ptr b] 23, netE b n lost ps]) (H := fun c => [.blk b10 [iv c] 3, .blk b8 [.slice aw (wall ps n).length mw] 48, .sl (.slice aw (wall ps n).length mw) 53 2 (pcs (wall ps n)), .blk b4 [.bool false] 4]) (φ := fun k c => c = k)
      (Z := fun _ => []) (ψ := fun _ => False) (jmp := fun _ => .ret) (xs := witems ps n) 0 [1, 4, 0, 2, 3, 5]
      (fun vs => zipE [11, 12] vs [(4, ptr b4), (8, ptr b8), (10, ptr b10)]) rfl (ways_seq bx b n hn2 ps (fun _ => (lost, ps)) (fun k c => c = k) (fun _ _ _ => ⟨hnw, fun _ _ _ _ _ => rfl⟩)) rfl rfl rfl ?_ rfl ?_ ?_ ?_ (fun _ y => y.elim)
    · intro k vs hvs
      unfold witems at hvs
      rw [List.getElem?_map] at hvs
      obtain ⟨p, _, rfl⟩ := Option.map_eq_some_iff.1 hvs
      rfl
    · intro l k vs w L' hvs
      unfold witems at hvs
      rw [List.getElem?_map] at hvs
      obtain ⟨p, _, rfl⟩ := Option.map_eq_some_iff.1 hvs
      refine go (k := ?_)
      exact XE.midI () trivial ⟨rfl, rfl, rfl, rfl, rfl, trivial⟩ rfl
    · intro l k vs c w hvs hc _
      subst hc
      unfold witems at hvs
      rw [List.getElem?_map] at hvs
      obtain ⟨⟨f, t⟩, hft, rfl⟩ := Option.map_eq_some_iff.1 hvs
      have hlt := (List.getElem?_eq_some_iff.1 hft).1
      have hcut := pcs_at hft
      have hrd : Rd w (ids ([.blk bx [ptr b] 23, netE b n lost ps] ++ [.blk b10 [iv c] 3, .blk b8 [.slice aw (wall ps n).length mw] 48, .sl (.slice aw (wall ps n).length mw) 53 2 (pcs (wall ps n)), .blk b4 [.bool false] 4])) ([.blk bx [ptr b] 23, netE b n lost ps] ++ [.blk b10 [iv c] 3, .blk b8 [.slice aw (wall ps n).length mw] 48, .sl (.slice aw (wall ps n).length mw) 53 2 (pcs (wall ps n)), .blk b4 [.bool false] 4]) (.slice aw (wall ps n).length mw) 2 (wall ps n).length (pcs (wall ps n)) := .sl (.tail _ (.tail _ (.tail _ (.tail _ (.head _))))) (by decide) (pcs_len _).symm
      refine XC.rdv hrd fun aw' mw' hv1 _ _ haw => ?_
      cases hv1
      obtain ⟨b3, o3, rfl⟩ : ∃ b off, aw = some ⟨b, off, none⟩ := haw.resolve_left (by omega)
      have hclt : ¬ ((wall ps n).length : Int) ≤ (c : Int) := by omega
      refine go (k := ?_)
      refine XL.q (.ldRdN (j := c * 2) rfl rfl rfl rfl hrd (by omega) hcut) rfl ?_
      refine go (k := ?_)
      have hne : (!decide ([(f : Int), (t : Int)] = [(f : Int), (t : Int)])) = false := by simp
      refine XL.q (.neA (xs := [(f : Int), (t : Int)]) (ys := [(f : Int), (t : Int)]) rfl rfl rfl rfl rfl rfl rfl rfl) rfl ?_
      rw [hne]
      refine go (k := ?_)
      exact XE.round (c + 1) [0, 1, 2, 3, 4, 5] rfl rfl rfl
    · intro D c hc
      unfold witems at hc
      rw [List.length_map] at hc
      subst hc
      refine go (k := ?_)
      refine XL.q (.call rfl rfl fun _ w _ => awake29_ok w) rfl ?_
      refine go (k := ?_)
      refine XE.mark (.inl rfl) .here ?_
      exact XE.retC1 () [] rfl rfl rfl rfl (.tail _ (.tail _ (.tail _ (.tail _ (.tail _ (.tail _ (.head _))))))) rfl trivial rfl rfl rfl
theorem netPlays_ok (n : Int) (l : List NAct) (vl : Value) (w : World) (hv : RowAt w vl 5 l.length (nacells l)) (hl : l.length ≤ maxLen) (hs : ∀ a ∈ l, NActOk a) :
    Fx Try.prog 5 [iv n, vl] w (Pure w (.bool true)) := by
  by_cases h : fewN l = false ∨ ¬ (2 ≤ n ∧ n ≤ 8)
  · exact netPlays_no n l vl w hv hl hs h
  · obtain ⟨m, rfl⟩ : ∃ m : Nat, n = m := ⟨n.toNat, by omega⟩
    exact netPlays_yes m l vl w hv hl hs (by omega) (by omega) (by simpa using fun e => h (.inl e))
end Go.X
