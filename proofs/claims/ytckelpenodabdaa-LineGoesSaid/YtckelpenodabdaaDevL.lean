/- LineCuts: the walk. -/
import Derived.Test.YtckelpenodabdaaDevK
namespace Go.X
open Go Go.Proofs Go.RowKit
theorem ids_l {L M : Heap} : ∀ b ∈ ids L, b ∈ ids (L ++ M) := fun b hb => by
  obtain ⟨x, hx, hbx⟩ := mem_ids.1 hb
  exact mem_ids.2 ⟨x, List.mem_append_left _ hx, hbx⟩
theorem ids_r {L M : Heap} : ∀ b ∈ ids M, b ∈ ids (L ++ M) := fun b hb => by
  obtain ⟨x, hx, hbx⟩ := mem_ids.1 hb
  exact mem_ids.2 ⟨x, List.mem_append_right _ hx, hbx⟩
theorem rd0 (w' : World) : RowAt w' (.slice none 0 0) 1 0 (ivs []) := (Rd.nil : Rd w' [] [] _ 1 0 (ivs [])) w' (Owns.nil _) (Kept.refl _ _)
set_option maxHeartbeats 4000000 in
theorem lineCuts_ok (num : Nat) (ch : List Int) (l : List LAct) (vc vl : Value) (w : World) (hnum : num ≤ 255) (hv : RowAt w vl 3 l.length (lacells l)) (hl : l.length ≤ maxLen) (hs : ∀ a ∈ l, LActOk a)
    (hc : RowAt w vc 1 ch.length (ivs ch)) (hcl : ch.length ≤ maxLen) (hcw : ∀ a ∈ ch, -9223372036854775808 ≤ a ∧ a ≤ 9223372036854775807) :
    Fx Try.prog 8 [.int .u8 (num : Int), vc, vl] w (Pure w (.bool true)) := by
  have hrc : ∀ L : Heap, Rd w (ids []) L vc 1 ch.length (ivs ch) := fun L => .old hc (fun _ _ _ => by simp [X.ids])
  have hrl : ∀ L : Heap, Rd w (ids []) L vl 3 l.length (lacells l) := fun L => .old hv (fun _ _ _ => by simp [X.ids])
  have hl' := hl
  simp only [maxLen] at hl' hcl
  refine Fx.of (L0 := []) Try.func8 rfl (by kernel_rfl) Try.ntmps8 rfl (Owns.nil w) ?_
  refine XC.rdv (hrc _) fun ac mc hvc _ _ hac => ?_
  subst hvc
  refine XC.rdv (hrl _) fun ao mo hvl _ _ hao => ?_
  subst hvl
  refine go (k := ?_)
  refine XL.q (.call (v := .bool (fewL l)) rfl rfl fun _ w' hs' => fewL_ok _ l w' (hrl [] w' (Owns.nil _) hs'.kept) hl hs) rfl ?_
  by_cases hfew : fewL l = false
  · rw [hfew]
    refine go (k := ?_)
    refine XL.q (.call rfl rfl fun _ w _ => works_ok w) rfl ?_
    refine go (k := ?_)
    exact XE.ret1 () [] rfl rfl trivial rfl rfl rfl
  have hfew' : fewL l = true := by simpa using hfew
  obtain ⟨hfa, hfl⟩ := fewL_spec hfew'
  rw [hfew']
  by_cases h10 : 10 < ch.length
  · refine go (k := ?_)
    refine XL.q (.call rfl rfl fun _ w _ => works_ok w) rfl ?_
    refine go (k := ?_)
    exact XE.ret1 () [] rfl rfl trivial rfl rfl rfl
  refine go (k := ?_)
  obtain ⟨n, hn⟩ : ∃ n, n = num % 70 := ⟨_, rfl⟩
  have hn70 : n < 70 := by omega
  rw [show ((num : Int) % 70) = (n : Int) from by omega]
  refine go (k := ?_)
  refine XL.call [] [] rfl rfl rfl rfl rfl (fun _ w _ _ => dnew_ok 256 w (by decide) (by decide)) fun x _ => ?_
  obtain ⟨b, lv⟩ := x
  refine go (k := ?_)
  refine XL.call [] [0] rfl rfl rfl rfl rfl (fun _ w _ _ => dnew_ok 256 w (by decide) (by decide)) fun x _ => ?_
  obtain ⟨b2, lv2⟩ := x
  refine XL.nm ?_
  refine go (k := ?_)
  refine XL.call [1] [0] rfl rfl rfl rfl rfl (fun _ w1 hs ho => lnew_ok b lv (List.replicate 256 slot0) n _ ch w1 (rep_ok 256) (by rw [List.length_replicate]; decide) (by omega) (fun w' hk' => hrc [] w' (Owns.nil _) (hs.keptTo hk' (ids_of_mem (x := devE b lv (List.replicate 256 slot0)) (.tail _ (.head _))))) ho) fun x _ => ?_
  obtain ⟨bl, vl1⟩ := x
  refine XL.nm ?_
  refine go (k := ?_)
  refine XL.call [3] [0, 1, 2] rfl rfl rfl rfl rfl (fun _ w1 hs ho => lnew_ok b2 lv2 (List.replicate 256 slot0) (-1) _ [] w1 (rep_ok 256) (by rw [List.length_replicate]; decide) (by decide) (fun w' hk' => rd0 w') ho) fun x _ => ?_
  obtain ⟨bm, vl2⟩ := x
  refine XL.nm ?_
  have hls : ∀ a ∈ l, LActOk a ∧ a.s.length ≤ 1000 := fun a ha => ⟨hs a ha, by have := hfa a ha; omega⟩
  have hCR := CR.all n ch l hfl l.length (Nat.le_refl _)
  rw [List.take_length] at hCR
  have hA60 := lrun_le n ch 100 l (0, ln0)
  have hAo := lrun_lok (cut := n) (ch := ch) (most := 100) l (p := (0, ln0)) ln0_ok
  have hBo := lrun_lok (cut := -1) (ch := []) (most := 100) l (p := (0, ln0)) ln0_ok
  have hYo := lrun_lok (cut := -1) (ch := []) (most := n) l (p := (0, ln0)) ln0_ok
  have hY1o := lrun_lok (cut := -1) (ch := []) (most := n + 1) l (p := (0, ln0)) ln0_ok
  refine go (k := ?_)
  refine XL.call [3, 4, 5] [0, 1, 2] rfl rfl rfl rfl rfl (fun _ w1 hs' ho => lrun_ok bl b lv vl1 n ch ln0 0 _ l 100 w1 ln0_ok (by decide) (by decide) (by omega) (by omega) hcw hls (fun w' hk' => hrl [] w' (Owns.nil _) (hs'.keptTo hk' (ids_r (L := [_, _, _])))) ho) fun _ _ => ?_
  refine XL.nm ?_
  obtain ⟨⟨c, x⟩, hA⟩ : ∃ p, p = lrun n ch 100 (0, ln0) l := ⟨_, rfl⟩
  obtain ⟨B, hB⟩ : ∃ p, p = lrun (-1) [] 100 (0, ln0) l := ⟨_, rfl⟩
  obtain ⟨Y, hY⟩ : ∃ p, p = lrun (-1) [] n (0, ln0) l := ⟨_, rfl⟩
  obtain ⟨Y1, hY1⟩ : ∃ p, p = lrun (-1) [] (n + 1) (0, ln0) l := ⟨_, rfl⟩
  rw [← hA, ← hB, ← hY, ← hY1] at hCR
  rw [← hA] at hA60 hAo
  rw [← hB] at hBo
  rw [← hY] at hYo
  rw [← hY1] at hY1o
  rw [← hA]
  clear hA
  obtain ⟨hb, hlo, hhi⟩ := hCR
  simp only at hA60 hAo hb hlo hhi ⊢
  simp only [Nat.zero_add] at hA60 hAo hBo hYo hY1o
  by_cases hcn : c ≤ n
  · obtain ⟨rfl, _, _⟩ := hlo hcn
    clear hlo hhi hY hY1 hYo hY1o
    obtain ⟨D, hD⟩ : ∃ D, D = B.2.ds := ⟨_, rfl⟩
    rw [← hD] at hb
    subst hb
    simp only at hAo hBo hB
    clear hD
    have hDo : Oks D := hAo.ok
    have hDl : D.length = 256 := hAo.len
    refine go (k := ?_)
    refine XL.q (.call rfl rfl fun _ w hs => down_at bl b n vl1 c false _ _ w (hs.own.ok _ (.head _))) rfl ?_
    refine go (k := ?_)
    refine XL.call [3, 4, 5] [0, 1, 2] rfl rfl rfl rfl rfl (fun _ w1 hs' ho => lrun_ok bm b2 lv2 vl2 (-1) [] ln0 0 _ l 100 w1 ln0_ok (by decide) (by decide) (by omega) (by decide) (fun a ha => by cases ha) hls (fun w' hk' => hrl [] w' (Owns.nil _) (hs'.keptTo hk' (ids_r (L := [_, _, _])))) ho) fun _ _ => ?_
    rw [← hB]
    refine XL.nm ?_
    clear hB
    refine go (k := ?_)
    refine XC.loop (α := Nat) (fun k => [(2, .slice ao l.length mo), (8, ptr b), (9, ptr b2), (13, iv k)]) (fun _ => [devE b lv D, devE b2 lv2 D]) (fun k => k ≤ l.length) (fun k => l.length - k) 0 [5, 2] (Nat.zero_le _) ⟨rfl, rfl, rfl, rfl, trivial⟩ rfl rfl ?_
    intro k hk
    by_cases hkl : k < l.length
    · obtain ⟨a, ha⟩ : ∃ a, l[k]? = some a := ⟨_, List.getElem?_eq_getElem hkl⟩
      obtain ⟨b3, o3, rfl⟩ : ∃ b off, ao = some ⟨b, off, none⟩ := hao.resolve_left (by omega)
      obtain ⟨c1, c2, c3⟩ := lacells_at ha
      refine go (k := ?_)
      refine XL.q (.ldRd (j := k * 3 + 1) rfl rfl rfl (hrl _) (by omega) c2) rfl ?_
      refine go (k := ?_)
      refine XL.q (.call rfl rfl fun _ w hs => read_any b lv D a.at_ w hDo (by omega) (hs.own.grp (.head _))) rfl ?_
      refine go (k := ?_)
      refine XL.q (.ldRd (j := k * 3 + 1) rfl rfl rfl (hrl _) (by omega) c2) rfl ?_
      refine go (k := ?_)
      refine XL.q (.call rfl rfl fun _ w hs => read_any b2 lv2 D a.at_ w hDo (by omega) (hs.own.grp (.tail _ (.head _)))) rfl ?_
      refine go (k := ?_)
      exact XE.mid (k + 1) [0, 1] ⟨by omega, by omega⟩ ⟨rfl, rfl, rfl, rfl, trivial⟩ rfl rfl
    · refine go (k := ?_)
      refine XL.make (.call rfl rfl fun _ w hs => fresh_ok b lv D w hDo (by omega) (hs.own.grp (.head _))) rfl fun v H hv => ?_
      obtain ⟨v1, _, rfl, rfl⟩ := hv
      refine XL.nm ?_
      refine XL.slv (.head _) fun aq q mq hv hq _ => ?_
      subst hv
      obtain rfl : q = (freshL D D.length).length := by simpa using hq
      refine go (k := ?_)
      refine XL.make (.call rfl rfl fun _ w hs => fresh_ok b2 lv2 D w hDo (by omega) (hs.own.grp (.tail _ (.tail _ (.head _))))) rfl fun v H hv => ?_
      obtain ⟨v2, _, rfl, rfl⟩ := hv
      refine XL.nm ?_
      refine XL.slv (.head _) fun ar q' mr hv hq' _ => ?_
      subst hv
      obtain rfl : q' = (freshL D D.length).length := by simpa using hq'
      refine go (k := ?_)
      refine XL.q (.call rfl rfl fun _ w _ => works_ok w) rfl ?_
      refine go (k := ?_)
      exact XE.ret1 () [] rfl rfl trivial rfl rfl rfl
  · obtain ⟨rfl, hYn, hY1n⟩ := hhi (by omega)
    clear hlo hhi hB hBo
    obtain ⟨D, hD⟩ : ∃ D, D = settled (Fc ch) (if oddc ch = true then Y1.2.ds else Y.2.ds) := ⟨_, rfl⟩
    rw [← hD] at hAo ⊢
    have hDo : Oks D := hAo.ok
    have hDl : D.length = 256 := hAo.len
    refine go (k := ?_)
    refine XL.q (.call rfl rfl fun _ w hs => down_at bl b n vl1 (n + 1) true _ _ w (hs.own.ok _ (.head _))) rfl ?_
    refine go (k := ?_)
    refine XL.q (.call rfl rfl fun _ w hs => acts_at bl b n vl1 (n + 1) true _ _ w (hs.own.ok _ (.head _))) rfl ?_
    cases ch with
    | nil =>
      rw [show oddc [] = false from rfl, if_neg (by decide)] at hD
      refine go (k := ?_)
      refine XL.call [3, 4, 5] [0, 1, 2] rfl rfl rfl rfl rfl (fun _ w1 hs' ho => lrun_ok bm b2 lv2 vl2 (-1) [] ln0 0 _ l n w1 ln0_ok (by decide) (by omega) (by omega) (by decide) (fun a ha => by cases ha) hls (fun w' hk' => hrl [] w' (Owns.nil _) (hs'.keptTo hk' (ids_r (L := [_, _, _])))) ho) fun _ _ => ?_
      rw [← hY]
      refine XL.nm ?_
      refine go (k := ?_)
      refine XL.call [2] [0, 1, 3, 4, 5] rfl rfl rfl rfl rfl (fun _ w1 hs' ho => Fx.grp (fun ho => crash_ok b2 lv2 Y.2.ds _ [] w1 hYo.ok (by have := hYo.len; omega) (fun w' hk' => hrc [] w' (Owns.nil _) (hs'.keptTo hk' (ids_of_mem (x := devE b2 lv2 Y.2.ds) (.tail _ (.tail _ (.head _)))))) (by omega) hcw ho) ho) fun _ _ => ?_
      rw [← hD]
      refine XL.nm ?_
      refine go (k := ?_)
      refine XC.loop (α := Nat) (fun k => [(2, .slice ao l.length mo), (8, ptr b), (9, ptr b2), (13, iv k)]) (fun _ => [devE b lv D, devE b2 lv2 D]) (fun k => k ≤ l.length) (fun k => l.length - k) 0 [5, 0] (Nat.zero_le _) ⟨rfl, rfl, rfl, rfl, trivial⟩ rfl rfl ?_
      intro k hk
      by_cases hkl : k < l.length
      · obtain ⟨a, ha⟩ : ∃ a, l[k]? = some a := ⟨_, List.getElem?_eq_getElem hkl⟩
        obtain ⟨b3, o3, rfl⟩ : ∃ b off, ao = some ⟨b, off, none⟩ := hao.resolve_left (by omega)
        obtain ⟨c1, c2, c3⟩ := lacells_at ha
        refine go (k := ?_)
        refine XL.q (.ldRd (j := k * 3 + 1) rfl rfl rfl (hrl _) (by omega) c2) rfl ?_
        refine go (k := ?_)
        refine XL.q (.call rfl rfl fun _ w hs => read_any b lv D a.at_ w hDo (by omega) (hs.own.grp (.head _))) rfl ?_
        refine go (k := ?_)
        refine XL.q (.ldRd (j := k * 3 + 1) rfl rfl rfl (hrl _) (by omega) c2) rfl ?_
        refine go (k := ?_)
        refine XL.q (.call rfl rfl fun _ w hs => read_any b2 lv2 D a.at_ w hDo (by omega) (hs.own.grp (.tail _ (.head _)))) rfl ?_
        refine go (k := ?_)
        exact XE.mid (k + 1) [0, 1] ⟨by omega, by omega⟩ ⟨rfl, rfl, rfl, rfl, trivial⟩ rfl rfl
      · refine go (k := ?_)
        refine XL.make (.call rfl rfl fun _ w hs => fresh_ok b lv D w hDo (by omega) (hs.own.grp (.head _))) rfl fun v H hv => ?_
        obtain ⟨v1, _, rfl, rfl⟩ := hv
        refine XL.nm ?_
        refine XL.slv (.head _) fun aq q mq hv hq _ => ?_
        subst hv
        obtain rfl : q = (freshL D D.length).length := by simpa using hq
        refine go (k := ?_)
        refine XL.make (.call rfl rfl fun _ w hs => fresh_ok b2 lv2 D w hDo (by omega) (hs.own.grp (.tail _ (.tail _ (.head _))))) rfl fun v H hv => ?_
        obtain ⟨v2, _, rfl, rfl⟩ := hv
        refine XL.nm ?_
        refine XL.slv (.head _) fun ar q' mr hv hq' _ => ?_
        subst hv
        obtain rfl : q' = (freshL D D.length).length := by simpa using hq'
        refine go (k := ?_)
        refine XL.q (.call rfl rfl fun _ w _ => works_ok w) rfl ?_
        refine go (k := ?_)
        exact XE.ret1 () [] rfl rfl trivial rfl rfl rfl
    | cons c0 ch =>
      have hcw0 := hcw c0 (.head _)
      have hlen0 : 0 < (c0 :: ch).length := by simp
      obtain ⟨b1, o1, rfl⟩ : ∃ b off, ac = some ⟨b, off, none⟩ := hac.resolve_left (by omega)
      by_cases hodd : c0.tmod 2 = 0
      · rw [show oddc (c0 :: ch) = false from by simp [oddc, hodd], if_neg (by decide)] at hD
        refine go (k := ?_)
        refine XL.q (.ldRd (j := 0 * 1) rfl rfl rfl (hrc _) (by omega) rfl) rfl ?_
        refine go (k := ?_)
        refine XL.call [3, 4, 5] [0, 1, 2] rfl rfl rfl rfl rfl (fun _ w1 hs' ho => lrun_ok bm b2 lv2 vl2 (-1) [] ln0 0 _ l n w1 ln0_ok (by decide) (by omega) (by omega) (by decide) (fun a ha => by cases ha) hls (fun w' hk' => hrl [] w' (Owns.nil _) (hs'.keptTo hk' (ids_r (L := [_, _, _])))) ho) fun _ _ => ?_
        rw [← hY]
        refine XL.nm ?_
        refine go (k := ?_)
        refine XL.call [2] [0, 1, 3, 4, 5] rfl rfl rfl rfl rfl (fun _ w1 hs' ho => Fx.grp (fun ho => crash_ok b2 lv2 Y.2.ds _ (c0 :: ch) w1 hYo.ok (by have := hYo.len; omega) (fun w' hk' => hrc [] w' (Owns.nil _) (hs'.keptTo hk' (ids_of_mem (x := devE b2 lv2 Y.2.ds) (.tail _ (.tail _ (.head _)))))) (by omega) hcw ho) ho) fun _ _ => ?_
        rw [← hD]
        refine XL.nm ?_
        refine go (k := ?_)
        refine XC.loop (α := Nat) (fun k => [(2, .slice ao l.length mo), (8, ptr b), (9, ptr b2), (13, iv k)]) (fun _ => [devE b lv D, devE b2 lv2 D]) (fun k => k ≤ l.length) (fun k => l.length - k) 0 [5, 0] (Nat.zero_le _) ⟨rfl, rfl, rfl, rfl, trivial⟩ rfl rfl ?_
        intro k hk
        by_cases hkl : k < l.length
        · obtain ⟨a, ha⟩ : ∃ a, l[k]? = some a := ⟨_, List.getElem?_eq_getElem hkl⟩
          obtain ⟨b3, o3, rfl⟩ : ∃ b off, ao = some ⟨b, off, none⟩ := hao.resolve_left (by omega)
          obtain ⟨c1, c2, c3⟩ := lacells_at ha
          refine go (k := ?_)
          refine XL.q (.ldRd (j := k * 3 + 1) rfl rfl rfl (hrl _) (by omega) c2) rfl ?_
          refine go (k := ?_)
          refine XL.q (.call rfl rfl fun _ w hs => read_any b lv D a.at_ w hDo (by omega) (hs.own.grp (.head _))) rfl ?_
          refine go (k := ?_)
          refine XL.q (.ldRd (j := k * 3 + 1) rfl rfl rfl (hrl _) (by omega) c2) rfl ?_
          refine go (k := ?_)
          refine XL.q (.call rfl rfl fun _ w hs => read_any b2 lv2 D a.at_ w hDo (by omega) (hs.own.grp (.tail _ (.head _)))) rfl ?_
          refine go (k := ?_)
          exact XE.mid (k + 1) [0, 1] ⟨by omega, by omega⟩ ⟨rfl, rfl, rfl, rfl, trivial⟩ rfl rfl
        · refine go (k := ?_)
          refine XL.make (.call rfl rfl fun _ w hs => fresh_ok b lv D w hDo (by omega) (hs.own.grp (.head _))) rfl fun v H hv => ?_
          obtain ⟨v1, _, rfl, rfl⟩ := hv
          refine XL.nm ?_
          refine XL.slv (.head _) fun aq q mq hv hq _ => ?_
          subst hv
          obtain rfl : q = (freshL D D.length).length := by simpa using hq
          refine go (k := ?_)
          refine XL.make (.call rfl rfl fun _ w hs => fresh_ok b2 lv2 D w hDo (by omega) (hs.own.grp (.tail _ (.tail _ (.head _))))) rfl fun v H hv => ?_
          obtain ⟨v2, _, rfl, rfl⟩ := hv
          refine XL.nm ?_
          refine XL.slv (.head _) fun ar q' mr hv hq' _ => ?_
          subst hv
          obtain rfl : q' = (freshL D D.length).length := by simpa using hq'
          refine go (k := ?_)
          refine XL.q (.call rfl rfl fun _ w _ => works_ok w) rfl ?_
          refine go (k := ?_)
          exact XE.ret1 () [] rfl rfl trivial rfl rfl rfl
      · rw [show oddc (c0 :: ch) = true from by simp [oddc, hodd], if_pos rfl] at hD
        refine go (k := ?_)
        refine XL.q (.ldRd (j := 0 * 1) rfl rfl rfl (hrc _) (by omega) rfl) rfl ?_
        refine go (k := ?_)
        refine XL.call [3, 4, 5] [0, 1, 2] rfl rfl rfl rfl rfl (fun _ w1 hs' ho => lrun_ok bm b2 lv2 vl2 (-1) [] ln0 0 _ l (n + 1) w1 ln0_ok (by decide) (by omega) (by omega) (by decide) (fun a ha => by cases ha) hls (fun w' hk' => hrl [] w' (Owns.nil _) (hs'.keptTo hk' (ids_r (L := [_, _, _])))) ho) fun _ _ => ?_
        rw [← hY1]
        refine XL.nm ?_
        refine go (k := ?_)
        refine XL.call [2] [0, 1, 3, 4, 5] rfl rfl rfl rfl rfl (fun _ w1 hs' ho => Fx.grp (fun ho => crash_ok b2 lv2 Y1.2.ds _ (c0 :: ch) w1 hY1o.ok (by have := hY1o.len; omega) (fun w' hk' => hrc [] w' (Owns.nil _) (hs'.keptTo hk' (ids_of_mem (x := devE b2 lv2 Y1.2.ds) (.tail _ (.tail _ (.head _)))))) (by omega) hcw ho) ho) fun _ _ => ?_
        rw [← hD]
        refine XL.nm ?_
        refine go (k := ?_)
        refine XC.loop (α := Nat) (fun k => [(2, .slice ao l.length mo), (8, ptr b), (9, ptr b2), (13, iv k)]) (fun _ => [devE b lv D, devE b2 lv2 D]) (fun k => k ≤ l.length) (fun k => l.length - k) 0 [5, 0] (Nat.zero_le _) ⟨rfl, rfl, rfl, rfl, trivial⟩ rfl rfl ?_
        intro k hk
        by_cases hkl : k < l.length
        · obtain ⟨a, ha⟩ : ∃ a, l[k]? = some a := ⟨_, List.getElem?_eq_getElem hkl⟩
          obtain ⟨b3, o3, rfl⟩ : ∃ b off, ao = some ⟨b, off, none⟩ := hao.resolve_left (by omega)
          obtain ⟨c1, c2, c3⟩ := lacells_at ha
          refine go (k := ?_)
          refine XL.q (.ldRd (j := k * 3 + 1) rfl rfl rfl (hrl _) (by omega) c2) rfl ?_
          refine go (k := ?_)
          refine XL.q (.call rfl rfl fun _ w hs => read_any b lv D a.at_ w hDo (by omega) (hs.own.grp (.head _))) rfl ?_
          refine go (k := ?_)
          refine XL.q (.ldRd (j := k * 3 + 1) rfl rfl rfl (hrl _) (by omega) c2) rfl ?_
          refine go (k := ?_)
          refine XL.q (.call rfl rfl fun _ w hs => read_any b2 lv2 D a.at_ w hDo (by omega) (hs.own.grp (.tail _ (.head _)))) rfl ?_
          refine go (k := ?_)
          exact XE.mid (k + 1) [0, 1] ⟨by omega, by omega⟩ ⟨rfl, rfl, rfl, rfl, trivial⟩ rfl rfl
        · refine go (k := ?_)
          refine XL.make (.call rfl rfl fun _ w hs => fresh_ok b lv D w hDo (by omega) (hs.own.grp (.head _))) rfl fun v H hv => ?_
          obtain ⟨v1, _, rfl, rfl⟩ := hv
          refine XL.nm ?_
          refine XL.slv (.head _) fun aq q mq hv hq _ => ?_
          subst hv
          obtain rfl : q = (freshL D D.length).length := by simpa using hq
          refine go (k := ?_)
          refine XL.make (.call rfl rfl fun _ w hs => fresh_ok b2 lv2 D w hDo (by omega) (hs.own.grp (.tail _ (.tail _ (.head _))))) rfl fun v H hv => ?_
          obtain ⟨v2, _, rfl, rfl⟩ := hv
          refine XL.nm ?_
          refine XL.slv (.head _) fun ar q' mr hv hq' _ => ?_
          subst hv
          obtain rfl : q' = (freshL D D.length).length := by simpa using hq'
          refine go (k := ?_)
          refine XL.q (.call rfl rfl fun _ w _ => works_ok w) rfl ?_
          refine go (k := ?_)
          exact XE.ret1 () [] rfl rfl trivial rfl rfl rfl
end Go.X
