/- LineAnswers: the walk. -/
import Derived.Test.YtckelpenodabdaaDevL
namespace Go.X
open Go Go.Proofs Go.RowKit
theorem lacells_len : ∀ l, (lacells l).length = l.length * 3
  | [] => rfl
  | a :: l => by
    have := lacells_len l
    unfold lacells at this ⊢
    simp only [List.flatMap_cons, List.length_append, this, List.length_cons, lacell, List.length_nil]; omega
theorem lacells_cut {l : List LAct} {i : Nat} {a : LAct} (h : l[i]? = some a) : cut (lacells l) (i * 3) 3 = some (lacell a) := by
  obtain ⟨h1, h2, h3⟩ := lacells_at h
  have hlt : i * 3 + 3 ≤ (lacells l).length := by rw [lacells_len]; have := (List.getElem?_eq_some_iff.1 h).1; omega
  rw [cut_some hlt]
  congr 1
  apply List.ext_getElem?
  intro q
  rw [List.getElem?_take]
  match q with
  | 0 => simpa [lacell] using h1
  | 1 => simpa [lacell] using h2
  | 2 => simpa [lacell] using h3
  | q + 3 => simp only [List.getElem?_drop]; rw [if_neg (by omega)]; rfl
set_option maxHeartbeats 4000000 in
theorem lineAnswers_ok (num : Nat) (ch : List Int) (l : List LAct) (vc vl : Value) (w : World) (hnum : num ≤ 255) (hv : RowAt w vl 3 l.length (lacells l)) (hl : l.length ≤ maxLen) (hs : ∀ a ∈ l, LActOk a)
    (hc : RowAt w vc 1 ch.length (ivs ch)) (hcl : ch.length ≤ maxLen) (hcw : ∀ a ∈ ch, -9223372036854775808 ≤ a ∧ a ≤ 9223372036854775807) :
    Fx Try.prog 6 [.int .u8 (num : Int), vc, vl] w (Pure w (.bool true)) := by
  have hrc : ∀ L : Heap, Rd w (ids []) L vc 1 ch.length (ivs ch) := fun L => .old hc (fun _ _ _ => by simp [X.ids])
  have hrl : ∀ L : Heap, Rd w (ids []) L vl 3 l.length (lacells l) := fun L => .old hv (fun _ _ _ => by simp [X.ids])
  have hl' := hl
  simp only [maxLen] at hl' hcl
  refine Fx.of (L0 := []) Try.func6 rfl (by kernel_rfl) Try.ntmps6 rfl (Owns.nil w) ?_
  refine XC.rdv (hrc _) fun ac mc hvc _ _ hac => ?_
  subst hvc
  refine XC.rdv (hrl _) fun ao mo hvl _ _ hao => ?_
  subst hvl
  refine go (k := ?_)
  refine XL.q (.call (v := .bool (fewL l)) rfl rfl fun _ w' hs' => fewL_ok _ l w' (hrl [] w' (Owns.nil _) hs'.kept) hl hs) rfl ?_
  by_cases hfew : fewL l = false
  · rw [hfew]
    refine go (k := ?_)
    refine XL.q (.call rfl rfl fun _ w _ => works_ok w) rfl ?_
    refine go (k := ?_)
    exact XE.ret1 () [] rfl rfl trivial rfl rfl rfl
  have hfew' : fewL l = true := by simpa using hfew
  obtain ⟨hfa, hfl⟩ := fewL_spec hfew'
  rw [hfew']
  by_cases h10 : 10 < ch.length
  · refine go (k := ?_)
    refine XL.q (.call rfl rfl fun _ w _ => works_ok w) rfl ?_
    refine go (k := ?_)
    exact XE.ret1 () [] rfl rfl trivial rfl rfl rfl
  refine go (k := ?_)
  obtain ⟨n, hn⟩ : ∃ n, n = num % 70 := ⟨_, rfl⟩
  have hn70 : n < 70 := by omega
  rw [show ((num : Int) % 70) = (n : Int) from by omega]
  refine go (k := ?_)
  refine XL.call [] [] rfl rfl rfl rfl rfl (fun _ w _ _ => dnew_ok 256 w (by decide) (by decide)) fun x _ => ?_
  obtain ⟨b, lv⟩ := x
  refine go (k := ?_)
  refine XL.call [0] [] rfl rfl rfl rfl rfl (fun _ w1 hs ho => lnew_ok b lv (List.replicate 256 slot0) n _ ch w1 (rep_ok 256) (by rw [List.length_replicate]; decide) (by omega) (fun w' hk' => hrc [] w' (Owns.nil _) (hs.keptTo hk' (ids_of_mem (x := devE b lv (List.replicate 256 slot0)) (.head _)))) ho) fun x _ => ?_
  obtain ⟨bl, vl1⟩ := x
  refine XL.nm ?_
  refine go (k := ?_)
  refine XL.call [] [0, 1, 2] rfl rfl rfl rfl rfl (fun _ w _ _ => dnew_ok 256 w (by decide) (by decide)) fun x _ => ?_
  obtain ⟨b2, lv2⟩ := x
  refine XL.nm ?_
  refine go (k := ?_)
  refine XL.call [0] [1, 2, 3] rfl rfl rfl rfl rfl (fun _ w1 hs ho => lnew_ok b2 lv2 (List.replicate 256 slot0) (-1) _ [] w1 (rep_ok 256) (by rw [List.length_replicate]; decide) (by decide) (fun w' hk' => rd0 w') ho) fun x _ => ?_
  obtain ⟨bm, vl2⟩ := x
  refine XL.nm ?_
  refine go (k := ?_)
  refine XC.loop (α := Nat × Ln × Ln) (fun p => [(2, .slice ao l.length mo), (7, iv n), (8, ptr bl), (9, ptr bm), (10, iv p.1)]) (fun p => lnX bm b2 lv2 vl2 (-1) [] p.2.2 ++ lnX bl b lv vl1 n ch p.2.1)
    (fun p => p.1 ≤ l.length ∧ p.2.2.down = false ∧ LOk p.2.1 p.1 ∧ LOk p.2.2 p.1 ∧ ((p.2.2.acts ≤ n ∧ p.2.1 = p.2.2) ∨ (n < p.2.2.acts ∧ p.2.1.down = true ∧ p.2.1.acts = n + 1))) (fun p => l.length - p.1) (0, ln0, ln0) [0, 1, 2, 3, 4, 5] ⟨Nat.zero_le _, rfl, ln0_ok, ln0_ok, .inl ⟨Nat.zero_le _, rfl⟩⟩ ⟨rfl, rfl, rfl, rfl, rfl, trivial⟩ rfl rfl ?_
  rintro ⟨k, x, y⟩ ⟨hk, hyd, hxo, hyo, hrel⟩
  obtain ⟨c, yd, D⟩ := y
  simp only at hk hyd hxo hyo hrel ⊢
  subst hyd
  by_cases hkl : k < l.length
  · obtain ⟨a, ha⟩ : ∃ a, l[k]? = some a := ⟨_, List.getElem?_eq_getElem hkl⟩
    obtain ⟨b3, o3, rfl⟩ : ∃ b off, ao = some ⟨b, off, none⟩ := hao.resolve_left (by omega)
    have hcut := lacells_cut ha
    obtain ⟨⟨hw1, hw2⟩, _, hsl⟩ := hs a (List.mem_of_getElem? ha)
    have hyl : D.length = 256 := hyo.len
    have hya : c ≤ k := hyo.acts
    have hxl := hxo.len
    have hxa := hxo.acts
    have hDo : Oks D := hyo.ok
    refine go (k := ?_)
    refine XL.q (.ldRdN (j := k * 3) rfl rfl rfl rfl (hrl _) (by omega) hcut) rfl ?_
    refine go (k := ?_)
    refine XL.alloc rfl rfl rfl fun ba => ?_
    refine XL.stS rfl rfl rfl (vs := lacell a) (cs' := lacell a) rfl rfl rfl (.head _) ⟨Nat.le_refl _, rfl⟩ .here ?_
    have ca0 : (lacell a)[0 + 0]? = some (.int .u8 a.what) := rfl
    have ca1 : (lacell a)[0 + 1]? = some (iv a.at_) := rfl
    have ca2 : (lacell a)[0 + 2]? = some (str a.s) := rfl
    have hwW : ∀ (m : Int) (ch : List Int), ¬ (c : Int) = m → ∀ k s, Ln.write m ch ⟨c, false, D⟩ k s = ((dwr D k s).1, ⟨c + 1, false, (dwr D k s).2⟩) := fun m ch h k s => by
      simp only [Ln.write, Ln.act, if_neg (show ¬ (false = true) by decide), if_neg h]
    have hwF : ∀ (m : Int) (ch : List Int), ¬ (c : Int) = m → Ln.flush m ch ⟨c, false, D⟩ = (0, ⟨c + 1, false, settled F64 D⟩) := fun m ch h => by
      simp only [Ln.flush, Ln.act, if_neg (show ¬ (false = true) by decide), if_neg h]
    rcases hrel with ⟨hcn, rfl⟩ | ⟨hcn, hxd, hxa1⟩
    · by_cases hcn' : (c : Int) = (n : Int)
      · obtain rfl : c = n := by omega
        rcases (show a.what % 5 = 0 ∨ a.what % 5 = 1 ∨ a.what % 5 = 2 ∨ a.what % 5 = 3 ∨ a.what % 5 = 4 by omega) with w0 | w0 | w0 | w0 | w0
        · have hM : Ln.write (-1) [] ⟨c, false, D⟩ a.at_ a.s = _ := hwW (-1) [] (by omega) a.at_ a.s
          have oM := hyo.write (cut := -1) (ch := []) a.at_ a.s
          have oL := hxo.write (cut := c) (ch := ch) a.at_ a.s
          obtain ⟨E, hL⟩ : ∃ E, Ln.write c ch ⟨c, false, D⟩ a.at_ a.s = (8, ⟨c + 1, true, E⟩) := ⟨_, by simp only [Ln.write, Ln.act, if_neg (show ¬ (false = true) by decide)]; rfl⟩
          rw [hM] at oM
          rw [hL] at oL
          simp only at oM oL
          obtain ⟨⟨e, D'⟩, hdw⟩ : ∃ p, p = dwr D a.at_ a.s := ⟨_, rfl⟩
          rw [← hdw] at hM oM
          simp only at hM oM
          clear hdw
          clear hwW hwF
          refine go (k := ?_)
          refine XL.q (.call rfl rfl fun _ w hs => acts_at bm b2 (-1) vl2 c false _ _ w (hs.own.ok _ (.tail _ (.head _)))) rfl ?_
          refine go (k := ?_)
          refine XL.call [4, 5, 6] [0, 1, 2, 3] rfl rfl rfl rfl rfl (fun _ w _ ho => lwrite_ok bl b lv vl1 c ch ⟨c, false, D⟩ a.at_ a.s w hxo.ok (by have := hxo.len; omega) (by have := hxo.len; omega) (by have := hxo.acts; omega) (by omega) hcw ho) fun _ _ => ?_
          rw [hL]
          refine XL.nm ?_
          refine go (k := ?_)
          refine XL.call [4, 5, 6] [0, 1, 2, 3] rfl rfl rfl rfl rfl (fun _ w _ ho => lwrite_ok bm b2 lv2 vl2 (-1) [] ⟨c, false, D⟩ a.at_ a.s w hyo.ok (by have := hyo.len; omega) (by have := hyo.len; omega) (by have := hyo.acts; omega) (by decide) (fun a ha => by cases ha) ho) fun _ _ => ?_
          rw [hM]
          refine XL.nm ?_
          refine go (k := ?_)
          refine XL.q (.call rfl rfl fun _ w hs => down_at bl b c vl1 (c + 1) true _ _ w (hs.own.ok _ (.tail _ (.tail _ (.tail _ (.head _)))))) rfl ?_
          refine go (k := ?_)
          refine XL.q (.call rfl rfl fun _ w hs => acts_at bl b c vl1 (c + 1) true _ _ w (hs.own.ok _ (.tail _ (.tail _ (.tail _ (.head _)))))) rfl ?_
          refine go (k := ?_)
          exact XE.mid (k + 1, ⟨c + 1, true, E⟩, ⟨c + 1, false, D'⟩) [0, 1, 2, 3, 4, 5] ⟨⟨show k + 1 ≤ l.length by omega, rfl, oL, oM, .inr ⟨show c < c + 1 by omega, rfl, show c + 1 = c + 1 by omega⟩⟩, show l.length - (k + 1) < l.length - k by omega⟩ ⟨rfl, rfl, rfl, rfl, rfl, trivial⟩ rfl rfl
        · have hM : Ln.write (-1) [] ⟨c, false, D⟩ a.at_ a.s = _ := hwW (-1) [] (by omega) a.at_ a.s
          have oM := hyo.write (cut := -1) (ch := []) a.at_ a.s
          have oL := hxo.write (cut := c) (ch := ch) a.at_ a.s
          obtain ⟨E, hL⟩ : ∃ E, Ln.write c ch ⟨c, false, D⟩ a.at_ a.s = (8, ⟨c + 1, true, E⟩) := ⟨_, by simp only [Ln.write, Ln.act, if_neg (show ¬ (false = true) by decide)]; rfl⟩
          rw [hM] at oM
          rw [hL] at oL
          simp only at oM oL
          obtain ⟨⟨e, D'⟩, hdw⟩ : ∃ p, p = dwr D a.at_ a.s := ⟨_, rfl⟩
          rw [← hdw] at hM oM
          simp only at hM oM
          clear hdw
          clear hwW hwF
          refine go (k := ?_)
          refine XL.q (.call rfl rfl fun _ w hs => acts_at bm b2 (-1) vl2 c false _ _ w (hs.own.ok _ (.tail _ (.head _)))) rfl ?_
          refine go (k := ?_)
          refine XL.call [4, 5, 6] [0, 1, 2, 3] rfl rfl rfl rfl rfl (fun _ w _ ho => lwrite_ok bl b lv vl1 c ch ⟨c, false, D⟩ a.at_ a.s w hxo.ok (by have := hxo.len; omega) (by have := hxo.len; omega) (by have := hxo.acts; omega) (by omega) hcw ho) fun _ _ => ?_
          rw [hL]
          refine XL.nm ?_
          refine go (k := ?_)
          refine XL.call [4, 5, 6] [0, 1, 2, 3] rfl rfl rfl rfl rfl (fun _ w _ ho => lwrite_ok bm b2 lv2 vl2 (-1) [] ⟨c, false, D⟩ a.at_ a.s w hyo.ok (by have := hyo.len; omega) (by have := hyo.len; omega) (by have := hyo.acts; omega) (by decide) (fun a ha => by cases ha) ho) fun _ _ => ?_
          rw [hM]
          refine XL.nm ?_
          refine go (k := ?_)
          refine XL.q (.call rfl rfl fun _ w hs => down_at bl b c vl1 (c + 1) true _ _ w (hs.own.ok _ (.tail _ (.tail _ (.tail _ (.head _)))))) rfl ?_
          refine go (k := ?_)
          refine XL.q (.call rfl rfl fun _ w hs => acts_at bl b c vl1 (c + 1) true _ _ w (hs.own.ok _ (.tail _ (.tail _ (.tail _ (.head _)))))) rfl ?_
          refine go (k := ?_)
          exact XE.mid (k + 1, ⟨c + 1, true, E⟩, ⟨c + 1, false, D'⟩) [0, 1, 2, 3, 4, 5] ⟨⟨show k + 1 ≤ l.length by omega, rfl, oL, oM, .inr ⟨show c < c + 1 by omega, rfl, show c + 1 = c + 1 by omega⟩⟩, show l.length - (k + 1) < l.length - k by omega⟩ ⟨rfl, rfl, rfl, rfl, rfl, trivial⟩ rfl rfl
        · have hM : Ln.flush (-1) [] ⟨c, false, D⟩ = _ := hwF (-1) [] (by omega)
          have oM := hyo.flush (cut := -1) (ch := [])
          have oL := hxo.flush (cut := c) (ch := ch)
          obtain ⟨E, hL⟩ : ∃ E, Ln.flush c ch ⟨c, false, D⟩ = (8, ⟨c + 1, true, E⟩) := ⟨_, by simp only [Ln.flush, Ln.act, if_neg (show ¬ (false = true) by decide)]; rfl⟩
          rw [hM] at oM
          rw [hL] at oL
          simp only at oM oL
          obtain ⟨D', hdw⟩ : ∃ p, p = settled F64 D := ⟨_, rfl⟩
          rw [← hdw] at hM oM
          clear hdw
          clear hwW hwF
          refine go (k := ?_)
          refine XL.q (.call rfl rfl fun _ w hs => acts_at bm b2 (-1) vl2 c false _ _ w (hs.own.ok _ (.tail _ (.head _)))) rfl ?_
          refine go (k := ?_)
          refine XL.call [4, 5, 6] [0, 1, 2, 3] rfl rfl rfl rfl rfl (fun _ w _ ho => lflush_ok bl b lv vl1 c ch ⟨c, false, D⟩ w hxo.ok (by have := hxo.len; omega) (by have := hxo.acts; omega) (by omega) hcw ho) fun _ _ => ?_
          rw [hL]
          refine XL.nm ?_
          refine go (k := ?_)
          refine XL.call [4, 5, 6] [0, 1, 2, 3] rfl rfl rfl rfl rfl (fun _ w _ ho => lflush_ok bm b2 lv2 vl2 (-1) [] ⟨c, false, D⟩ w hyo.ok (by have := hyo.len; omega) (by have := hyo.acts; omega) (by decide) (fun a ha => by cases ha) ho) fun _ _ => ?_
          rw [hM]
          refine XL.nm ?_
          refine go (k := ?_)
          refine XL.q (.call rfl rfl fun _ w hs => down_at bl b c vl1 (c + 1) true _ _ w (hs.own.ok _ (.tail _ (.tail _ (.tail _ (.head _)))))) rfl ?_
          refine go (k := ?_)
          refine XL.q (.call rfl rfl fun _ w hs => acts_at bl b c vl1 (c + 1) true _ _ w (hs.own.ok _ (.tail _ (.tail _ (.tail _ (.head _)))))) rfl ?_
          refine go (k := ?_)
          exact XE.mid (k + 1, ⟨c + 1, true, E⟩, ⟨c + 1, false, D'⟩) [0, 1, 2, 3, 4, 5] ⟨⟨show k + 1 ≤ l.length by omega, rfl, oL, oM, .inr ⟨show c < c + 1 by omega, rfl, show c + 1 = c + 1 by omega⟩⟩, show l.length - (k + 1) < l.length - k by omega⟩ ⟨rfl, rfl, rfl, rfl, rfl, trivial⟩ rfl rfl
        · clear hwW hwF
          refine go (k := ?_)
          refine XL.q (.call rfl rfl fun _ w hs => acts_at bm b2 (-1) vl2 c false _ _ w (hs.own.ok _ (.tail _ (.head _)))) rfl ?_
          refine go (k := ?_)
          refine XL.q (.call rfl rfl fun _ w hs => acts_at bm b2 (-1) vl2 c false _ _ w (hs.own.ok _ (.tail _ (.head _)))) rfl ?_
          refine go (k := ?_)
          refine XL.q (.call (v := .tuple #[str (drd D a.at_).1, iv (drd D a.at_).2]) rfl rfl fun _ w hs => lread_ok bl b lv vl1 c ch ⟨c, false, D⟩ a.at_ w hxo.ok (by have := hxo.len; omega) (Owns.right (L := [_, _, _, _]) hs.own)) rfl ?_
          refine go (k := ?_)
          refine XL.q (.call (v := .tuple #[str (drd D a.at_).1, iv (drd D a.at_).2]) rfl rfl fun _ w hs => lread_ok bm b2 lv2 vl2 (-1) [] ⟨c, false, D⟩ a.at_ w hyo.ok (by have := hyo.len; omega) (Owns.left (L := lnX bm b2 lv2 vl2 (-1) [] ⟨c, false, D⟩) (Owns.right (L := [_]) hs.own))) rfl ?_
          refine go (k := ?_)
          refine XL.q (.call rfl rfl fun _ w hs => down_at bl b c vl1 c false _ _ w (hs.own.ok _ (.tail _ (.tail _ (.tail _ (.tail _ (.head _))))))) rfl ?_
          refine go (k := ?_)
          refine XL.q (.call rfl rfl fun _ w hs => acts_at bl b c vl1 c false _ _ w (hs.own.ok _ (.tail _ (.tail _ (.tail _ (.tail _ (.head _))))))) rfl ?_
          refine go (k := ?_)
          refine XL.q (.call rfl rfl fun _ w hs => acts_at bm b2 (-1) vl2 c false _ _ w (hs.own.ok _ (.tail _ (.head _)))) rfl ?_
          refine go (k := ?_)
          exact XE.mid (k + 1, ⟨c, false, D⟩, ⟨c, false, D⟩) [1, 2, 3, 4, 5, 6] ⟨⟨show k + 1 ≤ l.length by omega, rfl, hxo.mono (Nat.le_succ _), hyo.mono (Nat.le_succ _), .inl ⟨hcn, rfl⟩⟩, show l.length - (k + 1) < l.length - k by omega⟩ ⟨rfl, rfl, rfl, rfl, rfl, trivial⟩ rfl rfl
        · clear hwW hwF
          refine go (k := ?_)
          refine XL.q (.call rfl rfl fun _ w hs => acts_at bm b2 (-1) vl2 c false _ _ w (hs.own.ok _ (.tail _ (.head _)))) rfl ?_
          refine go (k := ?_)
          refine XL.q (.call rfl rfl fun _ w hs => acts_at bm b2 (-1) vl2 c false _ _ w (hs.own.ok _ (.tail _ (.head _)))) rfl ?_
          refine go (k := ?_)
          exact XE.mid (k + 1, ⟨c, false, D⟩, ⟨c, false, D⟩) [1, 2, 3, 4, 5, 6] ⟨⟨show k + 1 ≤ l.length by omega, rfl, hxo.mono (Nat.le_succ _), hyo.mono (Nat.le_succ _), .inl ⟨hcn, rfl⟩⟩, show l.length - (k + 1) < l.length - k by omega⟩ ⟨rfl, rfl, rfl, rfl, rfl, trivial⟩ rfl rfl
      · rcases (show a.what % 5 = 0 ∨ a.what % 5 = 1 ∨ a.what % 5 = 2 ∨ a.what % 5 = 3 ∨ a.what % 5 = 4 by omega) with w0 | w0 | w0 | w0 | w0
        · have hM : Ln.write (-1) [] ⟨c, false, D⟩ a.at_ a.s = _ := hwW (-1) [] (by omega) a.at_ a.s
          have oM := hyo.write (cut := -1) (ch := []) a.at_ a.s
          have oL := hxo.write (cut := n) (ch := ch) a.at_ a.s
          have hL : Ln.write n ch ⟨c, false, D⟩ a.at_ a.s = _ := hwW n ch (by omega) a.at_ a.s
          rw [hM] at oM
          rw [hL] at oL
          simp only at oM oL
          obtain ⟨⟨e, D'⟩, hdw⟩ : ∃ p, p = dwr D a.at_ a.s := ⟨_, rfl⟩
          rw [← hdw] at hM oM hL oL
          simp only at hM oM  hL oL
          clear hdw
          clear hwW hwF
          refine go (k := ?_)
          refine XL.q (.call rfl rfl fun _ w hs => acts_at bm b2 (-1) vl2 c false _ _ w (hs.own.ok _ (.tail _ (.head _)))) rfl ?_
          refine go (k := ?_)
          refine XL.q (.call rfl rfl fun _ w hs => acts_at bm b2 (-1) vl2 c false _ _ w (hs.own.ok _ (.tail _ (.head _)))) rfl ?_
          refine go (k := ?_)
          refine XL.call [4, 5, 6] [0, 1, 2, 3] rfl rfl rfl rfl rfl (fun _ w _ ho => lwrite_ok bl b lv vl1 n ch ⟨c, false, D⟩ a.at_ a.s w hxo.ok (by have := hxo.len; omega) (by have := hxo.len; omega) (by have := hxo.acts; omega) (by omega) hcw ho) fun _ _ => ?_
          rw [hL]
          refine XL.nm ?_
          refine go (k := ?_)
          refine XL.call [4, 5, 6] [0, 1, 2, 3] rfl rfl rfl rfl rfl (fun _ w _ ho => lwrite_ok bm b2 lv2 vl2 (-1) [] ⟨c, false, D⟩ a.at_ a.s w hyo.ok (by have := hyo.len; omega) (by have := hyo.len; omega) (by have := hyo.acts; omega) (by decide) (fun a ha => by cases ha) ho) fun _ _ => ?_
          rw [hM]
          refine XL.nm ?_
          refine go (k := ?_)
          refine XL.q (.call rfl rfl fun _ w hs => down_at bl b n vl1 (c + 1) false _ _ w (hs.own.ok _ (.tail _ (.tail _ (.tail _ (.head _)))))) rfl ?_
          refine go (k := ?_)
          refine XL.q (.call rfl rfl fun _ w hs => acts_at bl b n vl1 (c + 1) false _ _ w (hs.own.ok _ (.tail _ (.tail _ (.tail _ (.head _)))))) rfl ?_
          refine go (k := ?_)
          refine XL.q (.call rfl rfl fun _ w hs => acts_at bm b2 (-1) vl2 (c + 1) false _ _ w (hs.own.ok _ (.head _))) rfl ?_
          refine go (k := ?_)
          exact XE.mid (k + 1, ⟨c + 1, false, D'⟩, ⟨c + 1, false, D'⟩) [0, 1, 2, 3, 4, 5] ⟨⟨show k + 1 ≤ l.length by omega, rfl, oL, oM, .inl ⟨show c + 1 ≤ n by omega, rfl⟩⟩, show l.length - (k + 1) < l.length - k by omega⟩ ⟨rfl, rfl, rfl, rfl, rfl, trivial⟩ rfl rfl
        · have hM : Ln.write (-1) [] ⟨c, false, D⟩ a.at_ a.s = _ := hwW (-1) [] (by omega) a.at_ a.s
          have oM := hyo.write (cut := -1) (ch := []) a.at_ a.s
          have oL := hxo.write (cut := n) (ch := ch) a.at_ a.s
          have hL : Ln.write n ch ⟨c, false, D⟩ a.at_ a.s = _ := hwW n ch (by omega) a.at_ a.s
          rw [hM] at oM
          rw [hL] at oL
          simp only at oM oL
          obtain ⟨⟨e, D'⟩, hdw⟩ : ∃ p, p = dwr D a.at_ a.s := ⟨_, rfl⟩
          rw [← hdw] at hM oM hL oL
          simp only at hM oM  hL oL
          clear hdw
          clear hwW hwF
          refine go (k := ?_)
          refine XL.q (.call rfl rfl fun _ w hs => acts_at bm b2 (-1) vl2 c false _ _ w (hs.own.ok _ (.tail _ (.head _)))) rfl ?_
          refine go (k := ?_)
          refine XL.q (.call rfl rfl fun _ w hs => acts_at bm b2 (-1) vl2 c false _ _ w (hs.own.ok _ (.tail _ (.head _)))) rfl ?_
          refine go (k := ?_)
          refine XL.call [4, 5, 6] [0, 1, 2, 3] rfl rfl rfl rfl rfl (fun _ w _ ho => lwrite_ok bl b lv vl1 n ch ⟨c, false, D⟩ a.at_ a.s w hxo.ok (by have := hxo.len; omega) (by have := hxo.len; omega) (by have := hxo.acts; omega) (by omega) hcw ho) fun _ _ => ?_
          rw [hL]
          refine XL.nm ?_
          refine go (k := ?_)
          refine XL.call [4, 5, 6] [0, 1, 2, 3] rfl rfl rfl rfl rfl (fun _ w _ ho => lwrite_ok bm b2 lv2 vl2 (-1) [] ⟨c, false, D⟩ a.at_ a.s w hyo.ok (by have := hyo.len; omega) (by have := hyo.len; omega) (by have := hyo.acts; omega) (by decide) (fun a ha => by cases ha) ho) fun _ _ => ?_
          rw [hM]
          refine XL.nm ?_
          refine go (k := ?_)
          refine XL.q (.call rfl rfl fun _ w hs => down_at bl b n vl1 (c + 1) false _ _ w (hs.own.ok _ (.tail _ (.tail _ (.tail _ (.head _)))))) rfl ?_
          refine go (k := ?_)
          refine XL.q (.call rfl rfl fun _ w hs => acts_at bl b n vl1 (c + 1) false _ _ w (hs.own.ok _ (.tail _ (.tail _ (.tail _ (.head _)))))) rfl ?_
          refine go (k := ?_)
          refine XL.q (.call rfl rfl fun _ w hs => acts_at bm b2 (-1) vl2 (c + 1) false _ _ w (hs.own.ok _ (.head _))) rfl ?_
          refine go (k := ?_)
          exact XE.mid (k + 1, ⟨c + 1, false, D'⟩, ⟨c + 1, false, D'⟩) [0, 1, 2, 3, 4, 5] ⟨⟨show k + 1 ≤ l.length by omega, rfl, oL, oM, .inl ⟨show c + 1 ≤ n by omega, rfl⟩⟩, show l.length - (k + 1) < l.length - k by omega⟩ ⟨rfl, rfl, rfl, rfl, rfl, trivial⟩ rfl rfl
        · have hM : Ln.flush (-1) [] ⟨c, false, D⟩ = _ := hwF (-1) [] (by omega)
          have oM := hyo.flush (cut := -1) (ch := [])
          have oL := hxo.flush (cut := n) (ch := ch)
          have hL : Ln.flush n ch ⟨c, false, D⟩ = _ := hwF n ch (by omega)
          rw [hM] at oM
          rw [hL] at oL
          simp only at oM oL
          obtain ⟨D', hdw⟩ : ∃ p, p = settled F64 D := ⟨_, rfl⟩
          rw [← hdw] at hM oM hL oL
          clear hdw
          clear hwW hwF
          refine go (k := ?_)
          refine XL.q (.call rfl rfl fun _ w hs => acts_at bm b2 (-1) vl2 c false _ _ w (hs.own.ok _ (.tail _ (.head _)))) rfl ?_
          refine go (k := ?_)
          refine XL.q (.call rfl rfl fun _ w hs => acts_at bm b2 (-1) vl2 c false _ _ w (hs.own.ok _ (.tail _ (.head _)))) rfl ?_
          refine go (k := ?_)
          refine XL.call [4, 5, 6] [0, 1, 2, 3] rfl rfl rfl rfl rfl (fun _ w _ ho => lflush_ok bl b lv vl1 n ch ⟨c, false, D⟩ w hxo.ok (by have := hxo.len; omega) (by have := hxo.acts; omega) (by omega) hcw ho) fun _ _ => ?_
          rw [hL]
          refine XL.nm ?_
          refine go (k := ?_)
          refine XL.call [4, 5, 6] [0, 1, 2, 3] rfl rfl rfl rfl rfl (fun _ w _ ho => lflush_ok bm b2 lv2 vl2 (-1) [] ⟨c, false, D⟩ w hyo.ok (by have := hyo.len; omega) (by have := hyo.acts; omega) (by decide) (fun a ha => by cases ha) ho) fun _ _ => ?_
          rw [hM]
          refine XL.nm ?_
          refine go (k := ?_)
          refine XL.q (.call rfl rfl fun _ w hs => down_at bl b n vl1 (c + 1) false _ _ w (hs.own.ok _ (.tail _ (.tail _ (.tail _ (.head _)))))) rfl ?_
          refine go (k := ?_)
          refine XL.q (.call rfl rfl fun _ w hs => acts_at bl b n vl1 (c + 1) false _ _ w (hs.own.ok _ (.tail _ (.tail _ (.tail _ (.head _)))))) rfl ?_
          refine go (k := ?_)
          refine XL.q (.call rfl rfl fun _ w hs => acts_at bm b2 (-1) vl2 (c + 1) false _ _ w (hs.own.ok _ (.head _))) rfl ?_
          refine go (k := ?_)
          exact XE.mid (k + 1, ⟨c + 1, false, D'⟩, ⟨c + 1, false, D'⟩) [0, 1, 2, 3, 4, 5] ⟨⟨show k + 1 ≤ l.length by omega, rfl, oL, oM, .inl ⟨show c + 1 ≤ n by omega, rfl⟩⟩, show l.length - (k + 1) < l.length - k by omega⟩ ⟨rfl, rfl, rfl, rfl, rfl, trivial⟩ rfl rfl
        · clear hwW hwF
          refine go (k := ?_)
          refine XL.q (.call rfl rfl fun _ w hs => acts_at bm b2 (-1) vl2 c false _ _ w (hs.own.ok _ (.tail _ (.head _)))) rfl ?_
          refine go (k := ?_)
          refine XL.q (.call rfl rfl fun _ w hs => acts_at bm b2 (-1) vl2 c false _ _ w (hs.own.ok _ (.tail _ (.head _)))) rfl ?_
          refine go (k := ?_)
          refine XL.q (.call (v := .tuple #[str (drd D a.at_).1, iv (drd D a.at_).2]) rfl rfl fun _ w hs => lread_ok bl b lv vl1 n ch ⟨c, false, D⟩ a.at_ w hxo.ok (by have := hxo.len; omega) (Owns.right (L := [_, _, _, _]) hs.own)) rfl ?_
          refine go (k := ?_)
          refine XL.q (.call (v := .tuple #[str (drd D a.at_).1, iv (drd D a.at_).2]) rfl rfl fun _ w hs => lread_ok bm b2 lv2 vl2 (-1) [] ⟨c, false, D⟩ a.at_ w hyo.ok (by have := hyo.len; omega) (Owns.left (L := lnX bm b2 lv2 vl2 (-1) [] ⟨c, false, D⟩) (Owns.right (L := [_]) hs.own))) rfl ?_
          refine go (k := ?_)
          refine XL.q (.call rfl rfl fun _ w hs => down_at bl b n vl1 c false _ _ w (hs.own.ok _ (.tail _ (.tail _ (.tail _ (.tail _ (.head _))))))) rfl ?_
          refine go (k := ?_)
          refine XL.q (.call rfl rfl fun _ w hs => acts_at bl b n vl1 c false _ _ w (hs.own.ok _ (.tail _ (.tail _ (.tail _ (.tail _ (.head _))))))) rfl ?_
          refine go (k := ?_)
          refine XL.q (.call rfl rfl fun _ w hs => acts_at bm b2 (-1) vl2 c false _ _ w (hs.own.ok _ (.tail _ (.head _)))) rfl ?_
          refine go (k := ?_)
          exact XE.mid (k + 1, ⟨c, false, D⟩, ⟨c, false, D⟩) [1, 2, 3, 4, 5, 6] ⟨⟨show k + 1 ≤ l.length by omega, rfl, hxo.mono (Nat.le_succ _), hyo.mono (Nat.le_succ _), .inl ⟨hcn, rfl⟩⟩, show l.length - (k + 1) < l.length - k by omega⟩ ⟨rfl, rfl, rfl, rfl, rfl, trivial⟩ rfl rfl
        · clear hwW hwF
          refine go (k := ?_)
          refine XL.q (.call rfl rfl fun _ w hs => acts_at bm b2 (-1) vl2 c false _ _ w (hs.own.ok _ (.tail _ (.head _)))) rfl ?_
          refine go (k := ?_)
          refine XL.q (.call rfl rfl fun _ w hs => acts_at bm b2 (-1) vl2 c false _ _ w (hs.own.ok _ (.tail _ (.head _)))) rfl ?_
          refine go (k := ?_)
          exact XE.mid (k + 1, ⟨c, false, D⟩, ⟨c, false, D⟩) [1, 2, 3, 4, 5, 6] ⟨⟨show k + 1 ≤ l.length by omega, rfl, hxo.mono (Nat.le_succ _), hyo.mono (Nat.le_succ _), .inl ⟨hcn, rfl⟩⟩, show l.length - (k + 1) < l.length - k by omega⟩ ⟨rfl, rfl, rfl, rfl, rfl, trivial⟩ rfl rfl
    · obtain ⟨xa, xd, E⟩ := x
      simp only at hxd hxa1 hxo hxl hxa
      subst hxd
      rcases (show a.what % 5 = 0 ∨ a.what % 5 = 1 ∨ a.what % 5 = 2 ∨ a.what % 5 = 3 ∨ a.what % 5 = 4 by omega) with w0 | w0 | w0 | w0 | w0
      · have hM : Ln.write (-1) [] ⟨c, false, D⟩ a.at_ a.s = _ := hwW (-1) [] (by omega) a.at_ a.s
        have oM := hyo.write (cut := -1) (ch := []) a.at_ a.s
        have oL := hxo.write (cut := n) (ch := ch) a.at_ a.s
        have hL : Ln.write n ch ⟨xa, true, E⟩ a.at_ a.s = (8, ⟨xa, true, E⟩) := by simp only [Ln.write, Ln.act, if_pos trivial]
        rw [hM] at oM
        rw [hL] at oL
        simp only at oM oL
        obtain ⟨⟨e, D'⟩, hdw⟩ : ∃ p, p = dwr D a.at_ a.s := ⟨_, rfl⟩
        rw [← hdw] at hM oM
        simp only at hM oM
        clear hdw
        clear hwW hwF
        refine go (k := ?_)
        refine XL.q (.call rfl rfl fun _ w hs => acts_at bm b2 (-1) vl2 c false _ _ w (hs.own.ok _ (.tail _ (.head _)))) rfl ?_
        refine go (k := ?_)
        refine XL.q (.call rfl rfl fun _ w hs => acts_at bm b2 (-1) vl2 c false _ _ w (hs.own.ok _ (.tail _ (.head _)))) rfl ?_
        refine go (k := ?_)
        refine XL.call [4, 5, 6] [0, 1, 2, 3] rfl rfl rfl rfl rfl (fun _ w _ ho => lwrite_ok bl b lv vl1 n ch ⟨xa, true, E⟩ a.at_ a.s w hxo.ok (by have := hxo.len; omega) (by have := hxo.len; omega) (by have := hxo.acts; omega) (by omega) hcw ho) fun _ _ => ?_
        rw [hL]
        refine XL.nm ?_
        refine go (k := ?_)
        refine XL.call [4, 5, 6] [0, 1, 2, 3] rfl rfl rfl rfl rfl (fun _ w _ ho => lwrite_ok bm b2 lv2 vl2 (-1) [] ⟨c, false, D⟩ a.at_ a.s w hyo.ok (by have := hyo.len; omega) (by have := hyo.len; omega) (by have := hyo.acts; omega) (by decide) (fun a ha => by cases ha) ho) fun _ _ => ?_
        rw [hM]
        refine XL.nm ?_
        refine go (k := ?_)
        refine XL.q (.call rfl rfl fun _ w hs => down_at bl b n vl1 (xa) true _ _ w (hs.own.ok _ (.tail _ (.tail _ (.tail _ (.head _)))))) rfl ?_
        refine go (k := ?_)
        refine XL.q (.call rfl rfl fun _ w hs => acts_at bl b n vl1 (xa) true _ _ w (hs.own.ok _ (.tail _ (.tail _ (.tail _ (.head _)))))) rfl ?_
        refine go (k := ?_)
        exact XE.mid (k + 1, ⟨xa, true, E⟩, ⟨c + 1, false, D'⟩) [0, 1, 2, 3, 4, 5] ⟨⟨show k + 1 ≤ l.length by omega, rfl, oL, oM, .inr ⟨show n < c + 1 by omega, rfl, show xa = n + 1 by omega⟩⟩, show l.length - (k + 1) < l.length - k by omega⟩ ⟨rfl, rfl, rfl, rfl, rfl, trivial⟩ rfl rfl
      · have hM : Ln.write (-1) [] ⟨c, false, D⟩ a.at_ a.s = _ := hwW (-1) [] (by omega) a.at_ a.s
        have oM := hyo.write (cut := -1) (ch := []) a.at_ a.s
        have oL := hxo.write (cut := n) (ch := ch) a.at_ a.s
        have hL : Ln.write n ch ⟨xa, true, E⟩ a.at_ a.s = (8, ⟨xa, true, E⟩) := by simp only [Ln.write, Ln.act, if_pos trivial]
        rw [hM] at oM
        rw [hL] at oL
        simp only at oM oL
        obtain ⟨⟨e, D'⟩, hdw⟩ : ∃ p, p = dwr D a.at_ a.s := ⟨_, rfl⟩
        rw [← hdw] at hM oM
        simp only at hM oM
        clear hdw
        clear hwW hwF
        refine go (k := ?_)
        refine XL.q (.call rfl rfl fun _ w hs => acts_at bm b2 (-1) vl2 c false _ _ w (hs.own.ok _ (.tail _ (.head _)))) rfl ?_
        refine go (k := ?_)
        refine XL.q (.call rfl rfl fun _ w hs => acts_at bm b2 (-1) vl2 c false _ _ w (hs.own.ok _ (.tail _ (.head _)))) rfl ?_
        refine go (k := ?_)
        refine XL.call [4, 5, 6] [0, 1, 2, 3] rfl rfl rfl rfl rfl (fun _ w _ ho => lwrite_ok bl b lv vl1 n ch ⟨xa, true, E⟩ a.at_ a.s w hxo.ok (by have := hxo.len; omega) (by have := hxo.len; omega) (by have := hxo.acts; omega) (by omega) hcw ho) fun _ _ => ?_
        rw [hL]
        refine XL.nm ?_
        refine go (k := ?_)
        refine XL.call [4, 5, 6] [0, 1, 2, 3] rfl rfl rfl rfl rfl (fun _ w _ ho => lwrite_ok bm b2 lv2 vl2 (-1) [] ⟨c, false, D⟩ a.at_ a.s w hyo.ok (by have := hyo.len; omega) (by have := hyo.len; omega) (by have := hyo.acts; omega) (by decide) (fun a ha => by cases ha) ho) fun _ _ => ?_
        rw [hM]
        refine XL.nm ?_
        refine go (k := ?_)
        refine XL.q (.call rfl rfl fun _ w hs => down_at bl b n vl1 (xa) true _ _ w (hs.own.ok _ (.tail _ (.tail _ (.tail _ (.head _)))))) rfl ?_
        refine go (k := ?_)
        refine XL.q (.call rfl rfl fun _ w hs => acts_at bl b n vl1 (xa) true _ _ w (hs.own.ok _ (.tail _ (.tail _ (.tail _ (.head _)))))) rfl ?_
        refine go (k := ?_)
        exact XE.mid (k + 1, ⟨xa, true, E⟩, ⟨c + 1, false, D'⟩) [0, 1, 2, 3, 4, 5] ⟨⟨show k + 1 ≤ l.length by omega, rfl, oL, oM, .inr ⟨show n < c + 1 by omega, rfl, show xa = n + 1 by omega⟩⟩, show l.length - (k + 1) < l.length - k by omega⟩ ⟨rfl, rfl, rfl, rfl, rfl, trivial⟩ rfl rfl
      · have hM : Ln.flush (-1) [] ⟨c, false, D⟩ = _ := hwF (-1) [] (by omega)
        have oM := hyo.flush (cut := -1) (ch := [])
        have oL := hxo.flush (cut := n) (ch := ch)
        have hL : Ln.flush n ch ⟨xa, true, E⟩ = (8, ⟨xa, true, E⟩) := by simp only [Ln.flush, Ln.act, if_pos trivial]
        rw [hM] at oM
        rw [hL] at oL
        simp only at oM oL
        obtain ⟨D', hdw⟩ : ∃ p, p = settled F64 D := ⟨_, rfl⟩
        rw [← hdw] at hM oM
        clear hdw
        clear hwW hwF
        refine go (k := ?_)
        refine XL.q (.call rfl rfl fun _ w hs => acts_at bm b2 (-1) vl2 c false _ _ w (hs.own.ok _ (.tail _ (.head _)))) rfl ?_
        refine go (k := ?_)
        refine XL.q (.call rfl rfl fun _ w hs => acts_at bm b2 (-1) vl2 c false _ _ w (hs.own.ok _ (.tail _ (.head _)))) rfl ?_
        refine go (k := ?_)
        refine XL.call [4, 5, 6] [0, 1, 2, 3] rfl rfl rfl rfl rfl (fun _ w _ ho => lflush_ok bl b lv vl1 n ch ⟨xa, true, E⟩ w hxo.ok (by have := hxo.len; omega) (by have := hxo.acts; omega) (by omega) hcw ho) fun _ _ => ?_
        rw [hL]
        refine XL.nm ?_
        refine go (k := ?_)
        refine XL.call [4, 5, 6] [0, 1, 2, 3] rfl rfl rfl rfl rfl (fun _ w _ ho => lflush_ok bm b2 lv2 vl2 (-1) [] ⟨c, false, D⟩ w hyo.ok (by have := hyo.len; omega) (by have := hyo.acts; omega) (by decide) (fun a ha => by cases ha) ho) fun _ _ => ?_
        rw [hM]
        refine XL.nm ?_
        refine go (k := ?_)
        refine XL.q (.call rfl rfl fun _ w hs => down_at bl b n vl1 (xa) true _ _ w (hs.own.ok _ (.tail _ (.tail _ (.tail _ (.head _)))))) rfl ?_
        refine go (k := ?_)
        refine XL.q (.call rfl rfl fun _ w hs => acts_at bl b n vl1 (xa) true _ _ w (hs.own.ok _ (.tail _ (.tail _ (.tail _ (.head _)))))) rfl ?_
        refine go (k := ?_)
        exact XE.mid (k + 1, ⟨xa, true, E⟩, ⟨c + 1, false, D'⟩) [0, 1, 2, 3, 4, 5] ⟨⟨show k + 1 ≤ l.length by omega, rfl, oL, oM, .inr ⟨show n < c + 1 by omega, rfl, show xa = n + 1 by omega⟩⟩, show l.length - (k + 1) < l.length - k by omega⟩ ⟨rfl, rfl, rfl, rfl, rfl, trivial⟩ rfl rfl
      · clear hwW hwF
        refine go (k := ?_)
        refine XL.q (.call rfl rfl fun _ w hs => acts_at bm b2 (-1) vl2 c false _ _ w (hs.own.ok _ (.tail _ (.head _)))) rfl ?_
        refine go (k := ?_)
        refine XL.q (.call rfl rfl fun _ w hs => acts_at bm b2 (-1) vl2 c false _ _ w (hs.own.ok _ (.tail _ (.head _)))) rfl ?_
        refine go (k := ?_)
        refine XL.q (.call (v := .tuple #[str [], iv 8]) rfl rfl fun _ w hs => lread_ok bl b lv vl1 n ch ⟨xa, true, E⟩ a.at_ w hxo.ok (by have := hxo.len; omega) (Owns.right (L := [_, _, _, _]) hs.own)) rfl ?_
        refine go (k := ?_)
        refine XL.q (.call (v := .tuple #[str (drd D a.at_).1, iv (drd D a.at_).2]) rfl rfl fun _ w hs => lread_ok bm b2 lv2 vl2 (-1) [] ⟨c, false, D⟩ a.at_ w hyo.ok (by have := hyo.len; omega) (Owns.left (L := lnX bm b2 lv2 vl2 (-1) [] ⟨c, false, D⟩) (Owns.right (L := [_]) hs.own))) rfl ?_
        refine go (k := ?_)
        refine XL.q (.call rfl rfl fun _ w hs => down_at bl b n vl1 xa true _ _ w (hs.own.ok _ (.tail _ (.tail _ (.tail _ (.tail _ (.head _))))))) rfl ?_
        refine go (k := ?_)
        refine XL.q (.call rfl rfl fun _ w hs => acts_at bl b n vl1 xa true _ _ w (hs.own.ok _ (.tail _ (.tail _ (.tail _ (.tail _ (.head _))))))) rfl ?_
        refine go (k := ?_)
        exact XE.mid (k + 1, ⟨xa, true, E⟩, ⟨c, false, D⟩) [1, 2, 3, 4, 5, 6] ⟨⟨show k + 1 ≤ l.length by omega, rfl, hxo.mono (Nat.le_succ _), hyo.mono (Nat.le_succ _), .inr ⟨hcn, rfl, hxa1⟩⟩, show l.length - (k + 1) < l.length - k by omega⟩ ⟨rfl, rfl, rfl, rfl, rfl, trivial⟩ rfl rfl
      · clear hwW hwF
        refine go (k := ?_)
        refine XL.q (.call rfl rfl fun _ w hs => acts_at bm b2 (-1) vl2 c false _ _ w (hs.own.ok _ (.tail _ (.head _)))) rfl ?_
        refine go (k := ?_)
        refine XL.q (.call rfl rfl fun _ w hs => acts_at bm b2 (-1) vl2 c false _ _ w (hs.own.ok _ (.tail _ (.head _)))) rfl ?_
        refine go (k := ?_)
        exact XE.mid (k + 1, ⟨xa, true, E⟩, ⟨c, false, D⟩) [1, 2, 3, 4, 5, 6] ⟨⟨show k + 1 ≤ l.length by omega, rfl, hxo.mono (Nat.le_succ _), hyo.mono (Nat.le_succ _), .inr ⟨hcn, rfl, hxa1⟩⟩, show l.length - (k + 1) < l.length - k by omega⟩ ⟨rfl, rfl, rfl, rfl, rfl, trivial⟩ rfl rfl
  · refine go (k := ?_)
    refine XL.q (.call rfl rfl fun _ w _ => works_ok w) rfl ?_
    refine go (k := ?_)
    exact XE.ret1 () [] rfl rfl trivial rfl rfl rfl
end Go.X
