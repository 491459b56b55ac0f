/- RegionFresh. -/
import Derived.Test.YtmmofanfgoahkaaDoorRegO
import Derived.Test.YtmmofanfgoahkaaDoorShelfJ
namespace Go.X
open Go Go.Proofs Go.RowKit
theorem join_ok (v : Value) (gs : List (List UInt8)) (w : World) (hv : RowAt w v 1 gs.length (gstrs gs)) (hn : gs.length ≤ 100000) (hl : Lib.lens gs ≤ 100000000) : Fx Tryd.prog 24 [v, str [124]] w (Pure w (str (Lib.join gs [124]))) := by
  obtain ⟨ao, c, rfl, _, hc, h⟩ := hv
  cases gs with
  | nil =>
    have h1 := Tryd.strings_Join_none ao c ⟨⟨[124]⟩⟩ w
    refine Fx.ofBelow Tryd.func24 rfl (by kernel_rfl) (h1.mono fun e w' he => ⟨he.1, ?_⟩)
    rw [he.2]; exact (Kept.refl [] w).below
  | cons g gs =>
    rcases h with h | ⟨b, off, cs, t, fz, rfl, hb, hcut⟩
    · cases h
    have hbl := (Array.getElem?_eq_some_iff.1 hb).1
    have hcells : ∀ (j : Nat) x, (((g :: gs).map fun s => (⟨⟨s⟩⟩ : ByteArray)))[j]? = some x → w.cell? ⟨b, off + j, none⟩ = some (.string x) := by
      intro j x hj
      rw [cell_of hb]
      rw [List.getElem?_map] at hj
      obtain ⟨s, hs, rfl⟩ := Option.map_eq_some_iff.1 hj
      exact cut_all hcut j _ (by rw [gstrs, List.getElem?_map, hs]; rfl)
    have e : ((g :: gs).map fun s => (⟨⟨s⟩⟩ : ByteArray)).map (·.data.toList) = g :: gs := by rw [List.map_map]; exact List.map_id _
    have h1 := Tryd.strings_Join b off c ((g :: gs).map fun s => (⟨⟨s⟩⟩ : ByteArray)) ⟨⟨[124]⟩⟩ w hcells hbl (by rw [List.length_map]; omega) (by rw [List.length_map]; exact hc)
      (by rw [e]; show (Lib.join (g :: gs) [124]).length ≤ _; rw [Lib.join_length]; simp only [List.length_cons, List.length_nil] at hn ⊢; omega)
    rw [e, List.length_map] at h1
    exact Fx.ofBelow Tryd.func24 rfl (by kernel_rfl) h1
theorem rstep_lens {st : Rs} {p : Nat × List UInt8} {m : Nat} (h : Lib.lens st.groups + st.group.length ≤ 1000 * m) (hp : p.2.length ≤ 1000) : Lib.lens (rstep st p).groups + (rstep st p).group.length ≤ 1000 * (m + 1) := by
  have h1 : (pce p.1 p.2).1.length ≤ 1000 := by
    unfold pce
    simp only
    split
    · exact Nat.zero_le _
    · have a := rfix_rest (p.2, 0) (2 : Nat)
      have b := rfix_rest (rfix (p.2, 0) (2 : Nat)).2 (1 : Nat)
      have c := rfix_rest (rfix (rfix (p.2, 0) (2 : Nat)).2 (1 : Nat)).2 (1 : Nat)
      have d := rfix_rest (rfix (rfix (rfix (p.2, 0) (2 : Nat)).2 (1 : Nat)).2 (1 : Nat)).2 (gnum (rfix (rfix (rfix (p.2, 0) (2 : Nat)).2 (1 : Nat)).2 (1 : Nat)).1 : Nat)
      simp only at a ⊢
      omega
  unfold rstep
  split
  · simp only; omega
  · split
    · simp only; omega
    · split
      · simp only [Lib.lens, List.map_append, List.map_cons, List.map_nil, List.sum_append, List.sum_cons, List.sum_nil, List.length_append, List.length_nil] at h ⊢; omega
      · simp only [List.length_append] at h ⊢; omega
theorem rtell_lens (l : List (Nat × List UInt8)) (h : ∀ p ∈ l, p.2.length ≤ 1000) : Lib.lens (rtell l).groups ≤ 1000 * l.length := by
  have key : ∀ (l : List (Nat × List UInt8)) (st : Rs) (m : Nat), Lib.lens st.groups + st.group.length ≤ 1000 * m → (∀ p ∈ l, p.2.length ≤ 1000) → Lib.lens (l.foldl rstep st).groups + (l.foldl rstep st).group.length ≤ 1000 * (m + l.length) := by
    intro l
    induction l with
    | nil => intro st m h1 _; exact h1
    | cons p l ih =>
      intro st m h1 h
      have := ih (rstep st p) (m + 1) (rstep_lens h1 (h p (.head _))) (fun q hq => h q (.tail _ hq))
      rw [List.length_cons, List.foldl_cons, show m + (l.length + 1) = m + 1 + l.length by omega]
      exact this
  have := key l rs0 0 (Nat.zero_le _) h
  rw [Nat.zero_add] at this
  unfold rtell; omega
structure FrI (k : Nat) (x : Ln) : Prop where
  oks : Oks x.ds
  inv : DInv x.ds
  len : x.ds.length = 256
  up : x.down = false
  acts : x.acts = k
theorem FrI.write {k : Nat} {x : Ln} (h : FrI k x) (i : Int) (s : List UInt8) : ∃ x', x.write (-1) [] i s = ((dwr x.ds i s).1, x') ∧ FrI (k + 1) x' := by
  refine ⟨⟨x.acts + 1, false, (dwr x.ds i s).2⟩, ?_, dwr_ok h.oks i s, dwr_inv h.inv i s, by simp only; rw [dwr_len]; exact h.len, rfl, by simp only; rw [h.acts]⟩
  unfold Ln.write
  rw [act_run h.up (by omega)]
theorem FrI.fmt {k : Nat} {x : Ln} (h : FrI k x) : ∃ x', X.fmt (-1) [] 64 64 x = (0, x') ∧ RSt 64 64 256 [] 0 ⟨64, 64, 0, false⟩ x' := by
  obtain ⟨D, h1, h3, h4, _⟩ := fmt_log (a := 64) (n := 64) (cut := -1) (ch := []) (x := x) h.up h.oks h.inv (by rw [h.len]; decide) (by decide) (fun j _ => by omega)
  exact ⟨_, h1, ⟨rfl, rfl, rfl, rfl⟩, rfl, ⟨0, h3⟩, h4.trans h.len⟩
set_option maxHeartbeats 4000000 in
theorem regionFresh_ok (l : List (List UInt8)) (v0 : Value) (w : World) (hv : RowAt w v0 1 l.length (gstrs l)) (hl : l.length ≤ maxLen) (hs : ∀ s ∈ l, s.length ≤ maxLen) : Fx Tryd.prog 5 [v0] w (Pure w (.bool true)) := by
  have hrl : ∀ L : Heap, Rd w (ids []) L v0 1 l.length (gstrs l) := fun L => .old hv (fun _ _ _ => by simp [X.ids])
  simp only [maxLen] at hl
  refine Fx.of (L0 := []) Tryd.func5 rfl (by kernel_rfl) Tryd.ntmps5 rfl (Owns.nil w) ?_
  refine XC.rdv (hrl _) fun ao mo hva _ _ hao => ?_
  subst hva
  by_cases h60 : 60 < l.length
  · refine go (k := ?_)
    refine XL.q (.call rfl rfl fun _ w _ => awake13_ok w) rfl ?_
    refine go (k := ?_)
    exact XE.ret1 () [] rfl rfl trivial rfl rfl rfl
  refine go (k := ?_)
  refine XL.call [] [] rfl rfl rfl rfl rfl (fun _ w _ _ => dnew_ok 256 w (by decide) (by decide)) fun x _ => ?_
  obtain ⟨b, lv⟩ := x
  refine go (k := ?_)
  refine XL.call [0] [] rfl rfl rfl rfl rfl (fun _ w1 hs ho => lnew_ok b lv (List.replicate 256 slot0) (-1) _ [] w1 (rep_ok 256) (by rw [List.length_replicate]; decide) (by decide) (fun w' hk' => rdNil w') ho) fun x _ => ?_
  obtain ⟨bl, vc⟩ := x
  refine XL.nm (M := lnX bl b lv vc (-1) [] ⟨0, false, List.replicate 256 slot0⟩) ?_ rfl
  refine go (k := ?_)
  refine XC.loop (α := Nat × Ln) (fun y => [(0, .slice ao l.length mo), (4, ptr bl), (5, iv y.1)]) (fun y => lnX bl b lv vc (-1) [] y.2) (fun y => y.1 ≤ l.length ∧ FrI y.1 y.2) (fun y => l.length - y.1) (0, ⟨0, false, List.replicate 256 slot0⟩) [0, 1, 2] ⟨Nat.zero_le _, rep_ok 256, rep_inv 256, List.length_replicate, rfl, rfl⟩ ⟨rfl, rfl, rfl, trivial⟩ rfl rfl ?_
  rintro ⟨k, x⟩ ⟨hk, hx⟩
  simp only at hk hx ⊢
  by_cases hkl : k < l.length
  · obtain ⟨s, hss⟩ : ∃ s, l[k]? = some s := ⟨_, List.getElem?_eq_getElem hkl⟩
    obtain ⟨b1, o1, rfl⟩ : ∃ b off, ao = some ⟨b, off, none⟩ := hao.resolve_left (by omega)
    have hv1 : (gstrs l)[k * 1]? = some (str s) := by simp [gstrs, hss]
    have hsl := hs s (List.mem_of_getElem? hss)
    simp only [maxLen] at hsl
    by_cases h64 : 64 < s.length
    · refine go (k := ?_)
      refine XL.q (.ldRd (j := k * 1) rfl rfl rfl (hrl _) (by omega) hv1) rfl ?_
      refine go (k := ?_)
      refine XL.q (.call rfl rfl fun _ w _ => awake13_ok w) rfl ?_
      refine go (k := ?_)
      exact XE.ret1 () [] rfl rfl trivial rfl rfl rfl
    · obtain ⟨x', h1, h2⟩ := hx.write ((64 : Int) + k) s
      replace h1 := Hold.mk h1
      refine go (k := ?_)
      refine XL.q (.ldRd (j := k * 1) rfl rfl rfl (hrl _) (by omega) hv1) rfl ?_
      refine go (k := ?_)
      refine XL.q (.ldRd (j := k * 1) rfl rfl rfl (hrl _) (by omega) hv1) rfl ?_
      refine go (k := ?_)
      refine XL.call (ret := fun _ : Unit => iv (dwr x.ds ((64 : Int) + k) s).1) (L1 := fun _ => lnX bl b lv vc (-1) [] x') (φ := fun _ => True) [0, 1, 2] [] rfl rfl rfl rfl rfl (fun _ w _ ho => by
        have := lwrite_ok bl b lv vc (-1) [] x ((64 : Int) + k) s w hx.oks (by rw [hx.len]; decide) (by rw [hx.len]; decide) (by rw [hx.acts]; omega) (by decide) (fun a ha => by cases ha) ho
        rw [h1.out] at this; exact this) fun _ _ => ?_
      refine go (k := ?_)
      exact XE.mid (k + 1, x') [0, 1, 2] ⟨⟨by simp only; omega, h2⟩, by simp only; omega⟩ ⟨rfl, rfl, rfl, trivial⟩ rfl rfl
  · obtain rfl : k = l.length := by omega
    have hxo := hx.oks
    have hxl := hx.len
    have hxa := hx.acts
    obtain ⟨T, hT⟩ : ∃ T, T = rtell (rblks x.ds 64 64) := ⟨_, rfl⟩
    have hb1 := (rtell_bd (rblks x.ds 64 64) (fun p hp => by have := rblks_bd hxo 64 64 p hp; omega)).2
    have hb2 := rtell_lens (rblks x.ds 64 64) (fun p hp => by have := rblks_bd hxo 64 64 p hp; omega)
    rw [← hT, rblks_len] at hb1 hb2
    have hrd : ∀ w', Owns w' (lnX bl b lv vc (-1) [] x) → Fx Tryd.prog 17 [ptr bl, iv (64 : Nat), iv (64 : Nat)] w' (Ret w' [] (fun v : Value => .tuple #[.int .u32 T.gen, v, iv 0]) (fun v => [.sl v 9 1 (gstrs T.groups)]) (fun _ => True)) := fun w' k => by
      have := rread_ok bl b lv vc (-1) [] x 64 64 w' hxo (by omega) (by omega) (by rw [hxl]; decide) hx.up k
      rw [← hT] at this
      exact this
    obtain ⟨x', f1, f2⟩ := hx.fmt
    replace f1 := Hold.mk f1
    clear hT
    obtain ⟨gen, gs, gr, goi⟩ := T
    simp only at hb1 hb2 hrd
    refine go (k := ?_)
    refine XL.call [] [0, 1, 2] rfl rfl rfl rfl rfl (fun _ w hs _ => hrd w hs.own) fun v1 _ => ?_
    refine XL.nm (M := .sl v1 9 1 (gstrs gs) :: lnX bl b lv vc (-1) [] x) ?_ rfl
    refine go (k := ?_)
    refine XL.call [] [0, 1, 2, 3] rfl rfl rfl rfl rfl (fun _ w hs _ => hrd w (hs.own.pick (is := [1, 2, 3]) (by decide))) fun v2 _ => ?_
    refine XL.nm (M := .sl v2 9 1 (gstrs gs) :: .sl v1 9 1 (gstrs gs) :: lnX bl b lv vc (-1) [] x) ?_ rfl
    refine XL.slv (.head _) fun a2 q2 m2 hv2 hq2 _ => ?_
    subst hv2
    obtain rfl : q2 = gs.length := by simpa using hq2
    refine XL.slv (.tail _ (.head _)) fun a3 q3 m3 hv3 hq3 _ => ?_
    subst hv3
    obtain rfl : q3 = gs.length := by simpa using hq3
    have e1 : (gen : Int) = (gen : Int) := rfl
    refine go (k := ?_)
    refine XL.q (.call rfl rfl fun _ w hs => join_ok _ gs w ((hs.own.ok _ (.tail _ (.head _)) : SlOk w _ _ 1 _).rowAt (by decide) (by simp)) (by omega) (by omega)) rfl ?_
    refine go (k := ?_)
    refine XL.q (.call rfl rfl fun _ w hs => join_ok _ gs w ((hs.own.ok _ (.head _) : SlOk w _ _ 1 _).rowAt (by decide) (by simp)) (by omega) (by omega)) rfl ?_
    refine go (k := ?_)
    refine XL.pk (M := lnX bl b lv vc (-1) [] x) [2, 3, 4] (by decide) rfl ?_
    refine XL.call [0, 1, 2] [] rfl rfl rfl rfl rfl (fun _ w _ ho => format_run bl b lv vc (-1) [] x x' 64 64 256 w f1.out ⟨hxo, hxl, by omega⟩ (by decide) (by decide) (thr_0 (by decide) (by decide) (by decide)) (by decide) (by decide) (fun a ha => by cases ha) ho) fun br _ => ?_
    refine XL.nm (M := rgX br bl b lv vc (-1) [] ⟨64, 64, 0, false⟩ x') ?_ rfl
    refine go (k := ?_)
    refine XL.q (.call rfl rfl fun _ w hs => tells_run bl b lv vc (-1) [] _ 0 [] _ w f2 (by decide) (gsNil w) (hs.own.pick (is := [1, 2, 3]) (by decide))) rfl ?_
    refine go (k := ?_)
    refine XL.q (.call rfl rfl fun _ w _ => awake13_ok w) rfl ?_
    refine go (k := ?_)
    exact XE.ret1 () [] rfl rfl trivial rfl rfl rfl
theorem gtexts_of {H : Type} {enc : TypeId × Value → H} {w : World} {spare : Nat → Bool} {held : Bool} {v : Value} (h : KOk enc Tryd.prog w 0 spare held (.sl 9) v) :
    ∃ l : List (List UInt8), RowAt w v 1 l.length (gstrs l) ∧ l.length ≤ maxLen ∧ ∀ s ∈ l, s.length ≤ maxLen := by
  obtain ⟨l, h1, h2, h3⟩ := rows_of (k := 1) (fun s : List UInt8 => [str s]) (Q := fun s => s.length ≤ maxLen) (by decide) (by kernel_rfl) (fun cs fuel x hl h => by
    obtain ⟨c0, rfl⟩ := len1 hl
    have hf := flat_ok 1 (l := [(0, .str)]) (by kernel_rfl) h
    obtain ⟨_, e0, s0, rfl, b0⟩ := hf (0, .str) (.head _)
    obtain rfl := Option.some.inj e0
    exact ⟨s0.data.toList, rfl, b0⟩) h
  refine ⟨l, ?_, h2, h3⟩
  have e : l.flatMap (fun s : List UInt8 => [str s]) = gstrs l := by
    clear h1 h2 h3
    induction l with
    | nil => rfl
    | cons a l ih => rw [List.flatMap_cons, ih]; rfl
  rw [← e]; exact h1
end Go.X
