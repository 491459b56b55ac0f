/- revertlaw14: lives that come in; small. -/
import Derived.Test.YtmmofanfgoahkaaGreatDoorZ31
namespace Go.X
open Go Go.Proofs Go.RowKit
structure WLife where
  dump : List UInt8
  lv : Value
  l : List (List UInt8)
  again : Int
  next : List UInt8
  cut : Int
  cv : Value
  ch : List Int
instance : Inhabited WLife := ⟨⟨[], .slice none 0 0, [], 0, [], 0, .slice none 0 0, []⟩⟩
def wlcell (a : WLife) : List Value := [str a.dump, a.lv, .int .u8 a.again, str a.next, .int .u16 a.cut, a.cv]
def wlcells (l : List WLife) : List Value := l.flatMap wlcell
/-- what is known of a life that came in -/
structure WLifeOk (w : World) (a : WLife) : Prop where
  dump : a.dump.length ≤ maxLen
  row : RowAt w a.lv 1 a.l.length (gstrs a.l)
  ll : a.l.length ≤ maxLen
  ls : ∀ s ∈ a.l, s.length ≤ maxLen
  again : 0 ≤ a.again ∧ a.again ≤ 255
  next : a.next.length ≤ maxLen
  cut : 0 ≤ a.cut ∧ a.cut ≤ 65535
  crow : RowAt w a.cv 1 a.ch.length (ivs a.ch)
  chl : a.ch.length ≤ maxLen
  chw : ∀ x ∈ a.ch, -9223372036854775808 ≤ x ∧ x ≤ 9223372036854775807
theorem wlcells_at : ∀ {l : List WLife} {i : Nat} {a : WLife}, l[i]? = some a → (wlcells l)[i * 6]? = some (str a.dump) ∧ (wlcells l)[i * 6 + 1]? = some a.lv ∧ (wlcells l)[i * 6 + 2]? = some (.int .u8 a.again) ∧ (wlcells l)[i * 6 + 3]? = some (str a.next) ∧ (wlcells l)[i * 6 + 4]? = some (.int .u16 a.cut) ∧ (wlcells l)[i * 6 + 5]? = some a.cv
  | [], i, p, h => by simp at h
  | q :: l, 0, p, h => by simp at h; subst h; exact ⟨rfl, rfl, rfl, rfl, rfl, rfl⟩
  | q :: l, i + 1, p, h => by
    have := wlcells_at (l := l) (i := i) (by simpa using h)
    rw [show (i + 1) * 6 = i * 6 + 1 + 1 + 1 + 1 + 1 + 1 by omega]
    exact this
theorem wlives_of {H : Type} {enc : TypeId × Value → H} {w : World} {spare : Nat → Bool} {held : Bool} {v : Value} (h : KOk enc Tryz.prog w 0 spare held (.sl 66) v) :
    ∃ l : List WLife, RowAt w v 6 l.length (wlcells l) ∧ l.length ≤ maxLen ∧ ∀ a ∈ l, WLifeOk w a :=
  rows_of wlcell (Q := WLifeOk w) (by decide) (by kernel_rfl) (fun cs fuel x hl h => by
    obtain ⟨c0, c1, c2, c3, c4, c5, rfl⟩ := len6 hl
    have hf := flat_ok 4 (l := [(0, .str), (1, .sl 9), (2, .int .u8), (3, .str), (4, .int .u16), (5, .sl 3)]) (by kernel_rfl) h
    obtain ⟨_, e0, s0, rfl, b0⟩ := hf (0, .str) (.head _)
    obtain ⟨v1, e1, h1⟩ := hf (1, .sl 9) (.tail _ (.head _))
    obtain ⟨_, e2, n2, rfl, b2⟩ := hf (2, .int .u8) (.tail _ (.tail _ (.head _)))
    obtain ⟨_, e3, s3, rfl, b3⟩ := hf (3, .str) (.tail _ (.tail _ (.tail _ (.head _))))
    obtain ⟨_, e4, n4, rfl, b4⟩ := hf (4, .int .u16) (.tail _ (.tail _ (.tail _ (.tail _ (.head _)))))
    obtain ⟨v5, e5, h5⟩ := hf (5, .sl 3) (.tail _ (.tail _ (.tail _ (.tail _ (.tail _ (.head _))))))
    obtain rfl := Option.some.inj e0
    obtain rfl := Option.some.inj e1
    obtain rfl := Option.some.inj e2
    obtain rfl := Option.some.inj e3
    obtain rfl := Option.some.inj e4
    obtain rfl := Option.some.inj e5
    obtain ⟨l, q1, q2, q3⟩ := texts14_of h1
    obtain ⟨ch, r1, r2, r3⟩ := ints_of Tryz.underlying3 (by kernel_rfl) h5
    exact ⟨⟨s0.data.toList, c1, l, n2, s3.data.toList, n4, c5, ch⟩, rfl, ⟨b0, q1, q2, q3, wf_u8 b2, b3, wf_u16 b4, r1, r2, fun a ha => wf_i64 (r3 a ha)⟩⟩) h
/-- may it be gone through? -/
def smallW (a : WLife) : Bool := (a.l.take 20).all (fun s => decide (s.length ≤ 300)) && decide (a.l.length ≤ 10 ∧ a.ch.length ≤ 10 ∧ a.dump.length ≤ 2000 ∧ a.next.length ≤ 2000)
theorem smallW_spec {a : WLife} (h : smallW a = true) : (∀ s ∈ a.l, s.length ≤ 300) ∧ a.l.length ≤ 10 ∧ a.ch.length ≤ 10 ∧ a.dump.length ≤ 2000 ∧ a.next.length ≤ 2000 := by
  simp only [smallW, Bool.and_eq_true, List.all_eq_true, decide_eq_true_eq] at h
  refine ⟨fun s hs => h.1 s ?_, h.2⟩
  rw [List.take_of_length_le (by omega)]; exact hs
set_option maxHeartbeats 1000000 in
theorem small14_ok (a : WLife) (w : World) (hok : WLifeOk w a) : Fx Tryz.prog 26 [.agg (wlcell a).toArray] w (Pure w (.bool (smallW a))) := by
  obtain ⟨dump, lv, l, again, next, cut, cv, ch⟩ := a
  obtain ⟨k1, k2, k3, k4, k5, k6, k7, k8, k9, k10⟩ := hok
  simp only [maxLen] at k1 k2 k3 k4 k5 k6 k7 k8 k9 k10
  have hr : ∀ L : Heap, Rd w (ids []) L lv 1 l.length (gstrs l) := fun L => .old k2 (fun _ _ _ => by simp [X.ids])
  have hr2 : ∀ L : Heap, Rd w (ids []) L cv 1 ch.length (ivs ch) := fun L => .old k8 (fun _ _ _ => by simp [X.ids])
  refine Fx.of (L0 := []) Tryz.func26 rfl (by kernel_rfl) Tryz.ntmps26 rfl (Owns.nil w) ?_
  refine XC.rdv (hr _) fun ao mc hva _ _ haa => ?_
  subst hva
  refine XC.rdv (hr2 _) fun ac m2 hvc _ _ hac => ?_
  subst hvc
  refine go (k := ?_)
  refine XL.box (zs := wlcell ⟨dump, .slice ao l.length mc, l, again, next, cut, .slice ac ch.length m2, ch⟩) rfl rfl rfl fun bx => ?_
  refine go (k := ?_)
  refine XC.loop (α := Nat) (fun k => [(1, ptr bx), (3, iv k)]) (fun _ => [.blk bx (wlcell ⟨dump, .slice ao l.length mc, l, again, next, cut, .slice ac ch.length m2, ch⟩) 66]) (fun k => k ≤ l.length ∧ k ≤ 20 ∧ ∀ s ∈ l.take k, s.length ≤ 300) (fun k => l.length - k) 0 [0] ⟨Nat.zero_le _, Nat.zero_le _, fun a h => by simp at h⟩ ⟨rfl, rfl, trivial⟩ rfl rfl ?_
  intro k ⟨hk, hk20, hpre⟩
  have hfin : (∀ s ∈ l.take 20, s.length ≤ 300) → smallW ⟨dump, .slice ao l.length mc, l, again, next, cut, .slice ac ch.length m2, ch⟩ = decide (l.length ≤ 10 ∧ ch.length ≤ 10 ∧ dump.length ≤ 2000 ∧ next.length ≤ 2000) := fun h => by
    have : ((l.take 20).all fun s => decide (s.length ≤ 300)) = true := by simpa [List.all_eq_true] using h
    unfold smallW
    simp only
    rw [this]; rfl
  by_cases hmore : k < l.length ∧ k < 20
  · obtain ⟨hlt, h20⟩ := hmore
    obtain ⟨s, hs⟩ : ∃ s, l[k]? = some s := ⟨_, List.getElem?_eq_getElem hlt⟩
    obtain ⟨b1, o1, rfl⟩ : ∃ b off, ao = some ⟨b, off, none⟩ := haa.resolve_left (by omega)
    have hv1 : (gstrs l)[k * 1]? = some (str s) := by simp [gstrs, hs]
    have hsl := k4 s (List.mem_of_getElem? hs)
    refine go (k := ?_)
    refine XL.q (.ldRd (j := k * 1) rfl rfl rfl (hr _) (by omega) hv1) rfl ?_
    by_cases h3 : 300 < s.length
    · have e : smallW ⟨dump, .slice (some ⟨b1, o1, none⟩) l.length mc, l, again, next, cut, .slice ac ch.length m2, ch⟩ = false := by
        have : ((l.take 20).all fun s => decide (s.length ≤ 300)) = false := by
          rw [List.all_eq_false]
          exact ⟨s, List.mem_of_getElem? (i := k) (by rw [List.getElem?_take, if_pos h20]; exact hs), by simp; omega⟩
        unfold smallW
        simp only
        rw [this]; rfl
      rw [e]
      refine go (k := ?_)
      exact XE.ret1 () [] rfl rfl trivial rfl rfl rfl
    · refine go (k := ?_)
      refine XE.mid (k + 1) [0] ⟨⟨hlt, h20, fun t ht => ?_⟩, by omega⟩ ⟨rfl, rfl, trivial⟩ rfl rfl
      rw [List.take_add_one, hs] at ht
      rcases List.mem_append.1 ht with ht | ht
      · exact hpre t ht
      · simp at ht; subst ht; omega
  · have hall : ∀ s ∈ l.take 20, s.length ≤ 300 := by
      have : l.take 20 = l.take k := by
        rcases Nat.lt_or_ge k 20 with h | h
        · rw [List.take_of_length_le (by omega), List.take_of_length_le (by omega)]
        · obtain rfl : k = 20 := by omega
          rfl
      rw [this]; exact hpre
    rw [hfin hall]
    have hsplit : ¬ (k : Int) < l.length ∨ ((k : Int) < l.length ∧ ¬ (k : Int) < 20) := by omega
    rcases hsplit with hs1 | ⟨hs1, hs2⟩
    · by_cases c1 : l.length ≤ 10
      · by_cases c2 : ch.length ≤ 10
        · by_cases c3 : dump.length ≤ 2000
          · by_cases c4 : next.length ≤ 2000
            · rw [decide_eq_true ⟨c1, c2, c3, c4⟩]
              refine go (k := ?_)
              exact XE.ret1 () [] rfl rfl trivial (by rw [decide_eq_true (by simp only; omega)]) rfl rfl
            · rw [decide_eq_false (by omega)]
              refine go (k := ?_)
              exact XE.ret1 () [] rfl rfl trivial (by rw [decide_eq_false (by simp only; omega)]) rfl rfl
          · rw [decide_eq_false (by omega)]
            refine go (k := ?_)
            exact XE.ret1 () [] rfl rfl trivial rfl rfl rfl
        · rw [decide_eq_false (by omega)]
          refine go (k := ?_)
          exact XE.ret1 () [] rfl rfl trivial rfl rfl rfl
      · rw [decide_eq_false (by omega)]
        refine go (k := ?_)
        exact XE.ret1 () [] rfl rfl trivial rfl rfl rfl
    · rw [decide_eq_false (by omega)]
      refine go (k := ?_)
      exact XE.ret1 () [] rfl rfl trivial rfl rfl rfl
end Go.X
/- Package wal: Checkpoint and Commit over a line that may be cut: the two outcomes; (*story).lives. -/
namespace Go.X
open Go Go.Proofs Go.RowKit
section
variable {n m at_ gen : Nat} {all : List (List UInt8)} {live : Bool} {y : Wa} {x : Ln} {cut : Int} {ch : List Int}
theorem cp_out (h : WR n m at_ gen all live y x) (hg : gen + 1 < 256) (s : List UInt8) (hs : s.length ≤ 58 * (n - 1)) (ha : x.acts ≤ 40000) (hm : m ≤ 40000) (hcl : ch.length ≤ 1000000) (hcw : ∀ a ∈ ch, -9223372036854775808 ≤ a ∧ a ≤ 9223372036854775807) :
    ∃ (e : Int) (f : Nat → Wa) (x' : Ln), x'.acts ≤ x.acts + (n + nd s.length + 4) ∧
      ((e = 0 ∧ ∀ br, WR n m (1 - at_) (gen + 1) [s] true (f br) x') ∨ (e = 8 ∧ x'.down = true ∧ (WS n m at_ gen all x'.ds ∨ WS n m (1 - at_) (gen + 1) [s] x'.ds))) ∧
      ∀ (bw bl b : Nat) (lv vc : Value) (w : World), Owns w (waX bw bl b lv vc cut ch y x) →
        Fx Tryz.prog 34 [ptr bw, str s] w (Ret w (waX bw bl b lv vc cut ch y x) (fun _ : Nat => iv e) (fun br => waX bw bl b lv vc cut ch (f br) x') (fun _ => True)) := by
  have hn := h.ws.hn
  have hb : ¬ y.broken = true := by rw [h.yb]; decide
  have e0 : ¬ 58 * (y.n - 1) < s.length := by rw [h.yn]; omega
  have hx : ∀ br, (y.cp cut ch s x br).2.2 = (y.cp cut ch s x 0).2.2 := fun br => by unfold Wa.cp; simp only [if_neg hb, if_neg e0]
  have hc : ∀ (bw bl b : Nat) (lv vc : Value) (w : World), Owns w (waX bw bl b lv vc cut ch y x) →
      Fx Tryz.prog 34 [ptr bw, str s] w (Ret w (waX bw bl b lv vc cut ch y x) (fun _ : Nat => iv (y.cpe cut ch s x)) (fun br => waX bw bl b lv vc cut ch (y.cp cut ch s x br).2.1 (y.cp cut ch s x 0).2.2) (fun _ => True)) := fun bw bl b lv vc w ho => by
    have := checkpoint_ok bw bl b lv vc cut ch y x s m x.acts w (h.ld (Nat.le_refl _)) (by omega) (by omega) (by omega) (by rw [h.yn]; omega) (by rw [h.ya]; exact h.ws.two) (by rw [h.yg]; omega) (by omega) hcl hcw ho
    simp only [hx] at this
    exact this
  rcases h.cp (cut := cut) (ch := ch) hg s hs with ⟨h1, h2⟩ | ⟨_, h1, x', h2, h3, h4, h5⟩
  · rw [h1] at hc
    exact ⟨0, _, _, (h2 0).2, .inl ⟨rfl, fun br => by have := (h2 br).1; rw [hx] at this; exact this⟩, hc⟩
  · rw [h1] at hc
    refine ⟨8, _, _, ?_, .inr ⟨rfl, ?_, ?_⟩, hc⟩
    · rw [h2 0]; exact h3
    · rw [h2 0]; exact h4
    · rw [h2 0]; exact h5
theorem commit_out (h : WR n m at_ gen all true y x) (s : List UInt8) (hs : nd s.length + 1 + (lps all).length ≤ n) (hl : s.length ≤ 100000) (ha : x.acts ≤ 40000) (hm : m ≤ 40000) (hcl : ch.length ≤ 1000000) (hcw : ∀ a ∈ ch, -9223372036854775808 ≤ a ∧ a ≤ 9223372036854775807) :
    ∃ (e : Int) (y' : Wa) (x' : Ln), x'.acts ≤ x.acts + (nd s.length + 1) ∧
      ((e = 0 ∧ WR n m at_ gen (all ++ [s]) true y' x') ∨ (e = 8 ∧ x'.down = true ∧ (WS n m at_ gen all x'.ds ∨ WS n m at_ gen (all ++ [s]) x'.ds))) ∧
      ∀ (bw bl b : Nat) (lv vc : Value) (w : World), Owns w (waX bw bl b lv vc cut ch y x) →
        Fx Tryz.prog 32 [ptr bw, str s] w (Ret w (waX bw bl b lv vc cut ch y x) (fun _ : Unit => iv e) (fun _ => waX bw bl b lv vc cut ch y' x') (fun _ => True)) := by
  have hn := h.ws.hn
  have hc : ∀ (bw bl b : Nat) (lv vc : Value) (w : World), Owns w (waX bw bl b lv vc cut ch y x) → _ := fun bw bl b lv vc w ho => commit_ok bw bl b lv vc cut ch y x s m x.acts w (h.ld (Nat.le_refl _)) (by omega) (by omega) (by omega) h.hr hl hcl hcw ho
  rcases h.commit (cut := cut) (ch := ch) s hs with ⟨h1, h2, h3⟩ | ⟨_, h1, h2, h3, h4⟩
  · rw [h1] at hc
    exact ⟨0, _, _, h3, .inl ⟨rfl, h2⟩, hc⟩
  · rw [h1] at hc
    exact ⟨8, _, _, h2, .inr ⟨rfl, h3, h4⟩, hc⟩
end
/-- where a life ends -/
structure LOut where
  vs : Value
  gs : List (List UInt8)
  may : Option (Value × Value × List (List UInt8))
  y : Wa
  x : Ln
structure LEnd (gen : Nat) (o : LOut) : Prop where
  ws : ∃ at_ gen' all, WS 128 512 at_ gen' all o.x.ds ∧ gen' ≤ gen + 12 ∧ (all = o.gs ∨ ∃ vm lv, o.may = some (vm, lv, all)) ∧ all.length ≤ 20
  len : o.gs.length ≤ 20
  acts : o.x.acts ≤ 3000
/-- amid a life -/
structure LMid where
  i : Nat
  vs : Value
  gs : List (List UInt8)
  y : Wa
  x : Ln
  at_ : Nat
  gen : Nat
structure LvOk (k gen : Nat) (s : LMid) : Prop where
  le : s.i ≤ k
  wr : WR 128 512 s.at_ s.gen s.gs true s.y s.x
  gen : s.gen ≤ gen + 1 + s.i
  len : s.gs.length ≤ 1 + s.i
  lps : (lps s.gs).length ≤ 35 + 6 * s.i
  acts : s.x.acts ≤ 180 + 200 * s.i
abbrev lvH (bs bw bl b : Nat) (lv vc : Value) (cut : Int) (ch : List Int) (vs : Value) (gs : List (List UInt8)) (y : Wa) (x : Ln) : Heap := [stB bs vs (.slice none 0 0), .sl vs 9 1 (gstrs gs)] ++ waX bw bl b lv vc cut ch y x
abbrev lvZ (bs bw bl b : Nat) (lv vc : Value) (cut : Int) (ch : List Int) (o : LOut) : Heap := grp (stH bs o.vs o.gs o.may) :: waX bw bl b lv vc cut ch o.y o.x
set_option maxHeartbeats 4000000 in
theorem lives14_ok (bs bw bl b : Nat) (lv vc : Value) (cut : Int) (ch : List Int) (vs : Value) (gs : List (List UInt8)) (y : Wa) (x : Ln) (at_ gen : Nat) (a : WLife) (w : World) (h : WR 128 512 at_ gen gs false y x) (hgen : gen ≤ 200) (ha : x.acts ≤ 10) (hgl : gs.length ≤ 20)
    (h1 : ∀ s ∈ a.l, s.length ≤ 300) (h2 : a.l.length ≤ 10) (h3 : a.dump.length ≤ 2000) (h4 : a.next.length ≤ 2000) (hag : 0 ≤ a.again ∧ a.again ≤ 255) (hcl : ch.length ≤ 1000000) (hcw : ∀ a ∈ ch, -9223372036854775808 ≤ a ∧ a ≤ 9223372036854775807)
    (hrow : ∀ w', Kept (ids (lvH bs bw bl b lv vc cut ch vs gs y x)) w w' → RowAt w' a.lv 1 a.l.length (gstrs a.l)) (ho : Owns w (lvH bs bw bl b lv vc cut ch vs gs y x)) :
    Fx Tryz.prog 31 [ptr bs, ptr bw, .agg (wlcell a).toArray] w (Ret w (lvH bs bw bl b lv vc cut ch vs gs y x) (fun _ : LOut => .bool true) (lvZ bs bw bl b lv vc cut ch) (LEnd gen)) := by
  obtain ⟨dump, tv, l, again, next, ct, cv, cc⟩ := a
  simp only at h1 h2 h3 h4 hag hrow
  have hr : ∀ L : Heap, Rd w (ids (lvH bs bw bl b lv vc cut ch vs gs y x)) L tv 1 l.length (gstrs l) := fun L w' _ hk' => hrow w' hk'
  have hnd3 : nd dump.length ≤ 35 := by unfold nd; split <;> omega
  have hnd4 : nd next.length ≤ 35 := by unfold nd; split <;> omega
  refine Fx.of Tryz.func31 rfl (by kernel_rfl) Tryz.ntmps31 rfl ho ?_
  refine XC.rdv (hr _) fun ao mc hva _ _ haa => ?_
  subst hva
  refine go (k := ?_)
  refine XL.box (zs := [str dump, .slice ao l.length mc, .int .u8 again, str next, .int .u16 ct, cv]) rfl rfl rfl fun bx => ?_
  refine goD (k := ?_)
  obtain ⟨e3, f3, x3, q3, p3, c3⟩ := cp_out (cut := cut) (ch := ch) h (by omega) dump (by omega) (by omega) (by decide) hcl hcw
  refine XC.pk (M := waX bw bl b lv vc cut ch y x ++ [stB bs vs (.slice none 0 0), .sl vs 9 1 (gstrs gs), .blk bx [str dump, .slice ao l.length mc, .int .u8 again, str next, .int .u16 ct, cv] 66]) [3, 4, 5, 6, 7, 1, 2, 0] (by decide) rfl ?_
  refine XC.drawM (C0 := waX bw bl b lv vc cut ch y x) (L := [stB bs vs (.slice none 0 0), .sl vs 9 1 (gstrs gs), .blk bx [str dump, .slice ao l.length mc, .int .u8 again, str next, .int .u16 ct, cv] 66]) Tab.mix ?_
  refine go (k := ?_)
  refine XD.mut (.call rfl rfl fun _ w1 _ ho => c3 bw bl b lv vc w1 ho) rfl rfl ?_
  refine go (k := ?_)
  refine XD.make (.bslice rfl rfl rfl rfl rfl rfl) rfl rfl ?_
  refine go (k := ?_)
  refine XD.tail2 rfl (by decide +kernel) ?_
  rintro _ _ ⟨b4, rfl, rfl⟩ _ _ ⟨br, _, rfl, rfl⟩
  rcases p3 with ⟨rfl, hw⟩ | ⟨rfl, hd, hws⟩
  case inr =>
    refine XL.call [6] [7, 0, 1, 2, 3, 4, 5] rfl rfl rfl rfl rfl (fun _ w1 _ ho => did14_no bs vs (some ⟨b4, 0, none⟩) 1 1 8 (by decide) w1 ho) fun vm _ => ?_
    refine go (k := ?_)
    refine XE.shutSl (m := 1) (cap := 1) (k := 1) (xs := [str dump]) (.tail _ (.tail _ (.tail _ (.tail _ (.tail _ (.tail _ (.tail _ (.tail _ (.head _))))))))) rfl (Nat.le_refl _) (Nat.le_refl _) rfl (.there (.there (.there (.there (.there (.there (.there (.there .here)))))))) ?_
    refine XE.pk (M := stH bs vs gs (some (vm, .slice (some ⟨b4, 0, none⟩) 1 1, [dump])) ++ waX bw bl b lv vc cut ch (f3 br) x3) [0, 2, 1, 8, 3, 4, 5, 6, 7] (by decide) rfl ?_
    refine XE.shutG ?_
    refine XE.ret1 (α := LOut) ⟨vs, gs, some (vm, .slice (some ⟨b4, 0, none⟩) 1 1, [dump]), f3 br, x3⟩ [0, 1, 2, 3, 4, 5] rfl rfl ⟨?_, hgl, by simp only; omega⟩ rfl rfl rfl
    rcases hws with hws | hws
    · exact ⟨_, _, _, hws, by omega, .inl rfl, hgl⟩
    · exact ⟨_, _, _, hws, by omega, .inr ⟨_, _, rfl⟩, by simp⟩
  refine XL.call [6] [8, 0, 1, 2, 3, 4, 5] rfl rfl rfl rfl rfl (fun _ w1 _ ho => did14_yes bs vs (.slice none 0 0) (some ⟨b4, 0, none⟩) 1 1 w1 ho) fun _ _ => ?_
  refine XL.pk (M := [.blk bx [str dump, .slice ao l.length mc, .int .u8 again, str next, .int .u16 ct, cv] 66, stB bs (.slice (some ⟨b4, 0, none⟩) 1 1) (.slice none 0 0), .blk b4 [str dump] 9] ++ waX bw bl b lv vc cut ch (f3 br) x3) [1, 0, 7, 2, 3, 4, 5, 6] (by decide) rfl ?_
  refine XL.shutSl (m := 1) (cap := 1) (k := 1) (xs := [str dump]) (.tail _ (.tail _ (.head _))) rfl (Nat.le_refl _) (Nat.le_refl _) rfl (.there (.there .here)) ?_
  refine go (k := ?_)
  have hw' := hw br
  clear hw c3 h ho
  refine XC.loop (α := LMid) (fun s => [(0, ptr bs), (1, ptr bw), (5, ptr bx), (7, iv s.i)]) (fun s => [.blk bx [str dump, .slice ao l.length mc, .int .u8 again, str next, .int .u16 ct, cv] 66, stB bs s.vs (.slice none 0 0), .sl s.vs 9 1 (gstrs s.gs)] ++ waX bw bl b lv vc cut ch s.y s.x)
    (LvOk l.length gen) (fun s => l.length - s.i) ⟨0, .slice (some ⟨b4, 0, none⟩) 1 1, [dump], f3 br, x3, 1 - at_, gen + 1⟩ [0, 1, 2, 3, 4, 5, 6, 7] ⟨Nat.zero_le _, hw', by simp only; omega, by simp, by rw [lps_one, gps_len]; omega, by simp only; omega⟩ ⟨rfl, rfl, rfl, rfl, trivial⟩ rfl rfl ?_
  rintro ⟨i, vs, gs, y, x, at_, gen2⟩ ⟨hi, hw, hg, hgl, hlp, ha⟩
  simp only at hi hw hg hgl hlp ha ⊢
  by_cases hlt : i < l.length
  · obtain ⟨s, hsl⟩ : ∃ s, l[i]? = some s := ⟨_, List.getElem?_eq_getElem hlt⟩
    obtain ⟨b1, o1, rfl⟩ : ∃ b off, ao = some ⟨b, off, none⟩ := haa.resolve_left (by omega)
    have hv1 : (gstrs l)[i * 1]? = some (str s) := by simp [gstrs, hsl]
    have hsb := h1 s (List.mem_of_getElem? hsl)
    have hnds : nd s.length ≤ 6 := by unfold nd; split <;> omega
    refine go (k := ?_)
    refine XL.q (.ldRd (j := i * 1) rfl rfl rfl (hr _) (by omega) hv1) rfl ?_
    refine go (k := ?_)
    refine XL.q (.call (v := .bool true) rfl rfl fun _ w hs => by
      have := fits_wr hw s.length (by omega) bw bl b lv vc cut ch w (hs.own.pick (is := [3, 4, 5, 6, 7]) (by decide))
      rw [decide_eq_true (by omega)] at this
      exact this) rfl ?_
    refine goD (k := ?_)
    obtain ⟨e5, y5, x5, q5, p5, c5⟩ := commit_out (cut := cut) (ch := ch) hw s (by omega) (by omega) (by omega) (by decide) hcl hcw
    refine XC.pk (M := waX bw bl b lv vc cut ch y x ++ [stB bs vs (.slice none 0 0), .sl vs 9 1 (gstrs gs), .blk bx [str dump, .slice (some ⟨b1, o1, none⟩) l.length mc, .int .u8 again, str next, .int .u16 ct, cv] 66]) [3, 4, 5, 6, 7, 1, 2, 0] (by decide) rfl ?_
    refine XC.drawM (C0 := waX bw bl b lv vc cut ch y x) (L := [stB bs vs (.slice none 0 0), .sl vs 9 1 (gstrs gs), .blk bx [str dump, .slice (some ⟨b1, o1, none⟩) l.length mc, .int .u8 again, str next, .int .u16 ct, cv] 66]) Tab.mix ?_
    refine go (k := ?_)
    refine XD.q (.ldRd (j := i * 1) rfl rfl rfl (hr _) (by omega) hv1) rfl ?_
    refine go (k := ?_)
    refine XD.mut (.call rfl rfl fun _ w1 _ ho => c5 bw bl b lv vc w1 ho) rfl rfl ?_
    refine go (k := ?_)
    refine XD.q (.ldRd (j := i * 1) rfl rfl rfl (hr _) (by omega) hv1) rfl ?_
    refine go (k := ?_)
    refine XD.make (.call rfl rfl fun _ w1 hs => with14_ok gs s vs w1 (by omega) ((hs.own.ok _ (.tail _ (.head _)) : SlOk w1 _ _ 1 _).rowAt (m := gs.length) (by decide) (by simp))) rfl rfl ?_
    refine go (k := ?_)
    refine XD.tail2 rfl (by decide +kernel) ?_
    rintro v6 _ ⟨_, _, rfl, rfl⟩ _ _ ⟨_, _, rfl, rfl⟩
    refine XL.slv (v := v6) (xs := gstrs (gs ++ [s])) (.tail _ (.tail _ (.tail _ (.tail _ (.tail _ (.head _)))))) fun a6 q6 m6 hv6 _ _ => ?_
    subst hv6
    rcases p5 with ⟨rfl, hw5⟩ | ⟨rfl, hd, hws⟩
    case inr =>
      refine XL.call [6] [7, 0, 1, 2, 3, 4, 5] rfl rfl rfl rfl rfl (fun _ w1 _ ho => did14_no bs vs a6 q6 m6 8 (by decide) w1 ho) fun vm _ => ?_
      refine go (k := ?_)
      refine XE.pk (M := stH bs vs gs (some (vm, .slice a6 q6 m6, gs ++ [s])) ++ waX bw bl b lv vc cut ch y5 x5) [0, 2, 1, 8, 3, 4, 5, 6, 7] (by decide) rfl ?_
      refine XE.shutG ?_
      refine XE.ret1 (α := LOut) ⟨vs, gs, some (vm, .slice a6 q6 m6, gs ++ [s]), y5, x5⟩ [0, 1, 2, 3, 4, 5] rfl rfl ⟨?_, by simp only; omega, by simp only; omega⟩ rfl rfl rfl
      rcases hws with hws | hws
      · exact ⟨_, _, _, hws, by omega, .inl rfl, by omega⟩
      · exact ⟨_, _, _, hws, by omega, .inr ⟨_, _, rfl⟩, by rw [List.length_append, List.length_singleton]; omega⟩
    refine XL.call [6] [8, 0, 1, 2, 3, 4, 5] rfl rfl rfl rfl rfl (fun _ w1 _ ho => did14_yes bs vs (.slice none 0 0) a6 q6 m6 w1 ho) fun _ _ => ?_
    have hgl5 : (gs ++ [s]).length ≤ 2 + i := by rw [List.length_append, List.length_singleton]; omega
    have hlp5 : (lps (gs ++ [s])).length ≤ 35 + 6 * (i + 1) := by rw [lps_snoc, List.length_append, gps_len]; omega
    refine goD (k := ?_)
    by_cases hmod : (i : Int) = again % 10
    · obtain ⟨e7, f7, x7, q7, p7, c7⟩ := cp_out (cut := cut) (ch := ch) hw5 (by omega) next (by omega) (by omega) (by decide) hcl hcw
      refine XC.pk (M := waX bw bl b lv vc cut ch y5 x5 ++ [stB bs (.slice a6 q6 m6) (.slice none 0 0), .sl (.slice a6 q6 m6) 9 1 (gstrs (gs ++ [s])), .blk bx [str dump, .slice (some ⟨b1, o1, none⟩) l.length mc, .int .u8 again, str next, .int .u16 ct, cv] 66]) [2, 3, 4, 5, 6, 0, 7, 1] (by decide) rfl ?_
      refine XC.drawM (C0 := waX bw bl b lv vc cut ch y5 x5) (L := [stB bs (.slice a6 q6 m6) (.slice none 0 0), .sl (.slice a6 q6 m6) 9 1 (gstrs (gs ++ [s])), .blk bx [str dump, .slice (some ⟨b1, o1, none⟩) l.length mc, .int .u8 again, str next, .int .u16 ct, cv] 66]) Tab.mix ?_
      refine go (k := ?_)
      refine XD.mutY rfl rfl (decide_eq_true hmod) (.call rfl rfl fun _ w1 _ ho => c7 bw bl b lv vc w1 ho) rfl rfl ?_
      refine go (k := ?_)
      refine XD.makeY rfl rfl (decide_eq_true hmod) (.bslice rfl rfl rfl rfl rfl rfl) rfl rfl ?_
      refine go (k := ?_)
      refine XD.tail2 rfl (by decide +kernel) ?_
      rintro _ _ ⟨b8, rfl, rfl⟩ _ _ ⟨br, _, rfl, rfl⟩
      refine XL.guardY rfl rfl (decide_eq_true hmod) ?_
      rcases p7 with ⟨rfl, hw7⟩ | ⟨rfl, hd, hws⟩
      case inr =>
        refine XL.call [6] [7, 0, 1, 2, 3, 4, 5] rfl rfl rfl rfl rfl (fun _ w1 _ ho => did14_no bs (.slice a6 q6 m6) (some ⟨b8, 0, none⟩) 1 1 8 (by decide) w1 ho) fun vm _ => ?_
        refine go (k := ?_)
        refine XE.shutSl (m := 1) (cap := 1) (k := 1) (xs := [str next]) (.tail _ (.tail _ (.tail _ (.tail _ (.tail _ (.tail _ (.tail _ (.tail _ (.head _))))))))) rfl (Nat.le_refl _) (Nat.le_refl _) rfl (.there (.there (.there (.there (.there (.there (.there (.there .here)))))))) ?_
        refine XE.pk (M := stH bs (.slice a6 q6 m6) (gs ++ [s]) (some (vm, .slice (some ⟨b8, 0, none⟩) 1 1, [next])) ++ waX bw bl b lv vc cut ch (f7 br) x7) [0, 2, 1, 8, 3, 4, 5, 6, 7] (by decide) rfl ?_
        refine XE.shutG ?_
        refine XE.ret1 (α := LOut) ⟨.slice a6 q6 m6, gs ++ [s], some (vm, .slice (some ⟨b8, 0, none⟩) 1 1, [next]), f7 br, x7⟩ [0, 1, 2, 3, 4, 5] rfl rfl ⟨?_, by simp only; omega, by simp only; omega⟩ rfl rfl rfl
        rcases hws with hws | hws
        · exact ⟨_, _, _, hws, by omega, .inl rfl, by omega⟩
        · exact ⟨_, _, _, hws, by omega, .inr ⟨_, _, rfl⟩, by simp⟩
      refine XL.call [6] [8, 0, 1, 2, 3, 4, 5] rfl rfl rfl rfl rfl (fun _ w1 _ ho => did14_yes bs (.slice a6 q6 m6) (.slice none 0 0) (some ⟨b8, 0, none⟩) 1 1 w1 ho) fun _ _ => ?_
      refine XL.pk (M := [.blk bx [str dump, .slice (some ⟨b1, o1, none⟩) l.length mc, .int .u8 again, str next, .int .u16 ct, cv] 66, stB bs (.slice (some ⟨b8, 0, none⟩) 1 1) (.slice none 0 0), .blk b8 [str next] 9] ++ waX bw bl b lv vc cut ch (f7 br) x7) [1, 0, 7, 2, 3, 4, 5, 6] (by decide) rfl ?_
      refine XL.shutSl (m := 1) (cap := 1) (k := 1) (xs := [str next]) (.tail _ (.tail _ (.head _))) rfl (Nat.le_refl _) (Nat.le_refl _) rfl (.there (.there .here)) ?_
      refine go (k := ?_)
      exact XE.mid ⟨i + 1, .slice (some ⟨b8, 0, none⟩) 1 1, [next], f7 br, x7, 1 - at_, gen2 + 1⟩ [0, 1, 2, 3, 4, 5, 6, 7] ⟨⟨hlt, hw7 br, by simp only; omega, by simp, by rw [lps_one, gps_len]; simp only; omega, by simp only; omega⟩, by simp only; omega⟩ ⟨rfl, rfl, rfl, rfl, trivial⟩ rfl rfl
    · refine XC.pk (M := [.blk bx [str dump, .slice (some ⟨b1, o1, none⟩) l.length mc, .int .u8 again, str next, .int .u16 ct, cv] 66, stB bs (.slice a6 q6 m6) (.slice none 0 0), .sl (.slice a6 q6 m6) 9 1 (gstrs (gs ++ [s]))] ++ waX bw bl b lv vc cut ch y5 x5) [1, 0, 7, 2, 3, 4, 5, 6] (by decide) rfl ?_
      refine XC.dr ?_
      refine go (k := ?_)
      exact XE.mid ⟨i + 1, .slice a6 q6 m6, gs ++ [s], y5, x5, at_, gen2⟩ [0, 1, 2, 3, 4, 5, 6, 7] ⟨⟨hlt, hw5, by simp only; omega, by simp only; omega, hlp5, by simp only; omega⟩, by simp only; omega⟩ ⟨rfl, rfl, rfl, rfl, trivial⟩ rfl rfl
  · obtain rfl : i = l.length := by omega
    refine go (k := ?_)
    refine XE.pk (M := stH bs vs gs none ++ waX bw bl b lv vc cut ch y x) [1, 2, 3, 4, 5, 6, 7] (by decide) rfl ?_
    refine XE.shutG ?_
    exact XE.ret1 (α := LOut) ⟨vs, gs, none, y, x⟩ [0, 1, 2, 3, 4, 5] rfl rfl ⟨⟨_, _, _, hw.ws, by omega, .inl rfl, by omega⟩, by simp only; omega, by simp only; omega⟩ rfl rfl rfl
end Go.X
/- WalWhole: the walk. -/
namespace Go.X
open Go Go.Proofs Go.RowKit
theorem wlcells_len : ∀ l : List WLife, (wlcells l).length = l.length * 6
  | [] => rfl
  | a :: l => by
    have := wlcells_len l
    unfold wlcells at this ⊢
    simp only [List.flatMap_cons, List.length_append, this, List.length_cons, wlcell, List.length_nil]; omega
theorem wlcut6 {l : List WLife} {k : Nat} {a : WLife} (h : l[k]? = some a) : X.cut (wlcells l) (k * 6) 6 = some (wlcell a) := by
  obtain ⟨h0, h1, h2, h3, h4, h5⟩ := wlcells_at h
  have hk := (List.getElem?_eq_some_iff.1 h).1
  rw [cut_some (by rw [wlcells_len]; omega)]
  congr 1
  apply List.ext_getElem?
  intro j
  rw [List.getElem?_take]
  by_cases hj : j < 6
  · rw [if_pos hj, List.getElem?_drop]
    rcases (by omega : j = 0 ∨ j = 1 ∨ j = 2 ∨ j = 3 ∨ j = 4 ∨ j = 5) with rfl | rfl | rfl | rfl | rfl | rfl
    · exact h0
    · exact h1
    · exact h2
    · exact h3
    · exact h4
    · exact h5
  · rw [if_neg hj, List.getElem?_eq_none]; simp [wlcell]; omega
/-- between two lives -/
structure WSt where
  i : Nat
  vs : Value
  gs : List (List UInt8)
  may : Option (Value × Value × List (List UInt8))
  ds : List Slot
  at_ : Nat
  gen : Nat
  all : List (List UInt8)
structure WStOk (k : Nat) (s : WSt) : Prop where
  le : s.i ≤ k
  ws : WS 128 512 s.at_ s.gen s.all s.ds
  gen : s.gen ≤ 1 + 12 * s.i
  all : s.all = s.gs ∨ ∃ vm lv, s.may = some (vm, lv, s.all)
  len : s.all.length ≤ 20
  glen : s.gs.length ≤ 20
/-- opened, for a story in a group -/
theorem opened14_grp (bs : Nat) (vs u : Value) (gs l : List (List UInt8)) (may : Option (Value × Value × List (List UInt8))) (w : World) (hgl : gs.length ≤ 1000000) (hll : l.length ≤ 1000000) (hf : l = gs ∨ ∃ vm lv, may = some (vm, lv, l))
    (hu : ∀ w', Kept (ids [grp (stH bs vs gs may)]) w w' → RowAt w' u 1 l.length (gstrs l)) (ho : Owns w [grp (stH bs vs gs may)]) :
    Fx Tryz.prog 28 [ptr bs, u] w (Ret w [grp (stH bs vs gs may)] (fun _ : Unit => .bool true) (fun _ => [grp [stB bs u (.slice none 0 0)]]) (fun _ => True)) :=
  Fx.grp (fun ho => opened14_ok bs vs u gs l may w hgl hll hf (fun w' hk => hu w' (by rw [ids_grp1]; exact hk)) ho) ho
set_option maxHeartbeats 8000000 in
theorem walWhole_ok (l : List WLife) (v0 : Value) (w : World) (hv : RowAt w v0 6 l.length (wlcells l)) (hl : l.length ≤ maxLen) (hs : ∀ a ∈ l, WLifeOk w a) :
    Fx Tryz.prog 4 [v0] w (Pure w (.bool true)) := by
  have hr : ∀ L : Heap, Rd w (ids []) L v0 6 l.length (wlcells l) := fun L => .old hv (fun _ _ _ => by simp [X.ids])
  simp only [maxLen] at hl
  obtain ⟨g, x2, p2, q2, c2⟩ := make_free (n := 128) (m := 512) (by decide) (by decide) [102, 105, 114, 115, 116] (by decide)
  refine Fx.of (L0 := []) Tryz.func4 rfl (by kernel_rfl) Tryz.ntmps4 rfl (Owns.nil w) ?_
  refine XC.rdv (hr _) fun ao mc hva _ _ haa => ?_
  subst hva
  refine go (k := ?_)
  refine XL.call [] [] rfl rfl rfl rfl rfl (fun _ w _ _ => dnew_ok 512 w (by decide) (by decide)) fun x _ => ?_
  obtain ⟨b, lv⟩ := x
  refine go (k := ?_)
  refine XL.call [0] [] rfl rfl rfl rfl rfl (fun _ w1 hs ho => lnew_ok b lv (List.replicate 512 slot0) (-1) _ [] w1 (rep_ok 512) (by rw [List.length_replicate]; decide) (by decide) (fun w' hk' => rdNil w') ho) fun x _ => ?_
  obtain ⟨bl, vc⟩ := x
  refine XL.nm (M := lnX bl b lv vc (-1) [] ⟨0, false, List.replicate 512 slot0⟩) ?_ rfl
  refine go (k := ?_)
  refine XL.call [0, 1, 2] [] rfl rfl rfl rfl rfl (fun _ w1 _ ho => c2 bl b lv vc w1 ho) fun x _ => ?_
  obtain ⟨bw, bq⟩ := x
  have hws := (p2 bq).ws
  clear c2 p2 q2
  refine XL.pk (M := [devE b lv x2.ds]) [4] (by decide) rfl ?_
  refine go (k := ?_)
  by_cases h6 : 6 < l.length
  · refine go (k := ?_)
    refine XL.q (.call rfl rfl fun _ w _ => works14_ok w) rfl ?_
    refine go (k := ?_)
    exact XE.ret1 () [] rfl rfl trivial rfl rfl rfl
  refine go (k := ?_)
  refine XL.make (.bslice rfl rfl rfl rfl rfl rfl) rfl fun _ _ hb => ?_
  obtain ⟨bc, rfl, rfl⟩ := hb
  refine go (k := ?_)
  refine XL.box (zs := [.slice (some ⟨bc, 0, none⟩) 1 1, .slice none 0 0]) rfl rfl rfl fun bs => ?_
  refine XL.shutSl (m := 1) (cap := 1) (k := 1) (xs := [str [102, 105, 114, 115, 116]]) (.tail _ (.head _)) rfl (Nat.le_refl _) (Nat.le_refl _) rfl (.there .here) ?_
  refine XL.nm (M := stH bs (.slice (some ⟨bc, 0, none⟩) 1 1) [[102, 105, 114, 115, 116]] none ++ [devE b lv x2.ds]) ?_ rfl
  refine XL.shutG ?_
  refine go (k := ?_)
  refine XC.loop (α := WSt) (fun s => [(0, .slice ao l.length mc), (3, ptr b), (6, ptr bs), (7, iv s.i)]) (fun s => [grp (stH bs s.vs s.gs s.may), devE b lv s.ds]) (WStOk l.length) (fun s => l.length - s.i)
    ⟨0, .slice (some ⟨bc, 0, none⟩) 1 1, [[102, 105, 114, 115, 116]], none, x2.ds, 0, 1, [[102, 105, 114, 115, 116]]⟩ [0, 1] ⟨Nat.zero_le _, hws, Nat.le_refl _, .inl rfl, show 1 ≤ 20 by decide, show 1 ≤ 20 by decide⟩ ⟨rfl, rfl, rfl, rfl, trivial⟩ rfl rfl ?_
  clear hws
  rintro ⟨i, vs, gs, may, ds, at_, gen, all⟩ ⟨hi, hws, hgen, hall, hal, hgl⟩
  simp only at hi hws hgen hall hal hgl ⊢
  by_cases hlt : i < l.length
  · obtain ⟨a, ha⟩ : ∃ a, l[i]? = some a := ⟨_, List.getElem?_eq_getElem hlt⟩
    obtain ⟨b1, o1, rfl⟩ : ∃ b off, ao = some ⟨b, off, none⟩ := haa.resolve_left (by omega)
    have hok := hs a (List.mem_of_getElem? ha)
    obtain ⟨t0, t1, t2, t3, t4, t5⟩ := wlcells_at ha
    have hrl : ∀ L : Heap, Rd w (ids []) L a.lv 1 a.l.length (gstrs a.l) := fun L => .old hok.row (fun _ _ _ => by simp [X.ids])
    have hrc : ∀ L : Heap, Rd w (ids []) L a.cv 1 a.ch.length (ivs a.ch) := fun L => .old hok.crow (fun _ _ _ => by simp [X.ids])
    have hcut := hok.cut
    refine go (k := ?_)
    refine XL.q (.ldRdN (j := i * 6) rfl rfl rfl rfl (hr _) (by omega) (wlcut6 ha)) rfl ?_
    refine go (k := ?_)
    refine XL.q (.call (v := .bool (smallW a)) rfl rfl fun _ w1 hs => small14_ok a w1 ⟨hok.dump, hrl [] w1 (Owns.nil _) hs.kept, hok.ll, hok.ls, hok.again, hok.next, hok.cut, hrc [] w1 (Owns.nil _) hs.kept, hok.chl, hok.chw⟩) rfl ?_
    cases hsm : smallW a with
    | false =>
      refine go (k := ?_)
      refine XL.q (.call rfl rfl fun _ w _ => works14_ok w) rfl ?_
      refine go (k := ?_)
      exact XE.ret1 () [] rfl rfl trivial rfl rfl rfl
    | true =>
      obtain ⟨s1, s2, s3, s4, s5⟩ := smallW_spec hsm
      refine goD (k := ?_)
      refine XC.pk (M := [devE b lv ds] ++ [grp (stH bs vs gs may)]) [1, 0] (by decide) rfl ?_
      refine XC.drawM (C0 := [devE b lv ds]) (L := [grp (stH bs vs gs may)]) Tab.mix ?_
      refine go (k := ?_)
      refine XD.q (.ldRd (j := i * 6 + 4) rfl rfl rfl (hr _) (by omega) t4) rfl ?_
      refine go (k := ?_)
      refine XD.q (.ldRd (j := i * 6 + 5) rfl rfl rfl (hr _) (by omega) t5) rfl ?_
      refine go (k := ?_)
      refine XD.mut (.call rfl rfl fun _ w1 hs ho => lnew_ok b lv ds (a.cut % 700) a.cv a.ch w1 hws.oks (by rw [hws.len]; decide) (by omega) (fun w' hk' => hrc [] w' (Owns.nil _) (hs.keptTo hk' (fun q hq => by rw [ids_append]; exact List.mem_append_left _ (by rw [ids_grp1]; exact hq)))) ho) rfl rfl ?_
      refine XD.tail1 rfl (by decide +kernel) ?_
      rintro _ _ ⟨⟨bl, vc⟩, _, rfl, rfl⟩
      refine XL.nm (M := lnX bl b lv vc (a.cut % 700) a.ch ⟨0, false, ds⟩ ++ [grp (stH bs vs gs may)]) ?_ rfl
      refine go (k := ?_)
      refine XL.call [0, 1, 2] [3] rfl rfl rfl rfl rfl (fun _ w1 _ ho => open_ws (x := ⟨0, false, ds⟩) hws rfl (by decide) (by decide) bl b lv vc (a.cut % 700) a.ch w1 ho) fun x _ => ?_
      obtain ⟨bx, vx⟩ := x
      refine XL.nm (M := waX bx bl b lv vc (a.cut % 700) a.ch ⟨128, at_, gen, none, false⟩ ⟨0, false, ds⟩ ++ [.sl vx 9 1 (gstrs all), grp (stH bs vs gs may)]) ?_ rfl
      refine go (k := ?_)
      refine XL.call [6] [0, 1, 2, 3, 4, 5] rfl rfl rfl rfl rfl (fun _ w1 hs ho => opened14_grp bs vs vx gs all may w1 (by omega) (by omega) hall (fun w' hk' => ?_) ho) fun _ _ => ?_
      · have := row_beside_sl (D := [grp (stH bs vs gs may)]) (hs.own.pick (is := [5, 6]) (by decide)) w' hk'
        rw [gstrs_len] at this
        exact this
      refine XL.openG ?_
      refine XL.pk (M := lvH bs bx bl b lv vc (a.cut % 700) a.ch vx all ⟨128, at_, gen, none, false⟩ ⟨0, false, ds⟩) [0, 6, 1, 2, 3, 4, 5] (by decide) rfl ?_
      refine go (k := ?_)
      refine XL.q (.call rfl rfl fun _ w hs => wgen_at bx bl ⟨128, at_, gen, none, false⟩ _ _ w (hs.own.ok _ (.tail _ (.tail _ (.head _))))) rfl ?_
      refine go (k := ?_)
      refine XL.call [6] [0, 1, 2, 3, 4, 5] rfl rfl rfl rfl rfl (fun _ w1 hs ho => tells_ws hws (by decide) (by decide) b lv vx w1 (fun w' hk' => ?_) ho) fun _ _ => ?_
      · have := row_beside_sl (D := [devE b lv ds]) (hs.own.pick (is := [1, 6]) (by decide)) w' hk'
        rw [gstrs_len] at this
        exact this
      refine XL.pk (M := lvH bs bx bl b lv vc (a.cut % 700) a.ch vx all ⟨128, at_, gen, none, false⟩ ⟨0, false, ds⟩) [1, 2, 3, 4, 5, 6, 0] (by decide) rfl ?_
      refine go (k := ?_)
      refine XL.q (.ldRdN (j := i * 6) rfl rfl rfl rfl (hr _) (by omega) (wlcut6 ha)) rfl ?_
      refine go (k := ?_)
      refine XL.call [0, 1, 2, 3, 4, 5, 6] [] rfl rfl rfl rfl rfl (fun _ w1 hs ho => lives14_ok bs bx bl b lv vc (a.cut % 700) a.ch vx all ⟨128, at_, gen, none, false⟩ ⟨0, false, ds⟩ at_ gen a w1 (WS.opened (x := ⟨0, false, ds⟩) hws rfl) (by omega) (by simp only; omega) hal s1 s2 s4 s5 hok.again (by omega) hok.chw
        (fun w' hk' => hrl [] w' (Owns.nil _) (hs.keptTo hk' (fun q hq => hq))) ho) fun o hend => ?_
      obtain ⟨vs', gs', may', y', x'⟩ := o
      obtain ⟨⟨at2, gen2, all2, k1, k2, k3, k4⟩, k5, _⟩ := hend
      simp only at k1 k3 k5
      refine XL.nm (M := grp (stH bs vs' gs' may') :: waX bx bl b lv vc (a.cut % 700) a.ch y' x') ?_ rfl
      refine go (k := ?_)
      refine XL.call [3, 4, 5] [0] rfl rfl rfl rfl rfl (fun _ w1 _ ho => blow_still k1 (by decide) bl b lv vc (a.cut % 700) a.ch w1 (by omega) hok.chw ho) fun _ _ => ?_
      refine go (k := ?_)
      exact XE.mid ⟨i + 1, vs', gs', may', x'.ds, at2, gen2, all2⟩ [3, 2] ⟨⟨hlt, k1, by simp only; omega, k3, k4, k5⟩, by simp only; omega⟩ ⟨rfl, rfl, rfl, rfl, trivial⟩ rfl rfl
  · obtain rfl : i = l.length := by omega
    refine go (k := ?_)
    refine XL.call [1] [0] rfl rfl rfl rfl rfl (fun _ w1 hs ho => lnew_ok b lv ds (-1) _ [] w1 hws.oks (by rw [hws.len]; decide) (by decide) (fun w' hk' => rdNil w') ho) fun x _ => ?_
    obtain ⟨bl, vc⟩ := x
    refine XL.nm (M := lnX bl b lv vc (-1) [] ⟨0, false, ds⟩ ++ [grp (stH bs vs gs may)]) ?_ rfl
    refine go (k := ?_)
    refine XL.call [0, 1, 2] [3] rfl rfl rfl rfl rfl (fun _ w1 _ ho => open_ws (x := ⟨0, false, ds⟩) hws rfl (by decide) (by decide) bl b lv vc (-1) [] w1 ho) fun x _ => ?_
    obtain ⟨bx, vx⟩ := x
    refine XL.nm (M := waX bx bl b lv vc (-1) [] ⟨128, at_, gen, none, false⟩ ⟨0, false, ds⟩ ++ [.sl vx 9 1 (gstrs all), grp (stH bs vs gs may)]) ?_ rfl
    refine go (k := ?_)
    refine XL.call [6] [0, 1, 2, 3, 4, 5] rfl rfl rfl rfl rfl (fun _ w1 hs ho => opened14_grp bs vs vx gs all may w1 (by omega) (by omega) hall (fun w' hk' => ?_) ho) fun _ _ => ?_
    · have := row_beside_sl (D := [grp (stH bs vs gs may)]) (hs.own.pick (is := [5, 6]) (by decide)) w' hk'
      rw [gstrs_len] at this
      exact this
    refine go (k := ?_)
    refine XL.q (.call rfl rfl fun _ w _ => works14_ok w) rfl ?_
    refine go (k := ?_)
    exact XE.ret1 () [] rfl rfl trivial rfl rfl rfl
end Go.X
