/- RegionPlays: the walk. Printed by gen-regplays.py. -/
import Derived.Test.YtmmofanfgoahkaaGreatDoorZ25
namespace Go.X
open Go Go.Proofs Go.RowKit
theorem cells5 {l : List RAct} {k : Nat} {a : RAct} (h : l[k]? = some a) : X.cut (racells l) (k * 5) 5 = some (racell a) := by
  obtain ⟨h0, h1, h2, h3, h4⟩ := racells_at h
  have hl : ∀ l : List RAct, (racells l).length = l.length * 5 := by
    intro l
    induction l with
    | nil => rfl
    | cons a l ih =>
      unfold racells at ih ⊢
      simp only [List.flatMap_cons, List.length_append, ih, List.length_cons, racell, List.length_nil]; omega
  have hk := (List.getElem?_eq_some_iff.1 h).1
  rw [cut_some (by rw [hl]; omega)]
  congr 1
  apply List.ext_getElem?
  intro j
  rw [List.getElem?_take]
  by_cases hj : j < 5
  · rw [if_pos hj, List.getElem?_drop]
    rcases (by omega : j = 0 ∨ j = 1 ∨ j = 2 ∨ j = 3 ∨ j = 4) with rfl | rfl | rfl | rfl | rfl
    · exact h0
    · exact h1
    · exact h2
    · exact h3
    · exact h4
  · rw [if_neg hj, List.getElem?_eq_none]; simp [racell]; omega
abbrev Og := Option (Rg × Nat × Nat)
def rV : Og → Value
  | none => .pointer none
  | some (_, pr, _) => ptr pr
def qV : Og → Value
  | none => .pointer none
  | some (_, _, bq) => ptr bq
def OgW : Og → Prop
  | none => True
  | some (g, _, _) => RgW g
def op1 (bl : Nat) : Og → Heap
  | none => []
  | some (g, pr, _) => [rgB pr bl g]
def op2 (br : Nat) : Og → Heap
  | none => []
  | some (g, _, bq) => [.blk bq (r13Cs br g) 98]
theorem Fx.shutHd {P : Program} {α : Type} {f : FuncId} {args : List Value} {w : World} {L0 : Heap} {ret : α → Value} {G M : α → Heap} {φ : α → Prop} (h : Fx P f args w (Ret w L0 ret (fun x => G x ++ M x) φ)) : Fx P f args w (Ret w L0 ret (fun x => X.grp (G x) :: M x) φ) :=
  h.mono fun e w' hr => by
    cases e with
    | returned v =>
      obtain ⟨x, hx, hv, ho, hk, hn⟩ := hr
      refine ⟨x, hx, hv, ?_, hk, ?_⟩
      · exact Owns.append (L := [X.grp (G x)]) ho.left.shut ho.right (fun b hb => by rw [ids_grp1] at hb; exact ho.apart b hb)
      · intro b hb
        refine hn b ?_
        rw [ids_append]
        simpa [X.ids, grp_ids] using hb
    | panicked _ => exact hr
    | outgrown => exact hr
def ogOf (e : Int) (g : Rg) (pr bq : Nat) : Og := if e = 0 then some (g, pr, bq) else none
theorem ogOf_w {e : Int} {g : Rg} {pr bq : Nat} (h : RgW g) : OgW (ogOf e g pr bq) := by
  unfold ogOf; split
  · exact h
  · trivial
theorem ogOf_r {e : Int} {g : Rg} {pr bq : Nat} : (if e = 0 then ptr pr else .pointer none) = rV (ogOf e g pr bq) := by unfold ogOf; split <;> rfl
theorem ogOf_q {e : Int} {g : Rg} {pr bq : Nat} : (if e = 0 then ptr bq else .pointer none) = qV (ogOf e g pr bq) := by unfold ogOf; split <;> rfl
theorem ogOf_1 {e : Int} {g : Rg} {pr bq bl : Nat} : (if e = 0 then [rgB pr bl g] else []) = op1 bl (ogOf e g pr bq) := by unfold ogOf; split <;> rfl
theorem ogOf_2 {e : Int} {g : Rg} {pr bq br : Nat} : (if e = 0 then [Ent.blk bq (r13Cs br g) 98] else []) = op2 br (ogOf e g pr bq) := by unfold ogOf; split <;> rfl
structure PV where
  i : Nat
  og : Og
  x : Ln
  rv : Value
theorem thr_nat {a n : Int} (h : thr 256 a n = 0) : ∃ an nn : Nat, a = an ∧ n = nn ∧ an ≤ 256 ∧ nn ≤ 256 ∧ 2 ≤ nn := by
  unfold thr at h
  split at h
  · cases h
  · exact ⟨a.toNat, n.toNat, by omega, by omega, by omega, by omega, by omega⟩
theorem thr_two {m : Nat} {a n : Int} (h : thr m a n ≠ 0) : thr m a n = 2 := by
  unfold thr at h ⊢
  split at h
  · rename_i h1; rw [if_pos h1]
  · exact absurd rfl h
set_option maxHeartbeats 16000000 in
theorem regionPlays_ok (l : List RAct) (cut : Int) (ch : List Int) (v0 cv : Value) (w : World) (hv : RowAt w v0 5 l.length (racells l)) (hl : l.length ≤ maxLen) (hs : ∀ a ∈ l, RActOk a)
    (_hcut : -9223372036854775808 ≤ cut ∧ cut ≤ 9223372036854775807) (hc : RowAt w cv 1 ch.length (ivs ch)) (hcl : ch.length ≤ maxLen) (hcw : ∀ a ∈ ch, -9223372036854775808 ≤ a ∧ a ≤ 9223372036854775807) :
    Fx Tryz.prog 3 [v0, .agg #[iv cut, cv]] w (Pure w (.bool true)) := by
  have hrl : ∀ L : Heap, Rd w (ids []) L v0 5 l.length (racells l) := fun L => .old hv (fun _ _ _ => by simp [X.ids])
  have hrc : ∀ L : Heap, Rd w (ids []) L cv 1 ch.length (ivs ch) := fun L => .old hc (fun _ _ _ => by simp [X.ids])
  have hl' := hl
  simp only [maxLen] at hl' hcl
  refine Fx.of (L0 := []) Tryz.func3 rfl (by kernel_rfl) Tryz.ntmps3 rfl (Owns.nil w) ?_
  refine XC.rdv (hrc _) fun ac mc hvc _ _ hac => ?_
  subst hvc
  refine XC.rdv (hrl _) fun ao mo hva _ _ hao => ?_
  subst hva
  refine go (k := ?_)
  refine XL.box (zs := [iv cut, .slice ac ch.length mc]) rfl rfl rfl fun bx => ?_
  refine go (k := ?_)
  refine XL.q (.call (v := .bool (fewR l)) rfl rfl fun _ w' hs' => fewR_ok _ l w' (hrl [] w' (Owns.nil _) hs'.kept) hl hs) rfl ?_
  by_cases hfew : fewR l = false
  · rw [hfew]
    refine go (k := ?_)
    refine XL.q (.call rfl rfl fun _ w _ => awake13_ok w) rfl ?_
    refine go (k := ?_)
    exact XE.ret1 () [] rfl rfl trivial rfl rfl rfl
  have hfew' : fewR l = true := by simpa using hfew
  obtain ⟨hfa, hl50⟩ := fewR_spec hfew'
  rw [hfew']
  by_cases h20 : 20 < ch.length
  · refine go (k := ?_)
    refine XL.q (.call rfl rfl fun _ w _ => awake13_ok w) rfl ?_
    refine go (k := ?_)
    exact XE.ret1 () [] rfl rfl trivial rfl rfl rfl
  refine go (k := ?_)
  refine XL.call [] [0] rfl rfl rfl rfl rfl (fun _ w _ _ => dnew_ok 256 w (by decide) (by decide)) fun x _ => ?_
  obtain ⟨b, lv⟩ := x
  refine XL.nm ?_
  refine go (k := ?_)
  refine XL.call [] [0, 1] rfl rfl rfl rfl rfl (fun _ w _ _ => rdnew_ok 256 w (by omega)) fun x _ => ?_
  obtain ⟨bd, fv⟩ := x
  refine XL.nm (M := [rdE bd fv (.slice none 0 0) (List.replicate 256 slot0), devE b lv (List.replicate 256 slot0), .blk bx [iv cut, .slice ac ch.length mc] 25]) ?_ rfl
  refine go (k := ?_)
  refine XL.call [1] [0, 2] rfl rfl rfl rfl rfl (fun _ w1 hs ho => lnew_ok b lv (List.replicate 256 slot0) cut _ ch w1 (rep_ok 256) (by rw [List.length_replicate]; decide) (by omega) (fun w' hk' => hrc [] w' (Owns.nil _) (hs.keptTo hk' (ids_of_mem (x := devE b lv (List.replicate 256 slot0)) (.tail _ (.head _))))) ho) fun x _ => ?_
  obtain ⟨bl, vc⟩ := x
  refine XL.nm (M := lnX bl b lv vc cut ch ⟨0, false, List.replicate 256 slot0⟩ ++ [rdE bd fv (.slice none 0 0) (List.replicate 256 slot0), .blk bx [iv cut, .slice ac ch.length mc] 25]) ?_ rfl
  refine go (k := ?_)
  refine XL.box (zs := rlCs bd cut (.slice ac ch.length mc) 0 false) rfl rfl rfl fun br => ?_
  refine XL.pk (M := twoG bl b lv vc cut ch br bd fv (.slice none 0 0) (.slice ac ch.length mc) ⟨0, false, List.replicate 256 slot0⟩) [1, 2, 3, 0, 4] (by decide) rfl ?_
  have hld0 : LD 256 0 ⟨0, false, List.replicate 256 slot0⟩ := ⟨⟨rep_ok 256, List.length_replicate, Nat.le_refl _⟩, rep_inv 256⟩
  obtain ⟨x0, hx0⟩ : ∃ x : Ln, x = ⟨0, false, List.replicate 256 slot0⟩ := ⟨_, rfl⟩
  rw [← hx0] at hld0 ⊢
  clear hx0
  obtain ⟨R0, hR0⟩ : ∃ r, r = fmt cut ch (64 : Nat) 64 x0 := ⟨_, rfl⟩
  have ff : ∀ w, Owns w (lnX bl b lv vc cut ch x0) → Fx Tryz.prog 12 [ptr bl, iv (64 : Nat), iv (64 : Nat)] w (Ret w (lnX bl b lv vc cut ch x0) (fun pr : Nat => .tuple #[if R0.1 = 0 then ptr pr else .pointer none, iv R0.1]) (fun pr => grp (if R0.1 = 0 then [rgB pr bl ⟨64, 64, 0, false⟩] else []) :: lnX bl b lv vc cut ch R0.2) (fun _ => True)) := fun w ho => by
    rw [hR0]; exact Fx.shutHd (format_ok bl b lv vc cut ch x0 64 64 256 w ⟨hld0.li.ok, hld0.li.len, by have := hld0.li.acts; omega⟩ (by decide) (by decide) (thr_0 (by decide) (by decide) (by decide)) (by omega) (by omega) hcw ho)
  have fr : ∀ w, (∀ w', Kept (ids (rlG br bd fv (.slice none 0 0) (.slice ac ch.length mc) cut x0)) w w' → RowAt w' (.slice ac ch.length mc) 1 ch.length (ivs ch)) → Owns w (rlG br bd fv (.slice none 0 0) (.slice ac ch.length mc) cut x0) → Fx Tryz.prog 13 [ptr br, iv (64 : Nat), iv (64 : Nat)] w (Ret w (rlG br bd fv (.slice none 0 0) (.slice ac ch.length mc) cut x0) (fun y : Nat × Value => .tuple #[if R0.1 = 0 then ptr y.1 else .pointer none, iv R0.1])
      (fun y => grp (if R0.1 = 0 then [.blk y.1 (r13Cs br ⟨64, 64, 0, false⟩) 98] else []) :: rlG br bd fv y.2 (.slice ac ch.length mc) cut R0.2) (fun _ => True)) := fun w hv ho => by
    rw [hR0]; exact Fx.shutHd (r13format_ok br bd fv (.slice none 0 0) (.slice ac ch.length mc) cut ch x0 64 64 256 w ⟨hld0.li.ok, hld0.li.len, by have := hld0.li.acts; omega⟩ (by decide) (by decide) (thr_0 (by decide) (by decide) (by decide)) (by omega) (by omega) hcw hv ho)
  have hf := hld0.fmt (cut := cut) (ch := ch) (64 : Nat) 64
  rw [← hR0] at hf
  clear hR0
  obtain ⟨e0, x1⟩ := R0
  simp only at hf ff fr
  refine go (k := ?_)
  refine XL.call [0, 1, 2] [3, 4] rfl rfl rfl rfl rfl (fun _ w _ ho => ff w ho) fun pr _ => ?_
  refine XL.nm (M := grp (if e0 = 0 then [rgB pr bl ⟨64, 64, 0, false⟩] else []) :: (lnX bl b lv vc cut ch x1 ++ rlG br bd fv (.slice none 0 0) (.slice ac ch.length mc) cut x0)) ?_ rfl
  refine go (k := ?_)
  refine XL.call [4, 5] [0, 1, 2, 3] rfl rfl rfl rfl rfl (fun _ w1 hs ho => fr w1 (fun w' hk' => hrc [] w' (Owns.nil _) (hs.keptTo hk' (fun q hq => mem_ids.2 (by obtain ⟨y, hy, hyq⟩ := mem_ids.1 hq; exact ⟨y, .tail _ (List.mem_append_right _ hy), hyq⟩)))) ho) fun y _ => ?_
  obtain ⟨bq, rv1⟩ := y
  refine XL.pk (M := grp (if e0 = 0 then [rgB pr bl ⟨64, 64, 0, false⟩] else []) :: grp (if e0 = 0 then [.blk bq (r13Cs br ⟨64, 64, 0, false⟩) 98] else []) :: twoG bl b lv vc cut ch br bd fv rv1 (.slice ac ch.length mc) x1) [3, 0, 4, 5, 6, 1, 2] (by decide) rfl ?_
  rw [ogOf_1 (bq := bq), ogOf_2 (pr := pr)]
  have hee : ¬ ¬ e0 = e0 := fun h => h rfl
  refine go (k := ?_)
  have how : OgW (ogOf e0 ⟨64, 64, 0, false⟩ pr bq) := ogOf_w ⟨by decide, by decide, by decide⟩
  obtain ⟨og0, hog0⟩ : ∃ og, og = ogOf e0 ⟨64, 64, 0, false⟩ pr bq := ⟨_, rfl⟩
  rw [← hog0] at how ⊢
  clear ff fr
  refine XC.loop (α := PV) (fun y => [(0, .slice ao l.length mo), (5, ptr b), (6, ptr bd), (7, ptr bl), (8, ptr br), (9, rV y.og), (11, qV y.og), (13, iv y.i)]) (fun y => grp (op1 bl y.og) :: grp (op2 br y.og) :: twoG bl b lv vc cut ch br bd fv y.rv (.slice ac ch.length mc) y.x)
    (fun y => y.i ≤ l.length ∧ LD 256 (400 + 400 * y.i) y.x ∧ OgW y.og) (fun y => l.length - y.i) ⟨0, og0, x1, rv1⟩ [0, 1, 2, 3, 4, 5, 6] ⟨Nat.zero_le _, hf.mono (by omega), how⟩ ⟨rfl, rfl, rfl, rfl, rfl, gv rfl (by rw [hog0]; exact ogOf_r), gv rfl (by rw [hog0]; exact ogOf_q), rfl, trivial⟩ rfl rfl ?_
  clear hf how hld0 hog0
  rintro ⟨k, og, x, rv⟩ ⟨hk, hld, how⟩
  simp only at hk hld how ⊢
  by_cases hkl : k < l.length
  · obtain ⟨a, ha⟩ : ∃ a, l[k]? = some a := ⟨_, List.getElem?_eq_getElem hkl⟩
    obtain ⟨b1, o1, rfl⟩ : ∃ b off, ao = some ⟨b, off, none⟩ := hao.resolve_left (by omega)
    have hcut5 := cells5 ha
    obtain ⟨⟨hw1, hw2⟩, _, ⟨hg1, hg2⟩, ⟨ha1, ha2⟩, ⟨hn1, hn2⟩⟩ := hs a (List.mem_of_getElem? ha)
    have has := hfa a (List.mem_of_getElem? ha)
    obtain ⟨what, s, gen, at_, n⟩ := a
    simp only at hw1 hw2 hg1 hg2 ha1 ha2 hn1 hn2 has
    obtain ⟨gn, rfl⟩ : ∃ gn : Nat, gen = gn := ⟨gen.toNat, by omega⟩
    clear ha
    refine go (k := ?_)
    refine XL.q (.ldRdN (j := k * 5) rfl rfl rfl rfl (hrl _) (by omega) hcut5) rfl ?_
    refine go (k := ?_)
    refine XL.alloc rfl rfl rfl fun ba => ?_
    refine XL.stS rfl rfl rfl (vs := [.int .u8 what, str s, .int .u32 gn, iv at_, iv n]) (cs' := [.int .u8 what, str s, .int .u32 gn, iv at_, iv n]) rfl rfl rfl (.head _) ⟨Nat.le_refl _, rfl⟩ .here ?_
    refine go1 (k := ?_)
    refine go1 (k := ?_)
    refine go1 (k := ?_)
    refine go1 (k := ?_)
    refine go1 (k := ?_)
    refine go1 (k := ?_)
    refine go1 (k := ?_)
    refine go1 (k := ?_)
    refine go1 (k := ?_)
    refine go1 (k := ?_)
    refine XC.via (α := Og × Ln × Value) (fun y => [(0, .slice (some ⟨b1, o1, none⟩) l.length mo), (5, ptr b), (6, ptr bd), (7, ptr bl), (8, ptr br), (9, rV y.1), (11, qV y.1), (13, iv k)]) (fun y => grp (op1 bl y.1) :: grp (op2 br y.1) :: twoG bl b lv vc cut ch br bd fv y.2.2 (.slice ac ch.length mc) y.2.1) (fun y => LD 256 (400 + 400 * (k + 1)) y.2.1 ∧ OgW y.1) ?_ ?_
    · have hq : LD 256 (400 + 400 * (k + 1)) x := hld.mono (by omega)
      have hacts := hld.li.acts
      have hxl := hld.li.len
      have hxo := hld.li.ok
      by_cases h3 : what % 6 = 3
      · by_cases ht : thr 256 at_ n = 0
        · obtain ⟨an, nn, rfl, rfl, hb1, hb2, hb3⟩ := thr_nat ht
          obtain ⟨R0, hR0⟩ : ∃ r, r = fmt cut ch (an : Nat) nn x := ⟨_, rfl⟩
          have ff : ∀ w, Owns w (lnX bl b lv vc cut ch x) → Fx Tryz.prog 12 [ptr bl, iv (an : Nat), iv (nn : Nat)] w (Ret w (lnX bl b lv vc cut ch x) (fun pr : Nat => .tuple #[if R0.1 = 0 then ptr pr else .pointer none, iv R0.1]) (fun pr => grp (if R0.1 = 0 then [rgB pr bl ⟨an, nn, 0, false⟩] else []) :: lnX bl b lv vc cut ch R0.2) (fun _ => True)) := fun w ho => by
            rw [hR0]; exact Fx.shutHd (format_ok bl b lv vc cut ch x an nn 256 w ⟨hld.li.ok, hld.li.len, by have := hld.li.acts; omega⟩ (by decide) (by decide) ht (by omega) (by omega) hcw ho)
          have fr : ∀ w, (∀ w', Kept (ids (rlG br bd fv rv (.slice ac ch.length mc) cut x)) w w' → RowAt w' (.slice ac ch.length mc) 1 ch.length (ivs ch)) → Owns w (rlG br bd fv rv (.slice ac ch.length mc) cut x) → Fx Tryz.prog 13 [ptr br, iv (an : Nat), iv (nn : Nat)] w (Ret w (rlG br bd fv rv (.slice ac ch.length mc) cut x) (fun y : Nat × Value => .tuple #[if R0.1 = 0 then ptr y.1 else .pointer none, iv R0.1])
              (fun y => grp (if R0.1 = 0 then [.blk y.1 (r13Cs br ⟨an, nn, 0, false⟩) 98] else []) :: rlG br bd fv y.2 (.slice ac ch.length mc) cut R0.2) (fun _ => True)) := fun w hv ho => by
            rw [hR0]; exact Fx.shutHd (r13format_ok br bd fv rv (.slice ac ch.length mc) cut ch x an nn 256 w ⟨hld.li.ok, hld.li.len, by have := hld.li.acts; omega⟩ (by decide) (by decide) ht (by omega) (by omega) hcw hv ho)
          have hf := hld.fmt (cut := cut) (ch := ch) (an : Nat) nn
          rw [← hR0] at hf
          clear hR0
          obtain ⟨e0, x1⟩ := R0
          simp only at hf ff fr
          clear ht
          refine go (k := ?_)
          refine XL.call [3, 4, 5] [6, 7, 0] rfl rfl rfl rfl rfl (fun _ w _ ho => ff w ho) fun pr _ => ?_
          refine XL.nm (M := grp (if e0 = 0 then [rgB pr bl ⟨an, nn, 0, false⟩] else []) :: (lnX bl b lv vc cut ch x1 ++ (rlG br bd fv rv (.slice ac ch.length mc) cut x ++ [.blk ba [.int .u8 what, str s, .int .u32 gn, iv an, iv nn] 46]))) ?_ rfl
          refine go (k := ?_)
          refine XL.call [4, 5] [0, 1, 2, 3, 6] rfl rfl rfl rfl rfl (fun _ w1 hs ho => fr w1 (fun w' hk' => hrc [] w' (Owns.nil _) (hs.keptTo hk' (fun q hq => mem_ids.2 (by obtain ⟨y, hy, hyq⟩ := mem_ids.1 hq; exact ⟨y, .tail _ (List.mem_append_right _ (List.mem_append_left _ hy)), hyq⟩)))) ho) fun y _ => ?_
          obtain ⟨bq, rv1⟩ := y
          refine XL.pk (M := grp (if e0 = 0 then [rgB pr bl ⟨an, nn, 0, false⟩] else []) :: grp (if e0 = 0 then [.blk bq (r13Cs br ⟨an, nn, 0, false⟩) 98] else []) :: twoG bl b lv vc cut ch br bd fv rv1 (.slice ac ch.length mc) x1) [3, 0, 4, 5, 6, 1, 2] (by decide) rfl ?_
          rw [ogOf_1 (bq := bq), ogOf_2 (pr := pr)]
          have hee : ¬ ¬ e0 = e0 := fun h => h rfl
          refine go (k := ?_)
          exact XE.mid (ogOf e0 ⟨an, nn, 0, false⟩ pr bq, x1, rv1) [0, 1, 2, 3, 4, 5, 6] ⟨hf.mono (by omega), ogOf_w ⟨hb2, by show 0 < nn; omega, hb1⟩⟩ ⟨rfl, rfl, rfl, rfl, rfl, gv rfl ogOf_r, gv rfl ogOf_q, rfl, trivial⟩ rfl rfl
        · refine go (k := ?_)
          refine XL.q (.call (v := .tuple #[.pointer none, iv 2]) rfl rfl fun _ w hs => by
            have := format_bad bl b lv vc cut ch x at_ n w hxo (by omega) (by rw [hxl]; exact ht) (hs.own.pick (is := [3, 4, 5]) (by decide))
            rw [hxl, thr_two ht] at this; exact this) rfl ?_
          refine go (k := ?_)
          refine XL.q (.call rfl rfl fun _ w hs => r13format_bad br bd fv rv (.slice ac ch.length mc) cut x at_ n w (by omega) (by rw [hxl]; exact ht) (hs.own.pick (is := [6, 7]) (by decide))) rfl ?_
          refine go (k := ?_)
          refine XE.addG0 ?_
          refine XE.addG0 ?_
          exact XE.mid (none, x, rv) [0, 1, 5, 6, 7, 8, 9] ⟨hq, trivial⟩ ⟨rfl, rfl, rfl, rfl, rfl, rfl, rfl, rfl, trivial⟩ rfl rfl
      by_cases h4 : what % 6 = 4
      · refine go (k := ?_)
        refine XL.q (.call rfl rfl fun _ w hs => reads_ok bl b lv vc cut ch br bd fv rv (.slice ac ch.length mc) x at_ n _ w hld (hs.own.pick (is := [3, 4, 5, 6, 7]) (by decide))) rfl ?_
        refine go (k := ?_)
        exact XE.mid (og, x, rv) [1, 2, 3, 4, 5, 6, 7] ⟨hq, how⟩ ⟨rfl, rfl, rfl, rfl, rfl, rfl, rfl, rfl, trivial⟩ rfl rfl
      by_cases h5 : what % 6 = 5
      · have hwl := hld.write (cut := cut) (ch := ch) at_ s
        obtain ⟨R0, hR0⟩ : ∃ r, r = x.write cut ch at_ s := ⟨_, rfl⟩
        have fw : ∀ w, Owns w (lnX bl b lv vc cut ch x) → Fx Tryz.prog 15 [ptr bl, iv at_, str s] w (Ret w (lnX bl b lv vc cut ch x) (fun _ : Unit => iv R0.1) (fun _ => lnX bl b lv vc cut ch R0.2) (fun _ => True)) := fun w ho => by
          rw [hR0]; exact lwrite_ok bl b lv vc cut ch x at_ s w hxo (by omega) (by omega) (by omega) (by omega) hcw ho
        have fr : ∀ w, (∀ w', Kept (ids (rlG br bd fv rv (.slice ac ch.length mc) cut x)) w w' → RowAt w' (.slice ac ch.length mc) 1 ch.length (ivs ch)) → Owns w (rlG br bd fv rv (.slice ac ch.length mc) cut x) → Fx Tryz.prog 16 [ptr br, iv at_, str s] w (Ret w (rlG br bd fv rv (.slice ac ch.length mc) cut x) (fun _ : Value => iv R0.1) (fun rv2 => rlG br bd fv rv2 (.slice ac ch.length mc) cut R0.2) (fun _ => True)) := fun w hv ho => by
          rw [hR0]; exact rlwrite_ok br bd fv rv (.slice ac ch.length mc) cut ch x at_ s hxo (by omega) (by omega) (by omega) (by omega) hcw w hv ho
        rw [← hR0] at hwl
        clear hR0
        obtain ⟨e0, x1⟩ := R0
        simp only at hwl fw fr
        have hee : ¬ ¬ e0 = e0 := fun h => h rfl
        refine go (k := ?_)
        refine XL.call [3, 4, 5] [1, 2, 6, 7, 0] rfl rfl rfl rfl rfl (fun _ w _ ho => fw w ho) fun _ _ => ?_
        refine XL.nm (M := lnX bl b lv vc cut ch x1 ++ (grp (op1 bl og) :: grp (op2 br og) :: (rlG br bd fv rv (.slice ac ch.length mc) cut x ++ [.blk ba [.int .u8 what, str s, .int .u32 gn, iv at_, iv n] 46]))) ?_ rfl
        refine go (k := ?_)
        refine XL.call [5, 6] [0, 1, 2, 3, 4] rfl rfl rfl rfl rfl (fun _ w1 hs ho => fr w1 (fun w' hk' => hrc [] w' (Owns.nil _) (hs.keptTo hk' (fun q hq => mem_ids.2 (by obtain ⟨y, hy, hyq⟩ := mem_ids.1 hq; exact ⟨y, List.mem_append_right _ (.tail _ (.tail _ (List.mem_append_left _ hy))), hyq⟩)))) ho) fun rv2 _ => ?_
        refine go (k := ?_)
        exact XE.mid (og, x1, rv2) [5, 6, 2, 3, 4, 0, 1] ⟨hwl.mono (by omega), how⟩ ⟨rfl, rfl, rfl, rfl, rfl, rfl, rfl, rfl, trivial⟩ rfl rfl
      have h6 : what % 6 = 0 ∨ what % 6 = 1 ∨ what % 6 = 2 := by omega
      cases og with
      | none =>
        refine go (k := ?_)
        exact XE.mid (none, x, rv) [1, 2, 3, 4, 5, 6, 7] ⟨hq, trivial⟩ ⟨rfl, rfl, rfl, rfl, rfl, rfl, rfl, rfl, trivial⟩ rfl rfl
      | some o =>
        obtain ⟨g, pr, bq⟩ := o
        have how' : RgW g := how
        have hop := hld.opk (cut := cut) (ch := ch) ⟨what, s, gn, at_, n⟩ has g
        have hog := how'.opk cut ch ⟨what, s, gn, at_, n⟩ x
        have f1 : ∀ w1, (∀ w', Kept (ids (bothR pr bl b lv vc cut ch bq br bd fv rv (.slice ac ch.length mc) g x)) w1 w' → RowAt w' (.slice ac ch.length mc) 1 ch.length (ivs ch)) → Owns w1 (bothR pr bl b lv vc cut ch bq br bd fv rv (.slice ac ch.length mc) g x) → _ := fun w1 hv ho => one13_ok pr bl b lv vc cut ch bq br bd fv rv (.slice ac ch.length mc) g x _ ⟨what, s, gn, at_, n⟩ w1 h6 ⟨hw1, hw2⟩ ⟨hg1, hg2⟩ has hld (by omega) how' (by omega) hcw hv ho
        obtain ⟨r, hr⟩ : ∃ r, r = opk cut ch ⟨what, s, gn, at_, n⟩ g x := ⟨_, rfl⟩
        rw [← hr] at f1 hop hog
        clear hr
        obtain ⟨e1, g1, x1⟩ := r
        simp only at f1 hop hog
        refine XC.pk (M := grp [rgB pr bl g] :: grp [.blk bq (r13Cs br g) 98] :: (twoG bl b lv vc cut ch br bd fv rv (.slice ac ch.length mc) x ++ [.blk ba [.int .u8 what, str s, .int .u32 gn, iv at_, iv n] 46])) [1, 2, 3, 4, 5, 6, 7, 0] (by decide) rfl ?_
        refine XC.openG ?_
        refine XC.pk (M := grp [.blk bq (r13Cs br g) 98] :: rgB pr bl g :: (twoG bl b lv vc cut ch br bd fv rv (.slice ac ch.length mc) x ++ [.blk ba [.int .u8 what, str s, .int .u32 gn, iv at_, iv n] 46])) [1, 0, 2, 3, 4, 5, 6, 7] (by decide) rfl ?_
        refine XC.openG ?_
        refine XC.pk (M := bothR pr bl b lv vc cut ch bq br bd fv rv (.slice ac ch.length mc) g x ++ [.blk ba [.int .u8 what, str s, .int .u32 gn, iv at_, iv n] 46]) [1, 2, 3, 4, 0, 5, 6, 7] (by decide) rfl ?_
        refine go (k := ?_)
        refine XL.call [0, 1, 2, 3, 4, 5, 6] [7] rfl rfl rfl rfl rfl (fun _ w1 hs ho => f1 w1 (fun w' hk' => hrc [] w' (Owns.nil _) (hs.keptTo hk' (fun q hq => by rw [ids_append]; exact List.mem_append_left _ hq))) ho) fun rv2 _ => ?_
        refine go (k := ?_)
        refine XE.pk (M := [rgB pr bl g1] ++ (.blk bq (r13Cs br g1) 98 :: twoG bl b lv vc cut ch br bd fv rv2 (.slice ac ch.length mc) x1)) [0, 4, 1, 2, 3, 5, 6] (by decide) rfl ?_
        refine XE.shutG ?_
        refine XE.pk (M := [.blk bq (r13Cs br g1) 98] ++ (grp [rgB pr bl g1] :: twoG bl b lv vc cut ch br bd fv rv2 (.slice ac ch.length mc) x1)) [1, 0, 2, 3, 4, 5, 6] (by decide) rfl ?_
        refine XE.shutG ?_
        exact XE.mid (some (g1, pr, bq), x1, rv2) [1, 0, 2, 3, 4, 5, 6] ⟨hop.mono (by omega), hog⟩ ⟨rfl, rfl, rfl, rfl, rfl, rfl, rfl, rfl, trivial⟩ rfl rfl
    rintro ⟨og', x', rv'⟩ ⟨hld', how'⟩
    simp only at hld' how' ⊢
    cases og' with
    | none =>
      refine go (k := ?_)
      exact XE.mid ⟨k + 1, none, x', rv'⟩ [0, 1, 2, 3, 4, 5, 6] ⟨⟨hkl, hld', trivial⟩, by simp only; omega⟩ ⟨rfl, rfl, rfl, rfl, rfl, rfl, rfl, rfl, trivial⟩ rfl rfl
    | some o =>
      obtain ⟨g, pr, bq⟩ := o
      have hgw : RgW g := how'
      have g1 := hgw.n
      have g2 := hgw.used
      refine go (k := ?_)
      refine XL.q (.call rfl rfl fun _ w hs => left_at pr bl g _ _ w ⟨by omega, by omega⟩ ((hs.own.grp (.head _)).ok _ (.head _))) rfl ?_
      refine go (k := ?_)
      refine XL.q (.call rfl rfl fun _ w hs => r13left_at bq br g _ _ w ⟨by omega, by omega⟩ ((hs.own.grp (.tail _ (.head _))).ok _ (.head _))) rfl ?_
      refine go (k := ?_)
      exact XE.mid ⟨k + 1, some (g, pr, bq), x', rv'⟩ [0, 1, 2, 3, 4, 5, 6] ⟨⟨hkl, hld', hgw⟩, by simp only; omega⟩ ⟨rfl, rfl, rfl, rfl, rfl, rfl, rfl, rfl, trivial⟩ rfl rfl
  · obtain rfl : k = l.length := by omega
    have hacts := hld.li.acts
    have hxl := hld.li.len
    have hxo := hld.li.ok
    have hxi := hld.inv
    obtain ⟨Db, hDb⟩ : ∃ D, D = blown ch x.down x.ds := ⟨_, rfl⟩
    have hdl : LD 256 0 ⟨0, false, Db⟩ := by
      rw [hDb]
      refine ⟨⟨?_, ?_, Nat.le_refl _⟩, ?_⟩
      · unfold blown; simp only; split
        · exact hxo
        · exact settled_ok hxo
      · unfold blown; simp only; split
        · exact hxl
        · rw [settled_len]; exact hxl
      · unfold blown; simp only; split
        · exact hxi
        · exact settled_inv _ hxi
    have hDbh := Hold.mk hDb
    have fb : ∀ w, Owns w (rlG br bd fv rv (.slice ac ch.length mc) cut x) → (∀ w', Kept (ids (rlG br bd fv rv (.slice ac ch.length mc) cut x)) w w' → RowAt w' (.slice ac ch.length mc) 1 ch.length (ivs ch)) → Fx Tryz.prog 23 [ptr br] w (Ret w (rlG br bd fv rv (.slice ac ch.length mc) cut x) (fun _ : Value => .tuple #[]) (fun rv' => rlG br bd fv rv' (.slice ac ch.length mc) cut ⟨x.acts, true, Db⟩) (fun _ => True)) := fun w ho hv => by
      rw [hDb]; exact rblow_ok br bd fv rv (.slice ac ch.length mc) cut ch x hxo (by omega) (by omega) hcw w hv ho
    clear hDb
    have hbl := hdl.li.len
    simp only at hbl
    refine go (k := ?_)
    rw [show (l.length : Int) * 20 = ((l.length * 20 : Nat) : Int) by omega]
    refine XL.q (.call rfl rfl fun _ w _ => needs_ok (l.length * 20) w (by omega)) rfl ?_
    refine go (k := ?_)
    rw [show (l.length : Int) * 20 = ((l.length * 20 : Nat) : Int) by omega]
    refine XL.q (.call rfl rfl fun _ w _ => r13needs_ok (l.length * 20) w (by omega)) rfl ?_
    refine go (k := ?_)
    refine XL.call [2, 3, 4] [5, 6] rfl rfl rfl rfl rfl (fun _ w _ ho => blow_ok bl b lv vc cut ch x.acts x.down x.ds w hxo (by omega) (by omega) hcw ho) fun _ _ => ?_
    refine XL.pk (M := devE b lv Db :: rlG br bd fv rv (.slice ac ch.length mc) cut x) [2, 3, 4] (by decide) (by rw [hDbh.out]; rfl) ?_
    refine go (k := ?_)
    refine XL.call [1, 2] [0] rfl rfl rfl rfl rfl (fun _ w1 hs ho => fb w1 ho (fun w' hk' => hrc [] w' (Owns.nil _) (hs.keptTo hk' (fun q hq => mem_ids.2 (by obtain ⟨y, hy, hyq⟩ := mem_ids.1 hq; exact ⟨y, .tail _ hy, hyq⟩))))) fun rv2 _ => ?_
    refine XL.pk (M := [devE b lv Db, rdE bd fv rv2 Db]) [2, 1] (by decide) rfl ?_
    refine go (k := ?_)
    refine XL.call [0] [1] rfl rfl rfl rfl rfl (fun _ w1 hs ho => lnew_ok b lv Db (-1) _ [] w1 hdl.li.ok (by omega) (by decide) (fun w' hk' => rdNil w') ho) fun x _ => ?_
    obtain ⟨bm, vm⟩ := x
    refine XL.nm (M := lnX bm b lv vm (-1) [] ⟨0, false, Db⟩ ++ [rdE bd fv rv2 Db]) ?_ rfl
    refine go (k := ?_)
    refine XL.box (zs := rlCs bd (-1) (.slice none 0 0) 0 false) rfl rfl rfl fun bn => ?_
    refine XL.pk (M := twoG bm b lv vm (-1) [] bn bd fv rv2 (.slice none 0 0) ⟨0, false, Db⟩) [1, 2, 3, 0, 4] (by decide) rfl ?_
    refine go (k := ?_)
    refine XL.q (.call rfl rfl fun _ w hs => reads_ok bm b lv vm (-1) [] bn bd fv rv2 (.slice none 0 0) ⟨0, false, Db⟩ (64 : Nat) (64 : Nat) _ w hdl hs.own) rfl ?_
    refine go (k := ?_)
    refine XL.q (.call rfl rfl fun _ w _ => awake13_ok w) rfl ?_
    refine go (k := ?_)
    exact XE.ret1 () [] rfl rfl trivial rfl rfl rfl
end Go.X
