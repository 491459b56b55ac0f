/- RegionTorn: the walk. -/
import Derived.Test.YtmmofanfgoahkaaDoorRegR
namespace Go.X
open Go Go.Proofs Go.RowKit
abbrev gus (l : List Nat) : List Value := l.map fun n : Nat => Value.int .u32 n
theorem gus_len (l : List Nat) : (gus l).length = l.length := List.length_map _
structure TV where
  i : Nat
  all : List (List UInt8)
  gens : List Nat
  sure : Nat
  sl : Nat
  op : Bool
  g : Rg
  x : Ln
  va : Value
  vg : Value
structure TOk (l : List RAct) (y : TV) : Prop where
  i : y.i ≤ l.length
  all : y.all.length ≤ y.i
  gens : y.gens.length ≤ y.i
  acts : y.x.acts ≤ 65 + 64 * y.i
  st : TSt y.all y.gens y.sure y.sl y.op y.g y.x
structure Old (k : Nat) (ds : List Slot) : Prop where
  oks : Oks ds
  inv : DInv ds
  len : ds.length = 256
theorem Old.write {k : Nat} {ds : List Slot} (h : Old k ds) (i : Int) (s : List UInt8) : Old (k + 1) (dwr ds i s).2 := ⟨dwr_ok h.oks i s, dwr_inv h.inv i s, by rw [dwr_len]; exact h.len⟩
set_option maxHeartbeats 16000000 in
theorem regionTorn_ok (l : List RAct) (c0 : Nat) (ch : List Int) (v0 v2 : Value) (w : World) (hv : RowAt w v0 5 l.length (racells l)) (hl : l.length ≤ maxLen) (hs : ∀ a ∈ l, RActOk a) (hc0 : c0 ≤ 65535)
    (hc : RowAt w v2 1 ch.length (ivs ch)) (hcl : ch.length ≤ maxLen) (hcw : ∀ a ∈ ch, -9223372036854775808 ≤ a ∧ a ≤ 9223372036854775807) : Fx Tryd.prog 4 [v0, .int .u16 c0, v2] w (Pure w (.bool true)) := by
  have hrl : ∀ L : Heap, Rd w (ids []) L v0 5 l.length (racells l) := fun L => .old hv (fun _ _ _ => by simp [X.ids])
  have hrc : ∀ L : Heap, Rd w (ids []) L v2 1 ch.length (ivs ch) := fun L => .old hc (fun _ _ _ => by simp [X.ids])
  have hl' := hl
  simp only [maxLen] at hl' hcl
  refine Fx.of (L0 := []) Tryd.func4 rfl (by kernel_rfl) Tryd.ntmps4 rfl (Owns.nil w) ?_
  refine XC.rdv (hrc _) fun ac mc hvc _ _ hac => ?_
  subst hvc
  refine XC.rdv (hrl _) fun ao mo hva _ _ hao => ?_
  subst hva
  refine go (k := ?_)
  refine XL.q (.call (v := .bool (fewR l)) rfl rfl fun _ w' hs' => fewR_ok _ l w' (hrl [] w' (Owns.nil _) hs'.kept) hl hs) rfl ?_
  by_cases hfew : fewR l = false
  · rw [hfew]
    refine go (k := ?_)
    refine XL.q (.call rfl rfl fun _ w _ => awake13_ok w) rfl ?_
    refine go (k := ?_)
    exact XE.ret1 () [] rfl rfl trivial rfl rfl rfl
  have hfew' : fewR l = true := by simpa using hfew
  obtain ⟨hfa, hl50⟩ := fewR_spec hfew'
  rw [hfew']
  by_cases h20 : 20 < ch.length
  · refine go (k := ?_)
    refine XL.q (.call rfl rfl fun _ w _ => awake13_ok w) rfl ?_
    refine go (k := ?_)
    exact XE.ret1 () [] rfl rfl trivial rfl rfl rfl
  refine go (k := ?_)
  refine XL.call [] [] rfl rfl rfl rfl rfl (fun _ w _ _ => dnew_ok 256 w (by decide) (by decide)) fun x _ => ?_
  obtain ⟨b, lv⟩ := x
  refine go (k := ?_)
  refine XC.loop (α := Nat × List Slot) (fun y => [(0, .slice ao l.length mo), (1, .int .u16 c0), (2, .slice ac ch.length mc), (7, ptr b), (8, iv y.1)]) (fun y => [devE b lv y.2]) (fun y => 64 ≤ y.1 ∧ y.1 ≤ 128 ∧ Old y.1 y.2) (fun y => 128 - y.1) (64, List.replicate 256 slot0) [0] ⟨by decide, by decide, rep_ok 256, rep_inv 256, List.length_replicate⟩ ⟨rfl, rfl, rfl, rfl, rfl, trivial⟩ rfl rfl ?_
  rintro ⟨k, D0⟩ ⟨hk0, hk, hp⟩
  simp only at hk0 hk hp ⊢
  by_cases hk2 : k < 128
  · refine go (k := ?_)
    refine XL.call [0] [] rfl rfl rfl rfl rfl (fun _ w _ ho => write_any b lv D0 k _ w hp.oks (by rw [hp.len]; decide) ho) fun _ _ => ?_
    refine go (k := ?_)
    exact XE.mid (k + 1, _) [0] ⟨⟨by simp only; omega, by simp only; omega, hp.write _ _⟩, by simp only; omega⟩ ⟨rfl, rfl, rfl, rfl, rfl, trivial⟩ rfl rfl
  obtain rfl : k = 128 := by omega
  have hpo := hp.oks
  have hpl := hp.len
  have hpi := hp.inv
  clear hp
  obtain ⟨cn, hcn⟩ : ∃ cn : Nat, cn = 65 + c0 % 400 := ⟨_, rfl⟩
  have hcn1 : 65 ≤ (cn : Int) := by omega
  obtain ⟨D, f1, f2⟩ := fmt_trun (cut := (cn : Int)) (ch := ch) hpo hpi hpl hcn1
  replace f1 := Hold.mk f1
  refine go (k := ?_)
  rw [show (65 : Int) + (c0 : Int) % 400 = (cn : Int) by omega]
  refine XL.call [0] [] rfl rfl rfl rfl rfl (fun _ w1 hs ho => lnew_ok b lv D0 (cn : Int) _ ch w1 hpo (by omega) (by omega) (fun w' hk' => hrc [] w' (Owns.nil _) (hs.keptTo hk' (ids_of_mem (x := devE b lv D0) (.head _)))) ho) fun x _ => ?_
  obtain ⟨bl, vc⟩ := x
  refine XL.nm (M := lnX bl b lv vc (cn : Int) ch ⟨0, false, D0⟩) ?_ rfl
  refine go (k := ?_)
  refine XL.call [0, 1, 2] [] rfl rfl rfl rfl rfl (fun _ w _ ho => format_run bl b lv vc (cn : Int) ch ⟨0, false, D0⟩ ⟨65, false, D⟩ 64 64 256 w f1.out ⟨hpo, hpl, Nat.zero_le _⟩ (by decide) (by decide) (thr_0 (by decide) (by decide) (by decide)) (by decide) (by omega) hcw ho) fun br _ => ?_
  refine XL.nm (M := rgX br bl b lv vc (cn : Int) ch ⟨64, 64, 0, false⟩ ⟨65, false, D⟩) ?_ rfl
  refine go (k := ?_)
  refine XC.addNil 33 1 ?_
  refine XC.addNil 9 1 ?_
  refine XC.loop (α := TV) (fun y => [(0, .slice ao l.length mo), (7, ptr b), (9, ptr bl), (10, ptr br), (12, y.va), (13, y.vg), (14, iv y.sure), (15, .int .u32 y.sl), (16, .bool y.op), (17, iv y.i)]) (fun y => .sl y.va 9 1 (gstrs y.all) :: .sl y.vg 33 1 (gus y.gens) :: rgX br bl b lv vc (cn : Int) ch y.g y.x)
    (TOk l) (fun y => l.length - y.i) ⟨0, [], [], 0, 0, false, ⟨64, 64, 0, false⟩, ⟨65, false, D⟩, .slice none 0 0, .slice none 0 0⟩ [0, 1, 2, 3, 4, 5] ⟨Nat.zero_le _, Nat.le_refl _, Nat.le_refl _, Nat.le_refl _, f2⟩ ⟨rfl, rfl, rfl, rfl, rfl, rfl, rfl, rfl, rfl, rfl, trivial⟩ rfl rfl ?_
  clear f1 f2 hpo hpl hpi D D0 hcn hcn1
  rintro ⟨k, all, gens, sure, sl, op, g, x, va, vg⟩ ⟨hk, hal, hgl, hxa, hst⟩
  simp only at hk hal hgl hxa hst ⊢
  by_cases hkl : k < l.length
  · obtain ⟨a, ha⟩ : ∃ a, l[k]? = some a := ⟨_, List.getElem?_eq_getElem hkl⟩
    obtain ⟨b1, o1, rfl⟩ : ∃ b off, ao = some ⟨b, off, none⟩ := hao.resolve_left (by omega)
    obtain ⟨d0, d1, d2, _, _⟩ := racells_at ha
    obtain ⟨⟨hw1, hw2⟩, _, ⟨hg1, hg2⟩, _, _⟩ := hs a (List.mem_of_getElem? ha)
    have has := hfa a (List.mem_of_getElem? ha)
    have h6 : a.what % 6 = 0 ∨ a.what % 6 = 1 ∨ a.what % 6 = 2 ∨ a.what % 6 = 3 ∨ a.what % 6 = 4 ∨ a.what % 6 = 5 := by omega
    have hreg := hst.reg
    have hli : ∀ {q : Nat}, 4000 ≤ q → LI 256 q x := fun hq => hst.li (by omega)
    obtain ⟨e1, g1, x1, hr1, ha1, ho1⟩ := torn_append (cut := (cn : Int)) (ch := ch) hst a.s
    obtain ⟨e2, g2, x2, hr2, ha2, ho2⟩ := torn_flush (cut := (cn : Int)) (ch := ch) hst
    obtain ⟨gn, hgn⟩ : ∃ gn : Nat, a.gen = gn := ⟨a.gen.toNat, by omega⟩
    rw [hgn] at d2
    replace hr1 := Hold.mk hr1
    replace hr2 := Hold.mk hr2
    have hgn2 : gn < 4294967296 := by omega
    rcases h6 with h6 | h6 | h6 | h6 | h6 | h6
    · refine go (k := ?_)
      refine XL.q (.ldRd (j := k * 5) rfl rfl rfl (hrl _) (by omega) d0) rfl ?_
      refine go (k := ?_)
      refine XL.q (.ldRd (j := k * 5 + 1) rfl rfl rfl (hrl _) (by omega) d1) rfl ?_
      refine go (k := ?_)
      refine XL.call [2, 3, 4, 5] [0, 1] rfl rfl rfl rfl rfl (fun _ w _ ho => rappend_run br bl b lv vc (cn : Int) ch _ _ _ _ a.s e1 256 w hr1.out (hli (by decide)) (by decide) (by decide) (by omega) hreg (by omega) hcw ho) fun _ _ => ?_
      refine XL.pk (M := .sl va 9 1 (gstrs all) :: .sl vg 33 1 (gus gens) :: rgX br bl b lv vc (cn : Int) ch g1 x1) [4, 5, 0, 1, 2, 3] (by decide) rfl ?_
      rcases ho1 with ⟨rfl | rfl, hst1⟩ | ⟨rfl | rfl, hst1⟩
      · refine go (k := ?_)
        refine XL.q (.ldRd (j := k * 5 + 1) rfl rfl rfl (hrl _) (by omega) d1) rfl ?_
        refine go (k := ?_)
        refine XL.make (.bslice rfl rfl rfl rfl rfl rfl) rfl fun _ _ hb => ?_
        obtain ⟨bs, rfl, rfl⟩ := hb
        refine go (k := ?_)
        refine XL.app (m := 1) (news := [str a.s]) (L' := fun v'' => _ :: .sl v'' 9 1 (gstrs all ++ [str a.s]) :: _) rfl rfl rfl rfl rfl rfl (by decide) (.tail _ (.head _)) (.blk (.head _) rfl (Nat.le_refl _) rfl) rfl (by simp only [gstrs_len, List.length_singleton]; omega) (by simp only [gstrs_len, List.length_singleton]; omega) (fun _ => .there .here) rfl fun v3 => ?_
        refine go (k := ?_)
        exact XE.mid ⟨k + 1, all ++ [a.s], gens, sure, sl, op, g1, x1, v3, vg⟩ [1, 2, 3, 4, 5, 6] ⟨⟨hkl, by simp only [List.length_append, List.length_singleton]; omega, by simp only; omega, by simp only; omega, hst1⟩, by simp only; omega⟩ ⟨rfl, rfl, rfl, rfl, rfl, rfl, rfl, rfl, rfl, rfl, trivial⟩ rfl (by simp [X.pick, gstrs])
      · refine go (k := ?_)
        refine XL.q (.ldRd (j := k * 5 + 1) rfl rfl rfl (hrl _) (by omega) d1) rfl ?_
        refine go (k := ?_)
        refine XL.make (.bslice rfl rfl rfl rfl rfl rfl) rfl fun _ _ hb => ?_
        obtain ⟨bs, rfl, rfl⟩ := hb
        refine go (k := ?_)
        refine XL.app (m := 1) (news := [str a.s]) (L' := fun v'' => _ :: .sl v'' 9 1 (gstrs all ++ [str a.s]) :: _) rfl rfl rfl rfl rfl rfl (by decide) (.tail _ (.head _)) (.blk (.head _) rfl (Nat.le_refl _) rfl) rfl (by simp only [gstrs_len, List.length_singleton]; omega) (by simp only [gstrs_len, List.length_singleton]; omega) (fun _ => .there .here) rfl fun v3 => ?_
        refine go (k := ?_)
        exact XE.mid ⟨k + 1, all ++ [a.s], gens, sure, sl, op, g1, x1, v3, vg⟩ [1, 2, 3, 4, 5, 6] ⟨⟨hkl, by simp only [List.length_append, List.length_singleton]; omega, by simp only; omega, by simp only; omega, hst1⟩, by simp only; omega⟩ ⟨rfl, rfl, rfl, rfl, rfl, rfl, rfl, rfl, rfl, rfl, trivial⟩ rfl (by simp [X.pick, gstrs])
      · refine go (k := ?_)
        exact XE.mid ⟨k + 1, all, gens, sure, sl, op, g1, x1, va, vg⟩ [0, 1, 2, 3, 4, 5] ⟨⟨hkl, by simp only; omega, by simp only; omega, by simp only; omega, hst1⟩, by simp only; omega⟩ ⟨rfl, rfl, rfl, rfl, rfl, rfl, rfl, rfl, rfl, rfl, trivial⟩ rfl rfl
      · refine go (k := ?_)
        exact XE.mid ⟨k + 1, all, gens, sure, sl, op, g1, x1, va, vg⟩ [0, 1, 2, 3, 4, 5] ⟨⟨hkl, by simp only; omega, by simp only; omega, by simp only; omega, hst1⟩, by simp only; omega⟩ ⟨rfl, rfl, rfl, rfl, rfl, rfl, rfl, rfl, rfl, rfl, trivial⟩ rfl rfl
    · refine go (k := ?_)
      refine XL.q (.ldRd (j := k * 5) rfl rfl rfl (hrl _) (by omega) d0) rfl ?_
      refine go (k := ?_)
      refine XL.call [2, 3, 4, 5] [0, 1] rfl rfl rfl rfl rfl (fun _ w _ ho => rflush_run br bl b lv vc (cn : Int) ch _ _ _ _ e2 256 w hr2.out (hli (by decide)) (by decide) (by omega) hcw ho) fun _ _ => ?_
      refine XL.pk (M := .sl va 9 1 (gstrs all) :: .sl vg 33 1 (gus gens) :: rgX br bl b lv vc (cn : Int) ch g2 x2) [4, 5, 0, 1, 2, 3] (by decide) rfl ?_
      rcases ho2 with ⟨rfl, hst1⟩ | ⟨rfl | rfl, hst1⟩
      · refine XL.slv (.head _) fun a3 q3 m3 hv3 hq3 _ => ?_
        subst hv3
        obtain rfl : q3 = all.length := by simpa using hq3
        refine go (k := ?_)
        exact XE.mid ⟨k + 1, all, gens, all.length, sl, op, g2, x2, .slice a3 all.length m3, vg⟩ [0, 1, 2, 3, 4, 5] ⟨⟨hkl, by simp only; omega, by simp only; omega, by simp only; omega, hst1⟩, by simp only; omega⟩ ⟨rfl, rfl, rfl, rfl, rfl, rfl, rfl, rfl, rfl, rfl, trivial⟩ rfl rfl
      · refine go (k := ?_)
        exact XE.mid ⟨k + 1, all, gens, sure, sl, op, g2, x2, va, vg⟩ [0, 1, 2, 3, 4, 5] ⟨⟨hkl, by simp only; omega, by simp only; omega, by simp only; omega, hst1⟩, by simp only; omega⟩ ⟨rfl, rfl, rfl, rfl, rfl, rfl, rfl, rfl, rfl, rfl, trivial⟩ rfl rfl
      · refine go (k := ?_)
        exact XE.mid ⟨k + 1, all, gens, sure, sl, op, g2, x2, va, vg⟩ [0, 1, 2, 3, 4, 5] ⟨⟨hkl, by simp only; omega, by simp only; omega, by simp only; omega, hst1⟩, by simp only; omega⟩ ⟨rfl, rfl, rfl, rfl, rfl, rfl, rfl, rfl, rfl, rfl, trivial⟩ rfl rfl
    · refine go (k := ?_)
      refine XL.q (.ldRd (j := k * 5) rfl rfl rfl (hrl _) (by omega) d0) rfl ?_
      refine go (k := ?_)
      refine XL.q (.ldRd (j := k * 5 + 2) rfl rfl rfl (hrl _) (by omega) d2) rfl ?_
      by_cases hg0 : gn = 0
      · subst hg0
        refine go (k := ?_)
        exact XE.mid ⟨k + 1, all, gens, sure, sl, op, g, x, va, vg⟩ [0, 1, 2, 3, 4, 5] ⟨⟨hkl, by simp only; omega, by simp only; omega, by simp only; omega, hst⟩, by simp only; omega⟩ ⟨rfl, rfl, rfl, rfl, rfl, rfl, rfl, rfl, rfl, rfl, trivial⟩ rfl rfl
      obtain ⟨e3, g3, x3, hr3, ha3, ho3⟩ := torn_seal (cut := (cn : Int)) (ch := ch) hst gn hg0 hgn2
      replace hr3 := Hold.mk hr3
      have hg0' : ¬ (gn : Int) = 0 := by omega
      refine go (k := ?_)
      refine XL.q (.ldRd (j := k * 5 + 2) rfl rfl rfl (hrl _) (by omega) d2) rfl ?_
      refine go (k := ?_)
      refine XL.call [2, 3, 4, 5] [0, 1] rfl rfl rfl rfl rfl (fun _ w _ ho => rseal_run br bl b lv vc (cn : Int) ch _ _ _ _ e3 gn 256 w hr3.out (hli (by decide)) (by decide) (by decide) hgn2 (by omega) hcw ho) fun _ _ => ?_
      refine XL.pk (M := .sl va 9 1 (gstrs all) :: .sl vg 33 1 (gus gens) :: rgX br bl b lv vc (cn : Int) ch g3 x3) [4, 5, 0, 1, 2, 3] (by decide) rfl ?_
      rcases ho3 with ⟨rfl, hst1⟩ | ⟨rfl, hst1⟩ | ⟨rfl, hst1⟩
      · refine XL.slv (.head _) fun a3 q3 m3 hv3 hq3 _ => ?_
        subst hv3
        obtain rfl : q3 = all.length := by simpa using hq3
        refine go (k := ?_)
        refine XL.q (.ldRd (j := k * 5 + 2) rfl rfl rfl (hrl _) (by omega) d2) rfl ?_
        refine go (k := ?_)
        refine XE.addNil 33 1 ?_
        exact XE.mid ⟨k + 1, all, [], all.length, gn, false, g3, x3, .slice a3 all.length m3, .slice none 0 0⟩ [1, 0, 3, 4, 5, 6] ⟨⟨hkl, by simp only; omega, by simp only [List.length_nil]; omega, by simp only; omega, hst1⟩, by simp only; omega⟩ ⟨rfl, rfl, rfl, rfl, rfl, rfl, rfl, rfl, rfl, rfl, trivial⟩ rfl rfl
      · refine go (k := ?_)
        refine XL.q (.ldRd (j := k * 5 + 2) rfl rfl rfl (hrl _) (by omega) d2) rfl ?_
        refine go (k := ?_)
        refine XL.make (.bslice rfl rfl rfl rfl rfl rfl) rfl fun _ _ hb => ?_
        obtain ⟨bs, rfl, rfl⟩ := hb
        refine go (k := ?_)
        refine XL.app (m := 1) (news := [.int .u32 gn]) (L' := fun v'' => _ :: _ :: .sl v'' 33 1 (gus gens ++ [.int .u32 gn]) :: _) rfl rfl rfl rfl rfl rfl (by decide) (.tail _ (.tail _ (.head _))) (.blk (.head _) rfl (Nat.le_refl _) rfl) rfl (by simp only [gus_len, List.length_singleton]; omega) (by simp only [gus_len, List.length_singleton]; omega) (fun _ => .there (.there .here)) rfl fun v3 => ?_
        refine go (k := ?_)
        exact XE.mid ⟨k + 1, all, gens ++ [gn], sure, sl, true, g3, x3, va, v3⟩ [1, 2, 3, 4, 5, 6] ⟨⟨hkl, by simp only; omega, by simp only [List.length_append, List.length_singleton]; omega, by simp only; omega, hst1⟩, by simp only; omega⟩ ⟨rfl, rfl, rfl, rfl, rfl, rfl, rfl, rfl, rfl, rfl, trivial⟩ rfl (by simp [X.pick, gus])
      · refine go (k := ?_)
        exact XE.mid ⟨k + 1, all, gens, sure, sl, op, g3, x3, va, vg⟩ [0, 1, 2, 3, 4, 5] ⟨⟨hkl, by simp only; omega, by simp only; omega, by simp only; omega, hst1⟩, by simp only; omega⟩ ⟨rfl, rfl, rfl, rfl, rfl, rfl, rfl, rfl, rfl, rfl, trivial⟩ rfl rfl
    · refine go (k := ?_)
      refine XL.q (.ldRd (j := k * 5) rfl rfl rfl (hrl _) (by omega) d0) rfl ?_
      refine go (k := ?_)
      refine XL.q (.ldRd (j := k * 5 + 1) rfl rfl rfl (hrl _) (by omega) d1) rfl ?_
      refine go (k := ?_)
      refine XL.call [2, 3, 4, 5] [0, 1] rfl rfl rfl rfl rfl (fun _ w _ ho => rappend_run br bl b lv vc (cn : Int) ch _ _ _ _ a.s e1 256 w hr1.out (hli (by decide)) (by decide) (by decide) (by omega) hreg (by omega) hcw ho) fun _ _ => ?_
      refine XL.pk (M := .sl va 9 1 (gstrs all) :: .sl vg 33 1 (gus gens) :: rgX br bl b lv vc (cn : Int) ch g1 x1) [4, 5, 0, 1, 2, 3] (by decide) rfl ?_
      rcases ho1 with ⟨rfl | rfl, hst1⟩ | ⟨rfl | rfl, hst1⟩
      · refine go (k := ?_)
        refine XL.q (.ldRd (j := k * 5 + 1) rfl rfl rfl (hrl _) (by omega) d1) rfl ?_
        refine go (k := ?_)
        refine XL.make (.bslice rfl rfl rfl rfl rfl rfl) rfl fun _ _ hb => ?_
        obtain ⟨bs, rfl, rfl⟩ := hb
        refine go (k := ?_)
        refine XL.app (m := 1) (news := [str a.s]) (L' := fun v'' => _ :: .sl v'' 9 1 (gstrs all ++ [str a.s]) :: _) rfl rfl rfl rfl rfl rfl (by decide) (.tail _ (.head _)) (.blk (.head _) rfl (Nat.le_refl _) rfl) rfl (by simp only [gstrs_len, List.length_singleton]; omega) (by simp only [gstrs_len, List.length_singleton]; omega) (fun _ => .there .here) rfl fun v3 => ?_
        refine go (k := ?_)
        exact XE.mid ⟨k + 1, all ++ [a.s], gens, sure, sl, op, g1, x1, v3, vg⟩ [1, 2, 3, 4, 5, 6] ⟨⟨hkl, by simp only [List.length_append, List.length_singleton]; omega, by simp only; omega, by simp only; omega, hst1⟩, by simp only; omega⟩ ⟨rfl, rfl, rfl, rfl, rfl, rfl, rfl, rfl, rfl, rfl, trivial⟩ rfl (by simp [X.pick, gstrs])
      · refine go (k := ?_)
        refine XL.q (.ldRd (j := k * 5 + 1) rfl rfl rfl (hrl _) (by omega) d1) rfl ?_
        refine go (k := ?_)
        refine XL.make (.bslice rfl rfl rfl rfl rfl rfl) rfl fun _ _ hb => ?_
        obtain ⟨bs, rfl, rfl⟩ := hb
        refine go (k := ?_)
        refine XL.app (m := 1) (news := [str a.s]) (L' := fun v'' => _ :: .sl v'' 9 1 (gstrs all ++ [str a.s]) :: _) rfl rfl rfl rfl rfl rfl (by decide) (.tail _ (.head _)) (.blk (.head _) rfl (Nat.le_refl _) rfl) rfl (by simp only [gstrs_len, List.length_singleton]; omega) (by simp only [gstrs_len, List.length_singleton]; omega) (fun _ => .there .here) rfl fun v3 => ?_
        refine go (k := ?_)
        exact XE.mid ⟨k + 1, all ++ [a.s], gens, sure, sl, op, g1, x1, v3, vg⟩ [1, 2, 3, 4, 5, 6] ⟨⟨hkl, by simp only [List.length_append, List.length_singleton]; omega, by simp only; omega, by simp only; omega, hst1⟩, by simp only; omega⟩ ⟨rfl, rfl, rfl, rfl, rfl, rfl, rfl, rfl, rfl, rfl, trivial⟩ rfl (by simp [X.pick, gstrs])
      · refine go (k := ?_)
        exact XE.mid ⟨k + 1, all, gens, sure, sl, op, g1, x1, va, vg⟩ [0, 1, 2, 3, 4, 5] ⟨⟨hkl, by simp only; omega, by simp only; omega, by simp only; omega, hst1⟩, by simp only; omega⟩ ⟨rfl, rfl, rfl, rfl, rfl, rfl, rfl, rfl, rfl, rfl, trivial⟩ rfl rfl
      · refine go (k := ?_)
        exact XE.mid ⟨k + 1, all, gens, sure, sl, op, g1, x1, va, vg⟩ [0, 1, 2, 3, 4, 5] ⟨⟨hkl, by simp only; omega, by simp only; omega, by simp only; omega, hst1⟩, by simp only; omega⟩ ⟨rfl, rfl, rfl, rfl, rfl, rfl, rfl, rfl, rfl, rfl, trivial⟩ rfl rfl
    · refine go (k := ?_)
      refine XL.q (.ldRd (j := k * 5) rfl rfl rfl (hrl _) (by omega) d0) rfl ?_
      refine go (k := ?_)
      refine XL.q (.ldRd (j := k * 5 + 1) rfl rfl rfl (hrl _) (by omega) d1) rfl ?_
      refine go (k := ?_)
      refine XL.call [2, 3, 4, 5] [0, 1] rfl rfl rfl rfl rfl (fun _ w _ ho => rappend_run br bl b lv vc (cn : Int) ch _ _ _ _ a.s e1 256 w hr1.out (hli (by decide)) (by decide) (by decide) (by omega) hreg (by omega) hcw ho) fun _ _ => ?_
      refine XL.pk (M := .sl va 9 1 (gstrs all) :: .sl vg 33 1 (gus gens) :: rgX br bl b lv vc (cn : Int) ch g1 x1) [4, 5, 0, 1, 2, 3] (by decide) rfl ?_
      rcases ho1 with ⟨rfl | rfl, hst1⟩ | ⟨rfl | rfl, hst1⟩
      · refine go (k := ?_)
        refine XL.q (.ldRd (j := k * 5 + 1) rfl rfl rfl (hrl _) (by omega) d1) rfl ?_
        refine go (k := ?_)
        refine XL.make (.bslice rfl rfl rfl rfl rfl rfl) rfl fun _ _ hb => ?_
        obtain ⟨bs, rfl, rfl⟩ := hb
        refine go (k := ?_)
        refine XL.app (m := 1) (news := [str a.s]) (L' := fun v'' => _ :: .sl v'' 9 1 (gstrs all ++ [str a.s]) :: _) rfl rfl rfl rfl rfl rfl (by decide) (.tail _ (.head _)) (.blk (.head _) rfl (Nat.le_refl _) rfl) rfl (by simp only [gstrs_len, List.length_singleton]; omega) (by simp only [gstrs_len, List.length_singleton]; omega) (fun _ => .there .here) rfl fun v3 => ?_
        refine go (k := ?_)
        exact XE.mid ⟨k + 1, all ++ [a.s], gens, sure, sl, op, g1, x1, v3, vg⟩ [1, 2, 3, 4, 5, 6] ⟨⟨hkl, by simp only [List.length_append, List.length_singleton]; omega, by simp only; omega, by simp only; omega, hst1⟩, by simp only; omega⟩ ⟨rfl, rfl, rfl, rfl, rfl, rfl, rfl, rfl, rfl, rfl, trivial⟩ rfl (by simp [X.pick, gstrs])
      · refine go (k := ?_)
        refine XL.q (.ldRd (j := k * 5 + 1) rfl rfl rfl (hrl _) (by omega) d1) rfl ?_
        refine go (k := ?_)
        refine XL.make (.bslice rfl rfl rfl rfl rfl rfl) rfl fun _ _ hb => ?_
        obtain ⟨bs, rfl, rfl⟩ := hb
        refine go (k := ?_)
        refine XL.app (m := 1) (news := [str a.s]) (L' := fun v'' => _ :: .sl v'' 9 1 (gstrs all ++ [str a.s]) :: _) rfl rfl rfl rfl rfl rfl (by decide) (.tail _ (.head _)) (.blk (.head _) rfl (Nat.le_refl _) rfl) rfl (by simp only [gstrs_len, List.length_singleton]; omega) (by simp only [gstrs_len, List.length_singleton]; omega) (fun _ => .there .here) rfl fun v3 => ?_
        refine go (k := ?_)
        exact XE.mid ⟨k + 1, all ++ [a.s], gens, sure, sl, op, g1, x1, v3, vg⟩ [1, 2, 3, 4, 5, 6] ⟨⟨hkl, by simp only [List.length_append, List.length_singleton]; omega, by simp only; omega, by simp only; omega, hst1⟩, by simp only; omega⟩ ⟨rfl, rfl, rfl, rfl, rfl, rfl, rfl, rfl, rfl, rfl, trivial⟩ rfl (by simp [X.pick, gstrs])
      · refine go (k := ?_)
        exact XE.mid ⟨k + 1, all, gens, sure, sl, op, g1, x1, va, vg⟩ [0, 1, 2, 3, 4, 5] ⟨⟨hkl, by simp only; omega, by simp only; omega, by simp only; omega, hst1⟩, by simp only; omega⟩ ⟨rfl, rfl, rfl, rfl, rfl, rfl, rfl, rfl, rfl, rfl, trivial⟩ rfl rfl
      · refine go (k := ?_)
        exact XE.mid ⟨k + 1, all, gens, sure, sl, op, g1, x1, va, vg⟩ [0, 1, 2, 3, 4, 5] ⟨⟨hkl, by simp only; omega, by simp only; omega, by simp only; omega, hst1⟩, by simp only; omega⟩ ⟨rfl, rfl, rfl, rfl, rfl, rfl, rfl, rfl, rfl, rfl, trivial⟩ rfl rfl
    · refine go (k := ?_)
      refine XL.q (.ldRd (j := k * 5) rfl rfl rfl (hrl _) (by omega) d0) rfl ?_
      refine go (k := ?_)
      refine XL.q (.ldRd (j := k * 5 + 2) rfl rfl rfl (hrl _) (by omega) d2) rfl ?_
      by_cases hg0 : gn = 0
      · subst hg0
        refine go (k := ?_)
        exact XE.mid ⟨k + 1, all, gens, sure, sl, op, g, x, va, vg⟩ [0, 1, 2, 3, 4, 5] ⟨⟨hkl, by simp only; omega, by simp only; omega, by simp only; omega, hst⟩, by simp only; omega⟩ ⟨rfl, rfl, rfl, rfl, rfl, rfl, rfl, rfl, rfl, rfl, trivial⟩ rfl rfl
      obtain ⟨e3, g3, x3, hr3, ha3, ho3⟩ := torn_seal (cut := (cn : Int)) (ch := ch) hst gn hg0 hgn2
      replace hr3 := Hold.mk hr3
      have hg0' : ¬ (gn : Int) = 0 := by omega
      refine go (k := ?_)
      refine XL.q (.ldRd (j := k * 5 + 2) rfl rfl rfl (hrl _) (by omega) d2) rfl ?_
      refine go (k := ?_)
      refine XL.call [2, 3, 4, 5] [0, 1] rfl rfl rfl rfl rfl (fun _ w _ ho => rseal_run br bl b lv vc (cn : Int) ch _ _ _ _ e3 gn 256 w hr3.out (hli (by decide)) (by decide) (by decide) hgn2 (by omega) hcw ho) fun _ _ => ?_
      refine XL.pk (M := .sl va 9 1 (gstrs all) :: .sl vg 33 1 (gus gens) :: rgX br bl b lv vc (cn : Int) ch g3 x3) [4, 5, 0, 1, 2, 3] (by decide) rfl ?_
      rcases ho3 with ⟨rfl, hst1⟩ | ⟨rfl, hst1⟩ | ⟨rfl, hst1⟩
      · refine XL.slv (.head _) fun a3 q3 m3 hv3 hq3 _ => ?_
        subst hv3
        obtain rfl : q3 = all.length := by simpa using hq3
        refine go (k := ?_)
        refine XL.q (.ldRd (j := k * 5 + 2) rfl rfl rfl (hrl _) (by omega) d2) rfl ?_
        refine go (k := ?_)
        refine XE.addNil 33 1 ?_
        exact XE.mid ⟨k + 1, all, [], all.length, gn, false, g3, x3, .slice a3 all.length m3, .slice none 0 0⟩ [1, 0, 3, 4, 5, 6] ⟨⟨hkl, by simp only; omega, by simp only [List.length_nil]; omega, by simp only; omega, hst1⟩, by simp only; omega⟩ ⟨rfl, rfl, rfl, rfl, rfl, rfl, rfl, rfl, rfl, rfl, trivial⟩ rfl rfl
      · refine go (k := ?_)
        refine XL.q (.ldRd (j := k * 5 + 2) rfl rfl rfl (hrl _) (by omega) d2) rfl ?_
        refine go (k := ?_)
        refine XL.make (.bslice rfl rfl rfl rfl rfl rfl) rfl fun _ _ hb => ?_
        obtain ⟨bs, rfl, rfl⟩ := hb
        refine go (k := ?_)
        refine XL.app (m := 1) (news := [.int .u32 gn]) (L' := fun v'' => _ :: _ :: .sl v'' 33 1 (gus gens ++ [.int .u32 gn]) :: _) rfl rfl rfl rfl rfl rfl (by decide) (.tail _ (.tail _ (.head _))) (.blk (.head _) rfl (Nat.le_refl _) rfl) rfl (by simp only [gus_len, List.length_singleton]; omega) (by simp only [gus_len, List.length_singleton]; omega) (fun _ => .there (.there .here)) rfl fun v3 => ?_
        refine go (k := ?_)
        exact XE.mid ⟨k + 1, all, gens ++ [gn], sure, sl, true, g3, x3, va, v3⟩ [1, 2, 3, 4, 5, 6] ⟨⟨hkl, by simp only; omega, by simp only [List.length_append, List.length_singleton]; omega, by simp only; omega, hst1⟩, by simp only; omega⟩ ⟨rfl, rfl, rfl, rfl, rfl, rfl, rfl, rfl, rfl, rfl, trivial⟩ rfl (by simp [X.pick, gus])
      · refine go (k := ?_)
        exact XE.mid ⟨k + 1, all, gens, sure, sl, op, g3, x3, va, vg⟩ [0, 1, 2, 3, 4, 5] ⟨⟨hkl, by simp only; omega, by simp only; omega, by simp only; omega, hst1⟩, by simp only; omega⟩ ⟨rfl, rfl, rfl, rfl, rfl, rfl, rfl, rfl, rfl, rfl, trivial⟩ rfl rfl
  · obtain rfl : k = l.length := by omega
    have hfin := hst.blow (ch := ch)
    have hli : LI 256 4000 x := hst.li (by omega)
    have hxo := hli.ok
    have hxl := hli.len
    clear hst
    obtain ⟨Db, hDb⟩ : ∃ D, D = blown ch x.down x.ds := ⟨_, rfl⟩
    rw [← hDb] at hfin
    have hDbh := Hold.mk hDb
    clear hDb
    have hbo := hfin.oks
    have hbl := hfin.len
    obtain ⟨r, hr1, hr2, hr3, hr4⟩ := hfin.tells
    clear hfin
    obtain ⟨T, hT⟩ : ∃ T, T = rtell (rblks Db 64 64) := ⟨_, rfl⟩
    rw [← hT] at hr3 hr4
    have hrd : ∀ (bm vm : _) (w' : World), Owns w' (lnX bm b lv vm (-1) [] ⟨0, false, Db⟩) → Fx Tryd.prog 17 [ptr bm, iv (64 : Nat), iv (64 : Nat)] w' (Ret w' [] (fun v : Value => .tuple #[.int .u32 T.gen, v, iv 0]) (fun v => [.sl v 9 1 (gstrs T.groups)]) (fun _ => True)) := fun bm vm w' k => by
      have := rread_ok bm b lv vm (-1) [] ⟨0, false, Db⟩ 64 64 w' hbo (by simp only; omega) (by simp only; omega) (by simp only; rw [hbl]; decide) rfl k
      simp only at this
      rw [← hT] at this
      exact this
    clear hT
    obtain ⟨gen, gs, gr, goi⟩ := T
    simp only at hr3 hr4 hrd
    subst hr3
    have hgl2 : (all.take r).length = r := by rw [List.length_take]; omega
    refine go (k := ?_)
    refine XL.call [3, 4, 5] [0, 1] rfl rfl rfl rfl rfl (fun _ w _ ho => blow_ok bl b lv vc (cn : Int) ch x.acts x.down x.ds w hxo (by omega) (by omega) hcw ho) fun _ _ => ?_
    refine XL.pk (M := devE b lv Db :: .sl va 9 1 (gstrs all) :: .sl vg 33 1 (gus gens) :: []) [2, 3, 4] (by decide) (by rw [hDbh.out]; rfl) ?_
    refine go (k := ?_)
    refine XL.call [0] [1, 2] rfl rfl rfl rfl rfl (fun _ w1 hs ho => lnew_ok b lv Db (-1) _ [] w1 hbo (by omega) (by decide) (fun w' hk' => rdNil w') ho) fun x _ => ?_
    obtain ⟨bm, vm⟩ := x
    refine XL.nm (M := lnX bm b lv vm (-1) [] ⟨0, false, Db⟩ ++ [.sl va 9 1 (gstrs all), .sl vg 33 1 (gus gens)]) ?_ rfl
    refine go (k := ?_)
    refine XL.call [] [3, 4] rfl rfl rfl rfl rfl (fun _ w hs _ => hrd bm vm w (hs.own.pick (is := [0, 1, 2]) (by decide))) fun v1 _ => ?_
    refine XL.nm (M := [.sl v1 9 1 (gstrs (all.take r)), .sl va 9 1 (gstrs all), .sl vg 33 1 (gus gens)]) ?_ rfl
    refine XL.slv (.head _) fun a1 q1 m1 hv1 hq1 _ => ?_
    subst hv1
    obtain rfl : q1 = r := by
      have : q1 = (all.take r).length := by simpa using hq1
      omega
    refine XL.slv (.tail _ (.head _)) fun a2 q2 m2 hv2 hq2 _ => ?_
    subst hv2
    obtain rfl : q2 = all.length := by simpa using hq2
    refine XL.slv (.tail _ (.tail _ (.head _))) fun a3 q3 m3 hv3 hq3 _ => ?_
    subst hv3
    obtain rfl : q3 = gens.length := by simpa using hq3
    refine go (k := ?_)
    refine XC.loop (α := Nat) (fun j => [(21, .slice a1 q1 m1), (12, .slice a2 all.length m2), (13, .slice a3 gens.length m3), (15, .int .u32 sl), (16, .bool op), (20, .int .u32 gen), (22, iv j)]) (fun _ => [.sl (.slice a1 q1 m1) 9 1 (gstrs (all.take q1)), .sl (.slice a2 all.length m2) 9 1 (gstrs all), .sl (.slice a3 gens.length m3) 33 1 (gus gens)]) (fun j => j ≤ q1) (fun j => q1 - j) 0 [0, 1, 2] (Nat.zero_le _) ⟨rfl, rfl, rfl, rfl, rfl, rfl, rfl, trivial⟩ rfl rfl ?_
    intro (j : Nat) (hj : j ≤ q1)
    have rd1 : ∀ L : Heap, (Ent.sl (.slice a1 q1 m1) 9 1 (gstrs (all.take q1))) ∈ L → Rd w (ids []) L (.slice a1 q1 m1) 1 q1 (gstrs (all.take q1)) := fun L hm => .sl hm (by decide) (by rw [gstrs_len, hgl2]; omega)
    have rd2 : ∀ L : Heap, (Ent.sl (.slice a2 all.length m2) 9 1 (gstrs all)) ∈ L → Rd w (ids []) L (.slice a2 all.length m2) 1 all.length (gstrs all) := fun L hm => .sl hm (by decide) (by rw [gstrs_len]; omega)
    by_cases hj2 : j < q1
    · obtain ⟨s, hss⟩ : ∃ s, all[j]? = some s := ⟨_, List.getElem?_eq_getElem (by omega)⟩
      have e1 : (gstrs (all.take q1))[j * 1]? = some (str s) := by
        rw [Nat.mul_one, gstrs, List.getElem?_map, List.getElem?_take, if_pos hj2, hss]; rfl
      have e2 : (gstrs all)[j * 1]? = some (str s) := by rw [Nat.mul_one, gstrs, List.getElem?_map, hss]; rfl
      refine XC.rdv (rd1 _ (.head _)) fun ap mp hvp _ _ hap => ?_
      cases hvp
      obtain ⟨bp, op1, rfl⟩ : ∃ b off, a1 = some ⟨b, off, none⟩ := hap.resolve_left (by omega)
      refine XC.rdv (rd2 _ (.tail _ (.head _))) fun aq mq hvq _ _ haq => ?_
      cases hvq
      obtain ⟨bq, oq1, rfl⟩ : ∃ b off, a2 = some ⟨b, off, none⟩ := haq.resolve_left (by omega)
      refine go (k := ?_)
      refine XD.q (.ldRd (j := j * 1) rfl rfl rfl (rd1 _ (.head _)) (by omega) e1) rfl ?_
      refine go (k := ?_)
      refine XD.q (.ldRd (j := j * 1) rfl rfl rfl (rd2 _ (.tail _ (.head _))) (by omega) e2) rfl ?_
      refine go (k := ?_)
      exact XE.mid (j + 1) [0, 1, 2] ⟨by omega, by omega⟩ ⟨rfl, rfl, rfl, rfl, rfl, rfl, rfl, trivial⟩ rfl rfl
    · clear rd1 rd2
      cases op with
      | false =>
        rw [if_neg (by decide)] at hr4
        subst hr4
        refine go (k := ?_)
        refine XL.q (.call rfl rfl fun _ w _ => awake13_ok w) rfl ?_
        refine go (k := ?_)
        exact XE.ret1 () [] rfl rfl trivial rfl rfl rfl
      | true =>
        rw [if_pos rfl] at hr4
        by_cases h0 : gen = 0
        · have h0i : (gen : Int) = 0 := by omega
          refine go (k := ?_)
          refine XC.loop (α := Nat × Bool) (fun y => [(13, .slice a3 gens.length m3), (20, .int .u32 gen), (23, .bool y.2), (24, iv y.1)]) (fun _ => [.sl (.slice a3 gens.length m3) 33 1 (gus gens)]) (fun y => y.1 ≤ gens.length ∧ (y.2 = true ∨ (y.2 = false ∧ ∃ j : Nat, y.1 ≤ j ∧ gens[j]? = some gen))) (fun y => gens.length - y.1) (0, true) [2] ⟨Nat.zero_le _, .inl rfl⟩ ⟨rfl, rfl, gv rfl (rfl), rfl, trivial⟩ rfl rfl ?_
          rintro ⟨q, is⟩ ⟨hq, his⟩
          simp only at hq his ⊢
          by_cases hq2 : q < gens.length
          · rcases his with rfl | ⟨rfl, jj, hj1, hj2⟩
            · refine go (k := ?_)
              exact XE.mid (q + 1, true) [0] ⟨⟨by simp only; omega, .inl rfl⟩, by simp only; omega⟩ ⟨rfl, rfl, rfl, rfl, trivial⟩ rfl rfl
            · obtain ⟨y, hy⟩ : ∃ y, gens[q]? = some y := ⟨_, List.getElem?_eq_getElem hq2⟩
              have e3 : (gus gens)[q * 1]? = some (.int .u32 y) := by rw [Nat.mul_one, gus, List.getElem?_map, hy]; rfl
              have rd3 : ∀ L : Heap, (Ent.sl (.slice a3 gens.length m3) 33 1 (gus gens)) ∈ L → Rd w (ids []) L (.slice a3 gens.length m3) 1 gens.length (gus gens) := fun L hm => .sl hm (by decide) (by rw [gus_len]; omega)
              refine XC.rdv (rd3 _ (.head _)) fun ap mp hvp _ _ hap => ?_
              cases hvp
              obtain ⟨bp, op1, rfl⟩ : ∃ b off, a3 = some ⟨b, off, none⟩ := hap.resolve_left (by omega)
              by_cases hyg : gen = y
              · subst hyg
                refine go (k := ?_)
                refine XL.q (.ldRd (j := q * 1) rfl rfl rfl (rd3 _ (.head _)) (by omega) e3) rfl ?_
                refine go (k := ?_)
                exact XE.mid (q + 1, true) [0] ⟨⟨by simp only; omega, .inl rfl⟩, by simp only; omega⟩ ⟨rfl, rfl, gv rfl (by simp), rfl, trivial⟩ rfl rfl
              · refine go (k := ?_)
                refine XL.q (.ldRd (j := q * 1) rfl rfl rfl (rd3 _ (.head _)) (by omega) e3) rfl ?_
                refine go (k := ?_)
                have hqj : q ≠ jj := fun e => by rw [← e, hy] at hj2; exact hyg (Option.some.inj hj2).symm
                exact XE.mid (q + 1, false) [0] ⟨⟨by simp only; omega, .inr ⟨rfl, jj, by omega, hj2⟩⟩, by simp only; omega⟩ ⟨rfl, rfl, gv rfl (by simp; omega), rfl, trivial⟩ rfl rfl
          · obtain rfl : is = true := by
              rcases his with h | ⟨_, jj, hj1, hj2⟩
              · exact h
              · have := (List.getElem?_eq_some_iff.1 hj2).1; omega
            refine go (k := ?_)
            refine XL.q (.call rfl rfl fun _ w _ => awake13_ok w) rfl ?_
            refine go (k := ?_)
            exact XE.ret1 () [] rfl rfl trivial rfl rfl rfl
        by_cases h1 : gen = sl
        · subst h1
          refine go (k := ?_)
          refine XC.loop (α := Nat × Bool) (fun y => [(13, .slice a3 gens.length m3), (20, .int .u32 gen), (23, .bool y.2), (24, iv y.1)]) (fun _ => [.sl (.slice a3 gens.length m3) 33 1 (gus gens)]) (fun y => y.1 ≤ gens.length ∧ (y.2 = true ∨ (y.2 = false ∧ ∃ j : Nat, y.1 ≤ j ∧ gens[j]? = some gen))) (fun y => gens.length - y.1) (0, true) [2] ⟨Nat.zero_le _, .inl rfl⟩ ⟨rfl, rfl, gv rfl (by simp), rfl, trivial⟩ rfl rfl ?_
          rintro ⟨q, is⟩ ⟨hq, his⟩
          simp only at hq his ⊢
          by_cases hq2 : q < gens.length
          · rcases his with rfl | ⟨rfl, jj, hj1, hj2⟩
            · refine go (k := ?_)
              exact XE.mid (q + 1, true) [0] ⟨⟨by simp only; omega, .inl rfl⟩, by simp only; omega⟩ ⟨rfl, rfl, rfl, rfl, trivial⟩ rfl rfl
            · obtain ⟨y, hy⟩ : ∃ y, gens[q]? = some y := ⟨_, List.getElem?_eq_getElem hq2⟩
              have e3 : (gus gens)[q * 1]? = some (.int .u32 y) := by rw [Nat.mul_one, gus, List.getElem?_map, hy]; rfl
              have rd3 : ∀ L : Heap, (Ent.sl (.slice a3 gens.length m3) 33 1 (gus gens)) ∈ L → Rd w (ids []) L (.slice a3 gens.length m3) 1 gens.length (gus gens) := fun L hm => .sl hm (by decide) (by rw [gus_len]; omega)
              refine XC.rdv (rd3 _ (.head _)) fun ap mp hvp _ _ hap => ?_
              cases hvp
              obtain ⟨bp, op1, rfl⟩ : ∃ b off, a3 = some ⟨b, off, none⟩ := hap.resolve_left (by omega)
              by_cases hyg : gen = y
              · subst hyg
                refine go (k := ?_)
                refine XL.q (.ldRd (j := q * 1) rfl rfl rfl (rd3 _ (.head _)) (by omega) e3) rfl ?_
                refine go (k := ?_)
                exact XE.mid (q + 1, true) [0] ⟨⟨by simp only; omega, .inl rfl⟩, by simp only; omega⟩ ⟨rfl, rfl, gv rfl (by simp), rfl, trivial⟩ rfl rfl
              · refine go (k := ?_)
                refine XL.q (.ldRd (j := q * 1) rfl rfl rfl (rd3 _ (.head _)) (by omega) e3) rfl ?_
                refine go (k := ?_)
                have hqj : q ≠ jj := fun e => by rw [← e, hy] at hj2; exact hyg (Option.some.inj hj2).symm
                exact XE.mid (q + 1, false) [0] ⟨⟨by simp only; omega, .inr ⟨rfl, jj, by omega, hj2⟩⟩, by simp only; omega⟩ ⟨rfl, rfl, gv rfl (by simp; omega), rfl, trivial⟩ rfl rfl
          · obtain rfl : is = true := by
              rcases his with h | ⟨_, jj, hj1, hj2⟩
              · exact h
              · have := (List.getElem?_eq_some_iff.1 hj2).1; omega
            refine go (k := ?_)
            refine XL.q (.call rfl rfl fun _ w _ => awake13_ok w) rfl ?_
            refine go (k := ?_)
            exact XE.ret1 () [] rfl rfl trivial rfl rfl rfl
        have h2 : gen ∈ gens := (hr4.resolve_left h0).resolve_left h1
        obtain ⟨j3, hj3⟩ := List.getElem?_of_mem h2
        refine go (k := ?_)
        refine XC.loop (α := Nat × Bool) (fun y => [(13, .slice a3 gens.length m3), (20, .int .u32 gen), (23, .bool y.2), (24, iv y.1)]) (fun _ => [.sl (.slice a3 gens.length m3) 33 1 (gus gens)]) (fun y => y.1 ≤ gens.length ∧ (y.2 = true ∨ (y.2 = false ∧ ∃ j : Nat, y.1 ≤ j ∧ gens[j]? = some gen))) (fun y => gens.length - y.1) (0, false) [2] ⟨Nat.zero_le _, .inr ⟨rfl, j3, Nat.zero_le _, hj3⟩⟩ ⟨rfl, rfl, gv rfl (by simp; omega), rfl, trivial⟩ rfl rfl ?_
        rintro ⟨q, is⟩ ⟨hq, his⟩
        simp only at hq his ⊢
        by_cases hq2 : q < gens.length
        · rcases his with rfl | ⟨rfl, jj, hj1, hj2⟩
          · refine go (k := ?_)
            exact XE.mid (q + 1, true) [0] ⟨⟨by simp only; omega, .inl rfl⟩, by simp only; omega⟩ ⟨rfl, rfl, rfl, rfl, trivial⟩ rfl rfl
          · obtain ⟨y, hy⟩ : ∃ y, gens[q]? = some y := ⟨_, List.getElem?_eq_getElem hq2⟩
            have e3 : (gus gens)[q * 1]? = some (.int .u32 y) := by rw [Nat.mul_one, gus, List.getElem?_map, hy]; rfl
            have rd3 : ∀ L : Heap, (Ent.sl (.slice a3 gens.length m3) 33 1 (gus gens)) ∈ L → Rd w (ids []) L (.slice a3 gens.length m3) 1 gens.length (gus gens) := fun L hm => .sl hm (by decide) (by rw [gus_len]; omega)
            refine XC.rdv (rd3 _ (.head _)) fun ap mp hvp _ _ hap => ?_
            cases hvp
            obtain ⟨bp, op1, rfl⟩ : ∃ b off, a3 = some ⟨b, off, none⟩ := hap.resolve_left (by omega)
            by_cases hyg : gen = y
            · subst hyg
              refine go (k := ?_)
              refine XL.q (.ldRd (j := q * 1) rfl rfl rfl (rd3 _ (.head _)) (by omega) e3) rfl ?_
              refine go (k := ?_)
              exact XE.mid (q + 1, true) [0] ⟨⟨by simp only; omega, .inl rfl⟩, by simp only; omega⟩ ⟨rfl, rfl, gv rfl (by simp), rfl, trivial⟩ rfl rfl
            · refine go (k := ?_)
              refine XL.q (.ldRd (j := q * 1) rfl rfl rfl (rd3 _ (.head _)) (by omega) e3) rfl ?_
              refine go (k := ?_)
              have hqj : q ≠ jj := fun e => by rw [← e, hy] at hj2; exact hyg (Option.some.inj hj2).symm
              exact XE.mid (q + 1, false) [0] ⟨⟨by simp only; omega, .inr ⟨rfl, jj, by omega, hj2⟩⟩, by simp only; omega⟩ ⟨rfl, rfl, gv rfl (by simp; omega), rfl, trivial⟩ rfl rfl
        · obtain rfl : is = true := by
            rcases his with h | ⟨_, jj, hj1, hj2⟩
            · exact h
            · have := (List.getElem?_eq_some_iff.1 hj2).1; omega
          refine go (k := ?_)
          refine XL.q (.call rfl rfl fun _ w _ => awake13_ok w) rfl ?_
          refine go (k := ?_)
          exact XE.ret1 () [] rfl rfl trivial rfl rfl rfl
end Go.X
