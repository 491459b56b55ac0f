/- The reference of package net (revertref29): put. -/
import Derived.Test.YtoeejaikmhedoaaNetL
namespace Go.X
open Go Go.Proofs
theorem rpos_step {f t : Nat} {L : List Lt} {i : Nat} {x : Lt} (h : L[i]? = some x) (b : Nat) : rpos f t (L.drop i) b = if x.1 = f ∧ x.2.1 = t then (if b = 0 then 0 else rpos f t (L.drop (i + 1)) (b - 1) + 1) else rpos f t (L.drop (i + 1)) b + 1 := by
  have hlt := (List.getElem?_eq_some_iff.1 h).1
  rw [List.drop_eq_getElem_cons hlt, (List.getElem?_eq_some_iff.1 h).2]
  conv => lhs; unfold rpos
def rput (f t : Nat) (s : Tx) (x : Nat × List Lt) (b : Nat) : Nat × List Lt := if 64 ≤ (wof x.2 f t).length then (x.1 + 1, x.2) else (x.1, rins x.2 (rpos f t x.2 b) (f, t, s))
set_option maxHeartbeats 4000000 in
theorem rput_ok (br f t : Nat) (n : Int) (gone : Nat) (rv : Value) (L : List Lt) (s : Tx) (b0 : Nat) (w : World) (hl : L.length ≤ 10000) (hb0 : b0 ≤ 100000) (hg : gone ≤ 2000000000) (ho : Owns w (rnG br n gone rv L)) :
    Fx Try.prog 44 [ptr br, .agg #[iv f, iv t, str s], iv b0] w (Ret w (rnG br n gone rv L) (fun _ : Value => .tuple #[]) (fun rv' => rnG br n (rput f t s (gone, L) b0).1 rv' (rput f t s (gone, L) b0).2) (fun _ => True)) := by
  refine Fx.of Try.func44 rfl (by kernel_rfl) Try.ntmps44 rfl ho ?_
  refine go (k := ?_)
  refine XL.box (zs := [iv f, iv t, str s]) rfl rfl rfl fun b4 => ?_
  have e0 : [iv f, iv t, str s][0 + 0]? = some (iv f) := rfl
  have e1 : [iv f, iv t, str s][0 + 1]? = some (iv t) := rfl
  refine go (k := ?_)
  refine XL.q (.call rfl rfl fun _ w hs => rwaits_ok br n gone rv L f t w (by omega) (hs.own.pick (is := [1, 2]) (by decide))) rfl ?_
  rw [rcnt_nat]
  by_cases hfull : 64 ≤ (wof L f t).length
  · have e : rput f t s (gone, L) b0 = (gone + 1, L) := by unfold rput; rw [if_pos hfull]
    rw [e]
    have g1 : [iv n, iv gone, rv][0 + 1]? = some (iv gone) := rfl
    have sp : SplL [iv n, iv gone, rv] (0 + 1) [iv ((gone : Int) + 1)] [iv n, iv ((gone + 1 : Nat) : Int), rv] := ⟨by simp, by simp⟩
    refine go (k := ?_)
    exact XE.ret0 rv [1, 2] rfl trivial rfl rfl rfl
  have e : rput f t s (gone, L) b0 = (gone, rins L (rpos f t L b0) (f, t, s)) := by unfold rput; rw [if_neg hfull]
  rw [e]
  have hrow : ∀ H : Heap, Ent.sl rv 76 3 (ltcs L) ∈ H → Rd w (ids (rnG br n gone rv L)) H rv 3 L.length (ltcs L) := fun H hm => .sl hm (by decide) (ltcs_len L).symm
  refine XL.rdv (hrow _ (.tail _ (.tail _ (.head _)))) fun ao m hva _ hlm haa => ?_
  subst hva
  have hrt : ∀ (H : Heap) (i : Nat), Ent.sl (.slice ao L.length m) 76 3 (ltcs L) ∈ H → i ≤ L.length → Rd w (ids (rnG br n gone (.slice ao L.length m) L)) H (tlV (.slice ao L.length m) i 3) 3 (L.length - i) (ltcs (L.drop i)) := fun H i hm hi => by
    have h := (hrow H hm).tl hi
    rw [ltcs_drop] at h; exact h
  have c2 : [iv n, iv gone, Value.slice ao L.length m][0 + 2]? = some (Value.slice ao L.length m) := rfl
  have hrd : Rd w (ids (rnG br n gone (.slice ao L.length m) L)) [.blk b4 [iv f, iv t, str s] 76, .blk br [iv n, iv gone, .slice ao L.length m] 46, .sl (.slice ao L.length m) 76 3 (ltcs L)] (.slice ao L.length m) 3 L.length (ltcs L) := hrow _ (.tail _ (.tail _ (.head _)))
  refine go (k := ?_)
  refine XC.loop (α := Nat × Nat) (fun x => [(0, ptr br), (2, iv x.2), (4, ptr b4), (6, iv x.1)]) (fun _ => [.blk b4 [iv f, iv t, str s] 76, .blk br [iv n, iv gone, .slice ao L.length m] 46, .sl (.slice ao L.length m) 76 3 (ltcs L)])
    (fun x => x.1 ≤ L.length ∧ x.2 ≤ 100000 ∧ rpos f t L b0 = x.1 + rpos f t (L.drop x.1) x.2) (fun x => L.length - x.1) (0, b0) [0, 1, 2] ⟨Nat.zero_le _, hb0, by rw [List.drop_zero, Nat.zero_add]⟩ ⟨rfl, rfl, rfl, rfl, trivial⟩ rfl rfl ?_
  rintro ⟨i, b⟩ ⟨hi, hb, hpos⟩
  simp only at hi hb hpos ⊢
  by_cases hil : i < L.length
  · obtain ⟨x, hx⟩ : ∃ x, L[i]? = some x := ⟨_, List.getElem?_eq_getElem hil⟩
    obtain ⟨b1, o1, rfl⟩ : ∃ b off, ao = some ⟨b, off, none⟩ := haa.resolve_left (by omega)
    obtain ⟨d1, d2, d3⟩ := ltcs_at hx
    rw [rpos_step hx] at hpos
    have hyn : decide ((0 : Int) < (b : Int)) = decide (0 < b) := decide_eq_decide.2 (by omega)
    by_cases hbz : 0 < b
    · have hyp : True := trivial
      have hyq : True := trivial
      by_cases h1 : x.1 = f
      · have hyr : decide ((x.1 : Int) = (f : Int)) = true := decide_eq_true (by omega)
        by_cases h2 : x.2.1 = t
        · rw [if_pos ⟨h1, h2⟩, if_neg (by omega)] at hpos
          have hsub : (b : Int) - 1 = ((b - 1 : Nat) : Int) := by omega
          refine go (k := ?_)
          first | refine XD.q (.ldRd (j := i * 3) rfl rfl rfl hrd (by omega) d1) rfl ?_ | refine XL.q (.ldRd (j := i * 3) rfl rfl rfl hrd (by omega) d1) rfl ?_ | refine XD.qY rfl rfl hyp (.ldRd (j := i * 3) rfl rfl rfl hrd (by omega) d1) rfl ?_ | refine XD.qY rfl rfl hyq (.ldRd (j := i * 3) rfl rfl rfl hrd (by omega) d1) rfl ?_ | refine XD.qY rfl rfl hyr (.ldRd (j := i * 3) rfl rfl rfl hrd (by omega) d1) rfl ?_
          refine go (k := ?_)
          first | refine XD.q (.ldRd (j := i * 3 + 1) rfl rfl rfl hrd (by omega) d2) rfl ?_ | refine XL.q (.ldRd (j := i * 3 + 1) rfl rfl rfl hrd (by omega) d2) rfl ?_ | refine XD.qY rfl rfl hyp (.ldRd (j := i * 3 + 1) rfl rfl rfl hrd (by omega) d2) rfl ?_ | refine XD.qY rfl rfl hyq (.ldRd (j := i * 3 + 1) rfl rfl rfl hrd (by omega) d2) rfl ?_ | refine XD.qY rfl rfl hyr (.ldRd (j := i * 3 + 1) rfl rfl rfl hrd (by omega) d2) rfl ?_
          refine go (k := ?_)
          exact XE.mid (i + 1, b - 1) [0, 1, 2] ⟨⟨by simp only; omega, by simp only; omega, by simp only; omega⟩, by simp only; omega⟩ ⟨rfl, gi rfl hsub, rfl, rfl, trivial⟩ rfl rfl
        · rw [if_neg (fun h => h2 h.2)] at hpos
          refine go (k := ?_)
          first | refine XD.q (.ldRd (j := i * 3) rfl rfl rfl hrd (by omega) d1) rfl ?_ | refine XL.q (.ldRd (j := i * 3) rfl rfl rfl hrd (by omega) d1) rfl ?_ | refine XD.qY rfl rfl hyp (.ldRd (j := i * 3) rfl rfl rfl hrd (by omega) d1) rfl ?_ | refine XD.qY rfl rfl hyq (.ldRd (j := i * 3) rfl rfl rfl hrd (by omega) d1) rfl ?_ | refine XD.qY rfl rfl hyr (.ldRd (j := i * 3) rfl rfl rfl hrd (by omega) d1) rfl ?_
          refine go (k := ?_)
          first | refine XD.q (.ldRd (j := i * 3 + 1) rfl rfl rfl hrd (by omega) d2) rfl ?_ | refine XL.q (.ldRd (j := i * 3 + 1) rfl rfl rfl hrd (by omega) d2) rfl ?_ | refine XD.qY rfl rfl hyp (.ldRd (j := i * 3 + 1) rfl rfl rfl hrd (by omega) d2) rfl ?_ | refine XD.qY rfl rfl hyq (.ldRd (j := i * 3 + 1) rfl rfl rfl hrd (by omega) d2) rfl ?_ | refine XD.qY rfl rfl hyr (.ldRd (j := i * 3 + 1) rfl rfl rfl hrd (by omega) d2) rfl ?_
          refine go (k := ?_)
          exact XE.mid (i + 1, b) [0, 1, 2] ⟨⟨by simp only; omega, by simp only; omega, by simp only; omega⟩, by simp only; omega⟩ ⟨rfl, rfl, rfl, rfl, trivial⟩ rfl rfl
      · have hyr : True := trivial
        rw [if_neg (fun h => h1 h.1)] at hpos
        refine go (k := ?_)
        first | refine XD.q (.ldRd (j := i * 3) rfl rfl rfl hrd (by omega) d1) rfl ?_ | refine XL.q (.ldRd (j := i * 3) rfl rfl rfl hrd (by omega) d1) rfl ?_ | refine XD.qY rfl rfl hyp (.ldRd (j := i * 3) rfl rfl rfl hrd (by omega) d1) rfl ?_ | refine XD.qY rfl rfl hyq (.ldRd (j := i * 3) rfl rfl rfl hrd (by omega) d1) rfl ?_ | refine XD.qY rfl rfl hyr (.ldRd (j := i * 3) rfl rfl rfl hrd (by omega) d1) rfl ?_
        refine go (k := ?_)
        exact XE.mid (i + 1, b) [0, 1, 2] ⟨⟨by simp only; omega, by simp only; omega, by simp only; omega⟩, by simp only; omega⟩ ⟨rfl, rfl, rfl, rfl, trivial⟩ rfl rfl
    · obtain rfl : b = 0 := by omega
      have hyp : decide ((0 : Int) < ((0 : Nat) : Int)) = false := by decide
      by_cases h1 : x.1 = f
      · have hyq : decide ((x.1 : Int) ≠ (f : Int)) = false := decide_eq_false (by omega)
        have hyr : decide ((x.1 : Int) = (f : Int)) = true := decide_eq_true (by omega)
        by_cases h2 : x.2.1 = t
        · rw [if_pos ⟨h1, h2⟩, if_pos rfl, Nat.add_zero] at hpos
          refine go (k := ?_)
          first | refine XD.q (.ldRd (j := i * 3) rfl rfl rfl hrd (by omega) d1) rfl ?_ | refine XL.q (.ldRd (j := i * 3) rfl rfl rfl hrd (by omega) d1) rfl ?_ | refine XD.qY rfl rfl hyp (.ldRd (j := i * 3) rfl rfl rfl hrd (by omega) d1) rfl ?_ | refine XD.qY rfl rfl hyq (.ldRd (j := i * 3) rfl rfl rfl hrd (by omega) d1) rfl ?_ | refine XD.qY rfl rfl hyr (.ldRd (j := i * 3) rfl rfl rfl hrd (by omega) d1) rfl ?_
          refine go (k := ?_)
          first | refine XD.q (.ldRd (j := i * 3 + 1) rfl rfl rfl hrd (by omega) d2) rfl ?_ | refine XL.q (.ldRd (j := i * 3 + 1) rfl rfl rfl hrd (by omega) d2) rfl ?_ | refine XD.qY rfl rfl hyp (.ldRd (j := i * 3 + 1) rfl rfl rfl hrd (by omega) d2) rfl ?_ | refine XD.qY rfl rfl hyq (.ldRd (j := i * 3 + 1) rfl rfl rfl hrd (by omega) d2) rfl ?_ | refine XD.qY rfl rfl hyr (.ldRd (j := i * 3 + 1) rfl rfl rfl hrd (by omega) d2) rfl ?_
          refine go (k := ?_)
          refine XL.make (.app (m := i) (news := ltcs (L.take (i))) rfl rfl rfl rfl rfl rfl (by decide) (by have h := hrd.hd (i := i) (by omega); rw [ltcs_take] at h; exact h) (ltcs_one _) (by rw [ltcs_len, List.length_take]; omega) (by rw [ltcs_len, List.length_take]; omega)) rfl fun v1 H hH => ?_
          subst hH
          refine go (k := ?_)
          refine XL.make (.bslice rfl rfl rfl rfl rfl rfl) rfl fun _ _ hq => ?_
          obtain ⟨bq, rfl, rfl⟩ := hq
          refine XL.app (m := 1) (news := ltcs [(f, t, s)]) (L' := fun v2 => _ :: .sl v2 76 3 (ltcs (L.take (i)) ++ ltcs [(f, t, s)]) :: _) rfl rfl rfl rfl rfl rfl (by decide) (.tail _ (.head _)) (.blk (.head _) rfl (Nat.le_refl _) rfl) rfl (by simp only [ltcs_len, List.length_take, List.length_singleton]; omega) (by simp only [ltcs_len, List.length_take, List.length_singleton]; omega) (fun v2 => .there .here) rfl fun v2 => ?_
          rw [← ltcs_app]
          refine go (k := ?_)
          refine XL.q (.cutT (i := i) rfl rfl rfl rfl (hrow _ (.tail _ (.tail _ (.tail _ (.tail _ (.head _)))))) (by omega)) rfl ?_
          refine go (k := ?_)
          refine XL.app (m := L.length - (i)) (news := ltcs (L.drop (i))) (L' := fun v3 => _ :: .sl v3 76 3 (ltcs (L.take (i) ++ [(f, t, s)]) ++ ltcs (L.drop (i))) :: _) rfl rfl rfl rfl rfl rfl (by decide) (.tail _ (.head _)) (hrt _ _ (.tail _ (.tail _ (.tail _ (.tail _ (.head _))))) (by omega)) (ltcs_one _) (by simp only [ltcs_len, List.length_append, List.length_take, List.length_drop, List.length_singleton]; omega) (by simp only [ltcs_len, List.length_append, List.length_take, List.length_drop, List.length_singleton]; omega) (fun v3 => .there .here) rfl fun v3 => ?_
          rw [← ltcs_app]
          refine XL.slv (.tail _ (.head _)) fun ao' q' m' hv' _ _ => ?_
          subst hv'
          refine go (k := ?_)
          refine XE.end0 (Value.slice ao' q' m') [3, 1] rfl trivial rfl rfl ?_
          show _ = rnG br n gone (Value.slice ao' q' m') (rins L (rpos f t L b0) (f, t, s))
          rw [hpos]; rfl
        · rw [if_neg (fun h => h2 h.2)] at hpos
          refine go (k := ?_)
          first | refine XD.q (.ldRd (j := i * 3) rfl rfl rfl hrd (by omega) d1) rfl ?_ | refine XL.q (.ldRd (j := i * 3) rfl rfl rfl hrd (by omega) d1) rfl ?_ | refine XD.qY rfl rfl hyp (.ldRd (j := i * 3) rfl rfl rfl hrd (by omega) d1) rfl ?_ | refine XD.qY rfl rfl hyq (.ldRd (j := i * 3) rfl rfl rfl hrd (by omega) d1) rfl ?_ | refine XD.qY rfl rfl hyr (.ldRd (j := i * 3) rfl rfl rfl hrd (by omega) d1) rfl ?_
          refine go (k := ?_)
          first | refine XD.q (.ldRd (j := i * 3 + 1) rfl rfl rfl hrd (by omega) d2) rfl ?_ | refine XL.q (.ldRd (j := i * 3 + 1) rfl rfl rfl hrd (by omega) d2) rfl ?_ | refine XD.qY rfl rfl hyp (.ldRd (j := i * 3 + 1) rfl rfl rfl hrd (by omega) d2) rfl ?_ | refine XD.qY rfl rfl hyq (.ldRd (j := i * 3 + 1) rfl rfl rfl hrd (by omega) d2) rfl ?_ | refine XD.qY rfl rfl hyr (.ldRd (j := i * 3 + 1) rfl rfl rfl hrd (by omega) d2) rfl ?_
          refine go (k := ?_)
          first | refine XD.q (.ldRd (j := i * 3) rfl rfl rfl hrd (by omega) d1) rfl ?_ | refine XL.q (.ldRd (j := i * 3) rfl rfl rfl hrd (by omega) d1) rfl ?_ | refine XD.qY rfl rfl hyp (.ldRd (j := i * 3) rfl rfl rfl hrd (by omega) d1) rfl ?_ | refine XD.qY rfl rfl hyq (.ldRd (j := i * 3) rfl rfl rfl hrd (by omega) d1) rfl ?_ | refine XD.qY rfl rfl hyr (.ldRd (j := i * 3) rfl rfl rfl hrd (by omega) d1) rfl ?_
          refine go (k := ?_)
          first | refine XD.q (.ldRd (j := i * 3 + 1) rfl rfl rfl hrd (by omega) d2) rfl ?_ | refine XL.q (.ldRd (j := i * 3 + 1) rfl rfl rfl hrd (by omega) d2) rfl ?_ | refine XD.qY rfl rfl hyp (.ldRd (j := i * 3 + 1) rfl rfl rfl hrd (by omega) d2) rfl ?_ | refine XD.qY rfl rfl hyq (.ldRd (j := i * 3 + 1) rfl rfl rfl hrd (by omega) d2) rfl ?_ | refine XD.qY rfl rfl hyr (.ldRd (j := i * 3 + 1) rfl rfl rfl hrd (by omega) d2) rfl ?_
          refine go (k := ?_)
          exact XE.mid (i + 1, 0) [0, 1, 2] ⟨⟨by simp only; omega, by simp only; omega, by simp only; omega⟩, by simp only; omega⟩ ⟨rfl, rfl, rfl, rfl, trivial⟩ rfl rfl
      · have hyq : True := trivial
        have hyr : True := trivial
        rw [if_neg (fun h => h1 h.1)] at hpos
        refine go (k := ?_)
        first | refine XD.q (.ldRd (j := i * 3) rfl rfl rfl hrd (by omega) d1) rfl ?_ | refine XL.q (.ldRd (j := i * 3) rfl rfl rfl hrd (by omega) d1) rfl ?_ | refine XD.qY rfl rfl hyp (.ldRd (j := i * 3) rfl rfl rfl hrd (by omega) d1) rfl ?_ | refine XD.qY rfl rfl hyq (.ldRd (j := i * 3) rfl rfl rfl hrd (by omega) d1) rfl ?_ | refine XD.qY rfl rfl hyr (.ldRd (j := i * 3) rfl rfl rfl hrd (by omega) d1) rfl ?_
        refine go (k := ?_)
        first | refine XD.q (.ldRd (j := i * 3) rfl rfl rfl hrd (by omega) d1) rfl ?_ | refine XL.q (.ldRd (j := i * 3) rfl rfl rfl hrd (by omega) d1) rfl ?_ | refine XD.qY rfl rfl hyp (.ldRd (j := i * 3) rfl rfl rfl hrd (by omega) d1) rfl ?_ | refine XD.qY rfl rfl hyq (.ldRd (j := i * 3) rfl rfl rfl hrd (by omega) d1) rfl ?_ | refine XD.qY rfl rfl hyr (.ldRd (j := i * 3) rfl rfl rfl hrd (by omega) d1) rfl ?_
        refine go (k := ?_)
        exact XE.mid (i + 1, 0) [0, 1, 2] ⟨⟨by simp only; omega, by simp only; omega, by simp only; omega⟩, by simp only; omega⟩ ⟨rfl, rfl, rfl, rfl, trivial⟩ rfl rfl
  · obtain rfl : i = L.length := by omega
    rw [List.drop_length] at hpos
    have hpos' : rpos f t L b0 = L.length := by rw [hpos]; rfl
    clear hpos
    have hpos := hpos'
    refine go (k := ?_)
    refine XL.make (.app (m := L.length) (news := ltcs (L.take (L.length))) rfl rfl rfl rfl rfl rfl (by decide) (by have h := hrd.hd (i := L.length) (by omega); rw [ltcs_take] at h; exact h) (ltcs_one _) (by rw [ltcs_len, List.length_take]; omega) (by rw [ltcs_len, List.length_take]; omega)) rfl fun v1 H hH => ?_
    subst hH
    refine go (k := ?_)
    refine XL.make (.bslice rfl rfl rfl rfl rfl rfl) rfl fun _ _ hq => ?_
    obtain ⟨bq, rfl, rfl⟩ := hq
    refine XL.app (m := 1) (news := ltcs [(f, t, s)]) (L' := fun v2 => _ :: .sl v2 76 3 (ltcs (L.take (L.length)) ++ ltcs [(f, t, s)]) :: _) rfl rfl rfl rfl rfl rfl (by decide) (.tail _ (.head _)) (.blk (.head _) rfl (Nat.le_refl _) rfl) rfl (by simp only [ltcs_len, List.length_take, List.length_singleton]; omega) (by simp only [ltcs_len, List.length_take, List.length_singleton]; omega) (fun v2 => .there .here) rfl fun v2 => ?_
    rw [← ltcs_app]
    refine go (k := ?_)
    refine XL.q (.cutT (i := L.length) rfl rfl rfl rfl (hrow _ (.tail _ (.tail _ (.tail _ (.tail _ (.head _)))))) (by omega)) rfl ?_
    refine go (k := ?_)
    refine XL.app (m := L.length - (L.length)) (news := ltcs (L.drop (L.length))) (L' := fun v3 => _ :: .sl v3 76 3 (ltcs (L.take (L.length) ++ [(f, t, s)]) ++ ltcs (L.drop (L.length))) :: _) rfl rfl rfl rfl rfl rfl (by decide) (.tail _ (.head _)) (hrt _ _ (.tail _ (.tail _ (.tail _ (.tail _ (.head _))))) (by omega)) (ltcs_one _) (by simp only [ltcs_len, List.length_append, List.length_take, List.length_drop, List.length_singleton]; omega) (by simp only [ltcs_len, List.length_append, List.length_take, List.length_drop, List.length_singleton]; omega) (fun v3 => .there .here) rfl fun v3 => ?_
    rw [← ltcs_app]
    refine XL.slv (.tail _ (.head _)) fun ao' q' m' hv' _ _ => ?_
    subst hv'
    refine go (k := ?_)
    refine XE.end0 (Value.slice ao' q' m') [3, 1] rfl trivial rfl rfl ?_
    show _ = rnG br n gone (Value.slice ao' q' m') (rins L (rpos f t L b0) (f, t, s))
    rw [hpos]; rfl
end Go.X
