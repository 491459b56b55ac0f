/- NetOrder: the walk. -/
import Derived.Test.YtoeejaikmhedoaaNetD
namespace Go.X
open Go Go.Proofs Go.RowKit
/-- every other one of a list, the first one too if b -/
def alt : Bool → List Tx → List Tx
  | _, [] => []
  | true, x :: l => x :: alt false l
  | false, _ :: l => alt true l
theorem alt_snoc (x : Tx) : ∀ (l : List Tx) (b : Bool), alt b (l ++ [x]) = alt b l ++ if (l.length % 2 = 0) = (b = true) then [x] else []
  | [], true => by simp [alt]
  | [], false => by simp [alt]
  | y :: l, true => by
    simp only [List.cons_append, alt, alt_snoc x l false, List.length_cons]
    by_cases h : l.length % 2 = 0
    · rw [if_neg (by simp [h]), if_neg (by simp; omega)]
    · rw [if_pos (by simp [h]), if_pos (by simp; omega)]
  | y :: l, false => by
    simp only [List.cons_append, alt, alt_snoc x l true, List.length_cons]
    by_cases h : l.length % 2 = 0
    · rw [if_pos (by simp [h]), if_pos (by simp; omega)]
    · rw [if_neg (by simp [h]), if_neg (by simp; omega)]
theorem alt_len : ∀ (l : List Tx) (b : Bool), (alt b l).length ≤ l.length
  | [], _ => by simp [alt]
  | y :: l, true => by simp only [alt, List.length_cons]; have := alt_len l false; omega
  | y :: l, false => by simp only [alt, List.length_cons]; have := alt_len l true; omega
abbrev psO (v0 : Value) (l0 : List Tx) (v1 : Value) (l1 : List Tx) : List Wy := (ps0.set 2 (v0, l0)).set 10 (v1, l1)
theorem wpost1 (i : Nat) (s : Tx) (p : Nat × List Tx) (h : p.2.length < 64) (hi : i < 5) : wpost (((1 + 6 * (i : Int)).tmod 6 + 6) % 6) s p = (p.1, p.2 ++ [s]) := by
  have e : ((1 + 6 * (i : Int)).tmod 6 + 6) % 6 = 1 := by
    rw [Int.tmod_eq_emod_of_nonneg (by omega)]; omega
  rw [e]
  unfold wpost wput
  rw [if_neg (by decide), if_pos rfl, if_neg (by omega)]
  simp
set_option maxHeartbeats 4000000 in
theorem netOrder_ok (l : List Tx) (vl : Value) (w : World) (hv : RowAt w vl 1 l.length (strs l)) (hl : l.length ≤ maxLen) (hsl : ∀ s ∈ l, s.length ≤ maxLen) :
    Fx Try.prog 3 [vl] w (Pure w (.bool true)) := by
  have hrl : ∀ L : Heap, Rd w (ids []) L vl 1 l.length (strs l) := fun L => .old hv (fun _ _ _ => by simp [X.ids])
  have hl' := hl
  simp only [maxLen] at hl' hsl
  refine Fx.of (L0 := []) Try.func3 rfl (by kernel_rfl) Try.ntmps3 rfl (Owns.nil w) ?_
  refine XC.rdv (hrl _) fun al ml hvl _ hlm hal => ?_
  subst hvl
  refine go (k := ?_)
  refine XL.call [] [] rfl rfl rfl rfl rfl (fun _ w _ _ => new_ok 3 w (by decide) (by decide)) fun b _ => ?_
  by_cases h60 : 60 < l.length
  · refine go (k := ?_)
    refine XL.q (.call rfl rfl fun _ w _ => awake29_ok w) rfl ?_
    refine go (k := ?_)
    exact XE.ret1 () [] rfl rfl trivial rfl rfl rfl
  refine go (k := ?_)
  refine XC.loop (α := Nat × Value × Value) (fun x => [(0, .slice al l.length ml), (3, ptr b), (4, iv x.1)]) (fun x => [netE b 3 0 (psO x.2.1 (alt true (l.take x.1)) x.2.2 (alt false (l.take x.1)))]) (fun x => x.1 ≤ l.length) (fun x => l.length - x.1) (0, nil0, nil0) [0] (Nat.zero_le _) ⟨rfl, rfl, rfl, trivial⟩ rfl rfl ?_
  rintro ⟨i, v0, v1⟩ hi
  simp only at hi ⊢
  by_cases hil : i < l.length
  · obtain ⟨s, hs⟩ : ∃ s, l[i]? = some s := ⟨_, List.getElem?_eq_getElem hil⟩
    obtain ⟨b1, o1, rfl⟩ : ∃ b off, al = some ⟨b, off, none⟩ := hal.resolve_left (by omega)
    have hv1 : (strs l)[i * 1]? = some (str s) := by simp [strs, hs]
    have hss := hsl s (List.mem_of_getElem? hs)
    have hlt : (l.take i).length = i := by rw [List.length_take]; omega
    have ht := take_snoc hs
    have ha0 := alt_len (l.take i) true
    have ha1 := alt_len (l.take i) false
    have hsn0 := alt_snoc s (l.take i) true
    have hsn1 := alt_snoc s (l.take i) false
    rw [hlt] at hsn0 hsn1
    by_cases h300 : 300 < s.length
    · refine go (k := ?_)
      refine XL.q (.ldRd (j := i * 1) rfl rfl rfl (hrl _) (by omega) hv1) rfl ?_
      refine go (k := ?_)
      refine XL.q (.call rfl rfl fun _ w _ => awake29_ok w) rfl ?_
      refine go (k := ?_)
      exact XE.ret1 () [] rfl rfl trivial rfl rfl rfl
    · refine go (k := ?_)
      refine XL.q (.ldRd (j := i * 1) rfl rfl rfl (hrl _) (by omega) hv1) rfl ?_
      refine go (k := ?_)
      refine XL.q (.ldRd (j := i * 1) rfl rfl rfl (hrl _) (by omega) hv1) rfl ?_
      refine go (k := ?_)
      rw [show ((i : Int) % 5) = ((i % 5 : Nat) : Int) from by omega]
      have h5 : i % 5 < 5 := Nat.mod_lt _ (by decide)
      by_cases h2 : i % 2 = 0
      · rw [if_pos (by simp [h2])] at hsn0
        rw [if_neg (by simp [h2]), List.append_nil] at hsn1
        rw [show ((i : Int) % 2) = ((0 : Nat) : Int) from by omega]
        refine XL.call [0] [] rfl rfl rfl rfl rfl (fun _ w _ ho => posts_ok b 0 2 3 _ 0 _ v0 (alt true (l.take i)) s w (by decide) (by decide) (by decide) (by decide) (by omega) (by omega) (by decide) rfl (by omega) ho) fun v' _ => ?_
        rw [wpost1 (i % 5) s _ (by simp only; omega) h5]
        refine go (k := ?_)
        refine XE.mid (i + 1, v', v1) [0] ⟨show i + 1 ≤ l.length by omega, show l.length - (i + 1) < l.length - i by omega⟩ ⟨rfl, rfl, rfl, trivial⟩ rfl ?_
        show _ = [netE b 3 0 (psO v' (alt true (l.take (i + 1))) v1 (alt false (l.take (i + 1))))]
        rw [ht, hsn0, hsn1]; rfl
      · rw [if_neg (by simp [h2]), List.append_nil] at hsn0
        rw [if_pos (by simp [h2])] at hsn1
        rw [show ((i : Int) % 2) = ((1 : Nat) : Int) from by omega]
        refine XL.call [0] [] rfl rfl rfl rfl rfl (fun _ w _ ho => posts_ok b 1 2 3 _ 0 _ v1 (alt false (l.take i)) s w (by decide) (by decide) (by decide) (by decide) (by omega) (by omega) (by decide) rfl (by omega) ho) fun v' _ => ?_
        rw [wpost1 (i % 5) s _ (by simp only; omega) h5]
        refine go (k := ?_)
        refine XE.mid (i + 1, v0, v') [0] ⟨show i + 1 ≤ l.length by omega, show l.length - (i + 1) < l.length - i by omega⟩ ⟨rfl, rfl, rfl, trivial⟩ rfl ?_
        show _ = [netE b 3 0 (psO v0 (alt true (l.take (i + 1))) v' (alt false (l.take (i + 1))))]
        rw [ht, hsn0, hsn1]; rfl
  · obtain rfl : i = l.length := by omega
    rw [List.take_length]
    refine go (k := ?_)
    refine XC.loop (α := Nat × Value × Value) (fun x => [(0, .slice al l.length ml), (3, ptr b), (5, iv x.1)]) (fun x => [netE b 3 0 (psO x.2.1 (alt (decide (x.1 % 2 = 0)) (l.drop x.1)) x.2.2 (alt (decide (x.1 % 2 = 1)) (l.drop x.1)))]) (fun x => x.1 ≤ l.length) (fun x => l.length - x.1) (0, v0, v1) [0] (Nat.zero_le _) ⟨rfl, rfl, rfl, trivial⟩ rfl rfl ?_
    clear v0 v1
    rintro ⟨i, v0, v1⟩ hi
    simp only at hi ⊢
    by_cases hil : i < l.length
    · obtain ⟨s, hs⟩ : ∃ s, l[i]? = some s := ⟨_, List.getElem?_eq_getElem hil⟩
      obtain ⟨b1, o1, rfl⟩ : ∃ b off, al = some ⟨b, off, none⟩ := hal.resolve_left (by omega)
      have hv1 : (strs l)[i * 1]? = some (str s) := by simp [strs, hs]
      have hdr : l.drop i = s :: l.drop (i + 1) := by rw [List.drop_eq_getElem_cons hil, (List.getElem?_eq_some_iff.1 hs).2]
      have hdl : (l.drop (i + 1)).length ≤ 59 := by rw [List.length_drop]; omega
      have ha0 := alt_len (l.drop (i + 1)) true
      have ha1 := alt_len (l.drop (i + 1)) false
      rw [hdr]
      refine go (k := ?_)
      refine XL.q (.ldRd (j := i * 1) rfl rfl rfl (hrl _) (by omega) hv1) rfl ?_
      refine go (k := ?_)
      by_cases h2 : i % 2 = 0
      · rw [decide_eq_true h2, decide_eq_false (show ¬ i % 2 = 1 by omega), show ((i : Int) % 2) = ((0 : Nat) : Int) from by omega]
        refine XL.call [0] [] rfl rfl rfl rfl rfl (fun _ w _ ho => takes_ok b 0 2 3 0 _ v0 s (alt false (l.drop (i + 1))) w (by decide) (by decide) (by decide) (by decide) (by simp only [List.length_cons]; omega) rfl ho) fun v' _ => ?_
        refine go (k := ?_)
        refine XE.mid (i + 1, v', v1) [0] ⟨show i + 1 ≤ l.length by omega, show l.length - (i + 1) < l.length - i by omega⟩ ⟨rfl, rfl, rfl, trivial⟩ rfl ?_
        show _ = [netE b 3 0 (psO v' (alt (decide ((i + 1) % 2 = 0)) (l.drop (i + 1))) v1 (alt (decide ((i + 1) % 2 = 1)) (l.drop (i + 1))))]
        rw [decide_eq_false (show ¬ (i + 1) % 2 = 0 by omega), decide_eq_true (show (i + 1) % 2 = 1 by omega)]; rfl
      · rw [decide_eq_false h2, decide_eq_true (show i % 2 = 1 by omega), show ((i : Int) % 2) = ((1 : Nat) : Int) from by omega]
        refine XL.call [0] [] rfl rfl rfl rfl rfl (fun _ w _ ho => takes_ok b 1 2 3 0 _ v1 s (alt false (l.drop (i + 1))) w (by decide) (by decide) (by decide) (by decide) (by simp only [List.length_cons]; omega) rfl ho) fun v' _ => ?_
        refine go (k := ?_)
        refine XE.mid (i + 1, v0, v') [0] ⟨show i + 1 ≤ l.length by omega, show l.length - (i + 1) < l.length - i by omega⟩ ⟨rfl, rfl, rfl, trivial⟩ rfl ?_
        show _ = [netE b 3 0 (psO v0 (alt (decide ((i + 1) % 2 = 0)) (l.drop (i + 1))) v' (alt (decide ((i + 1) % 2 = 1)) (l.drop (i + 1))))]
        rw [decide_eq_true (show (i + 1) % 2 = 0 by omega), decide_eq_false (show ¬ (i + 1) % 2 = 1 by omega)]; rfl
    · obtain rfl : i = l.length := by omega
      rw [List.drop_length]
      have hnil : ∀ b, alt b [] = [] := fun b => by cases b <;> rfl
      rw [hnil, hnil]
      refine go (k := ?_)
      refine XL.q (.call rfl rfl fun _ w hs => waits_ok b 0 2 3 0 _ v0 [] w (by decide) (by decide) (by decide) (by decide) rfl (hs.own.grp (.head _))) rfl ?_
      refine go (k := ?_)
      refine XL.q (.call rfl rfl fun _ w hs => waits_ok b 1 2 3 0 _ v1 [] w (by decide) (by decide) (by decide) (by decide) rfl (hs.own.grp (.head _))) rfl ?_
      refine go (k := ?_)
      refine XL.q (.call rfl rfl fun _ w hs => lost_at b 3 _ _ _ 0 w ((hs.own.grp (.head _)).ok _ (.head _))) rfl ?_
      refine go (k := ?_)
      refine XL.q (.call rfl rfl fun _ w _ => awake29_ok w) rfl ?_
      refine go (k := ?_)
      exact XE.ret1 () [] rfl rfl trivial rfl rfl rfl
end Go.X
