/- LineCuts: run, plain law and walk. -/
import Derived.Test.YtckelpenodabdaaDevJ
namespace Go.X
open Go Go.Proofs Go.RowKit
def lop (a : LAct) : Option (List Slot → Int × List Slot) := if a.what % 5 = 2 then some (fun ds => (0, settled F64 ds)) else if a.what % 5 < 2 then some (fun ds => dwr ds a.at_ a.s) else none
def lr1 (cut : Int) (ch : List Int) (most : Nat) (p : Nat × Ln) (a : LAct) : Nat × Ln := if p.1 < most then (match lop a with
  | some o => (p.1 + 1, (p.2.act cut ch (o p.2.ds).1 (o p.2.ds).2).2)
  | none => p) else p
def lrun (cut : Int) (ch : List Int) (most : Nat) (p : Nat × Ln) (l : List LAct) : Nat × Ln := l.foldl (lr1 cut ch most) p
theorem lrun_snoc (cut : Int) (ch : List Int) (most : Nat) (p : Nat × Ln) (l : List LAct) (a : LAct) : lrun cut ch most p (l ++ [a]) = lr1 cut ch most (lrun cut ch most p l) a := by simp [lrun]
theorem lr1_full {cut : Int} {ch : List Int} {most : Nat} {p : Nat × Ln} (h : most ≤ p.1) (a : LAct) : lr1 cut ch most p a = p := by unfold lr1; rw [if_neg (by omega)]
theorem lrun_full {cut : Int} {ch : List Int} {most : Nat} {p : Nat × Ln} (h : most ≤ p.1) : ∀ l, lrun cut ch most p l = p
  | [] => rfl
  | a :: l => by
    show lrun cut ch most (lr1 cut ch most p a) l = p
    rw [lr1_full h]; exact lrun_full h l
theorem lr1_op {cut : Int} {ch : List Int} {most : Nat} {p : Nat × Ln} {a : LAct} {o : List Slot → Int × List Slot} (h : p.1 < most) (ho : lop a = some o) : lr1 cut ch most p a = (p.1 + 1, (p.2.act cut ch (o p.2.ds).1 (o p.2.ds).2).2) := by
  unfold lr1; rw [if_pos h, ho]
theorem lr1_none {cut : Int} {ch : List Int} {most : Nat} {p : Nat × Ln} {a : LAct} (ho : lop a = none) : lr1 cut ch most p a = p := by
  unfold lr1
  split
  · rw [ho]
  · rfl
theorem lrun_le (cut : Int) (ch : List Int) (most : Nat) : ∀ (l : List LAct) (p : Nat × Ln), (lrun cut ch most p l).1 ≤ p.1 + l.length
  | [], p => Nat.le_refl _
  | a :: l, p => by
    have h1 := lrun_le cut ch most l (lr1 cut ch most p a)
    have h2 : (lr1 cut ch most p a).1 ≤ p.1 + 1 := by
      unfold lr1
      split
      · split
        · exact Nat.le_refl _
        · exact Nat.le_succ _
      · exact Nat.le_succ _
    show (lrun cut ch most (lr1 cut ch most p a) l).1 ≤ _
    rw [List.length_cons]; omega
theorem lr1_lok {cut : Int} {ch : List Int} {most n : Nat} {p : Nat × Ln} (h : LOk p.2 n) (a : LAct) : LOk (lr1 cut ch most p a).2 (n + 1) := by
  cases hl : lop a with
  | none => rw [lr1_none hl]; exact h.mono (Nat.le_succ _)
  | some o =>
    by_cases hm : p.1 < most
    · rw [lr1_op hm hl]
      unfold lop at hl
      split at hl
      · obtain rfl := Option.some.inj hl; exact h.flush
      · split at hl
        · obtain rfl := Option.some.inj hl; exact h.write _ _
        · cases hl
    · rw [lr1_full (by omega)]; exact h.mono (Nat.le_succ _)
theorem lrun_lok {cut : Int} {ch : List Int} {most : Nat} : ∀ (l : List LAct) {n : Nat} {p : Nat × Ln}, LOk p.2 n → LOk (lrun cut ch most p l).2 (n + l.length)
  | [], _, _, h => h
  | a :: l, n, p, h => by
    have := lrun_lok (cut := cut) (ch := ch) (most := most) l (lr1_lok (cut := cut) (ch := ch) (most := most) h a)
    rw [show n + 1 + l.length = n + (a :: l).length by rw [List.length_cons]; omega] at this
    exact this
set_option maxHeartbeats 1000000 in
theorem lrun_ok (bl b : Nat) (lv vc : Value) (cut : Int) (ch : List Int) (x : Ln) (n : Nat) (v : Value) (l : List LAct) (most : Nat) (w : World) (hx : LOk x n) (hn : n ≤ 100000) (hm : most ≤ 1000) (hl60 : l.length ≤ 1000)
    (hl : ch.length ≤ 1000000) (hw : ∀ a ∈ ch, -9223372036854775808 ≤ a ∧ a ≤ 9223372036854775807) (hs : ∀ a ∈ l, LActOk a ∧ a.s.length ≤ 1000) (hv : ∀ w', Kept (ids (lnX bl b lv vc cut ch x)) w w' → RowAt w' v 3 l.length (lacells l)) (ho : Owns w (lnX bl b lv vc cut ch x)) :
    Fx Try.prog 41 [ptr bl, v, iv most] w (Ret w (lnX bl b lv vc cut ch x) (fun _ : Unit => iv (lrun cut ch most (0, x) l).1) (fun _ => lnX bl b lv vc cut ch (lrun cut ch most (0, x) l).2) (fun _ => True)) := by
  have hr : ∀ y : Ln, Rd w (ids (lnX bl b lv vc cut ch x)) (lnX bl b lv vc cut ch y) v 3 l.length (lacells l) := fun y w' _ hk' => hv w' hk'
  refine Fx.of Try.func41 rfl (by kernel_rfl) Try.ntmps41 rfl ho ?_
  refine XC.rdv (hr x) fun ao m hva _ _ haa => ?_
  subst hva
  refine go (k := ?_)
  refine XC.loop (α := Nat) (fun k => [(0, ptr bl), (1, .slice ao l.length m), (2, iv most), (7, iv (lrun cut ch most (0, x) (l.take k)).1), (8, iv k)]) (fun k => lnX bl b lv vc cut ch (lrun cut ch most (0, x) (l.take k)).2) (fun k => k ≤ l.length) (fun k => l.length - k) 0 [0, 1, 2] (Nat.zero_le _) ⟨rfl, rfl, rfl, rfl, rfl, trivial⟩ rfl rfl ?_
  intro k hk
  have hok := lrun_lok (cut := cut) (ch := ch) (most := most) (l.take k) (p := (0, x)) hx
  have hle := lrun_le cut ch most (l.take k) (0, x)
  rw [List.length_take, Nat.min_eq_left hk] at hok hle
  have hend : lrun cut ch most (0, x) l = lrun cut ch most (lrun cut ch most (0, x) (l.take k)) (l.drop k) := by
    unfold lrun; rw [← List.foldl_append, List.take_append_drop]
  have hsn : ∀ a, l[k]? = some a → lrun cut ch most (0, x) (l.take (k + 1)) = lr1 cut ch most (lrun cut ch most (0, x) (l.take k)) a := fun a ha => by rw [take_snoc ha, lrun_snoc]
  obtain ⟨⟨c, y⟩, hp⟩ : ∃ p, p = lrun cut ch most (0, x) (l.take k) := ⟨_, rfl⟩
  rw [← hp] at hok hle hend hsn ⊢
  simp only at hok hle hend hsn ⊢
  clear hp
  have hyl := hok.len
  have hya := hok.acts
  by_cases hkl : k < l.length
  · obtain ⟨a, ha⟩ : ∃ a, l[k]? = some a := ⟨_, List.getElem?_eq_getElem hkl⟩
    obtain ⟨b1, o1, rfl⟩ : ∃ b off, ao = some ⟨b, off, none⟩ := haa.resolve_left (by omega)
    obtain ⟨c1, c2, c3⟩ := lacells_at ha
    obtain ⟨⟨hw1, hw2, _⟩, hsl⟩ := hs a (List.mem_of_getElem? ha)
    have hsn := hsn a ha
    by_cases hcm : c < most
    · by_cases w2 : a.what % 5 = 2
      · rw [lr1_op hcm (by unfold lop; rw [if_pos w2])] at hsn
        refine go (k := ?_)
        refine XL.q (.ldRd (j := k * 3) rfl rfl rfl (hr y) (by omega) c1) rfl ?_
        refine go (k := ?_)
        refine XL.call [0, 1, 2] [] rfl rfl rfl rfl rfl (fun _ w _ ho => lflush_ok bl b lv vc cut ch y w hok.ok (by omega) (by omega) hl hw ho) fun _ _ => ?_
        refine XL.nm ?_
        refine go (k := ?_)
        exact XE.mid (k + 1) [0, 1, 2] ⟨by omega, by omega⟩ ⟨rfl, rfl, rfl, by rw [hsn]; rfl, rfl, trivial⟩ rfl (by rw [hsn]; rfl)
      · by_cases w1 : a.what % 5 < 2
        · rw [lr1_op hcm (by unfold lop; rw [if_neg w2, if_pos w1])] at hsn
          have hcase : a.what % 5 = 0 ∨ a.what % 5 = 1 := by omega
          rcases hcase with w0 | w0
          · refine go (k := ?_)
            refine XL.q (.ldRd (j := k * 3) rfl rfl rfl (hr y) (by omega) c1) rfl ?_
            refine go (k := ?_)
            refine XD.q (.ldRd (j := k * 3 + 1) rfl rfl rfl (hr y) (by omega) c2) rfl ?_
            refine go (k := ?_)
            refine XD.q (.ldRd (j := k * 3 + 2) rfl rfl rfl (hr y) (by omega) c3) rfl ?_
            refine go (k := ?_)
            refine XL.call [0, 1, 2] [] rfl rfl rfl rfl rfl (fun _ w _ ho => lwrite_ok bl b lv vc cut ch y a.at_ a.s w hok.ok (by omega) (by omega) (by omega) hl hw ho) fun _ _ => ?_
            refine XL.nm ?_
            refine go (k := ?_)
            exact XE.mid (k + 1) [0, 1, 2] ⟨by omega, by omega⟩ ⟨rfl, rfl, rfl, by rw [hsn]; rfl, rfl, trivial⟩ rfl (by rw [hsn]; rfl)
          · refine go (k := ?_)
            refine XL.q (.ldRd (j := k * 3) rfl rfl rfl (hr y) (by omega) c1) rfl ?_
            refine go (k := ?_)
            refine XD.q (.ldRd (j := k * 3 + 1) rfl rfl rfl (hr y) (by omega) c2) rfl ?_
            refine go (k := ?_)
            refine XD.q (.ldRd (j := k * 3 + 2) rfl rfl rfl (hr y) (by omega) c3) rfl ?_
            refine go (k := ?_)
            refine XL.call [0, 1, 2] [] rfl rfl rfl rfl rfl (fun _ w _ ho => lwrite_ok bl b lv vc cut ch y a.at_ a.s w hok.ok (by omega) (by omega) (by omega) hl hw ho) fun _ _ => ?_
            refine XL.nm ?_
            refine go (k := ?_)
            exact XE.mid (k + 1) [0, 1, 2] ⟨by omega, by omega⟩ ⟨rfl, rfl, rfl, by rw [hsn]; rfl, rfl, trivial⟩ rfl (by rw [hsn]; rfl)
        · rw [lr1_none (by unfold lop; rw [if_neg w2, if_neg w1])] at hsn
          have w0 : ¬ a.what % 5 = 0 := by omega
          have w1' : ¬ a.what % 5 = 1 := by omega
          refine go (k := ?_)
          refine XL.q (.ldRd (j := k * 3) rfl rfl rfl (hr y) (by omega) c1) rfl ?_
          refine go (k := ?_)
          exact XE.mid (k + 1) [0, 1, 2] ⟨by omega, by omega⟩ ⟨rfl, rfl, rfl, by rw [hsn]; rfl, rfl, trivial⟩ rfl (by rw [hsn]; rfl)
    · rw [lrun_full (p := (c, y)) (show most ≤ c by omega)] at hend
      rw [hend]
      refine go (k := ?_)
      exact XE.ret1 () [0, 1, 2] rfl rfl trivial rfl rfl rfl
  · rw [List.drop_of_length_le (by omega)] at hend
    rw [show lrun cut ch most (0, x) l = (c, y) from hend]
    refine go (k := ?_)
    exact XE.ret1 () [0, 1, 2] rfl rfl trivial rfl rfl rfl
/-! ### the plain law -/
structure CR (n : Nat) (ch : List Int) (A B Y Y1 : Nat × Ln) : Prop where
  b : B = (A.1, ⟨A.1, false, B.2.ds⟩)
  lo : A.1 ≤ n → A.2 = B.2 ∧ Y = B ∧ Y1 = B
  hi : n < A.1 → A.2 = ⟨n + 1, true, settled (Fc ch) (if oddc ch = true then Y1.2.ds else Y.2.ds)⟩ ∧ Y.1 = n ∧ Y1.1 = n + 1
theorem CR.zero (n : Nat) (ch : List Int) : CR n ch (0, ln0) (0, ln0) (0, ln0) (0, ln0) := ⟨rfl, fun _ => ⟨rfl, rfl, rfl⟩, fun h => by simp at h⟩
theorem CR.step {n : Nat} {ch : List Int} {A B Y Y1 : Nat × Ln} (h : CR n ch A B Y Y1) (hA : A.1 < 100) (a : LAct) : CR n ch (lr1 n ch 100 A a) (lr1 (-1) [] 100 B a) (lr1 (-1) [] n Y a) (lr1 (-1) [] (n + 1) Y1 a) := by
  cases hl : lop a with
  | none => rw [lr1_none hl, lr1_none hl, lr1_none hl, lr1_none hl]; exact h
  | some o =>
    obtain ⟨c, x⟩ := A
    obtain ⟨hb, hlo, hhi⟩ := h
    simp only at hA hb hlo hhi
    obtain ⟨D, hD⟩ : ∃ D, D = B.2.ds := ⟨_, rfl⟩
    rw [← hD] at hb
    subst hb
    have hB : ∀ most, c < most → lr1 (-1) [] most (c, ⟨c, false, D⟩) a = (c + 1, ⟨c + 1, false, (o D).2⟩) := fun most hm => by
      rw [lr1_op hm hl]
      simp only [Ln.act, if_neg (show ¬ (false = true) by decide), if_neg (show ¬ ((c : Int) = -1) by omega)]
    rw [hB 100 hA, lr1_op (p := (c, x)) hA hl]
    by_cases h1 : c ≤ n
    · obtain ⟨rfl, rfl, rfl⟩ := hlo h1
      by_cases h2 : c = n
      · subst h2
        simp only
        rw [lr1_full (most := c) (p := (c, ⟨c, false, D⟩)) (Nat.le_refl c), hB (c + 1) (by omega)]
        refine ⟨rfl, fun h => by simp only at h; omega, fun _ => ⟨?_, rfl, rfl⟩⟩
        simp only [Ln.act, if_neg (show ¬ (false = true) by decide), if_pos trivial]
      · rw [hB n (by omega), hB (n + 1) (by omega)]
        refine ⟨rfl, fun _ => ⟨?_, rfl, rfl⟩, fun h => by simp only at h; omega⟩
        simp only [Ln.act, if_neg (show ¬ (false = true) by decide), if_neg (show ¬ ((c : Int) = (n : Int)) by omega)]
    · obtain ⟨rfl, hY, hY1⟩ := hhi (by omega)
      rw [lr1_full (p := Y) (by omega), lr1_full (p := Y1) (by omega)]
      refine ⟨rfl, fun h => by simp only at h; omega, fun _ => ⟨?_, hY, hY1⟩⟩
      simp only [Ln.act, if_pos trivial]
theorem CR.all (n : Nat) (ch : List Int) (l : List LAct) (hl : l.length ≤ 60) : ∀ k, k ≤ l.length → CR n ch (lrun n ch 100 (0, ln0) (l.take k)) (lrun (-1) [] 100 (0, ln0) (l.take k)) (lrun (-1) [] n (0, ln0) (l.take k)) (lrun (-1) [] (n + 1) (0, ln0) (l.take k))
  | 0, _ => CR.zero n ch
  | k + 1, hk => by
    obtain ⟨a, ha⟩ : ∃ a, l[k]? = some a := ⟨_, List.getElem?_eq_getElem (by omega)⟩
    rw [take_snoc ha, lrun_snoc, lrun_snoc, lrun_snoc, lrun_snoc]
    refine (CR.all n ch l hl k (by omega)).step ?_ a
    have := lrun_le n ch 100 (l.take k) (0, ln0)
    rw [List.length_take] at this
    simp only at this
    omega
end Go.X
