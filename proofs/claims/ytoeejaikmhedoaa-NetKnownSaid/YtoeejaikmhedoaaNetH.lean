/- Acts of revertlaw29: few; count. -/
import Derived.Test.YtoeejaikmhedoaaNetG
namespace Go.X
open Go Go.Proofs Go.RowKit
structure NAct where
  what : Int
  frm : Int
  to : Int
  s : Tx
  fate : Int
instance : Inhabited NAct := ⟨⟨0, 0, 0, [], 0⟩⟩
def nacell (a : NAct) : List Value := [.int .u8 a.what, iv a.frm, iv a.to, str a.s, iv a.fate]
def nacells (l : List NAct) : List Value := l.flatMap nacell
structure NActOk (a : NAct) : Prop where
  what : 0 ≤ a.what ∧ a.what ≤ 255
  frm : -9223372036854775808 ≤ a.frm ∧ a.frm ≤ 9223372036854775807
  to : -9223372036854775808 ≤ a.to ∧ a.to ≤ 9223372036854775807
  s : a.s.length ≤ maxLen
  fate : -9223372036854775808 ≤ a.fate ∧ a.fate ≤ 9223372036854775807
theorem nacells_len : ∀ l, (nacells l).length = l.length * 5
  | [] => rfl
  | a :: l => by
    have := nacells_len l
    unfold nacells at this ⊢
    simp only [List.flatMap_cons, List.length_append, this, List.length_cons, nacell, List.length_nil]; omega
theorem nacells_at : ∀ {l : List NAct} {i : Nat} {a : NAct}, l[i]? = some a → (nacells l)[i * 5]? = some (.int .u8 a.what) ∧ (nacells l)[i * 5 + 1]? = some (iv a.frm) ∧ (nacells l)[i * 5 + 2]? = some (iv a.to) ∧ (nacells l)[i * 5 + 3]? = some (str a.s) ∧ (nacells l)[i * 5 + 4]? = some (iv a.fate)
  | [], i, p, h => by simp at h
  | q :: l, 0, p, h => by simp at h; subst h; exact ⟨rfl, rfl, rfl, rfl, rfl⟩
  | q :: l, i + 1, p, h => by
    have := nacells_at (l := l) (i := i) (by simpa using h)
    rw [show (i + 1) * 5 = i * 5 + 1 + 1 + 1 + 1 + 1 by omega]
    exact this
theorem nacells_cut {l : List NAct} {k : Nat} {a : NAct} (h : l[k]? = some a) : X.cut (nacells l) (k * 5) 5 = some (nacell a) := by
  have hl := nacells_len l
  have hlt := (List.getElem?_eq_some_iff.1 h).1
  rw [cut_some (by omega)]
  congr 1
  apply List.ext_getElem?
  intro j
  rw [List.getElem?_take]
  obtain ⟨c1, c2, c3, c4, c5⟩ := nacells_at h
  by_cases hj : j < 5
  · rw [if_pos hj, List.getElem?_drop]
    rcases (by omega : j = 0 ∨ j = 1 ∨ j = 2 ∨ j = 3 ∨ j = 4) with rfl | rfl | rfl | rfl | rfl
    · exact c1
    · exact c2
    · exact c3
    · exact c4
    · exact c5
  · rw [if_neg hj, List.getElem?_eq_none (by simp [nacell]; omega)]
theorem nacts_of {H : Type} {enc : TypeId × Value → H} {w : World} {spare : Nat → Bool} {held : Bool} {v : Value} (h : KOk enc Try.prog w 0 spare held (.sl 34) v) :
    ∃ l : List NAct, RowAt w v 5 l.length (nacells l) ∧ l.length ≤ maxLen ∧ ∀ a ∈ l, NActOk a :=
  rows_of nacell (Q := NActOk) (by decide) (by kernel_rfl) (fun cs fuel x hl h => by
    obtain ⟨c0, c1, c2, c3, c4, rfl⟩ := len5 hl
    have hf := flat_ok 5 (l := [(0, .int .u8), (1, .int .i64), (2, .int .i64), (3, .str), (4, .int .i64)]) (by kernel_rfl) h
    obtain ⟨_, e0, n0, rfl, b0⟩ := hf (0, .int .u8) (.head _)
    obtain ⟨_, e1, n1, rfl, b1⟩ := hf (1, .int .i64) (.tail _ (.head _))
    obtain ⟨_, e2, n2, rfl, b2⟩ := hf (2, .int .i64) (.tail _ (.tail _ (.head _)))
    obtain ⟨_, e3, s3, rfl, b3⟩ := hf (3, .str) (.tail _ (.tail _ (.tail _ (.head _))))
    obtain ⟨_, e4, n4, rfl, b4⟩ := hf (4, .int .i64) (.tail _ (.tail _ (.tail _ (.tail _ (.head _)))))
    obtain rfl := Option.some.inj e0
    obtain rfl := Option.some.inj e1
    obtain rfl := Option.some.inj e2
    obtain rfl := Option.some.inj e3
    obtain rfl := Option.some.inj e4
    exact ⟨⟨n0, n1, n2, s3.data.toList, n4⟩, rfl, ⟨wf_u8 b0, wf_i64 b1, wf_i64 b2, b3, wf_i64 b4⟩⟩) h
def fewR : List NAct → Nat → Bool
  | [], _ => true
  | a :: l, left => if 5000 < a.s.length ∨ left < a.s.length then false else fewR l (left - a.s.length)
def fewN (l : List NAct) : Bool := fewR (l.take 160) 20000 && decide (l.length ≤ 150)
theorem fewR_spec : ∀ {l : List NAct} {left : Nat}, fewR l left = true → ∀ a ∈ l, a.s.length ≤ 5000
  | [], _, _, a, ha => by cases ha
  | b :: l, left, h, a, ha => by
    unfold fewR at h
    by_cases hc : 5000 < b.s.length ∨ left < b.s.length
    · rw [if_pos hc] at h; cases h
    · rw [if_neg hc] at h
      rcases List.mem_cons.1 ha with rfl | ha
      · omega
      · exact fewR_spec h a ha
theorem fewN_spec {l : List NAct} (h : fewN l = true) : (∀ a ∈ l, a.s.length ≤ 5000) ∧ l.length ≤ 150 := by
  simp only [fewN, Bool.and_eq_true, decide_eq_true_eq] at h
  refine ⟨fun a ha => fewR_spec h.1 a ?_, h.2⟩
  rw [List.take_of_length_le (by omega)]; exact ha
theorem fewN_ok (v : Value) (l : List NAct) (w : World) (hv : RowAt w v 5 l.length (nacells l)) (hl : l.length ≤ maxLen) (hs : ∀ a ∈ l, NActOk a) :
    Fx Try.prog 13 [v] w (Pure w (.bool (fewN l))) := by
  have hr : ∀ L : Heap, Rd w (ids []) L v 5 l.length (nacells l) := fun L => .old hv (fun _ _ _ => by simp [X.ids])
  simp only [maxLen] at hl
  refine Fx.of (L0 := []) Try.func13 rfl (by kernel_rfl) Try.ntmps13 rfl (Owns.nil w) ?_
  refine XC.rdv (hr _) fun ao m hva _ _ haa => ?_
  subst hva
  refine go (k := ?_)
  refine XC.loop (α := Nat × Nat) (fun x => [(0, .slice ao l.length m), (3, iv x.2), (4, iv x.1)]) (fun _ => []) (fun x => x.1 ≤ l.length ∧ x.1 ≤ 160 ∧ x.2 ≤ 20000 ∧ fewR (l.take 160) 20000 = fewR ((l.take 160).drop x.1) x.2) (fun x => l.length - x.1) (0, 20000) [] ⟨Nat.zero_le _, Nat.zero_le _, Nat.le_refl _, rfl⟩ ⟨rfl, rfl, rfl, trivial⟩ rfl rfl ?_
  rintro ⟨k, left⟩ ⟨hk, hk160, hleft, hpre⟩
  simp only at hk hk160 hleft hpre ⊢
  have hend : (l.length ≤ k ∨ k = 160) → fewN l = decide ((l.length : Int) ≤ 150) := fun h => by
    unfold fewN
    rw [hpre, List.drop_of_length_le (by rw [List.length_take]; omega)]
    show (true && _) = _
    rw [Bool.true_and]; exact decide_eq_decide.2 (by omega)
  by_cases hkl : k < l.length
  · obtain ⟨a, ha⟩ : ∃ a, l[k]? = some a := ⟨_, List.getElem?_eq_getElem hkl⟩
    obtain ⟨b1, o1, rfl⟩ : ∃ b off, ao = some ⟨b, off, none⟩ := haa.resolve_left (by omega)
    obtain ⟨c1, c2, c3, c4, c5⟩ := nacells_at ha
    have hok := hs a (List.mem_of_getElem? ha)
    have hsl := hok.s
    simp only [maxLen] at hsl
    by_cases h160 : k < 160
    · have hdr : (l.take 160).drop k = a :: (l.take 160).drop (k + 1) := by
        have hlt : k < (l.take 160).length := by rw [List.length_take]; omega
        rw [List.drop_eq_getElem_cons hlt]
        congr 1
        have : (l.take 160)[k]? = some a := by rw [List.getElem?_take, if_pos h160]; exact ha
        exact (List.getElem?_eq_some_iff.1 this).2
      rw [hdr] at hpre
      have hno : (5000 < a.s.length ∨ left < a.s.length) → fewN l = false := fun h => by
        unfold fewN; rw [hpre]; unfold fewR; rw [if_pos h]; rfl
      by_cases hlong : 5000 < a.s.length
      · refine go (k := ?_)
        refine XL.q (.ldRd (j := k * 5 + 3) rfl rfl rfl (hr _) (by omega) c4) rfl ?_
        refine go (k := ?_)
        refine XE.ret1 () [] rfl rfl trivial ?_ rfl rfl
        rw [hno (.inl hlong)]
      · by_cases hlf : left < a.s.length
        · refine go (k := ?_)
          refine XL.q (.ldRd (j := k * 5 + 3) rfl rfl rfl (hr _) (by omega) c4) rfl ?_
          refine go (k := ?_)
          refine XL.q (.ldRd (j := k * 5 + 3) rfl rfl rfl (hr _) (by omega) c4) rfl ?_
          refine go (k := ?_)
          refine XE.ret1 () [] rfl rfl trivial ?_ rfl rfl
          rw [hno (.inr hlf)]
        · have hsub : (left : Int) - (a.s.length : Int) = ((left - a.s.length : Nat) : Int) := by omega
          refine go (k := ?_)
          refine XL.q (.ldRd (j := k * 5 + 3) rfl rfl rfl (hr _) (by omega) c4) rfl ?_
          refine go (k := ?_)
          refine XL.q (.ldRd (j := k * 5 + 3) rfl rfl rfl (hr _) (by omega) c4) rfl ?_
          refine go (k := ?_)
          refine XL.q (.ldRd (j := k * 5 + 3) rfl rfl rfl (hr _) (by omega) c4) rfl ?_
          refine go (k := ?_)
          refine XE.mid (k + 1, left - a.s.length) [] ⟨⟨by simp only; omega, by simp only; omega, by simp only; omega, ?_⟩, by simp only; omega⟩ ⟨rfl, gi rfl hsub, rfl, trivial⟩ rfl rfl
          simp only
          rw [hpre]; conv => lhs; unfold fewR
          rw [if_neg (by omega)]
    · obtain rfl : k = 160 := by omega
      refine go (k := ?_)
      refine XE.ret1 () [] rfl rfl trivial ?_ rfl rfl
      rw [hend (.inr rfl)]
  · obtain rfl : k = l.length := by omega
    refine go (k := ?_)
    refine XE.ret1 () [] rfl rfl trivial ?_ rfl rfl
    rw [hend (.inl (Nat.le_refl _))]
theorem count_ok (v : Value) (l : List Tx) (s : Tx) (w : World) (hv : RowAt w v 1 l.length (strs l)) (hl : l.length ≤ 1000000) :
    Fx Try.prog 17 [v, str s] w (Pure w (iv (l.count s))) := by
  have hr : ∀ L : Heap, Rd w (ids []) L v 1 l.length (strs l) := fun L => .old hv (fun _ _ _ => by simp [X.ids])
  refine Fx.of (L0 := []) Try.func17 rfl (by kernel_rfl) Try.ntmps17 rfl (Owns.nil w) ?_
  refine XC.rdv (hr _) fun ao m hva _ _ haa => ?_
  subst hva
  refine go (k := ?_)
  refine XC.loop (α := Nat) (fun k => [(0, .slice ao l.length m), (1, str s), (5, iv ((l.take k).count s)), (6, iv k)]) (fun _ => []) (fun k => k ≤ l.length) (fun k => l.length - k) 0 [] (Nat.zero_le _) ⟨rfl, rfl, rfl, rfl, trivial⟩ rfl rfl ?_
  intro k hk
  by_cases hkl : k < l.length
  · obtain ⟨x, hx⟩ : ∃ x, l[k]? = some x := ⟨_, List.getElem?_eq_getElem hkl⟩
    obtain ⟨b1, o1, rfl⟩ : ∃ b off, ao = some ⟨b, off, none⟩ := haa.resolve_left (by omega)
    have hv1 : (strs l)[k * 1]? = some (str x) := by simp [strs, hx]
    have hc : (l.take k).count s ≤ k := Nat.le_trans List.count_le_length (by rw [List.length_take]; omega)
    have ht := take_snoc hx
    by_cases e : x = s
    · subst e
      refine go (k := ?_)
      refine XL.q (.ldRd (j := k * 1) rfl rfl rfl (hr _) (by omega) hv1) rfl ?_
      refine go (k := ?_)
      refine XE.mid (k + 1) [] ⟨by omega, by omega⟩ ⟨rfl, rfl, gi rfl ?_, rfl, trivial⟩ rfl rfl
      rw [ht, List.count_append]; simp
    · refine go (k := ?_)
      refine XL.q (.ldRd (j := k * 1) rfl rfl rfl (hr _) (by omega) hv1) rfl ?_
      refine go (k := ?_)
      refine XE.mid (k + 1) [] ⟨by omega, by omega⟩ ⟨rfl, rfl, gi rfl ?_, rfl, trivial⟩ rfl rfl
      rw [ht, List.count_append]; simp [e]
  · obtain rfl : k = l.length := by omega
    refine go (k := ?_)
    refine XE.ret1 () [] rfl rfl trivial ?_ rfl rfl
    rw [List.take_length]
end Go.X
