/- Laws of region: lists of acts; few. -/
import Derived.Test.YtmmofanfgoahkaaDoorRegN
namespace Go.X
open Go Go.Proofs Go.RowKit
structure RAct where
  what : Int
  s : List UInt8
  gen : Int
  at_ : Int
  n : Int
instance : Inhabited RAct := ⟨⟨0, [], 0, 0, 0⟩⟩
def racell (a : RAct) : List Value := [.int .u8 a.what, str a.s, .int .u32 a.gen, iv a.at_, iv a.n]
def racells (l : List RAct) : List Value := l.flatMap racell
structure RActOk (a : RAct) : Prop where
  what : 0 ≤ a.what ∧ a.what ≤ 255
  s : a.s.length ≤ maxLen
  gen : 0 ≤ a.gen ∧ a.gen ≤ 4294967295
  at_ : -9223372036854775808 ≤ a.at_ ∧ a.at_ ≤ 9223372036854775807
  n : -9223372036854775808 ≤ a.n ∧ a.n ≤ 9223372036854775807
theorem racells_at : ∀ {l : List RAct} {i : Nat} {a : RAct}, l[i]? = some a → (racells l)[i * 5]? = some (.int .u8 a.what) ∧ (racells l)[i * 5 + 1]? = some (str a.s) ∧ (racells l)[i * 5 + 2]? = some (.int .u32 a.gen) ∧ (racells l)[i * 5 + 3]? = some (iv a.at_) ∧ (racells l)[i * 5 + 4]? = some (iv a.n)
  | [], i, p, h => by simp at h
  | q :: l, 0, p, h => by simp at h; subst h; exact ⟨rfl, rfl, rfl, rfl, rfl⟩
  | q :: l, i + 1, p, h => by
    have := racells_at (l := l) (i := i) (by simpa using h)
    rw [show (i + 1) * 5 = i * 5 + 1 + 1 + 1 + 1 + 1 by omega]
    exact this
theorem racts_of {H : Type} {enc : TypeId × Value → H} {w : World} {spare : Nat → Bool} {held : Bool} {v : Value} (h : KOk enc Tryd.prog w 0 spare held (.sl 53) v) :
    ∃ l : List RAct, RowAt w v 5 l.length (racells l) ∧ l.length ≤ maxLen ∧ ∀ a ∈ l, RActOk a :=
  rows_of racell (Q := RActOk) (by decide) (by kernel_rfl) (fun cs fuel x hl h => by
    obtain ⟨c0, c1, c2, c3, c4, rfl⟩ := len5 hl
    have hf := flat_ok 3 (l := [(0, .int .u8), (1, .str), (2, .int .u32), (3, .int .i64), (4, .int .i64)]) (by kernel_rfl) h
    obtain ⟨_, e0, n0, rfl, b0⟩ := hf (0, .int .u8) (.head _)
    obtain ⟨_, e1, s1, rfl, b1⟩ := hf (1, .str) (.tail _ (.head _))
    obtain ⟨_, e2, n2, rfl, b2⟩ := hf (2, .int .u32) (.tail _ (.tail _ (.head _)))
    obtain ⟨_, e3, n3, rfl, b3⟩ := hf (3, .int .i64) (.tail _ (.tail _ (.tail _ (.head _))))
    obtain ⟨_, e4, n4, rfl, b4⟩ := hf (4, .int .i64) (.tail _ (.tail _ (.tail _ (.tail _ (.head _)))))
    obtain rfl := Option.some.inj e0
    obtain rfl := Option.some.inj e1
    obtain rfl := Option.some.inj e2
    obtain rfl := Option.some.inj e3
    obtain rfl := Option.some.inj e4
    exact ⟨⟨n0, s1.data.toList, n2, n3, n4⟩, rfl, ⟨wf_u8 b0, b1, wf_u32 b2, wf_i64 b3, wf_i64 b4⟩⟩) h
def fewG : Nat → List RAct → Bool
  | _, [] => true
  | left, a :: l => if 5000 < a.s.length ∨ left < a.s.length then false else fewG (left - a.s.length) l
def fewR (l : List RAct) : Bool := fewG 20000 (l.take 60) && decide (l.length ≤ 50)
theorem fewG_spec : ∀ (l : List RAct) (left : Nat), fewG left l = true → ∀ a ∈ l, a.s.length ≤ 5000
  | [], _, _, a, h => by cases h
  | b :: l, left, hf, a, ha => by
    unfold fewG at hf
    split at hf
    · cases hf
    · rename_i hb
      rcases List.mem_cons.1 ha with rfl | ha
      · omega
      · exact fewG_spec l _ hf a ha
theorem fewR_spec {l : List RAct} (h : fewR l = true) : (∀ a ∈ l, a.s.length ≤ 5000) ∧ l.length ≤ 50 := by
  simp only [fewR, Bool.and_eq_true, decide_eq_true_eq] at h
  refine ⟨fun a ha => fewG_spec _ _ h.1 a ?_, h.2⟩
  rw [List.take_of_length_le (by omega)]; exact ha
theorem fewR_ok (v : Value) (l : List RAct) (w : World) (hv : RowAt w v 5 l.length (racells l)) (hl : l.length ≤ maxLen) (hs : ∀ a ∈ l, RActOk a) :
    Fx Tryd.prog 21 [v] w (Pure w (.bool (fewR l))) := by
  have hr : ∀ L : Heap, Rd w (ids []) L v 5 l.length (racells l) := fun L => .old hv (fun _ _ _ => by simp [X.ids])
  simp only [maxLen] at hl
  refine Fx.of (L0 := []) Tryd.func21 rfl (by kernel_rfl) Tryd.ntmps21 rfl (Owns.nil w) ?_
  refine XC.rdv (hr _) fun ao m hva _ _ haa => ?_
  subst hva
  refine go (k := ?_)
  refine XC.loop (α := Nat × Nat) (fun y => [(0, .slice ao l.length m), (3, iv y.2), (4, iv y.1)]) (fun _ => []) (fun y => y.1 ≤ l.length ∧ y.1 ≤ 60 ∧ y.2 ≤ 20000 ∧ fewG 20000 (l.take 60) = fewG y.2 ((l.take 60).drop y.1)) (fun y => l.length - y.1) (0, 20000) [] ⟨Nat.zero_le _, Nat.zero_le _, Nat.le_refl _, by simp⟩ ⟨rfl, rfl, rfl, trivial⟩ rfl rfl ?_
  rintro ⟨k, left⟩ ⟨hk, hk60, hlf, hpre⟩
  simp only at hk hk60 hlf hpre ⊢
  have hfin : (k = 60 ∨ k = l.length) → fewR l = decide ((l.length : Int) ≤ 50) := by
    intro h
    unfold fewR
    rw [hpre, List.drop_of_length_le (by rw [List.length_take]; omega)]
    simp only [fewG, Bool.true_and]
    exact decide_eq_decide.2 (by omega)
  by_cases hkl : k < l.length
  · obtain ⟨a, ha⟩ : ∃ a, l[k]? = some a := ⟨_, List.getElem?_eq_getElem hkl⟩
    obtain ⟨b1, o1, rfl⟩ : ∃ b off, ao = some ⟨b, off, none⟩ := haa.resolve_left (by omega)
    obtain ⟨_, c1, _⟩ := racells_at ha
    have hok := hs a (List.mem_of_getElem? ha)
    have hsl := hok.s
    simp only [maxLen] at hsl
    by_cases h60 : k < 60
    · have hdr : (l.take 60).drop k = a :: (l.take 60).drop (k + 1) := by
        have hlt : k < (l.take 60).length := by rw [List.length_take]; omega
        rw [List.drop_eq_getElem_cons hlt]
        congr 1
        have := (List.getElem?_eq_some_iff.1 ha).2
        rw [List.getElem_take]; exact this
      rw [hdr, fewG] at hpre
      by_cases hlong : 5000 < a.s.length
      · rw [if_pos (.inl hlong)] at hpre
        have hf : fewR l = false := by unfold fewR; rw [hpre]; rfl
        rw [hf]
        refine go (k := ?_)
        refine XL.q (.ldRd (j := k * 5 + 1) rfl rfl rfl (hr _) (by omega) c1) rfl ?_
        refine go (k := ?_)
        exact XE.ret1 () [] rfl rfl trivial rfl rfl rfl
      · by_cases hleft : left < a.s.length
        · rw [if_pos (.inr hleft)] at hpre
          have hf : fewR l = false := by unfold fewR; rw [hpre]; rfl
          rw [hf]
          refine go (k := ?_)
          refine XL.q (.ldRd (j := k * 5 + 1) rfl rfl rfl (hr _) (by omega) c1) rfl ?_
          refine go (k := ?_)
          refine XL.q (.ldRd (j := k * 5 + 1) rfl rfl rfl (hr _) (by omega) c1) rfl ?_
          refine go (k := ?_)
          exact XE.ret1 () [] rfl rfl trivial rfl rfl rfl
        · rw [if_neg (by omega)] at hpre
          refine go (k := ?_)
          refine XL.q (.ldRd (j := k * 5 + 1) rfl rfl rfl (hr _) (by omega) c1) rfl ?_
          refine go (k := ?_)
          refine XL.q (.ldRd (j := k * 5 + 1) rfl rfl rfl (hr _) (by omega) c1) rfl ?_
          refine go (k := ?_)
          refine XL.q (.ldRd (j := k * 5 + 1) rfl rfl rfl (hr _) (by omega) c1) rfl ?_
          refine go (k := ?_)
          refine XE.mid (k + 1, left - a.s.length) [] ⟨⟨by simp only; omega, by simp only; omega, by simp only; omega, hpre⟩, by simp only; omega⟩ ⟨rfl, gi rfl (by omega), rfl, trivial⟩ rfl rfl
    · obtain rfl : k = 60 := by omega
      rw [hfin (.inl rfl)]
      refine go (k := ?_)
      exact XE.ret1 () [] rfl rfl trivial rfl rfl rfl
  · obtain rfl : k = l.length := by omega
    rw [hfin (.inr rfl)]
    refine go (k := ?_)
    exact XE.ret1 () [] rfl rfl trivial rfl rfl rfl
end Go.X
