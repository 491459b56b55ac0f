/- The reference of package net (revertref29): plain laws; Waits, may, put. -/
import Derived.Test.YtoeejaikmhedoaaNetF
namespace Go.X
open Go Go.Proofs
abbrev Lt := Nat × Nat × Tx
def ltc (x : Lt) : List Value := [iv x.1, iv x.2.1, str x.2.2]
def ltcs (l : List Lt) : List Value := l.flatMap ltc
theorem ltcs_len : ∀ l, (ltcs l).length = l.length * 3
  | [] => rfl
  | a :: l => by
    have := ltcs_len l
    unfold ltcs at this ⊢
    simp only [List.flatMap_cons, List.length_append, this, List.length_cons, ltc, List.length_nil]; omega
theorem ltcs_one (l : List Lt) : (ltcs l).all Value.oneCell' = true := by
  induction l with
  | nil => rfl
  | cons a l ih => unfold ltcs at ih ⊢; rw [List.flatMap_cons, List.all_append, ih]; rfl
theorem ltcs_app (a b : List Lt) : ltcs (a ++ b) = ltcs a ++ ltcs b := List.flatMap_append
theorem ltcs_at : ∀ {l : List Lt} {i : Nat} {a : Lt}, l[i]? = some a → (ltcs l)[i * 3]? = some (iv a.1) ∧ (ltcs l)[i * 3 + 1]? = some (iv a.2.1) ∧ (ltcs l)[i * 3 + 2]? = some (str a.2.2)
  | [], i, p, h => by simp at h
  | q :: l, 0, p, h => by simp at h; subst h; exact ⟨rfl, rfl, rfl⟩
  | q :: l, i + 1, p, h => by
    have := ltcs_at (l := l) (i := i) (by simpa using h)
    rw [show (i + 1) * 3 = i * 3 + 1 + 1 + 1 by omega]
    exact this
theorem ltcs_take : ∀ (l : List Lt) (i : Nat), (ltcs l).take (i * 3) = ltcs (l.take i)
  | l, 0 => by simp [ltcs]
  | [], i + 1 => by simp [ltcs]
  | a :: l, i + 1 => by
    rw [List.take_succ_cons, show (i + 1) * 3 = i * 3 + 1 + 1 + 1 by omega]
    show (ltc a ++ ltcs l).take (i * 3 + 1 + 1 + 1) = ltc a ++ ltcs (l.take i)
    rw [← ltcs_take l i]; rfl
theorem ltcs_drop : ∀ (l : List Lt) (i : Nat), (ltcs l).drop (i * 3) = ltcs (l.drop i)
  | l, 0 => by simp
  | [], i + 1 => by simp [ltcs]
  | a :: l, i + 1 => by
    rw [List.drop_succ_cons, show (i + 1) * 3 = i * 3 + 1 + 1 + 1 by omega, ← ltcs_drop l i]; rfl
def same (f t : Nat) (x : Lt) : Bool := decide (x.1 = f ∧ x.2.1 = t)
/-- what waits on a way, in its order -/
def wof (L : List Lt) (f t : Nat) : List Tx := (L.filter (same f t)).map (·.2.2)
theorem wof_cons (x : Lt) (L : List Lt) (f t : Nat) : wof (x :: L) f t = if x.1 = f ∧ x.2.1 = t then x.2.2 :: wof L f t else wof L f t := by
  unfold wof
  rw [List.filter_cons]
  by_cases h : x.1 = f ∧ x.2.1 = t <;> simp [same, h]
theorem wof_app (a b : List Lt) (f t : Nat) : wof (a ++ b) f t = wof a f t ++ wof b f t := by unfold wof; rw [List.filter_append, List.map_append]
/-- where a message is put, behind so many others of its way -/
def rpos (f t : Nat) : List Lt → Nat → Nat
  | [], _ => 0
  | x :: L, b => if x.1 = f ∧ x.2.1 = t then (if b = 0 then 0 else rpos f t L (b - 1) + 1) else rpos f t L b + 1
theorem rpos_le (f t : Nat) : ∀ (L : List Lt) (b : Nat), rpos f t L b ≤ L.length
  | [], _ => Nat.le_refl _
  | x :: L, b => by
    unfold rpos
    split
    · split
      · exact Nat.zero_le _
      · have := rpos_le f t L (b - 1); rw [List.length_cons]; omega
    · have := rpos_le f t L b; rw [List.length_cons]; omega
/-- inserted at a place -/
def rins (L : List Lt) (p : Nat) (m : Lt) : List Lt := L.take p ++ [m] ++ L.drop p
theorem rins_wof (f t : Nat) (s : Tx) : ∀ (L : List Lt) (b : Nat), wof (rins L (rpos f t L b) (f, t, s)) f t = (wof L f t).take b ++ s :: (wof L f t).drop b
  | [], b => by simp [rins, rpos, wof, same]
  | x :: L, b => by
    unfold rpos
    by_cases h : x.1 = f ∧ x.2.1 = t
    · rw [if_pos h]
      by_cases hb : b = 0
      · subst hb
        rw [if_pos rfl]
        unfold rins
        rw [List.take_zero, List.drop_zero, List.nil_append, List.singleton_append, wof_cons, if_pos ⟨rfl, rfl⟩]
        simp
      · rw [if_neg hb]
        have ih := rins_wof f t s L (b - 1)
        obtain ⟨c, rfl⟩ : ∃ c, b = c + 1 := ⟨b - 1, by omega⟩
        rw [Nat.add_sub_cancel] at ih ⊢
        unfold rins at ih ⊢
        rw [List.take_succ_cons, List.drop_succ_cons, List.cons_append, List.cons_append, wof_cons, if_pos h, ih, wof_cons, if_pos h, List.take_succ_cons, List.drop_succ_cons, List.cons_append]
    · rw [if_neg h]
      have ih := rins_wof f t s L b
      unfold rins at ih ⊢
      rw [List.take_succ_cons, List.drop_succ_cons, List.cons_append, List.cons_append, wof_cons, if_neg h, ih, wof_cons, if_neg h]
theorem rins_other (f t f' t' : Nat) (s : Tx) (p : Nat) (L : List Lt) (h : ¬ (f' = f ∧ t' = t)) : wof (rins L p (f, t, s)) f' t' = wof L f' t' := by
  unfold rins
  rw [wof_app, wof_app, wof_cons, if_neg (by simp only; omega)]
  show wof (L.take p) f' t' ++ [] ++ _ = _
  rw [List.append_nil, ← wof_app, List.take_append_drop]
abbrev rnG (br : Nat) (n : Int) (gone : Nat) (rv : Value) (L : List Lt) : Heap := [.blk br [iv n, iv gone, rv] 46, .sl rv 76 3 (ltcs L)]
theorem may29_ok (br : Nat) (n : Int) (cs : List Value) (t : TypeId) (fz : Nat × Nat) (x y : Int) (w : World) (hb : w.heap[br]? = some (.cells (iv n :: cs).toArray t fz)) : Fx Try.prog 43 [ptr br, iv x, iv y] w (Pure w (.bool (decide (okw n x y)))) := by
  refine Fx.of (L0 := []) Try.func43 rfl (by kernel_rfl) Try.ntmps43 rfl (Owns.nil w) ?_
  have hB : br ∉ ids ([] : Heap) := by simp [X.ids]
  have h0 : (iv n :: cs)[0 + 0]? = some (iv n) := rfl
  have hfin : ∀ {p : Prop} [Decidable p] (_ : p ↔ okw n x y), Value.bool (decide p) = .bool (decide (okw n x y)) := fun h => congrArg _ (decide_eq_decide.2 h)
  by_cases h1 : 0 ≤ x
  · by_cases h2 : 0 ≤ y
    · by_cases h3 : x < n
      · by_cases h4 : y < n
        · refine go (k := ?_)
          refine XE.ret1 () [] rfl rfl trivial ?_ rfl rfl
          exact hfin (by unfold okw; omega)
        · refine go (k := ?_)
          refine XE.ret1 () [] rfl rfl trivial ?_ rfl rfl
          rw [decide_eq_false (show ¬ okw n x y by unfold okw; omega)]
      · refine go (k := ?_)
        refine XE.ret1 () [] rfl rfl trivial ?_ rfl rfl
        rw [decide_eq_false (show ¬ okw n x y by unfold okw; omega)]
    · refine go (k := ?_)
      refine XE.ret1 () [] rfl rfl trivial ?_ rfl rfl
      rw [decide_eq_false (show ¬ okw n x y by unfold okw; omega)]
  · refine go (k := ?_)
    refine XE.ret1 () [] rfl rfl trivial ?_ rfl rfl
    rw [decide_eq_false (show ¬ okw n x y by unfold okw; omega)]
def rcnt (L : List Lt) (x y : Int) : Nat := (L.filter fun l => decide ((l.1 : Int) = x ∧ (l.2.1 : Int) = y)).length
theorem rcnt_nat (L : List Lt) (f t : Nat) : rcnt L f t = (wof L f t).length := by
  unfold rcnt wof same
  rw [List.length_map]
  congr 1
  exact List.filter_congr fun x _ => decide_eq_decide.2 (by omega)
theorem rcnt_snoc {L : List Lt} {k : Nat} {l : Lt} (h : L[k]? = some l) (x y : Int) : rcnt (L.take (k + 1)) x y = rcnt (L.take k) x y + if (l.1 : Int) = x ∧ (l.2.1 : Int) = y then 1 else 0 := by
  unfold rcnt
  rw [take_snoc h, List.filter_append, List.length_append]
  congr 1
  by_cases e : (l.1 : Int) = x ∧ (l.2.1 : Int) = y <;> simp [e]
theorem rcnt_le (L : List Lt) (x y : Int) : rcnt L x y ≤ L.length := List.length_filter_le _ _
theorem rwaits_ok (br : Nat) (n : Int) (gone : Nat) (rv : Value) (L : List Lt) (x y : Int) (w : World) (hl : L.length ≤ 100000) (ho : Owns w (rnG br n gone rv L)) :
    Fx Try.prog 20 [ptr br, iv x, iv y] w (Pure w (iv (rcnt L x y))) := by
  have hb : w.heap[br]? = some (.cells [iv n, iv gone, rv].toArray _ (0, 0)) := ho.ok _ (.head _)
  have hB : br ∉ ids ([] : Heap) := by simp [X.ids]
  have hrow : RowAt w rv 3 L.length (ltcs L) := (ho.ok _ (.tail _ (.head _)) : SlOk w rv _ 3 _).rowAt (by decide) (ltcs_len L).symm
  have hr : ∀ H : Heap, Rd w (ids []) H rv 3 L.length (ltcs L) := fun H => .old hrow (fun _ _ _ => by simp [X.ids])
  clear ho
  refine Fx.of (L0 := []) Try.func20 rfl (by kernel_rfl) Try.ntmps20 rfl (Owns.nil w) ?_
  refine XC.rdv (hr _) fun ao m hva _ _ haa => ?_
  subst hva
  have c2 : [iv n, iv gone, Value.slice ao L.length m][0 + 2]? = some (Value.slice ao L.length m) := rfl
  refine go (k := ?_)
  refine XC.loop (α := Nat) (fun k => [(0, ptr br), (1, iv x), (2, iv y), (7, iv (rcnt (L.take k) x y)), (8, iv k)]) (fun _ => []) (fun k => k ≤ L.length) (fun k => L.length - k) 0 [] (Nat.zero_le _) ⟨rfl, rfl, rfl, rfl, rfl, trivial⟩ rfl rfl ?_
  intro k hk
  by_cases hkl : k < L.length
  · obtain ⟨l, hl'⟩ : ∃ l, L[k]? = some l := ⟨_, List.getElem?_eq_getElem hkl⟩
    obtain ⟨b1, o1, rfl⟩ : ∃ b off, ao = some ⟨b, off, none⟩ := haa.resolve_left (by omega)
    obtain ⟨d1, d2, d3⟩ := ltcs_at hl'
    have hsn := rcnt_snoc hl' x y
    have hle : rcnt (L.take k) x y ≤ k := Nat.le_trans (rcnt_le _ _ _) (by rw [List.length_take]; omega)
    by_cases h1 : (l.1 : Int) = x
    · by_cases h2 : (l.2.1 : Int) = y
      · rw [if_pos ⟨h1, h2⟩] at hsn
        refine go (k := ?_)
        refine XL.q (.ldRd (j := k * 3) rfl rfl rfl (hr _) (by omega) d1) rfl ?_
        refine go (k := ?_)
        refine XL.q (.ldRd (j := k * 3 + 1) rfl rfl rfl (hr _) (by omega) d2) rfl ?_
        refine go (k := ?_)
        exact XE.mid (k + 1) [] ⟨by omega, by omega⟩ ⟨rfl, rfl, rfl, gi rfl (by omega), rfl, trivial⟩ rfl rfl
      · rw [if_neg (fun h => h2 h.2)] at hsn
        refine go (k := ?_)
        refine XL.q (.ldRd (j := k * 3) rfl rfl rfl (hr _) (by omega) d1) rfl ?_
        refine go (k := ?_)
        refine XL.q (.ldRd (j := k * 3 + 1) rfl rfl rfl (hr _) (by omega) d2) rfl ?_
        refine go (k := ?_)
        exact XE.mid (k + 1) [] ⟨by omega, by omega⟩ ⟨rfl, rfl, rfl, gi rfl (by omega), rfl, trivial⟩ rfl rfl
    · rw [if_neg (fun h => h1 h.1)] at hsn
      refine go (k := ?_)
      refine XL.q (.ldRd (j := k * 3) rfl rfl rfl (hr _) (by omega) d1) rfl ?_
      refine go (k := ?_)
      exact XE.mid (k + 1) [] ⟨by omega, by omega⟩ ⟨rfl, rfl, rfl, gi rfl (by omega), rfl, trivial⟩ rfl rfl
  · obtain rfl : k = L.length := by omega
    refine go (k := ?_)
    refine XE.ret1 () [] rfl rfl trivial ?_ rfl rfl
    rw [List.take_length]
end Go.X
