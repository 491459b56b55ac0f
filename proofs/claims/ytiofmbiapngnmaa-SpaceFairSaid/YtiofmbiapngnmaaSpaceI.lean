/- SpaceFair: plain laws. -/
import Derived.Test.YtiofmbiapngnmaaSpaceH
namespace Go.X
open Go Go.Proofs Go.RowKit
/-- the law's own record of what is used -/
def ucs (u : Nat → Bool) (n : Nat) : List Value := (List.range n).map fun k => iv (if u k = true then 1 else 0)
theorem ucs_len (u : Nat → Bool) (n : Nat) : (ucs u n).length = n := by simp [ucs]
theorem ucs_at (u : Nat → Bool) {n k : Nat} (h : k < n) : (ucs u n)[k]? = some (iv (if u k = true then 1 else 0)) := by
  rw [ucs, List.getElem?_map, List.getElem?_range h]; rfl
theorem ucs_set (u : Nat → Bool) (n k : Nat) (b : Bool) : (ucs u n).set k (iv (if b = true then 1 else 0)) = ucs (upd u k b) n := by
  apply List.ext_getElem?
  intro i
  by_cases hi : i < n
  · rw [ucs_at _ hi]
    by_cases hk : k = i
    · subst hk; rw [List.getElem?_set_self (by rw [ucs_len]; exact hi)]; simp [upd]
    · have hk' : ¬ i = k := fun e => hk e.symm
      rw [List.getElem?_set_ne hk, ucs_at _ hi]; unfold upd; rw [if_neg hk']
  · rw [List.getElem?_eq_none (by rw [List.length_set, ucs_len]; omega), List.getElem?_eq_none (by rw [ucs_len]; omega)]
theorem ucs_zero (n : Nat) : List.replicate n (iv 0) = ucs (fun _ => false) n := by
  apply List.ext_getElem?
  intro i
  by_cases hi : i < n
  · rw [ucs_at _ hi, List.getElem?_replicate, if_pos hi]; rfl
  · rw [List.getElem?_eq_none (by simp; omega), List.getElem?_eq_none (by rw [ucs_len]; omega)]
theorem frees_on {f n k : Nat} {u : Nat → Bool} (h1 : f ≤ k) (h2 : k < n) (hu : u k = false) : (frees f n u).length = (frees f n (upd u k true)).length + 1 := by
  unfold frees
  rw [filter_one (x := k) List.nodup_range' (List.mem_range'_1.2 (by omega)) (by simp [hu])]
  congr 2
  refine List.filter_congr fun y _ => ?_
  unfold upd
  by_cases hy : y = k
  · rw [if_pos hy]; simp [hy]
  · rw [if_neg hy]; simp [hy]
theorem frees_off {f n k : Nat} {u : Nat → Bool} (h1 : f ≤ k) (h2 : k < n) (hu : u k = true) : (frees f n (upd u k false)).length = (frees f n u).length + 1 := by
  have h := frees_on (u := upd u k false) h1 h2 (by simp [upd])
  have e : upd (upd u k false) k true = u := by
    funext i
    unfold upd
    by_cases hi : i = k
    · rw [if_pos hi, hi, hu]
    · rw [if_neg hi, if_neg hi]
  rw [e] at h
  exact h
/-- what is between the space and the record -/
structure FInv (f n : Nat) (u : Nat → Bool) (c : Nat) : Prop where
  cnt : (frees f n u).length + c = n - f
  rng : ∀ k, u k = true → f ≤ k ∧ k < n
theorem FInv.zero (f n : Nat) : FInv f n (fun _ => false) 0 := ⟨by
  have : frees f n (fun _ => false) = List.range' f (n - f) := by unfold frees; exact List.filter_eq_self.2 fun _ _ => by simp
  rw [this]; simp, fun k h => by cases h⟩
theorem FInv.on {f n c k : Nat} {u : Nat → Bool} (h : FInv f n u c) (h1 : f ≤ k) (h2 : k < n) (hu : u k = false) : FInv f n (upd u k true) (c + 1) :=
  ⟨by have := frees_on h1 h2 hu; have := h.cnt; omega, fun i hi => by
    unfold upd at hi
    by_cases e : i = k
    · rw [e]; exact ⟨h1, h2⟩
    · rw [if_neg e] at hi; exact h.rng i hi⟩
theorem FInv.off {f n c k : Nat} {u : Nat → Bool} (h : FInv f n u c) (h1 : f ≤ k) (h2 : k < n) (hu : u k = true) : 0 < c ∧ FInv f n (upd u k false) (c - 1) := by
  have e := frees_off h1 h2 hu
  have hc := h.cnt
  have hle : (frees f n (upd u k false)).length ≤ n - f := by
    unfold frees; exact Nat.le_trans (List.length_filter_le _ _) (by simp)
  refine ⟨by omega, by omega, fun i hi => ?_⟩
  unfold upd at hi
  by_cases e : i = k
  · rw [if_pos e] at hi; cases hi
  · rw [if_neg e] at hi; exact h.rng i hi
/-- the used blocks, upwards -/
def useds (f k : Nat) (u : Nat → Bool) : List Int := ((List.range' f (k - f)).filter u).map Int.ofNat
theorem useds_self (f : Nat) (u : Nat → Bool) : useds f f u = [] := by simp [useds]
theorem useds_snoc {f k : Nat} (u : Nat → Bool) (h : f ≤ k) : useds f (k + 1) u = useds f k u ++ (if u k = true then [(k : Int)] else []) := by
  unfold useds
  obtain ⟨a, rfl⟩ : ∃ a, k = f + a := ⟨k - f, by omega⟩
  rw [show f + a + 1 - f = a + 1 by omega, show f + a - f = a by omega, List.range'_concat, List.filter_append, List.map_append]
  simp only [Nat.one_mul]
  by_cases hu : u (f + a) = true <;> simp [hu]
theorem useds_len (f k : Nat) (u : Nat → Bool) : (useds f k u).length ≤ k := by
  unfold useds
  rw [List.length_map]
  exact Nat.le_trans (List.length_filter_le _ _) (by simp)
theorem useds_load {f n : Nat} (u : Nat → Bool) : ∀ d, f + d ≤ n → sload f n zero (useds f (f + d) u) = some (fun i => decide (f ≤ i ∧ i < f + d) && u i)
  | 0, _ => by
    rw [Nat.add_zero, useds_self]
    refine congrArg some (funext fun i => ?_)
    have : ¬ (f ≤ i ∧ i < f) := by omega
    simp [zero, this]
  | d + 1, h => by
    have ih := useds_load (f := f) (n := n) u d (by omega)
    rw [show f + (d + 1) = f + d + 1 by omega, useds_snoc u (by omega)]
    by_cases hu : u (f + d) = true
    · rw [if_pos hu, sload_snoc, ih, Option.bind_some]
      have hs : suse f n (fun i => decide (f ≤ i ∧ i < f + d) && u i) ((f + d : Nat) : Int) = (0, upd (fun i => decide (f ≤ i ∧ i < f + d) && u i) (f + d) true) := by
        unfold suse
        rw [if_neg (by omega), Int.toNat_natCast, if_neg (by simp)]
      rw [hs, if_pos rfl]
      refine congrArg some (funext fun i => ?_)
      show upd (fun i => decide (f ≤ i ∧ i < f + d) && u i) (f + d) true i = _
      unfold upd
      by_cases hi : i = f + d
      · rw [if_pos hi, hi]; simp [hu]
      · rw [if_neg hi]
        have : (f ≤ i ∧ i < f + d) ↔ (f ≤ i ∧ i < f + d + 1) := by omega
        simp only [this]
    · rw [if_neg hu, List.append_nil, ih]
      refine congrArg some (funext fun i => ?_)
      by_cases hi : i = f + d
      · rw [hi]; simp [show u (f + d) = false by simpa using hu]
      · have : (f ≤ i ∧ i < f + d) ↔ (f ≤ i ∧ i < f + d + 1) := by omega
        simp only [this]
theorem FInv.load {f n c : Nat} {u : Nat → Bool} (h : FInv f n u c) (hfn : f ≤ n) : sload f n X.zero (useds f n u) = some u := by
  obtain ⟨d, rfl⟩ : ∃ d, n = f + d := ⟨n - f, by omega⟩
  rw [useds_load u d (Nat.le_refl _)]
  refine congrArg some (funext fun i => ?_)
  by_cases hu : u i = true
  · simp [h.rng i hu, hu]
  · simp [show u i = false by simpa using hu]
theorem stake_first {f n : Nat} {u : Nat → Bool} : stake f n u = (0, 7, u) ∧ frees f n u = [] ∨ ∃ k : Nat, stake f n u = ((k : Int), 0, upd u k true) ∧ f ≤ k ∧ k < n ∧ u k = false ∧ ∀ b, f ≤ b → b < k → u b = true := by
  cases hf : frees f n u with
  | nil => exact .inl ⟨by unfold stake; rw [hf], rfl⟩
  | cons k t =>
    refine .inr ⟨k, by unfold stake; rw [hf], ?_⟩
    have hk : k ∈ frees f n u := by rw [hf]; exact .head _
    have hk' := hk
    unfold frees at hk'
    rw [List.mem_filter, List.mem_range'_1] at hk'
    refine ⟨hk'.1.1, by omega, by simpa using hk'.2, fun b h1 h2 => ?_⟩
    cases hb : u b with
    | true => rfl
    | false =>
      have hs := frees_split u (show f ≤ k from hk'.1.1) (show k ≤ n by omega)
      have hbm : b ∈ frees f k u := by
        unfold frees; rw [List.mem_filter, List.mem_range'_1]; exact ⟨by omega, by simp [hb]⟩
      rw [hf] at hs
      cases hfk : frees f k u with
      | nil => rw [hfk] at hbm; cases hbm
      | cons x l =>
        rw [hfk] at hs
        have hx : x = k := (List.cons.inj hs).1.symm
        have : x ∈ frees f k u := by rw [hfk]; exact .head _
        unfold frees at this
        rw [List.mem_filter, List.mem_range'_1] at this
        omega
theorem ucs_spl1 (u : Nat → Bool) {n j : Nat} (h : j < n) : SplL (ucs u n) (j * 1) [iv 1] (ucs (upd u j true) n) := by
  have h1 := SplL.one (cs := ucs u n) (k := j * 1) (iv 1) (by rw [ucs_len]; omega)
  have h2 := ucs_set u n j true
  rw [if_pos rfl] at h2
  rw [show j * 1 = j by omega] at h1 ⊢
  rw [h2] at h1
  exact h1
theorem ucs_spl0 (u : Nat → Bool) {n j : Nat} (h : j < n) : SplL (ucs u n) (j * 1) [iv 0] (ucs (upd u j false) n) := by
  have h1 := SplL.one (cs := ucs u n) (k := j * 1) (iv 0) (by rw [ucs_len]; omega)
  have h2 := ucs_set u n j false
  rw [if_neg (by decide)] at h2
  rw [show j * 1 = j by omega] at h1 ⊢
  rw [h2] at h1
  exact h1
end Go.X
