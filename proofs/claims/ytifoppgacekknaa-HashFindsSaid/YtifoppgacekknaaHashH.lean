/- Lengths: the index's and the reference's. -/
import Derived.Test.YtifoppgacekknaaHashG
namespace Go.X
open Go Go.Proofs
theorem items_len : ∀ (ps : Ixs) (i : Nat), (itemsFrom ps i).length = (ps.map fun p => p.2.length).sum
  | [], _ => rfl
  | p :: ps, i => by simp only [itemsFrom, List.length_append, List.length_map, items_len ps (i + 1), List.map_cons, List.sum_cons]
theorem HRel.map {ps : Ixs} {rl : List (Nat × Int)} (h : HRel ps rl) : ps.map (·.2) = (List.range 16).map fun j => ofB j rl := by
  apply List.ext_getElem?
  intro j
  by_cases hj : j < 16
  · obtain ⟨v, hv⟩ := h.at_ j hj
    rw [List.getElem?_map, hv, List.getElem?_map, List.getElem?_range hj]; rfl
  · rw [List.getElem?_eq_none (by rw [List.length_map, h.n]; omega), List.getElem?_eq_none (by simp; omega)]
theorem sum_ofB : ∀ (N : Nat) (rl : List (Nat × Int)), (∀ p ∈ rl, p.1 < N) → ((List.range N).map fun j => (ofB j rl).length).sum = rl.length
  | N, [], _ => by
    have : ∀ l : List Nat, (l.map fun j => (ofB j ([] : List (Nat × Int))).length).sum = 0 := fun l => by
      induction l with
      | nil => rfl
      | cons x l ih => simp only [List.map_cons, List.sum_cons, ih]; rfl
    exact this _
  | N, p :: rl, h => by
    have ih := sum_ofB N rl (fun q hq => h q (.tail _ hq))
    have hp := h p (.head _)
    have e1 : ∀ j, (ofB j (p :: rl)).length = (ofB j rl).length + if p.1 = j then 1 else 0 := fun j => by
      by_cases e : p.1 = j <;> simp [ofB, e]
    have key : ∀ M, ((List.range M).map fun j => (ofB j (p :: rl)).length).sum = ((List.range M).map fun j => (ofB j rl).length).sum + if p.1 < M then 1 else 0 := fun M => by
      induction M with
      | zero => rfl
      | succ M ihM =>
        rw [List.range_succ, List.map_append, List.map_append, List.sum_append, List.sum_append, ihM]
        simp only [List.map_cons, List.map_nil, List.sum_cons, List.sum_nil, e1]
        by_cases h1 : p.1 < M
        · rw [if_pos h1, if_neg (by omega), if_pos (by omega)]; omega
        · by_cases h2 : p.1 = M
          · rw [if_neg h1, if_pos h2, if_pos (by omega)]; omega
          · rw [if_neg h1, if_neg h2, if_neg (by omega)]; omega
    rw [key, ih, if_pos hp]; rfl
theorem HRel.len {ps : Ixs} {rl : List (Nat × Int)} (h : HRel ps rl) : (itemsFrom ps 0).length = rl.length := by
  rw [items_len, show (ps.map fun p => p.2.length) = (ps.map (·.2)).map List.length by simp, h.map, List.map_map]
  exact sum_ofB 16 rl h.lt
theorem HRel.small {ps : Ixs} {rl : List (Nat × Int)} (h : HRel ps rl) {N : Nat} (hN : rl.length ≤ N) : ∀ p ∈ ps, p.2.length ≤ N := by
  intro p hp
  obtain ⟨j, hj⟩ := List.getElem?_of_mem hp
  have hlt : j < 16 := by have := (List.getElem?_eq_some_iff.1 hj).1; rw [h.n] at this; exact this
  obtain ⟨v, hv⟩ := h.at_ j hlt
  rw [hj] at hv
  cases hv
  exact Nat.le_trans (ofB_len _ _) hN
end Go.X
