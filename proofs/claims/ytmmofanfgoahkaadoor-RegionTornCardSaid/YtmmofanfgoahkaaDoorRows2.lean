/- A slice that is an argument: its row. -/
import Derived.Test.YtmmofanfgoahkaaDoorArg
import Derived.Test.YtmmofanfgoahkaaDoorMore
namespace Go.X
open Go Go.RowKit
theorem flat_get {k : Nat} {f : Nat → List Value} : ∀ (n : Nat), (∀ i, i < n → (f i).length = k) → ((List.range n).flatMap f).length = n * k ∧ ∀ i j, i < n → j < k → ((List.range n).flatMap f)[i * k + j]? = (f i)[j]?
  | 0, _ => ⟨by simp, fun i j hi => by omega⟩
  | n + 1, h => by
    obtain ⟨h1, h2⟩ := flat_get (f := f) n (fun i hi => h i (by omega))
    have e : (List.range (n + 1)).flatMap f = (List.range n).flatMap f ++ f n := by rw [List.range_succ, List.flatMap_append]; simp
    rw [e]
    refine ⟨by rw [List.length_append, h1, h n (by omega), Nat.succ_mul], fun i j hi hj => ?_⟩
    by_cases hin : i = n
    · subst hin
      rw [List.getElem?_append_right (by omega), h1, Nat.add_sub_cancel_left]
    · have hlt : i * k + j < n * k := by
        have : (i + 1) * k ≤ n * k := Nat.mul_le_mul_right _ (by omega)
        rw [Nat.succ_mul] at this; omega
      rw [List.getElem?_append_left (by omega)]
      exact h2 i j (by omega) hj
theorem rowAt_of {w : World} {base : Nat} {a : Addr} {len cap k : Nat} (hk : 0 < k) (hc : len ≤ cap) (f : Nat → List Value) (h : ∀ i, i < len → w.cells? base (a.add (i * k)) k = some (f i)) :
    RowAt w (.slice (some a) len cap) k len ((List.range len).flatMap f) := by
  have hf : ∀ i, i < len → (f i).length = k ∧ ∀ j, j < k → w.cell? ((a.add (i * k)).add j) = (f i)[j]? := fun i hi => by
    obtain ⟨_, h2, h3⟩ := World.cells?_some (h i hi)
    exact ⟨h2, h3⟩
  obtain ⟨hl, hg⟩ := flat_get (f := f) (k := k) len (fun i hi => (hf i hi).1)
  refine ⟨some a, cap, rfl, hl.symm, hc, ?_⟩
  by_cases h0 : len = 0
  · exact .inl h0
  · refine .inr ?_
    obtain ⟨b, off, sp⟩ := a
    have h00 := (hf 0 (by omega)).2 0 hk
    have hz : (((⟨b, off, sp⟩ : Addr).add (0 * k)).add 0) = ⟨b, off, sp⟩ := by simp [Addr.add]
    rw [hz, List.getElem?_eq_getElem (by rw [(hf 0 (by omega)).1]; exact hk)] at h00
    have hsp := World.cell?_spot h00
    simp only at hsp
    subst hsp
    unfold World.cell? at h00
    simp only at h00
    split at h00
    · rename_i c t fz hh
      refine ⟨b, off, c.toList, t, fz, rfl, hh, ?_⟩
      have hat : ∀ i j, i < len → j < k → c.toList[off + (i * k + j)]? = (f i)[j]? := fun i j hi hj => by
        have := (hf i hi).2 j hj
        rw [add_none, add_none] at this
        have hh' : w.heap[b]? = some (.cells c.toList.toArray t fz) := by simpa using hh
        rw [cell_of hh'] at this
        rw [← this]; congr 1; omega
      have hle : off + len * k ≤ c.toList.length := by
        have hlast := hat (len - 1) (k - 1) (by omega) (by omega)
        have hin : k - 1 < (f (len - 1)).length := by rw [(hf (len - 1) (by omega)).1]; omega
        rw [List.getElem?_eq_getElem hin] at hlast
        have h1 := (List.getElem?_eq_some_iff.1 hlast).1
        have h2 : (len - 1) * k + k = len * k := by rw [← Nat.succ_mul]; congr 1; omega
        omega
      rw [hl, cut_some hle]
      congr 1
      apply List.ext_getElem?
      intro q
      by_cases hq : q < len * k
      · have hd : q = (q / k) * k + q % k := by rw [Nat.mul_comm]; exact (Nat.div_add_mod q k).symm
        have hi : q / k < len := Nat.div_lt_of_lt_mul (by rw [Nat.mul_comm]; exact hq)
        have hj : q % k < k := Nat.mod_lt _ hk
        rw [List.getElem?_take, if_pos hq, List.getElem?_drop]
        rw [hd, hg _ _ hi hj, hat _ _ hi hj]
      · rw [List.getElem?_eq_none (by rw [List.length_take, List.length_drop]; omega), List.getElem?_eq_none (by omega)]
    · cases h00
theorem flat_slice {H : Type} {enc : TypeId × Value → H} {P : Program} {w : World} {base : Nat} {spare : Nat → Bool} {held : Bool} {r : Reach} {b0 : Nat} {t e : TypeId} {v : Value} {d : DataW H} {p : List MemPlace} (ht : P.underlying t = some (.slice e))
    (hval : Value.okWide P w r b0 t v) (h : DataW.Trod enc P w base spare held t v d p) : KOk enc P w base spare held (.sl e) v := by
  obtain ⟨fuel, h⟩ := h
  have hf : flat P 1 t = some [(0, .sl e)] := by simp [flat, ht]
  have key : ∀ u, v.cells = #[u] → KOk enc P w base spare held (.sl e) u := fun u hu => by
    obtain ⟨u', h1, h2⟩ := flat_ok 1 hf h _ (.head _)
    rw [hu] at h1
    obtain rfl := Option.some.inj h1
    exact h2
  cases v <;> first | exact key _ rfl | (exfalso; simp [Value.okWide, ht, Cell.okWide, Cell.ok] at hval)
theorem pick_fn {α : Type} [Inhabited α] {Q : Nat → α → Prop} {n : Nat} (h : ∀ i, i < n → ∃ x, Q i x) : ∃ g : Nat → α, ∀ i, i < n → Q i (g i) :=
  ⟨fun i => if hi : i < n then Classical.choose (h i hi) else default, fun i hi => by simp only [dif_pos hi]; exact Classical.choose_spec (h i hi)⟩
/-- a slice argument whose elements are of one form -/
theorem rows_of {α : Type} [Inhabited α] {H : Type} {enc : TypeId × Value → H} {P : Program} {w : World} {spare : Nat → Bool} {held : Bool} {v : Value} {e : TypeId} {k : Nat} (f : α → List Value) {Q : α → Prop} (hk0 : 0 < k) (hk : P.cellsOf e = k)
    (hel : ∀ cs fuel x, cs.length = k → DataW.trod enc P w 0 spare held fuel e cs = some x → ∃ a : α, cs = f a ∧ Q a) (h : KOk enc P w 0 spare held (.sl e) v) :
    ∃ l : List α, RowAt w v k l.length (l.flatMap f) ∧ l.length ≤ maxLen ∧ ∀ a ∈ l, Q a := by
  rcases h with rfl | ⟨a, len, cap, rfl, hc, hm, _, hi⟩
  · exact ⟨[], ⟨none, 0, rfl, by simp, Nat.le_refl _, .inl rfl⟩, Nat.zero_le _, fun a ha => by cases ha⟩
  · rw [hk] at hi
    have hact : ∀ i, i < len → ∃ x : α, w.cells? 0 (a.add (i * k)) k = some (f x) ∧ Q x := by
      intro i hil
      obtain ⟨cs, fuel, y, h1, h2⟩ := hi i hil
      obtain ⟨_, hl, _⟩ := World.cells?_some h1
      obtain ⟨x, rfl, hq⟩ := hel cs fuel y hl h2
      exact ⟨x, h1, hq⟩
    obtain ⟨g, hg⟩ := pick_fn hact
    refine ⟨(List.range len).map g, ?_, by simpa using Nat.le_trans hc hm, fun x hx => ?_⟩
    · rw [List.length_map, List.length_range, List.flatMap_map]
      exact rowAt_of hk0 hc _ fun i hil => (hg i hil).1
    · obtain ⟨i, hi', rfl⟩ := List.mem_map.1 hx
      exact (hg i (List.mem_range.1 hi')).2
/-- a slice of ints -/
theorem ints_of {H : Type} {enc : TypeId × Value → H} {P : Program} {w : World} {spare : Nat → Bool} {held : Bool} {v : Value} {e : TypeId} {ik : IntKind} (he : P.underlying e = some (.int ik)) (hk : P.cellsOf e = 1) (h : KOk enc P w 0 spare held (.sl e) v) :
    ∃ l : List Int, RowAt w v 1 l.length (l.map fun n => Value.int ik n) ∧ l.length ≤ maxLen ∧ ∀ a ∈ l, (Lit.int ik a).wf = true := by
  obtain ⟨l, h1, h2, h3⟩ := rows_of (fun n : Int => [Value.int ik n]) (Q := fun a => (Lit.int ik a).wf = true) (by decide) hk (fun cs fuel x hl h => by
    obtain ⟨c0, rfl⟩ := len1 hl
    obtain ⟨n, e, _, hw⟩ := DataW.trod_int he h
    exact ⟨n, e, hw⟩) h
  refine ⟨l, ?_, h2, h3⟩
  have : l.flatMap (fun n : Int => [Value.int ik n]) = l.map fun n => Value.int ik n := by
    clear h1 h2 h3
    induction l with
    | nil => rfl
    | cons x l ih => simp only [List.flatMap_cons, List.map_cons, ih]; rfl
  rw [this] at h1
  exact h1
end Go.X
