/- Plain laws for package hash: buckets, lists of ids. -/
import Derived.Test.YtiofmbiapngnmaaMore
namespace Go.X
open Go
def bterm (c : UInt8) (i : Nat) : Nat := c.toNat * (i % 7 * 2 + 1)
def bsum : List UInt8 → Nat → Nat
  | [], _ => 0
  | c :: l, i => bterm c i + bsum l (i + 1)
def bucket (l : List UInt8) : Nat := (l.length + bsum l 0) % 16
theorem bterm_le (c : UInt8) (i : Nat) : bterm c i ≤ 3315 := by
  have h1 : c.toNat ≤ 255 := by have := c.toNat_lt; omega
  have h2 : i % 7 * 2 + 1 ≤ 13 := by omega
  exact Nat.mul_le_mul h1 h2
theorem bsum_snoc (l : List UInt8) (c : UInt8) : ∀ i, bsum (l ++ [c]) i = bsum l i + bterm c (i + l.length) := by
  induction l with
  | nil => intro i; simp [bsum]
  | cons d l ih => intro i; simp only [List.cons_append, bsum, ih, List.length_cons]; rw [show i + 1 + l.length = i + (l.length + 1) by omega]; omega
theorem bsum_le (l : List UInt8) : ∀ i, bsum l i ≤ 3315 * l.length := by
  induction l with
  | nil => intro i; simp [bsum]
  | cons d l ih => intro i; simp only [bsum, List.length_cons]; have := bterm_le d i; have := ih (i + 1); omega
theorem bucket_lt (l : List UInt8) : bucket l < 16 := Nat.mod_lt _ (by decide)
theorem htake_snoc {α : Type} {l : List α} {k : Nat} {c : α} (h : l[k]? = some c) : l.take (k + 1) = l.take k ++ [c] := by
  have hlt := (List.getElem?_eq_some_iff.1 h).1
  rw [List.take_succ_eq_append_getElem hlt, (List.getElem?_eq_some_iff.1 h).2]
theorem hbyte_lt (c : UInt8) : (0 : Int) ≤ c.toNat ∧ (c.toNat : Int) ≤ 255 := by have := c.toNat_lt; omega
section
variable {α : Type} [DecidableEq α]
/-- where an id stands -/
def idxOf (x : α) : List α → Int
  | [] => -1
  | y :: l => if y = x then 0 else if idxOf x l < 0 then -1 else idxOf x l + 1
theorem idxOf_lt (x : α) : ∀ l, -1 ≤ idxOf x l ∧ idxOf x l < l.length
  | [] => by simp [idxOf]
  | y :: l => by
    have := idxOf_lt x l
    simp only [idxOf, List.length_cons]
    split
    · omega
    · split <;> omega
theorem idxOf_at {x : α} : ∀ {l : List α} {k : Nat}, l[k]? = some x → x ∉ l.take k → idxOf x l = k
  | [], k, h, _ => by simp at h
  | y :: l, 0, h, _ => by simp at h; simp [idxOf, h]
  | y :: l, k + 1, h, hn => by
    simp only [List.take_succ_cons, List.mem_cons, not_or] at hn
    have := idxOf_at (by simpa using h) hn.2
    simp only [idxOf, if_neg (fun e : y = x => hn.1 e.symm), this]
    rw [if_neg (by omega)]; omega
theorem idxOf_none {x : α} : ∀ {l : List α}, x ∉ l → idxOf x l = -1
  | [], _ => rfl
  | y :: l, h => by
    simp only [List.mem_cons, not_or] at h
    simp only [idxOf, if_neg (fun e : y = x => h.1 e.symm), idxOf_none h.2]; simp
theorem idxOf_neg {x : α} : ∀ {l : List α}, idxOf x l < 0 ↔ x ∉ l
  | [] => by simp [idxOf]
  | y :: l => by
    have ih := idxOf_neg (x := x) (l := l)
    simp only [idxOf, List.mem_cons, not_or]
    by_cases h : y = x
    · simp [h]
    · rw [if_neg h]
      have hb := idxOf_lt x l
      by_cases h2 : idxOf x l < 0
      · rw [if_pos h2]; exact ⟨fun _ => ⟨fun e => h e.symm, ih.1 h2⟩, fun _ => by decide⟩
      · rw [if_neg h2]; exact ⟨fun h3 => by omega, fun h3 => absurd (ih.2 h3.2) h2⟩
/-- without the first of these -/
def del (x : α) : List α → List α
  | [] => []
  | y :: l => if y = x then l else y :: del x l
theorem erase_idx {x : α} : ∀ {l : List α} {i : Nat}, idxOf x l = i → l.eraseIdx i = del x l
  | [], i, h => by simp [idxOf] at h
  | y :: l, i, h => by
    simp only [idxOf] at h
    by_cases hy : y = x
    · rw [if_pos hy] at h
      obtain rfl : i = 0 := by omega
      simp [hy, del]
    · rw [if_neg hy] at h
      by_cases h2 : idxOf x l < 0
      · rw [if_pos h2] at h; omega
      · rw [if_neg h2] at h
        obtain ⟨k, rfl⟩ : ∃ k, i = k + 1 := ⟨i - 1, by omega⟩
        rw [List.eraseIdx_cons_succ, erase_idx (x := x) (l := l) (i := k) (by omega), del, if_neg hy]
theorem del_mem {x y : α} : ∀ {l : List α}, y ∈ del x l → y ∈ l
  | [], h => h
  | z :: l, h => by
    simp only [del] at h
    split at h
    · exact .tail _ h
    · rcases List.mem_cons.1 h with rfl | h
      · exact .head _
      · exact .tail _ (del_mem h)
theorem idxOf_mem {x : α} {l : List α} (h : x ∈ l) : ∃ i : Nat, idxOf x l = i := ⟨(idxOf x l).toNat, by
  have := idxOf_lt x l
  have h2 : ¬ idxOf x l < 0 := fun h3 => (idxOf_neg.1 h3) h
  omega⟩
end
/-! ### The reference's list and the buckets -/
def ofB (j : Nat) (rl : List (Nat × Int)) : List Int := (rl.filter (fun p => p.1 = j)).map (·.2)
theorem ofB_app (j : Nat) (rl : List (Nat × Int)) (p : Nat × Int) : ofB j (rl ++ [p]) = if p.1 = j then ofB j rl ++ [p.2] else ofB j rl := by
  unfold ofB
  by_cases h : p.1 = j <;> simp [h]
theorem ofB_mem {j : Nat} {rl : List (Nat × Int)} {x : Int} : x ∈ ofB j rl ↔ (j, x) ∈ rl := by
  unfold ofB
  simp only [List.mem_map, List.mem_filter, decide_eq_true_eq]
  constructor
  · rintro ⟨⟨a, b⟩, ⟨h1, h2⟩, h3⟩; simp only at h2 h3; rw [← h2, ← h3]; exact h1
  · exact fun h => ⟨(j, x), ⟨h, rfl⟩, rfl⟩
theorem ofB_erase (j j' : Nat) (x : Int) : ∀ rl : List (Nat × Int), ofB j' (del (j, x) rl) = if j = j' then del x (ofB j' rl) else ofB j' rl
  | [] => by simp [ofB, del]
  | (a, b) :: rl => by
    have ih := ofB_erase j j' x rl
    by_cases h : (a, b) = (j, x)
    · obtain ⟨rfl, rfl⟩ := Prod.mk.inj h
      simp only [del, if_true]
      by_cases hj : a = j'
      · simp [ofB, hj, del]
      · simp [ofB, hj]
    · simp only [del, if_neg h]
      by_cases ha : a = j'
      · have e1 : ∀ l : List (Nat × Int), ofB j' ((a, b) :: l) = b :: ofB j' l := fun l => by simp [ofB, ha]
        rw [e1, e1, ih]
        by_cases hj : j = j'
        · have hb : b ≠ x := fun e => h (by rw [e, ha, hj])
          rw [if_pos hj, if_pos hj, del, if_neg hb]
        · rw [if_neg hj, if_neg hj]
      · have e1 : ∀ l : List (Nat × Int), ofB j' ((a, b) :: l) = ofB j' l := fun l => by simp [ofB, ha]
        rw [e1, e1, ih]
abbrev ptr (b : Nat) : Value := .pointer (some ⟨b, 0, none⟩)
abbrev uv (n : Int) : Value := .int .u32 n
abbrev uvs (l : List Int) : List Value := l.map uv
theorem uvs_one (l : List Int) : (uvs l).all Value.oneCell' = true := by simp [uvs, Value.oneCell']
theorem uvs_app (l m : List Int) : uvs (l ++ m) = uvs l ++ uvs m := List.map_append
theorem uvs_len (l : List Int) : (uvs l).length = l.length := List.length_map _
end Go.X
