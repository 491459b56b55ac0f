/- A net in memory; plain laws. -/
import Derived.Test.YtoeejaikmhedoaaIterA
import Derived.Test.YtoeejaikmhedoaaIns
import Derived.Test.YtoeejaikmhedoaaTab
namespace Go.X
open Go Go.Proofs
abbrev iv (n : Int) : Value := .int .i64 n
abbrev ivs (l : List Int) : List Value := l.map iv
abbrev strs (l : List (List UInt8)) : List Value := l.map str
theorem strs_one (l : List (List UInt8)) : (strs l).all Value.oneCell' = true := by simp [strs, Value.oneCell']
theorem strs_app (l m : List (List UInt8)) : strs (l ++ m) = strs l ++ strs m := List.map_append
theorem strs_len (l : List (List UInt8)) : (strs l).length = l.length := List.length_map _
abbrev ptr (b : Nat) : Value := .pointer (some ⟨b, 0, none⟩)
abbrev Pure (w : World) (v : Value) : Ending → World → Prop := Ret w [] (fun _ : Unit => v) (fun _ => []) (fun _ => True)
abbrev nil0 : Value := .slice none 0 0
abbrev Tx := List UInt8
abbrev Wy := Value × List Tx
abbrev wyf (p : Wy) : Ent := .sl p.1 9 1 (strs p.2)
abbrev netCs (n : Int) (lost : Nat) (ps : List Wy) : List Value := iv n :: iv lost :: ps.map (·.1)
abbrev netB (b : Nat) (n : Int) (lost : Nat) (ps : List Wy) : Ent := .blk b (netCs n lost ps) 60
def netG (b : Nat) (n : Int) (lost : Nat) (ps : List Wy) : Heap := netB b n lost ps :: ps.map wyf
abbrev netE (b : Nat) (n : Int) (lost : Nat) (ps : List Wy) : Ent := grp (netG b n lost ps)
/-- a message put at a place, if there is room -/
def wput (p : Nat × List Tx) (k : Nat) (s : Tx) : Nat × List Tx := if 64 ≤ p.2.length then (p.1 + 1, p.2) else (p.1, p.2.take k ++ s :: p.2.drop k)
def wpost (fa : Int) (s : Tx) (p : Nat × List Tx) : Nat × List Tx :=
  if fa = 0 then (p.1 + 1, p.2) else if fa = 1 then wput p p.2.length s else if fa = 2 then wput (wput p p.2.length s) (wput p p.2.length s).2.length s
  else if fa = 3 then wput p 0 s else if fa = 4 then wput p (p.2.length - 1) s else wput (wput p p.2.length s) 0 s
theorem wput_len (p : Nat × List Tx) {k : Nat} (hk : k ≤ p.2.length) (s : Tx) : (wput p k s).2.length = if 64 ≤ p.2.length then p.2.length else p.2.length + 1 := by
  unfold wput
  split
  · rfl
  · simp only [List.length_append, List.length_take, List.length_cons, List.length_drop]; omega
theorem wput_le {p : Nat × List Tx} (h : p.2.length ≤ 64) {k : Nat} (hk : k ≤ p.2.length) (s : Tx) : (wput p k s).2.length ≤ 64 := by
  rw [wput_len p hk]; split <;> omega
theorem wpost_le {p : Nat × List Tx} (h : p.2.length ≤ 64) (fa : Int) (s : Tx) : (wpost fa s p).2.length ≤ 64 := by
  unfold wpost
  have h1 := wput_le h (Nat.le_refl _) s
  split
  · exact h
  · split
    · exact h1
    · split
      · exact wput_le h1 (Nat.le_refl _) s
      · split
        · exact wput_le h (Nat.zero_le _) s
        · split
          · exact wput_le h (Nat.sub_le _ _) s
          · exact wput_le h1 (Nat.zero_le _) s
theorem wput_lost (p : Nat × List Tx) (k : Nat) (s : Tx) : (wput p k s).1 ≤ p.1 + 1 := by
  unfold wput; split
  · exact Nat.le_refl _
  · exact Nat.le_succ _
theorem wpost_lost (fa : Int) (s : Tx) (p : Nat × List Tx) : (wpost fa s p).1 ≤ p.1 + 2 := by
  have h := fun q k => wput_lost q k s
  have h1 := h p p.2.length
  have h2 := h (wput p p.2.length s) (wput p p.2.length s).2.length
  have h3 := h (wput p p.2.length s) 0
  have h4 := h p 0
  have h5 := h p (p.2.length - 1)
  unfold wpost
  split
  · show p.1 + 1 ≤ _; omega
  · split
    · omega
    · split
      · omega
      · split
        · omega
        · split <;> omega
/-- is this a way? -/
def okw (n f t : Int) : Prop := (0 ≤ f ∧ f < n) ∧ (0 ≤ t ∧ t < n) ∧ f ≠ t
instance (n f t : Int) : Decidable (okw n f t) := by unfold okw; infer_instance
end Go.X
