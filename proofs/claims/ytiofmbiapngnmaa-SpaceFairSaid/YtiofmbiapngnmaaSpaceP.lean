/- A space in memory: its words. -/
import Derived.Test.YtiofmbiapngnmaaBits
import Derived.Test.YtiofmbiapngnmaaTab
import Derived.Test.YtiofmbiapngnmaaHashP
namespace Go.X
open Go Go.Proofs
abbrev iv (n : Int) : Value := .int .i64 n
abbrev ivs (l : List Int) : List Value := l.map iv
theorem ivs_one (l : List Int) : (ivs l).all Value.oneCell' = true := by simp [ivs, Value.oneCell']
theorem ivs_app (l m : List Int) : ivs (l ++ m) = ivs l ++ ivs m := List.map_append
theorem ivs_len (l : List Int) : (ivs l).length = l.length := List.length_map _
abbrev Pure (w : World) (v : Value) : Ending → World → Prop := Ret w [] (fun _ : Unit => v) (fun _ => []) (fun _ => True)
/-- the word of 64 blocks -/
def swd (u : Nat → Bool) (i : Nat) : Value := .int .u64 (wbits (fun k => u (64 * i + k)) 64 : Nat)
def swds (u : Nat → Bool) (m : Nat) : List Value := (List.range m).map (swd u)
theorem swds_len (u : Nat → Bool) (m : Nat) : (swds u m).length = m := by simp [swds]
theorem swds_one (u : Nat → Bool) (m : Nat) : (swds u m).all Value.oneCell' = true := by simp [swds, swd, Value.oneCell']
theorem swds_at (u : Nat → Bool) {m i : Nat} (h : i < m) : (swds u m)[i]? = some (swd u i) := by
  rw [swds, List.getElem?_map, List.getElem?_range h]; rfl
def upd (u : Nat → Bool) (k : Nat) (b : Bool) : Nat → Bool := fun i => if i = k then b else u i
theorem wbits_congr {f g : Nat → Bool} : ∀ n, (∀ j, j < n → f j = g j) → wbits f n = wbits g n
  | 0, _ => rfl
  | n + 1, h => by simp only [wbits]; rw [wbits_congr n (fun j hj => h j (by omega)), h n (by omega)]
theorem swd_ne (u : Nat → Bool) (k i : Nat) (b : Bool) (h : ¬ k / 64 = i) : swd u i = swd (upd u k b) i := by
  unfold swd
  rw [wbits_congr (g := fun j => upd u k b (64 * i + j)) 64 (fun j hj => by unfold upd; rw [if_neg (by omega)])]
theorem upd_same {u : Nat → Bool} {k : Nat} {b : Bool} (h : u k = b) : upd u k b = u := by
  funext i
  unfold upd
  split
  · rename_i e; rw [e, h]
  · rfl
theorem swds_set (u : Nat → Bool) (m k : Nat) (b : Bool) : (swds u m).set (k / 64) (swd (upd u k b) (k / 64)) = swds (upd u k b) m := by
  apply List.ext_getElem?
  intro i
  by_cases him : i < m
  · rw [swds_at _ him]
    by_cases h : k / 64 = i
    · subst h; rw [List.getElem?_set_self (by rw [swds_len]; exact him)]
    · rw [List.getElem?_set_ne h, swds_at _ him, swd_ne u k i b h]
  · rw [List.getElem?_eq_none (by rw [List.length_set, swds_len]; omega), List.getElem?_eq_none (by rw [swds_len]; omega)]
theorem swd_on (u : Nat → Bool) (k : Nat) : bitsOp .or .u64 (wbits (fun j => u (64 * (k / 64) + j)) 64 : Nat) ((2 ^ (k % 64) : Nat) : Int) = (wbits (fun j => upd u k true (64 * (k / 64) + j)) 64 : Nat) := by
  rw [wb_or]
  refine congrArg (Nat.cast : Nat → Int) (wbits_congr 64 fun i hi => ?_)
  unfold upd
  by_cases h : i = k % 64
  · rw [if_pos (by omega)]; simp [h]
  · rw [if_neg (by omega)]; simp [h]
theorem swd_off (u : Nat → Bool) (k : Nat) : bitsOp .andNot .u64 (wbits (fun j => u (64 * (k / 64) + j)) 64 : Nat) ((2 ^ (k % 64) : Nat) : Int) = (wbits (fun j => upd u k false (64 * (k / 64) + j)) 64 : Nat) := by
  rw [wb_andNot]
  refine congrArg (Nat.cast : Nat → Int) (wbits_congr 64 fun i hi => ?_)
  unfold upd
  by_cases h : i = k % 64
  · rw [if_pos (by omega)]; simp [h]
  · rw [if_neg (by omega)]; simp [h]
theorem swd_and (u : Nat → Bool) (k : Nat) : bitsOp .and .u64 (wbits (fun j => u (64 * (k / 64) + j)) 64 : Nat) ((2 ^ (k % 64) : Nat) : Int) = (if u k = true then 2 ^ (k % 64) else 0 : Nat) := by
  rw [wb_and _ _ (Nat.mod_lt _ (by decide)), show 64 * (k / 64) + k % 64 = k from Nat.div_add_mod k 64]
theorem two_pos (k : Nat) : 0 < 2 ^ k := Nat.pos_of_ne_zero (by simp)
/-- a space's pages -/
def pgs (n : Nat) : Nat := (n - 1) / 256 + 1
theorem pgs_lt {n k : Nat} (h : k < n) : k / 256 < pgs n := by unfold pgs; omega
abbrev spB (b : Nat) (lv : Value) (f n : Nat) : Ent := .blk b [iv f, iv n, lv] 57
abbrev spS (lv : Value) (n : Nat) (u : Nat → Bool) : Ent := .sl lv 65 4 (swds u (pgs n * 4))
abbrev spG (b : Nat) (lv : Value) (f n : Nat) (u : Nat → Bool) : Heap := [spB b lv f n, spS lv n u]
/-- the free blocks, upwards -/
def frees (f n : Nat) (u : Nat → Bool) : List Nat := (List.range' f (n - f)).filter fun k => !u k
end Go.X
