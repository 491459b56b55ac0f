/- DeviceOrder: plain laws. -/
import Derived.Test.YtckelpenodabdaaDevD
import Derived.Test.YtckelpenodabdaaRows2
namespace Go.X
open Go Go.Proofs Go.RowKit
structure Page where
  at_ : Nat
  s : List UInt8
instance : Inhabited Page := ⟨⟨0, []⟩⟩
def pcells (p : Page) : List Value := [.int .u8 (p.at_ : Int), str p.s]
def pgcells (l : List Page) : List Value := l.flatMap pcells
theorem pgcells_len : ∀ l, (pgcells l).length = l.length * 2
  | [] => rfl
  | a :: l => by
    have := pgcells_len l
    unfold pgcells at this ⊢
    simp only [List.flatMap_cons, List.length_append, this, List.length_cons, pcells, List.length_nil]; omega
theorem pgcells_at : ∀ {l : List Page} {i : Nat} {a : Page}, l[i]? = some a → (pgcells l)[i * 2]? = some (.int .u8 (a.at_ : Int)) ∧ (pgcells l)[i * 2 + 1]? = some (str a.s)
  | [], i, p, h => by simp at h
  | q :: l, 0, p, h => by simp at h; subst h; exact ⟨rfl, rfl⟩
  | q :: l, i + 1, p, h => by
    have := pgcells_at (l := l) (i := i) (by simpa using h)
    rw [show (i + 1) * 2 = i * 2 + 1 + 1 by omega]
    exact this
/-- which page was the last one for a block (its number, from 1 on) -/
def LI (l : List Page) : Nat → Nat → Nat
  | 0, _ => 0
  | k + 1, p => match l[k]? with
    | some x => if x.at_ = p then k + 1 else LI l k p
    | none => LI l k p
theorem LI_le (l : List Page) : ∀ k p, LI l k p ≤ k
  | 0, _ => Nat.le_refl _
  | k + 1, p => by
    have := LI_le l k p
    simp only [LI]
    split
    · split <;> omega
    · omega
theorem LI_step {l : List Page} {k : Nat} {x : Page} (h : l[k]? = some x) (p : Nat) : LI l (k + 1) p = if x.at_ = p then k + 1 else LI l k p := by simp only [LI, h]
theorem LI_at (l : List Page) : ∀ k p j, LI l k p = j + 1 → ∃ x, l[j]? = some x ∧ x.at_ = p
  | 0, p, j, h => by cases h
  | k + 1, p, j, h => by
    simp only [LI] at h
    cases hx : l[k]? with
    | none => rw [hx] at h; exact LI_at l k p j h
    | some x =>
      rw [hx] at h
      simp only at h
      split at h
      · rename_i e
        obtain rfl : k = j := by omega
        exact ⟨x, hx, e⟩
      · exact LI_at l k p j h
def wslot (l : List Page) : Nat → Slot
  | 0 => slot0
  | j + 1 => ⟨zbytes 64, padTo (l.getD j default).s, true⟩
def Aof (l : List Page) (k : Nat) : List Slot := (List.range 256).map fun p => wslot l (LI l k p)
def Bof (l : List Page) (i : Nat) : List Slot := (List.range 256).map fun p => if i < LI l l.length p then wslot l (LI l l.length p) else slot0
theorem rng_get {α : Type} (f : Nat → α) {i : Nat} (h : i < 256) : ((List.range 256).map f)[i]? = some (f i) := by rw [List.getElem?_map, List.getElem?_range h]; rfl
theorem rng_set {α : Type} {f g : Nat → α} {i : Nat} (h : i < 256) (hg : ∀ p, p < 256 → p ≠ i → g p = f p) : ((List.range 256).map f).set i (g i) = (List.range 256).map g := by
  apply List.ext_getElem?
  intro j
  by_cases hj : j < 256
  · rw [rng_get _ hj]
    by_cases e : i = j
    · subst e; rw [List.getElem?_set_self (by rw [List.length_map, List.length_range]; exact h)]
    · rw [List.getElem?_set_ne e, rng_get _ hj, hg j hj (fun x => e x.symm)]
  · rw [List.getElem?_eq_none (by rw [List.length_set, List.length_map, List.length_range]; omega), List.getElem?_eq_none (by rw [List.length_map, List.length_range]; omega)]
theorem rng_const {α : Type} (x : α) : (List.range 256).map (fun _ => x) = List.replicate 256 x := by
  rw [List.map_const', List.length_range]
theorem Aof_zero (l : List Page) : Aof l 0 = List.replicate 256 slot0 := by unfold Aof; simp only [LI, wslot]; exact rng_const _
theorem Aof_step {l : List Page} {k : Nat} {x : Page} (h : l[k]? = some x) (hx : x.at_ < 256) : (Aof l k).set x.at_ ⟨zbytes 64, padTo x.s, true⟩ = Aof l (k + 1) := by
  have hg := rng_set (f := fun p => wslot l (LI l k p)) (g := fun p => wslot l (LI l (k + 1) p)) hx (fun p _ hp => by rw [LI_step h, if_neg (fun e => hp e.symm)])
  unfold Aof
  rw [← hg]
  congr 1
  rw [LI_step h, if_pos rfl]
  simp only [wslot, List.getD_eq_getElem?_getD, h, Option.getD_some]
theorem wslot_firm (l : List Page) (j : Nat) : (wslot l j).firm = zbytes 64 := by cases j <;> rfl
theorem Aof_at (l : List Page) (k : Nat) {p : Nat} (h : p < 256) : (Aof l k)[p]? = some (wslot l (LI l k p)) := rng_get _ h
theorem wslot_ok {l : List Page} (hl : ∀ x ∈ l, x.s.length ≤ 64) (j : Nat) : (wslot l j).ok := by
  cases j with
  | zero => exact slot0_ok
  | succ j =>
    refine ⟨zbytes_len 64, padTo_len ?_⟩
    rw [List.getD_eq_getElem?_getD]
    cases h : l[j]? with
    | none => show (0 : Nat) ≤ 64; omega
    | some x => exact hl x (List.mem_of_getElem? h)
theorem Aof_len (l : List Page) (k : Nat) : (Aof l k).length = 256 := by simp only [Aof, List.length_map, List.length_range]
theorem Bof_len (l : List Page) (k : Nat) : (Bof l k).length = 256 := by simp only [Bof, List.length_map, List.length_range]
theorem Aof_ok {l : List Page} {k : Nat} (hl : ∀ i x, i < k → l[i]? = some x → x.s.length ≤ 64) : Oks (Aof l k) := by
  intro s hs
  obtain ⟨p, _, rfl⟩ := List.mem_map.1 hs
  have hle := LI_le l k p
  cases hj : LI l k p with
  | zero => exact slot0_ok
  | succ j =>
    obtain ⟨x, hx, _⟩ := LI_at l k p j hj
    refine ⟨zbytes_len 64, padTo_len ?_⟩
    rw [List.getD_eq_getElem?_getD, hx]
    exact hl j x (by omega) hx
theorem Bof_ok {l : List Page} {i : Nat} (hl : ∀ x ∈ l, x.s.length ≤ 64) : Oks (Bof l i) := by
  intro s hs
  obtain ⟨p, _, rfl⟩ := List.mem_map.1 hs
  split
  · exact wslot_ok hl _
  · exact slot0_ok
theorem Bof_top (l : List Page) : Bof l l.length = List.replicate 256 slot0 := by
  rw [← rng_const]
  refine List.map_congr_left fun p _ => ?_
  rw [if_neg (by have := LI_le l l.length p; omega)]
theorem Bof_zero (l : List Page) : Bof l 0 = Aof l l.length := by
  refine List.map_congr_left fun p _ => ?_
  cases hj : LI l l.length p with
  | zero => rfl
  | succ j => rw [if_pos (by omega)]
theorem Bof_at (l : List Page) (i : Nat) {p : Nat} (h : p < 256) : (Bof l i)[p]? = some (if i < LI l l.length p then wslot l (LI l l.length p) else slot0) := rng_get _ h
theorem Bof_hit {l : List Page} {i : Nat} {x : Page} (h : l[i]? = some x) (hx : x.at_ < 256) (hli : LI l l.length x.at_ = i + 1) : (Bof l (i + 1)).set x.at_ ⟨zbytes 64, padTo x.s, true⟩ = Bof l i := by
  have hg := rng_set (f := fun p => if i + 1 < LI l l.length p then wslot l (LI l l.length p) else slot0) (g := fun p => if i < LI l l.length p then wslot l (LI l l.length p) else slot0) hx (fun p _ hp => by
    by_cases e : LI l l.length p = i + 1
    · obtain ⟨y, hy, hyp⟩ := LI_at l _ p i e
      rw [h] at hy
      exact absurd (hyp ▸ (Option.some.inj hy) ▸ rfl) hp
    · have : (i < LI l l.length p) ↔ (i + 1 < LI l l.length p) := by omega
      simp only [this])
  unfold Bof
  rw [← hg]
  congr 1
  rw [hli, if_pos (by omega)]
  simp only [wslot, List.getD_eq_getElem?_getD, h, Option.getD_some]
theorem Bof_miss {l : List Page} {i : Nat} {x : Page} (h : l[i]? = some x) (hli : LI l l.length x.at_ ≠ i + 1) : Bof l (i + 1) = Bof l i := by
  refine List.map_congr_left fun p _ => ?_
  by_cases e : LI l l.length p = i + 1
  · obtain ⟨y, hy, hyp⟩ := LI_at l _ p i e
    rw [h] at hy
    exact absurd (by rw [Option.some.inj hy, hyp]; exact e) hli
  · have : (i < LI l l.length p) ↔ (i + 1 < LI l l.length p) := by omega
    simp only [this]
/-- the law's own record -/
def lcells (l : List Page) (k : Nat) : List Value := (List.range 256).map fun p => iv (LI l k p)
theorem lcells_at (l : List Page) (k : Nat) {p : Nat} (h : p < 256) : (lcells l k)[p]? = some (iv (LI l k p)) := rng_get _ h
theorem lcells_len (l : List Page) (k : Nat) : (lcells l k).length = 256 := by simp only [lcells, List.length_map, List.length_range]
theorem lcells_spl {l : List Page} {k : Nat} {x : Page} (h : l[k]? = some x) (hx : x.at_ < 256) : SplL (lcells l k) (0 + x.at_ * 1) [iv ((k : Int) + 1)] (lcells l (k + 1)) := by
  have h1 := SplL.one (cs := lcells l k) (k := 0 + x.at_ * 1) (iv ((k : Int) + 1)) (by rw [lcells_len]; omega)
  have hg := rng_set (f := fun p => iv (LI l k p)) (g := fun p => iv (LI l (k + 1) p)) hx (fun p _ hp => by rw [LI_step h, if_neg (fun e => hp e.symm)])
  have e : (lcells l k).set (0 + x.at_ * 1) (iv ((k : Int) + 1)) = lcells l (k + 1) := by
    rw [show 0 + x.at_ * 1 = x.at_ by omega]
    unfold lcells
    rw [← hg, LI_step h, if_pos rfl]
    rfl
  rw [e] at h1
  exact h1
theorem lcells_zero (l : List Page) : lcells l 0 = List.replicate 256 (iv 0) := by unfold lcells; simp only [LI]; exact rng_const _
theorem settled_fresh (F : Nat → Nat) (ds : List Slot) (k : Nat) : freshL (settled F ds) k = [] := by
  unfold freshL
  have : (List.range k).filter (fun i => ((settled F ds)[i]?.map (·.fresh)).getD false) = [] := by
    rw [List.filter_eq_nil_iff]
    intro i _
    rw [settled_at]
    cases h : ds[i]? with
    | none => simp
    | some s =>
      simp only [Option.map_some, Option.getD_some]
      cases hf : s.fresh <;> simp [hf]
  rw [this]; rfl
end Go.X
