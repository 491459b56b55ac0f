/- A device in memory: its slots. -/
import Derived.Test.YtmmofanfgoahkaaDoorCopy
import Derived.Test.YtmmofanfgoahkaaDoorTab
namespace Go.X
open Go Go.Proofs
abbrev iv (n : Int) : Value := .int .i64 n
abbrev ivs (l : List Int) : List Value := l.map iv
theorem ivs_one (l : List Int) : (ivs l).all Value.oneCell' = true := by simp [ivs, Value.oneCell']
theorem ivs_app (l m : List Int) : ivs (l ++ m) = ivs l ++ ivs m := List.map_append
theorem ivs_len (l : List Int) : (ivs l).length = l.length := List.length_map _
abbrev ptr (b : Nat) : Value := .pointer (some ⟨b, 0, none⟩)
abbrev Pure (w : World) (v : Value) : Ending → World → Prop := Ret w [] (fun _ : Unit => v) (fun _ => []) (fun _ => True)
theorem bcells_len (l : List UInt8) : (bcells l).length = l.length := List.length_map _
theorem bcells_one (l : List UInt8) : (bcells l).all Value.oneCell' = true := by simp [bcells, Value.oneCell']
theorem bcells_app (l m : List UInt8) : bcells (l ++ m) = bcells l ++ bcells m := List.map_append
structure Slot where
  firm : List UInt8
  read : List UInt8
  fresh : Bool
def Slot.ok (s : Slot) : Prop := s.firm.length = 64 ∧ s.read.length = 64
def slc (s : Slot) : List Value := bcells s.firm ++ (bcells s.read ++ [.bool s.fresh])
def dcs (ds : List Slot) : List Value := ds.flatMap slc
def Oks (ds : List Slot) : Prop := ∀ s ∈ ds, s.ok
theorem slc_len {s : Slot} (h : s.ok) : (slc s).length = 129 := by
  obtain ⟨h1, h2⟩ := h
  simp [slc, h1, h2]
theorem slc_one (s : Slot) : (slc s).all Value.oneCell' = true := by
  simp only [slc, List.all_append, bcells_one, Bool.true_and]; rfl
theorem dcs_one (ds : List Slot) : (dcs ds).all Value.oneCell' = true := by
  induction ds with
  | nil => rfl
  | cons s ds ih => simp only [dcs, List.flatMap_cons, List.all_append, slc_one, Bool.true_and]; exact ih
theorem dcs_cons (s : Slot) (ds : List Slot) : dcs (s :: ds) = slc s ++ dcs ds := rfl
theorem dcs_app (a b : List Slot) : dcs (a ++ b) = dcs a ++ dcs b := List.flatMap_append
theorem dcs_len : ∀ {ds : List Slot}, Oks ds → (dcs ds).length = ds.length * 129
  | [], _ => rfl
  | s :: ds, h => by
    rw [dcs_cons, List.length_append, slc_len (h s (.head _)), dcs_len (fun x hx => h x (.tail _ hx)), List.length_cons]; omega
theorem Oks.set {ds : List Slot} (h : Oks ds) {k : Nat} {s : Slot} (hs : s.ok) : Oks (ds.set k s) := fun x hx =>
  (List.mem_or_eq_of_mem_set hx).elim (h x) (fun e => e ▸ hs)
theorem Oks.take {ds : List Slot} (h : Oks ds) (k : Nat) : Oks (ds.take k) := fun x hx => h x (List.mem_of_mem_take hx)
theorem Oks.drop {ds : List Slot} (h : Oks ds) (k : Nat) : Oks (ds.drop k) := fun x hx => h x (List.mem_of_mem_drop hx)
theorem list_split {α : Type} {l : List α} {k : Nat} {x : α} (h : l[k]? = some x) : l = l.take k ++ x :: l.drop (k + 1) := by
  have hlt := (List.getElem?_eq_some_iff.1 h).1
  rw [← (List.getElem?_eq_some_iff.1 h).2, ← List.drop_eq_getElem_cons hlt, List.take_append_drop]
theorem dcs_split {ds : List Slot} (ho : Oks ds) {k : Nat} {s : Slot} (h : ds[k]? = some s) (rest : List Value) : ∃ A C, dcs ds ++ rest = A ++ (slc s ++ C) ∧ A.length = k * 129 ∧ ∀ s' : Slot, dcs (ds.set k s') ++ rest = A ++ (slc s' ++ C) := by
  have hlt := (List.getElem?_eq_some_iff.1 h).1
  refine ⟨dcs (ds.take k), dcs (ds.drop (k + 1)) ++ rest, ?_, ?_, fun s' => ?_⟩
  · conv => lhs; rw [list_split h]
    rw [dcs_app, dcs_cons, List.append_assoc, List.append_assoc]
  · rw [dcs_len (ho.take k), List.length_take, Nat.min_eq_left (by omega)]
  · rw [List.set_eq_take_append_cons_drop, if_pos hlt, dcs_app, dcs_cons, List.append_assoc, List.append_assoc]
theorem dcs_at {ds : List Slot} (ho : Oks ds) {k : Nat} {s : Slot} (h : ds[k]? = some s) (rest : List Value) {j : Nat} (hj : j < 129) : (dcs ds ++ rest)[k * 129 + j]? = (slc s)[j]? := by
  obtain ⟨A, C, e, hA, _⟩ := dcs_split ho h rest
  have hs := slc_len (ho s (List.mem_of_getElem? h))
  rw [e, List.getElem?_append_right (by omega), hA, Nat.add_sub_cancel_left, List.getElem?_append_left (by omega)]
theorem dcs_cut {ds : List Slot} (ho : Oks ds) {k : Nat} {s : Slot} (h : ds[k]? = some s) (rest : List Value) {j m : Nat} (hj : j + m ≤ 129) : cut (dcs ds ++ rest) (k * 129 + j) m = some (((slc s).drop j).take m) := by
  obtain ⟨A, C, e, hA, _⟩ := dcs_split ho h rest
  have hs := slc_len (ho s (List.mem_of_getElem? h))
  rw [e, cut_some (by simp only [List.length_append]; omega)]
  congr 1
  rw [← hA, ← List.drop_drop, List.drop_left, List.drop_append_of_le_length (by omega), List.take_append_of_le_length (by rw [List.length_drop]; omega)]
theorem SplL.left {cs cs' news : List Value} {j : Nat} (A : List Value) (h : SplL cs j news cs') : SplL (A ++ cs) (A.length + j) news (A ++ cs') := by
  obtain ⟨h1, h2⟩ := h
  refine ⟨by rw [List.length_append]; omega, ?_⟩
  rw [h2, show A.length + j + news.length = A.length + (j + news.length) by omega, List.take_length_add_append, List.drop_length_add_append]
  simp
theorem SplL.right {cs cs' news : List Value} {j : Nat} (C : List Value) (h : SplL cs j news cs') : SplL (cs ++ C) j news (cs' ++ C) := by
  obtain ⟨h1, h2⟩ := h
  refine ⟨by rw [List.length_append]; omega, ?_⟩
  rw [h2, List.take_append_of_le_length (by omega), List.drop_append_of_le_length h1]
  simp
theorem dcs_spl {ds : List Slot} (ho : Oks ds) {k : Nat} {s s' : Slot} (h : ds[k]? = some s) (rest : List Value) {j : Nat} {news : List Value} (hp : SplL (slc s) j news (slc s')) : SplL (dcs ds ++ rest) (k * 129 + j) news (dcs (ds.set k s') ++ rest) := by
  obtain ⟨A, C, e, hA, he⟩ := dcs_split ho h rest
  rw [he s', e, ← hA]
  exact (hp.right C).left A
end Go.X
