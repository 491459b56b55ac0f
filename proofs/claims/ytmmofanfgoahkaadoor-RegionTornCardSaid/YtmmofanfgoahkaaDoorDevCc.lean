/- Package device: plain facts that more than one law needs; Write of any block. -/
import Derived.Test.YtmmofanfgoahkaaDoorDevC
namespace Go.X
open Go Go.Proofs
theorem rep_ok (n : Nat) : Oks (List.replicate n slot0) := fun s hs => by rw [(List.mem_replicate.1 hs).2]; exact slot0_ok
theorem zbytes_len (n : Nat) : (zbytes n).length = n := List.length_replicate
theorem rep_at {n k : Nat} (h : k < n) : (List.replicate n slot0)[k]? = some slot0 := by rw [List.getElem?_replicate, if_pos h]
theorem settled_fresh (F : Nat → Nat) (ds : List Slot) (k : Nat) : freshL (settled F ds) k = [] := by
  unfold freshL
  have : (List.range k).filter (fun i => ((settled F ds)[i]?.map (·.fresh)).getD false) = [] := by
    rw [List.filter_eq_nil_iff]
    intro i _
    rw [settled_at]
    cases h : ds[i]? with
    | none => simp
    | some s =>
      simp only [Option.map_some, Option.getD_some]
      cases hf : s.fresh <;> simp [hf]
  rw [this]; rfl
/-- Write, of any block and any bytes -/
def dwr (ds : List Slot) (k : Int) (s : List UInt8) : Int × List Slot := if ds.length = 0 then (1, ds) else if k < 0 ∨ ds.length ≤ k then (2, ds) else if 64 < s.length then (3, ds) else (0, ds.set k.toNat ⟨(ds.getD k.toNat slot0).firm, padTo s, true⟩)
theorem dwr_len (ds : List Slot) (k : Int) (s : List UInt8) : (dwr ds k s).2.length = ds.length := by
  unfold dwr
  split
  · rfl
  · split
    · rfl
    · split
      · rfl
      · simp
theorem dwr_ok {ds : List Slot} (h : Oks ds) (k : Int) (s : List UInt8) : Oks (dwr ds k s).2 := by
  unfold dwr
  split
  · exact h
  · split
    · exact h
    · split
      · exact h
      · rename_i h0 h1 h2
        refine h.set ⟨?_, padTo_len (by omega)⟩
        rw [List.getD_eq_getElem?_getD]
        cases hd : ds[k.toNat]? with
        | none => exact slot0_ok.1
        | some x => exact (h x (List.mem_of_getElem? hd)).1
theorem write_any (b : Nat) (lv : Value) (ds : List Slot) (k : Int) (s : List UInt8) (w : World) (hk : Oks ds) (hn : 0 < ds.length) (ho : Owns w [devE b lv ds]) :
    Fx Tryd.prog 22 [ptr b, iv k, str s] w (Ret w [devE b lv ds] (fun _ : Unit => iv (dwr ds k s).1) (fun _ => [devE b lv (dwr ds k s).2]) (fun _ => True)) := by
  have hG := ho.grp (.head _)
  by_cases h1 : k < 0 ∨ ds.length ≤ k
  · have e : dwr ds k s = (2, ds) := by unfold dwr; rw [if_neg (by omega), if_pos h1]
    rw [e]
    refine Fx.keep ho (write_err (ptr b) k 2 s w (by decide) fun w' hk' => dat_err b lv ds k 2 w' hk ?_ (hG.of_kept hk' fun _ _ h => by cases h))
    unfold errAt; rw [if_neg (by omega), if_pos h1]
  · obtain ⟨j, rfl⟩ : ∃ j : Nat, k = j := ⟨k.toNat, by omega⟩
    by_cases h2 : 64 < s.length
    · have e : dwr ds j s = (3, ds) := by unfold dwr; rw [if_neg (by omega), if_neg h1, if_pos h2]
      rw [e]
      exact Fx.keep ho (write_long b lv ds j s w hk (by omega) h2 hG)
    · obtain ⟨x, hx⟩ : ∃ x, ds[j]? = some x := ⟨_, List.getElem?_eq_getElem (by omega)⟩
      have e : dwr ds j s = (0, ds.set j ⟨x.firm, padTo s, true⟩) := by
        unfold dwr; rw [if_neg (by omega), if_neg h1, if_neg h2, Int.toNat_natCast, List.getD_eq_getElem?_getD, hx]; rfl
      rw [e]
      exact Fx.grp (fun ho => write_ok b lv ds j x s w hk hx (by omega) ho) ho
def DInv (ds : List Slot) : Prop := ∀ s ∈ ds, s.fresh = false → s.read = s.firm
theorem rep_inv (n : Nat) : DInv (List.replicate n slot0) := fun s hs _ => by rw [(List.mem_replicate.1 hs).2]; rfl
theorem settled_mem {F : Nat → Nat} {ds : List Slot} {s : Slot} (hs : s ∈ settled F ds) : ∃ i x, ds[i]? = some x ∧ s = if x.fresh = true then ⟨torn F (nF ds i) x, torn F (nF ds i) x, false⟩ else x := by
  obtain ⟨i, hi⟩ := List.getElem?_of_mem hs
  rw [settled_at] at hi
  cases hd : ds[i]? with
  | none => rw [hd] at hi; cases hi
  | some x => rw [hd] at hi; exact ⟨i, x, hd, (Option.some.inj hi).symm⟩
theorem settled_inv (F : Nat → Nat) {ds : List Slot} (h : DInv ds) : DInv (settled F ds) := by
  intro s hs hf
  obtain ⟨i, x, hx, rfl⟩ := settled_mem hs
  by_cases e : x.fresh = true
  · rw [if_pos e]
  · rw [if_neg e] at hf ⊢; exact h x (List.mem_of_getElem? hx) hf
theorem settled_nf {F : Nat → Nat} {ds : List Slot} : ∀ s ∈ settled F ds, s.fresh = false := by
  intro s hs
  obtain ⟨i, x, _, rfl⟩ := settled_mem hs
  by_cases e : x.fresh = true
  · rw [if_pos e]
  · rw [if_neg e]; simpa using e
theorem settled_none {F : Nat → Nat} {ds : List Slot} (h : ∀ s ∈ ds, s.fresh = false) : settled F ds = ds := by
  apply List.ext_getElem?
  intro i
  rw [settled_at]
  cases hd : ds[i]? with
  | none => rfl
  | some x => simp [h x (List.mem_of_getElem? hd)]
theorem dwr_inv {ds : List Slot} (h : DInv ds) (k : Int) (s : List UInt8) : DInv (dwr ds k s).2 := by
  unfold dwr
  split
  · exact h
  · split
    · exact h
    · split
      · exact h
      · intro x hx hf
        rcases List.mem_or_eq_of_mem_set hx with hx | hx
        · exact h x hx hf
        · rw [hx] at hf; cases hf
theorem nF_freshL {ds : List Slot} : ∀ k, k ≤ ds.length → (freshL ds k).length = nF ds k
  | 0, _ => rfl
  | k + 1, h => by
    obtain ⟨s, hs⟩ : ∃ s, ds[k]? = some s := ⟨_, List.getElem?_eq_getElem (by omega)⟩
    rw [freshL_snoc hs, nF_snoc hs, List.length_append, nF_freshL k (by omega)]
    split <;> rfl
end Go.X
