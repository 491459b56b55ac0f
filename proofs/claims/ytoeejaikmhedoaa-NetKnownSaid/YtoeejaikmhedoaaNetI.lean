/- NetFair: plain laws. -/
import Derived.Test.YtoeejaikmhedoaaNetH
namespace Go.X
open Go Go.Proofs Go.RowKit
abbrev low3 (a : Int) : Int := bitsOp .and .i64 a 7
theorem low3_eq (a : Int) : low3 a = ((BitVec.ofInt 64 a &&& 7#64).toNat : Int) := by
  have h : (BitVec.ofInt 64 a &&& 7#64).toNat ≤ 7 := by rw [BitVec.toNat_and]; exact Nat.and_le_right
  show IntKind.i64.wrap (((BitVec.ofInt 64 a &&& BitVec.ofInt 64 7).toNat : Nat) : Int) = _
  exact wrap_in (by simp only [inR]; have : (BitVec.ofInt 64 a &&& BitVec.ofInt 64 7).toNat ≤ 7 := h; omega)
theorem low3_bd (a : Int) : 0 ≤ low3 a ∧ low3 a ≤ 7 := by
  rw [low3_eq]
  have h : (BitVec.ofInt 64 a &&& 7#64).toNat ≤ 7 := by rw [BitVec.toNat_and]; exact Nat.and_le_right
  omega
theorem low3_id {f : Nat} (h : f < 8) : low3 (f : Int) = f := by
  rcases (by omega : f = 0 ∨ f = 1 ∨ f = 2 ∨ f = 3 ∨ f = 4 ∨ f = 5 ∨ f = 6 ∨ f = 7) with rfl | rfl | rfl | rfl | rfl | rfl | rfl | rfl <;> rfl
def byt (a : Int) : UInt8 := UInt8.ofNat (low3 a).toNat
theorem byt_cell (a : Int) : Value.int .u8 (low3 a) = .int .u8 ((byt a).toNat : Int) := by
  have h := low3_bd a
  congr 1
  unfold byt
  rw [UInt8.toNat_ofNat']; omega
/-- what marks a way -/
def hd (f t : Nat) : Tx := [UInt8.ofNat f, UInt8.ofNat t]
theorem byt_nat {f : Nat} (h : f < 8) : byt (f : Int) = UInt8.ofNat f := by unfold byt; rw [low3_id h, Int.toNat_natCast]
theorem ofNat_inj8 {f g : Nat} (hf : f < 8) (hg : g < 8) (h : UInt8.ofNat f = UInt8.ofNat g) : f = g := by
  have := congrArg UInt8.toNat h
  rw [UInt8.toNat_ofNat', UInt8.toNat_ofNat'] at this; omega
theorem hd_inj {f t f' t' : Nat} {s s' : Tx} (hf : f < 8) (ht : t < 8) (hf' : f' < 8) (ht' : t' < 8) (h : hd f t ++ s = hd f' t' ++ s') : f = f' ∧ t = t' ∧ s = s' := by
  unfold hd at h
  simp only [List.cons_append, List.nil_append, List.cons.injEq] at h
  exact ⟨ofNat_inj8 hf hf' h.1, ofNat_inj8 ht ht' h.2.1, h.2.2⟩
def kf (fa : Int) : Nat := if fa = 0 then 0 else if fa = 2 ∨ fa = 5 then 2 else 1
theorem wput_count (p : Nat × List Tx) (k : Nat) (s x : Tx) : (wput p k s).2.count x ≤ p.2.count x + if x = s then 1 else 0 := by
  unfold wput
  split
  · exact Nat.le_add_right _ _
  · simp only [List.count_append, List.count_cons]
    have e : p.2.count x = (p.2.take k).count x + (p.2.drop k).count x := by rw [← List.count_append, List.take_append_drop]
    rw [e]
    by_cases h : x = s
    · subst h; simp; omega
    · rw [if_neg h, if_neg (by simpa using fun e => h e.symm)]; omega
theorem wpost_count (fa : Int) (h0 : 0 ≤ fa) (h5 : fa ≤ 5) (s x : Tx) (p : Nat × List Tx) : (wpost fa s p).2.count x ≤ p.2.count x + if x = s then kf fa else 0 := by
  have h := fun q k => wput_count q k s x
  have h1 := h p p.2.length
  have h2 := h (wput p p.2.length s) (wput p p.2.length s).2.length
  have h3 := h (wput p p.2.length s) 0
  have h4 := h p 0
  have h6 := h p (p.2.length - 1)
  rcases (by omega : fa = 0 ∨ fa = 1 ∨ fa = 2 ∨ fa = 3 ∨ fa = 4 ∨ fa = 5) with rfl | rfl | rfl | rfl | rfl | rfl
  · exact Nat.le_add_right _ _
  · exact h1
  · show (wput _ _ s).2.count x ≤ _ + if x = s then 2 else 0
    split at h2 <;> split at h1 <;> split <;> first | omega | contradiction
  · exact h4
  · exact h6
  · show (wput _ _ s).2.count x ≤ _ + if x = s then 2 else 0
    split at h3 <;> split at h1 <;> split <;> first | omega | contradiction
theorem wput_mem (p : Nat × List Tx) (k : Nat) (s x : Tx) (h : x ∈ (wput p k s).2) : x ∈ p.2 ∨ x = s := by
  unfold wput at h
  split at h
  · exact .inl h
  · rcases List.mem_append.1 h with h | h
    · exact .inl (List.mem_of_mem_take h)
    · rcases List.mem_cons.1 h with h | h
      · exact .inr h
      · exact .inl (List.mem_of_mem_drop h)
theorem wpost_mem (fa : Int) (s x : Tx) (p : Nat × List Tx) (h : x ∈ (wpost fa s p).2) : x ∈ p.2 ∨ x = s := by
  have g2 : ∀ k k', x ∈ (wput (wput p k s) k' s).2 → x ∈ p.2 ∨ x = s := fun k k' h => (wput_mem _ _ _ _ h).elim (wput_mem _ _ _ _) .inr
  unfold wpost at h
  split at h
  · exact .inl h
  · split at h
    · exact wput_mem _ _ _ _ h
    · split at h
      · exact g2 _ _ h
      · split at h
        · exact wput_mem _ _ _ _ h
        · split at h
          · exact wput_mem _ _ _ _ h
          · exact g2 _ _ h
/-- nothing is taken that was not posted -/
structure FI (ps : List Wy) (po ta : List Tx) : Prop where
  nw : NW ps
  txt : ∀ f t, f < 8 → t < 8 → ∀ s ∈ wl ps f t, s.length ≤ 4096
  bal : ∀ f t, f < 8 → t < 8 → ∀ s, ta.count (hd f t ++ s) + (wl ps f t).count s ≤ po.count (hd f t ++ s)
  form : ∀ y ∈ ta, ∃ f t s, f < 8 ∧ t < 8 ∧ y = hd f t ++ s
theorem NW.set {ps : List Wy} (h : NW ps) {f t : Nat} (hf : f < 8) (ht : t < 8) (hne : f ≠ t) (v : Value) {xs : List Tx} (hx : xs.length ≤ 64) : NW (ps.set (f * 8 + t) (v, xs)) where
  len := by rw [List.length_set]; exact h.len
  diag := fun g hg => by
    rw [wl_set ps ht hg (by rw [h.len]; omega), if_neg (by omega)]; exact h.diag g hg
  le := fun g u => by
    have e : g * 8 + u = (g + u / 8) * 8 + u % 8 := by omega
    have e2 : wl (ps.set (f * 8 + t) (v, xs)) g u = wl (ps.set (f * 8 + t) (v, xs)) (g + u / 8) (u % 8) := by unfold wl; rw [e]
    rw [e2, wl_set ps ht (Nat.mod_lt _ (by decide)) (by rw [h.len]; omega)]
    split
    · exact hx
    · exact h.le _ _
theorem NW.zero : NW ps0 where
  len := List.length_replicate
  diag := fun f hf => by
    unfold wl; rw [List.getElem?_replicate, if_pos (by omega)]; rfl
  le := fun f t => by
    unfold wl; rw [List.getElem?_replicate]; split <;> exact Nat.zero_le _
theorem wl_zero (f t : Nat) : wl ps0 f t = [] := by unfold wl; rw [List.getElem?_replicate]; split <;> rfl
theorem FI.zero : FI ps0 [] [] where
  nw := NW.zero
  txt := fun f t _ _ s hs => by rw [wl_zero] at hs; cases hs
  bal := fun f t _ _ s => by rw [wl_zero]; exact Nat.le_refl _
  form := fun y hy => by cases hy
def padd (fa : Int) (y : Tx) : List Tx := List.replicate (kf fa) y
theorem FI.post {ps : List Wy} {po ta : List Tx} (h : FI ps po ta) {f t : Nat} (hf : f < 8) (ht : t < 8) (hne : f ≠ t) {fa : Int} (h0 : 0 ≤ fa) (h5 : fa ≤ 5) {s : Tx} (hs : s.length ≤ 4096) (lost : Nat) (v : Value) :
    FI (ps.set (f * 8 + t) (v, (wpost fa s (lost, wl ps f t)).2)) (po ++ padd fa (hd f t ++ s)) ta where
  nw := h.nw.set hf ht hne v (wpost_le (h.nw.le f t) fa s)
  txt := fun g u hg hu x hx => by
    rw [wl_set ps ht hu (by rw [h.nw.len]; omega)] at hx
    split at hx
    · rcases wpost_mem _ _ _ _ hx with hx | rfl
      · exact h.txt f t hf ht x hx
      · exact hs
    · exact h.txt g u hg hu x hx
  bal := fun g u hg hu x => by
    rw [wl_set ps ht hu (by rw [h.nw.len]; omega), List.count_append]
    have hb := h.bal g u hg hu x
    by_cases e : g = f ∧ u = t
    · obtain ⟨rfl, rfl⟩ := e
      rw [if_pos ⟨rfl, rfl⟩]
      have hc := wpost_count fa h0 h5 s x (lost, wl ps g u)
      unfold padd
      rw [List.count_replicate]
      by_cases ex : x = s
      · subst ex; rw [if_pos rfl] at hc; simp; simp only at hc; omega
      · rw [if_neg ex] at hc; simp only at hc; omega
    · rw [if_neg e]; omega
  form := h.form
theorem FI.take {ps : List Wy} {po ta : List Tx} (h : FI ps po ta) {f t : Nat} (hf : f < 8) (ht : t < 8) (hne : f ≠ t) {y : Tx} {tl : List Tx} (hy : wl ps f t = y :: tl) (v : Value) :
    FI (ps.set (f * 8 + t) (v, tl)) po (ta ++ [hd f t ++ y]) where
  nw := h.nw.set hf ht hne v (by have := h.nw.le f t; rw [hy] at this; simp only [List.length_cons] at this; omega)
  txt := fun g u hg hu x hx => by
    rw [wl_set ps ht hu (by rw [h.nw.len]; omega)] at hx
    split at hx
    · exact h.txt f t hf ht x (by rw [hy]; exact .tail _ hx)
    · exact h.txt g u hg hu x hx
  bal := fun g u hg hu x => by
    rw [wl_set ps ht hu (by rw [h.nw.len]; omega), List.count_append, List.count_singleton]
    have hb := h.bal g u hg hu x
    by_cases e : g = f ∧ u = t
    · obtain ⟨rfl, rfl⟩ := e
      rw [if_pos (show g = g ∧ u = u from ⟨rfl, rfl⟩)]
      rw [hy, List.count_cons] at hb
      by_cases ex : y = x
      · subst ex; simp at hb ⊢; omega
      · rw [if_neg (by simpa using ex)] at hb
        rw [if_neg (show ¬ ((hd g u ++ y == hd g u ++ x) = true) by
          simp only [beq_iff_eq]
          intro e2
          exact ex (hd_inj hf ht hf ht e2).2.2)]
        omega
    · rw [if_neg e, if_neg (by
        simp only [beq_iff_eq]
        intro e2
        have := hd_inj hf ht hg hu e2
        exact e ⟨this.1.symm, this.2.1.symm⟩)]
      omega
  form := fun z hz => by
    rcases List.mem_append.1 hz with hz | hz
    · exact h.form z hz
    · exact ⟨f, t, y, hf, ht, List.mem_singleton.1 hz⟩
theorem FI.cut {ps : List Wy} {po ta : List Tx} (h : FI ps po ta) {r : Nat} (hr : r < 8) (lost : Nat) : FI (ccut r (lost, ps) (wall ps 8)).2 po ta where
  nw := ccut_nw hr h.nw (wall_in8 (Nat.le_refl _))
  txt := fun f t hf ht s hs => by
    rw [ccut_wl hr ht _ _ h.nw.len (wall_in8 (Nat.le_refl _))] at hs
    split at hs
    · cases hs
    · exact h.txt f t hf ht s hs
  bal := fun f t hf ht s => by
    rw [ccut_wl hr ht _ _ h.nw.len (wall_in8 (Nat.le_refl _))]
    have hb := h.bal f t hf ht s
    split
    · simp only [List.count_nil]; omega
    · exact hb
  form := h.form
theorem FI.fin {ps : List Wy} {po ta : List Tx} (h : FI ps po ta) {y : Tx} (hy : y ∈ ta) : ta.count y ≤ po.count y := by
  obtain ⟨f, t, s, hf, ht, rfl⟩ := h.form y hy
  have := h.bal f t hf ht s
  omega
end Go.X
