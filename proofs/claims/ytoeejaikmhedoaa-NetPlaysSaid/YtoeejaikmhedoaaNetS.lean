/- NetPlays: the relation of a net and of the document's. -/
import Derived.Test.YtoeejaikmhedoaaNetQ
namespace Go.X
open Go Go.Proofs
structure RN (n : Nat) (ps : List Wy) (L : List Lt) : Prop where
  nw : NW ps
  eq : ∀ f t, f < 8 → t < 8 → wl ps f t = wof L f t
  val : ∀ x ∈ L, x.1 < n ∧ x.2.1 < n ∧ x.1 ≠ x.2.1
theorem RN.zero (n : Nat) : RN n ps0 [] := ⟨NW.zero, fun f t _ _ => by rw [wl_zero]; rfl, fun x hx => by cases hx⟩
/-- two states of one way, and of the list -/
def PQ (f t : Nat) (p : Nat × List Tx) (x : Nat × List Lt) : Prop := x.1 = p.1 ∧ wof x.2 f t = p.2
theorem PQ.put {f t : Nat} {p : Nat × List Tx} {x : Nat × List Lt} (h : PQ f t p x) (s : Tx) (b : Nat) : PQ f t (wput p b s) (rput f t s x b) := by
  obtain ⟨h1, h2⟩ := h
  unfold rput wput
  rw [h2]
  split
  · exact ⟨by simp only; rw [h1], h2⟩
  · refine ⟨h1, ?_⟩
    simp only
    rw [rins_wof, h2]
theorem wput_pos {p : Nat × List Tx} {k k' : Nat} {s : Tx} (h : p.2.length < 64 → k = k') : wput p k s = wput p k' s := by
  unfold wput
  split
  · rfl
  · rw [h (by omega)]
theorem PQ.post {f t : Nat} {p : Nat × List Tx} {x : Nat × List Lt} (h : PQ f t p x) (s : Tx) (fa : Int) : PQ f t (wpost fa s p) (rpost fa f t s x) := by
  have h2 := h.2
  unfold wpost rpost
  rw [h2]
  split
  · exact ⟨by simp only; rw [h.1], h2⟩
  · split
    · exact h.put s _
    · split
      · have := (h.put s p.2.length).put s (p.2.length + 1)
        rw [wput_pos (k' := (wput p p.2.length s).2.length) (fun hlt => by
          rw [wput_len p (Nat.le_refl _)] at hlt ⊢
          split at hlt
          · omega
          · rename_i h; rw [if_neg h])] at this
        exact this
      · split
        · exact h.put s _
        · split
          · exact h.put s _
          · exact (h.put s _).put s _
theorem rput_other (f t : Nat) (s : Tx) (x : Nat × List Lt) (b : Nat) {f' t' : Nat} (h : ¬ (f' = f ∧ t' = t)) : wof (rput f t s x b).2 f' t' = wof x.2 f' t' := by
  unfold rput; split
  · rfl
  · exact rins_other f t f' t' s _ _ h
theorem rput_mem {f t : Nat} {s : Tx} {x : Nat × List Lt} {b : Nat} {y : Lt} (h : y ∈ (rput f t s x b).2) : y ∈ x.2 ∨ y = (f, t, s) := by
  unfold rput at h; split at h
  · exact .inl h
  · unfold rins at h
    rcases List.mem_append.1 h with h | h
    · rcases List.mem_append.1 h with h | h
      · exact .inl (List.mem_of_mem_take h)
      · exact .inr (List.mem_singleton.1 h)
    · exact .inl (List.mem_of_mem_drop h)
theorem rpost_other (fa : Int) (f t : Nat) (s : Tx) (x : Nat × List Lt) {f' t' : Nat} (h : ¬ (f' = f ∧ t' = t)) : wof (rpost fa f t s x).2 f' t' = wof x.2 f' t' := by
  unfold rpost
  split
  · rfl
  · split
    · exact rput_other f t s x _ h
    · split
      · rw [rput_other f t s _ _ h, rput_other f t s _ _ h]
      · split
        · exact rput_other f t s x _ h
        · split
          · exact rput_other f t s x _ h
          · rw [rput_other f t s _ _ h, rput_other f t s _ _ h]
theorem rpost_mem {fa : Int} {f t : Nat} {s : Tx} {x : Nat × List Lt} {y : Lt} (h : y ∈ (rpost fa f t s x).2) : y ∈ x.2 ∨ y = (f, t, s) := by
  unfold rpost at h
  split at h
  · exact .inl h
  · split at h
    · exact rput_mem h
    · split at h
      · exact (rput_mem h).elim rput_mem .inr
      · split at h
        · exact rput_mem h
        · split at h
          · exact rput_mem h
          · exact (rput_mem h).elim rput_mem .inr
theorem rpost_len (fa : Int) (f t : Nat) (s : Tx) (x : Nat × List Lt) : (rpost fa f t s x).2.length ≤ x.2.length + 2 := by
  have h := fun y b => rput_len f t s y b
  have h1 := h x (wof x.2 f t).length
  unfold rpost
  split
  · exact Nat.le_add_right _ _
  · split
    · omega
    · split
      · have h2 := h (rput f t s x (wof x.2 f t).length) ((wof x.2 f t).length + 1); omega
      · split
        · have h2 := h x 0; omega
        · split
          · have h2 := h x ((wof x.2 f t).length - 1); omega
          · have h2 := h (rput f t s x (wof x.2 f t).length) 0; omega
theorem RN.post {n : Nat} {ps : List Wy} {L : List Lt} (h : RN n ps L) (hn : n ≤ 8) {f t : Nat} (hf : f < n) (ht : t < n) (hne : f ≠ t) (fa : Int) (s : Tx) (lost : Nat) (v : Value) :
    RN n (ps.set (f * 8 + t) (v, (wpost fa s (lost, wl ps f t)).2)) (rpost fa f t s (lost, L)).2 ∧ (rpost fa f t s (lost, L)).1 = (wpost fa s (lost, wl ps f t)).1 := by
  have hpq : PQ f t (wpost fa s (lost, wl ps f t)) (rpost fa f t s (lost, L)) := PQ.post ⟨rfl, (h.eq f t (by omega) (by omega)).symm⟩ s fa
  refine ⟨⟨h.nw.set (by omega) (by omega) hne v (wpost_le (h.nw.le f t) fa s), fun g u hg hu => ?_, fun x hx => ?_⟩, hpq.1⟩
  · rw [wl_set ps (by omega) hu (by rw [h.nw.len]; omega)]
    by_cases e : g = f ∧ u = t
    · obtain ⟨rfl, rfl⟩ := e
      rw [if_pos ⟨rfl, rfl⟩]; exact hpq.2.symm
    · rw [if_neg e, rpost_other fa f t s _ e]; exact h.eq g u hg hu
  · rcases rpost_mem hx with hx | rfl
    · exact h.val x hx
    · exact ⟨hf, ht, hne⟩
theorem RN.take {n : Nat} {ps : List Wy} {L : List Lt} (h : RN n ps L) (hn : n ≤ 8) {f t : Nat} (hf : f < n) (ht : t < n) (hne : f ≠ t) (v : Value) : RN n (ps.set (f * 8 + t) (v, (wl ps f t).tail)) (rdel f t L) := by
  refine ⟨h.nw.set (by omega) (by omega) hne v (by have := h.nw.le f t; rw [List.length_tail]; omega), fun g u hg hu => ?_, fun x hx => h.val x (rdel_mem hx)⟩
  rw [wl_set ps (by omega) hu (by rw [h.nw.len]; omega)]
  by_cases e : g = f ∧ u = t
  · obtain ⟨rfl, rfl⟩ := e
    rw [if_pos ⟨rfl, rfl⟩, rdel_wof, h.eq g u hg hu]
  · rw [if_neg e, rdel_other f t g u e]; exact h.eq g u hg hu
/-! ### Cut -/
def sumw (F : Nat → Nat) : Nat → Nat
  | 0 => 0
  | j + 1 => sumw F j + F j
theorem row_lost {r : Nat} (hr : r < 8) (ps : List Wy) (f : Nat) (hf : f < 8) (x : Nat × List Wy) (hx : x.2.length = 64) (hxr : wl x.2 f r = wl ps f r) : ∀ t, t ≤ 8 → (ccut r x (wrow ps f t)).1 = x.1 + if r < t then (wl ps f r).length else 0
  | 0, _ => by rw [if_neg (by omega)]; rfl
  | t + 1, ht => by
    have ih := row_lost hr ps f hf x hx hxr t (by omega)
    have h8 : In8 (wrow ps f t) := fun p hp => by have := wrow_mem.1 hp; omega
    rw [wrow_snoc]
    by_cases hz : nz ps f t = true
    · rw [if_pos hz, ccut_snoc]
      unfold cstep
      by_cases e : t = r
      · subst e
        rw [if_pos rfl, if_pos (by omega)]
        rw [if_neg (by omega)] at ih
        simp only
        rw [ih, ccut_wl hr hr _ _ hx h8, if_neg (fun h => by have := (wrow_mem.1 h.2).2.1; simp only at this; omega), hxr]; rfl
      · rw [if_neg (by simpa using e), ih]
        by_cases h2 : r < t
        · rw [if_pos h2, if_pos (by omega)]
        · rw [if_neg h2, if_neg (by omega)]
    · rw [if_neg hz, List.append_nil, ih]
      by_cases e : t = r
      · subst e
        have : (wl ps f t).length = 0 := by
          have h : ¬ 0 < (wl ps f t).length := fun h => hz (decide_eq_true h)
          omega
        rw [if_neg (by omega), if_pos (by omega), this]
      · by_cases h2 : r < t
        · rw [if_pos h2, if_pos (by omega)]
        · rw [if_neg h2, if_neg (by omega)]
theorem pre_lost {r n : Nat} (hr : r < n) (hn : n ≤ 8) (lost : Nat) (ps : List Wy) (hl : ps.length = 64) : ∀ j, j ≤ n → (ccut r (lost, ps) (wpre ps n j)).1 = lost + sumw (fun f => (wl ps f r).length) j
  | 0, _ => rfl
  | j + 1, hj => by
    have ih := pre_lost hr hn lost ps hl j (by omega)
    have h8 : In8 (wpre ps n j) := fun p hp => by have := wpre_mem.1 hp; omega
    have e : ccut r (lost, ps) (wpre ps n j ++ wrow ps j n) = ccut r (ccut r (lost, ps) (wpre ps n j)) (wrow ps j n) := by unfold ccut; rw [List.foldl_append]
    rw [wpre_snoc, e, row_lost (by omega) ps j (by omega) _ ((ccut_len r _ _).trans hl) (by
      rw [ccut_wl (by omega) (by omega) _ _ hl h8, if_neg (fun h => by have := (wpre_mem.1 h.2).1; simp only at this; omega)]) n hn, if_pos hr, ih]
    show _ = lost + (sumw (fun f => (wl ps f r).length) j + (wl ps j r).length)
    rw [Nat.add_assoc]
theorem sumw_add (F G : Nat → Nat) : ∀ j, sumw (fun f => F f + G f) j = sumw F j + sumw G j
  | 0 => rfl
  | j + 1 => by unfold sumw; rw [sumw_add F G j]; omega
theorem sumw_one (a : Nat) (c : Bool) : ∀ j, sumw (fun f => if a = f ∧ c = true then 1 else 0) j = if a < j ∧ c = true then 1 else 0
  | 0 => by rw [if_neg (by omega)]; rfl
  | j + 1 => by
    unfold sumw; rw [sumw_one a c j]
    cases c
    · simp
    · by_cases h1 : a < j
      · rw [if_pos ⟨h1, rfl⟩, if_neg (by omega), if_pos ⟨by omega, rfl⟩]
      · by_cases h2 : a = j
        · rw [if_neg (by omega), if_pos ⟨h2, rfl⟩, if_pos ⟨by omega, rfl⟩]
        · rw [if_neg (by omega), if_neg (by omega), if_neg (by omega)]
theorem sumw_zero : ∀ j, sumw (fun _ => 0) j = 0
  | 0 => rfl
  | j + 1 => by unfold sumw; rw [sumw_zero j]
theorem sum_wof {n : Nat} (r : Nat) : ∀ L : List Lt, (∀ x ∈ L, x.1 < n) → sumw (fun f => (wof L f r).length) n = rcutn r L
  | [], _ => sumw_zero n
  | x :: L, h => by
    have ih := sum_wof r L (fun y hy => h y (.tail _ hy))
    have e : (fun f => (wof (x :: L) f r).length) = fun f => (wof L f r).length + if x.1 = f ∧ decide (x.2.1 = r) = true then 1 else 0 := by
      funext f
      rw [wof_cons]
      by_cases h1 : x.1 = f ∧ x.2.1 = r
      · rw [if_pos h1, if_pos ⟨h1.1, decide_eq_true h1.2⟩]; rfl
      · rw [if_neg h1, if_neg (fun h2 => h1 ⟨h2.1, of_decide_eq_true h2.2⟩)]; rfl
    rw [e, sumw_add, ih, sumw_one]
    have hx := h x (.head _)
    unfold rcutn
    rw [List.filter_cons]
    by_cases h2 : x.2.1 = r
    · simp [h2, hx]
    · simp [h2]
theorem sumw_congr {F G : Nat → Nat} : ∀ {j : Nat}, (∀ f, f < j → F f = G f) → sumw F j = sumw G j
  | 0, _ => rfl
  | j + 1, h => by unfold sumw; rw [sumw_congr (fun f hf => h f (by omega)), h j (by omega)]
theorem rcut_wof (r f t : Nat) (L : List Lt) : wof (rcut r L) f t = if t = r then [] else wof L f t := by
  unfold rcut wof
  rw [List.filter_filter]
  by_cases h : t = r
  · rw [if_pos h]
    have : (L.filter fun x => same f t x && decide (x.2.1 ≠ r)) = [] := by
      rw [List.filter_eq_nil_iff]
      intro x _ hx
      simp only [same, Bool.and_eq_true, decide_eq_true_eq] at hx
      omega
    rw [this]; rfl
  · rw [if_neg h]
    congr 1
    refine List.filter_congr fun x _ => ?_
    simp only [same]
    by_cases h1 : x.1 = f ∧ x.2.1 = t
    · simp [h1]; omega
    · simp [h1]
theorem wof_out {n : Nat} {L : List Lt} (h : ∀ x ∈ L, x.1 < n ∧ x.2.1 < n ∧ x.1 ≠ x.2.1) {f t : Nat} (hf : n ≤ f ∨ n ≤ t) : wof L f t = [] := by
  unfold wof
  have : L.filter (same f t) = [] := by
    rw [List.filter_eq_nil_iff]
    intro x hx hs
    have := h x hx
    simp only [same, decide_eq_true_eq] at hs
    omega
  rw [this]; rfl
theorem RN.cut {n : Nat} {ps : List Wy} {L : List Lt} (h : RN n ps L) (hn : n ≤ 8) {r : Nat} (hr : r < n) (lost : Nat) : RN n (ccut r (lost, ps) (wall ps n)).2 (rcut r L) ∧ (ccut r (lost, ps) (wall ps n)).1 = lost + rcutn r L := by
  refine ⟨⟨ccut_nw (by omega) h.nw (wall_in8 hn), fun f t hf ht => ?_, fun x hx => h.val x (List.mem_filter.1 hx).1⟩, ?_⟩
  · rw [ccut_wl (by omega) ht _ _ h.nw.len (wall_in8 hn), rcut_wof]
    by_cases e : t = r
    · rw [if_pos e]
      subst e
      by_cases h2 : (f, t) ∈ wall ps n
      · rw [if_pos ⟨rfl, h2⟩]
      · rw [if_neg (fun h3 => h2 h3.2)]
        by_cases hfn : f < n
        · have : ¬ 0 < (wl ps f t).length := fun h3 => h2 (wpre_mem.2 ⟨hfn, hr, decide_eq_true h3⟩)
          exact List.eq_nil_of_length_eq_zero (show (wl ps f t).length = 0 by omega)
        · rw [h.eq f t hf ht]; exact wof_out h.val (.inl (by omega))
    · rw [if_neg e, if_neg (fun h3 => e h3.1)]; exact h.eq f t hf ht
  · rw [pre_lost hr hn lost ps h.nw.len n (Nat.le_refl _), ← sum_wof r L (fun x hx => (h.val x hx).1)]
    congr 1
    exact sumw_congr fun f hf => by rw [h.eq f r (by omega) (by omega)]
theorem rcnt_wcnt {n : Nat} {ps : List Wy} {L : List Lt} (h : RN n ps L) (hn : n ≤ 8) (x y : Int) : rcnt L x y = if okw n x y then (wl ps x.toNat y.toNat).length else 0 := by
  by_cases hw : okw n x y
  · rw [if_pos hw]
    obtain ⟨⟨h1, h2⟩, ⟨h3, h4⟩, _⟩ := hw
    obtain ⟨f, rfl⟩ : ∃ f : Nat, x = f := ⟨x.toNat, by omega⟩
    obtain ⟨t, rfl⟩ : ∃ t : Nat, y = t := ⟨y.toNat, by omega⟩
    rw [rcnt_nat, Int.toNat_natCast, Int.toNat_natCast, h.eq f t (by omega) (by omega)]
  · rw [if_neg hw]
    unfold rcnt
    have : (L.filter fun l => decide ((l.1 : Int) = x ∧ (l.2.1 : Int) = y)) = [] := by
      rw [List.filter_eq_nil_iff]
      intro l hl hs
      have := h.val l hl
      simp only [decide_eq_true_eq] at hs
      exact hw (by unfold okw; omega)
    rw [this]; rfl
end Go.X
