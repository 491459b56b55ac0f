/- The reference of package device against the slots. -/
import Derived.Test.YtckelpenodabdaaDevS
import Derived.Test.YtckelpenodabdaaDevH
namespace Go.X
open Go Go.Proofs
def frl : List Slot → Nat → List Fr
  | [], _ => []
  | s :: ds, i => if s.fresh = true then (i, s.read) :: frl ds (i + 1) else frl ds (i + 1)
theorem frl_ge : ∀ (ds : List Slot) (i : Nat) (x : Fr), x ∈ frl ds i → i ≤ x.1 ∧ x.1 < i + ds.length
  | [], _, _, h => by simp [frl] at h
  | s :: ds, i, x, h => by
    unfold frl at h
    have := frl_ge ds (i + 1) x
    rw [List.length_cons]
    split at h
    · rcases List.mem_cons.1 h with rfl | h
      · exact ⟨Nat.le_refl _, by simp only; omega⟩
      · have := this h; omega
    · have := this h; omega
theorem nF_cons (s : Slot) (ds : List Slot) (k : Nat) : nF (s :: ds) (k + 1) = (if s.fresh = true then 1 else 0) + nF ds k := by
  unfold nF
  rw [List.take_succ_cons]
  cases hf : s.fresh
  · simp [hf]
  · simp [hf, Nat.add_comm]
theorem frl_plc : ∀ (ds : List Slot) (i k : Nat), plc (frl ds i) (i + k) = nF ds k
  | [], i, k => by simp [frl, plc, nF]
  | s :: ds, i, 0 => by
    have h : ∀ x ∈ frl (s :: ds) i, ¬ x.1 < i := fun x hx => by have := frl_ge (s :: ds) i x hx; omega
    show plc (frl (s :: ds) i) i = nF (s :: ds) 0
    generalize frl (s :: ds) i = l at h
    unfold plc nF
    cases l with
    | nil => rfl
    | cons y l => rw [List.takeWhile_cons_of_neg (by simpa using h y (.head _))]; rfl
  | s :: ds, i, k + 1 => by
    have ih := frl_plc ds (i + 1) k
    rw [nF_cons, show i + (k + 1) = i + 1 + k by omega]
    unfold frl
    split
    · unfold plc at ih ⊢
      rw [List.takeWhile_cons_of_pos (by simp; omega), List.length_cons, ih]; omega
    · rw [ih]; omega
theorem frl_at : ∀ (ds : List Slot) (i k : Nat) (s : Slot), ds[k]? = some s → s.fresh = true → (frl ds i)[nF ds k]? = some (i + k, s.read)
  | [], _, _, _, h, _ => by simp at h
  | t :: ds, i, 0, s, h, hf => by
    simp at h; subst h
    unfold frl nF; simp [hf]
  | t :: ds, i, k + 1, s, h, hf => by
    have ih := frl_at ds (i + 1) k s (by simpa using h) hf
    rw [nF_cons, show i + (k + 1) = i + 1 + k by omega]
    unfold frl
    split
    · rw [Nat.add_comm 1, List.getElem?_cons_succ]; exact ih
    · rw [Nat.zero_add]; exact ih
theorem frl_mem : ∀ (ds : List Slot) (i k : Nat) (s : Slot) (x : Fr), ds[k]? = some s → x ∈ frl ds i → x.1 = i + k → s.fresh = true
  | [], _, _, _, _, h, _, _ => by simp at h
  | t :: ds, i, 0, s, x, h, hx, he => by
    simp at h; subst h
    unfold frl at hx
    split at hx
    · assumption
    · have := frl_ge ds (i + 1) x hx; omega
  | t :: ds, i, k + 1, s, x, h, hx, he => by
    have ih := fun hx => frl_mem ds (i + 1) k s x (by simpa using h) hx (by omega)
    unfold frl at hx
    split at hx
    · rcases List.mem_cons.1 hx with rfl | hx
      · simp only at he; omega
      · exact ih hx
    · exact ih hx
theorem frl_isp (ds : List Slot) (k : Nat) (s : Slot) (h : ds[k]? = some s) : isp (frl ds 0) k = s.fresh := by
  have hp := frl_plc ds 0 k
  rw [Nat.zero_add] at hp
  unfold isp
  rw [hp]
  cases hf : s.fresh with
  | true =>
    have := frl_at ds 0 k s h hf
    rw [Nat.zero_add] at this
    rw [this]; simp
  | false =>
    cases hx : (frl ds 0)[nF ds k]? with
    | none => rfl
    | some x =>
      simp only [decide_eq_false_iff_not]
      intro he
      have := frl_mem ds 0 k s x h (List.mem_of_getElem? hx) (by omega)
      rw [hf] at this; cases this
theorem frl_len : ∀ (ds : List Slot) (i : Nat), (frl ds i).length = nF ds ds.length
  | [], _ => rfl
  | s :: ds, i => by
    rw [List.length_cons, nF_cons]
    unfold frl
    split
    · rw [List.length_cons, frl_len ds (i + 1)]; omega
    · rw [frl_len ds (i + 1)]; omega
theorem frl_set : ∀ (ds : List Slot) (i k : Nat) (s : Slot) (t : Slot), ds[k]? = some s → t.fresh = true →
    frl (ds.set k t) i = (frl ds i).take (nF ds k) ++ [(i + k, t.read)] ++ (frl ds i).drop (if s.fresh = true then nF ds k + 1 else nF ds k)
  | [], _, _, _, _, h, _ => by simp at h
  | u :: ds, i, 0, s, t, h, ht => by
    simp at h; subst h
    cases hf : u.fresh <;> simp [frl, nF, hf, ht]
  | u :: ds, i, k + 1, s, t, h, ht => by
    have ih := frl_set ds (i + 1) k s t (by simpa using h) ht
    rw [List.set_cons_succ, nF_cons]
    unfold frl
    rw [ih, show i + 1 + k = i + (k + 1) by omega]
    by_cases hu : u.fresh = true
    · simp only [if_pos hu]
      by_cases hs : s.fresh = true
      · simp only [if_pos hs, Nat.add_comm 1, List.take_succ_cons, List.drop_succ_cons, List.cons_append]
      · simp only [if_neg hs, Nat.add_comm 1, List.take_succ_cons, List.drop_succ_cons, List.cons_append]
    · simp only [if_neg hu, Nat.zero_add]
theorem frl_rwr (ds : List Slot) (k : Nat) (s : Slot) (t : List UInt8) (h : ds[k]? = some s) : rwr (frl ds 0) k t = frl (ds.set k ⟨s.firm, padTo t, true⟩) 0 := by
  have hp := frl_plc ds 0 k
  rw [Nat.zero_add] at hp
  have hs := frl_set ds 0 k s ⟨s.firm, padTo t, true⟩ h rfl
  rw [Nat.zero_add] at hs
  unfold rwr
  rw [hp, frl_isp ds k s h, hs]
theorem firm_set (ds : List Slot) (k : Nat) (s : Slot) (t : List UInt8) (h : ds[k]? = some s) : (ds.set k ⟨s.firm, padTo t, true⟩).map (·.firm) = ds.map (·.firm) := by
  rw [List.map_set]
  apply List.ext_getElem?
  intro i
  by_cases e : k = i
  · subst e
    rw [List.getElem?_set_self (by rw [List.length_map]; exact (List.getElem?_eq_some_iff.1 h).1), List.getElem?_map, h]; rfl
  · rw [List.getElem?_set_ne e]
theorem frl_rrd (ds : List Slot) (k : Nat) (s : Slot) (hd : DInv ds) (h : ds[k]? = some s) : rrd (ds.map (·.firm)) (frl ds 0) k = s.read := by
  have hp := frl_plc ds 0 k
  rw [Nat.zero_add] at hp
  unfold rrd
  rw [frl_isp ds k s h, hp]
  cases hf : s.fresh with
  | true =>
    have := frl_at ds 0 k s h hf
    rw [if_pos rfl, List.getD_eq_getElem?_getD, this]; rfl
  | false =>
    rw [if_neg (by decide), List.getD_eq_getElem?_getD, List.getElem?_map, h]
    exact (hd s (List.mem_of_getElem? h) hf).symm
theorem frl_rok (ds : List Slot) (hk : Oks ds) : ROk (ds.map (·.firm)) (frl ds 0) := by
  refine ⟨fun f hf => ?_, fun x hx => ?_⟩
  · obtain ⟨s, hs, rfl⟩ := List.mem_map.1 hf
    exact (hk s hs).1
  · have h1 := frl_ge ds 0 x hx
    rw [List.length_map]
    refine ⟨by omega, ?_⟩
    have hg : ∀ (ds : List Slot) (i : Nat), Oks ds → ∀ x ∈ frl ds i, x.2.length = 64 := by
      intro ds
      induction ds with
      | nil => intro i _ x hx; simp [frl] at hx
      | cons s ds ih =>
        intro i hk x hx
        unfold frl at hx
        split at hx
        · rcases List.mem_cons.1 hx with rfl | hx
          · exact (hk s (.head _)).2
          · exact ih (i + 1) (fun y hy => hk y (.tail _ hy)) x hx
        · exact ih (i + 1) (fun y hy => hk y (.tail _ hy)) x hx
    exact hg ds 0 hk x hx
theorem frl_nF : ∀ (ds : List Slot) (i j : Nat) (x : Fr), (frl ds i)[j]? = some x → nF ds (x.1 - i) = j
  | [], _, _, _, h => by simp [frl] at h
  | s :: ds, i, j, x, h => by
    unfold frl at h
    split at h
    · rename_i hf
      cases j with
      | zero =>
        simp at h; subst h
        simp [nF]
      | succ j =>
        have h' : (frl ds (i + 1))[j]? = some x := by simpa using h
        have hg := (frl_ge ds (i + 1) x (List.mem_of_getElem? h')).1
        have ih := frl_nF ds (i + 1) j x h'
        rw [show x.1 - i = (x.1 - (i + 1)) + 1 by omega, nF_cons, if_pos hf, ih, Nat.add_comm]
    · rename_i hf
      have hg := (frl_ge ds (i + 1) x (List.mem_of_getElem? h)).1
      have ih := frl_nF ds (i + 1) j x h
      rw [show x.1 - i = (x.1 - (i + 1)) + 1 by omega, nF_cons, if_neg hf, ih, Nat.zero_add]
/-- the firm bytes when the first j fresh slots are settled -/
theorem rcrs_at (ch : List Int) (ds : List Slot) (hk : Oks ds) : ∀ j, j ≤ (frl ds 0).length → ∀ i s, ds[i]? = some s → (rcrs ch (ds.map (·.firm)) (frl ds 0) j)[i]? = some (if s.fresh = true ∧ nF ds i < j then torn (Fc ch) (nF ds i) s else s.firm)
  | 0, _, i, s, h => by
    rw [if_neg (by omega)]
    show (ds.map (·.firm))[i]? = _
    rw [List.getElem?_map, h]; rfl
  | j + 1, hj, i, s, h => by
    have ih := rcrs_at ch ds hk j (by omega)
    obtain ⟨x, hx⟩ : ∃ x, (frl ds 0)[j]? = some x := ⟨_, List.getElem?_eq_getElem (by omega)⟩
    have hxm := List.mem_of_getElem? hx
    have hlt := (frl_ge ds 0 x hxm).2
    obtain ⟨u, hu⟩ : ∃ u, ds[x.1]? = some u := ⟨_, List.getElem?_eq_getElem (by omega)⟩
    have huf := frl_mem ds 0 x.1 u x hu hxm (by omega)
    have hn : nF ds x.1 = j := frl_nF ds 0 j x hx
    have hxr := frl_at ds 0 x.1 u hu huf
    rw [hn, hx] at hxr
    have hxr2 : x.2 = u.read := congrArg Prod.snd (Option.some.inj hxr)
    have hiu := rcrs_at ch ds hk j (by omega) x.1 u hu
    rw [if_neg (by omega)] at hiu
    simp only [rcrs, hx]
    rw [List.getD_eq_getElem?_getD, hiu, Option.getD_some]
    by_cases e : x.1 = i
    · subst e
      obtain rfl : u = s := Option.some.inj (hu.symm.trans h)
      rw [List.getElem?_set_self ((List.getElem?_eq_some_iff.1 hiu).1), if_pos ⟨huf, by omega⟩, hn, hxr2]
      rfl
    · rw [List.getElem?_set_ne e, ih i s h]
      have : (s.fresh = true ∧ nF ds i < j) ↔ (s.fresh = true ∧ nF ds i < j + 1) := by
        refine ⟨fun h => ⟨h.1, by omega⟩, fun h' => ⟨h'.1, ?_⟩⟩
        by_cases ej : nF ds i = j
        · have := frl_at ds 0 i s h h'.1
          rw [ej, hx] at this
          have := congrArg Prod.fst (Option.some.inj this)
          simp only at this; omega
        · omega
      rw [show (if s.fresh = true ∧ nF ds i < j then torn (Fc ch) (nF ds i) s else s.firm) = (if s.fresh = true ∧ nF ds i < j + 1 then torn (Fc ch) (nF ds i) s else s.firm) from by
        by_cases hc : s.fresh = true ∧ nF ds i < j
        · rw [if_pos hc, if_pos (this.1 hc)]
        · rw [if_neg hc, if_neg (fun h => hc (this.2 h))]]
theorem rcrs_all (ch : List Int) (ds : List Slot) (hk : Oks ds) : rcrs ch (ds.map (·.firm)) (frl ds 0) (frl ds 0).length = (settled (Fc ch) ds).map (·.firm) := by
  apply List.ext_getElem?
  intro i
  cases h : ds[i]? with
  | none =>
    have hl := (List.getElem?_eq_none_iff.1 h)
    have hr := (rcrs_ok (ch := ch) (frl_rok ds hk) (frl ds 0).length).1
    rw [List.length_map] at hr
    rw [List.getElem?_eq_none (by omega), List.getElem?_eq_none (by rw [List.length_map, settled_len]; omega)]
  | some s =>
    rw [rcrs_at ch ds hk _ (Nat.le_refl _) i s h, List.getElem?_map, settled_at, h]
    cases hf : s.fresh with
    | true =>
      have := (List.getElem?_eq_some_iff.1 (frl_at ds 0 i s h hf)).1
      rw [if_pos ⟨rfl, this⟩]; simp [hf]
    | false => simp [hf]
theorem frl_settled (F : Nat → Nat) (ds : List Slot) : ∀ i, frl (settled F ds) i = [] := by
  have h : ∀ s ∈ settled F ds, s.fresh = false := settled_nf
  generalize settled F ds = l at h
  induction l with
  | nil => intro i; rfl
  | cons s l ih =>
    intro i
    unfold frl
    rw [if_neg (by rw [h s (.head _)]; decide)]
    exact ih (fun x hx => h x (.tail _ hx)) (i + 1)
end Go.X
