/- Package region: plain law: what a log is on a device, and what is read of it. -/
import Derived.Test.YtmmofanfgoahkaaDoorRegI
namespace Go.X
open Go Go.Proofs
/-- a piece of a group: its bytes, and whether the group ends with it -/
abbrev Pc := List UInt8 × Nat
def gps (s : List UInt8) : List Pc := (List.range (nd s.length)).map fun k => (gpc s k, gfl s.length k)
def lps (all : List (List UInt8)) : List Pc := all.flatMap gps
def POk (p : Pc) : Prop := p.2 ≤ 1 ∧ p.1.length ≤ 58 ∧ (p.2 = 0 → p.1.length = 58)
theorem gps_len (s : List UInt8) : (gps s).length = nd s.length := by unfold gps; rw [List.length_map, List.length_range]
theorem gps_at {s : List UInt8} {k : Nat} (h : k < nd s.length) : (gps s)[k]? = some (gpc s k, gfl s.length k) := by unfold gps; rw [List.getElem?_map, List.getElem?_range h]; rfl
theorem gpc_ok {s : List UInt8} {k : Nat} (h : k < nd s.length) : POk (gpc s k, gfl s.length k) := by
  refine ⟨?_, gpc_len h, fun h0 => ?_⟩
  · show gfl s.length k ≤ 1
    unfold gfl; split <;> decide
  · obtain ⟨g1, g2, g3, g4⟩ := gend_bd h
    have : k + 1 ≠ nd s.length := by
      intro e
      unfold gfl at h0
      rw [if_pos e] at h0; cases h0
    have := g4 this
    unfold gpc
    rw [List.length_drop, List.length_take]; omega
theorem gps_ok (s : List UInt8) : ∀ p ∈ gps s, POk p := by
  intro p hp
  unfold gps at hp
  obtain ⟨k, hk, rfl⟩ := List.mem_map.1 hp
  exact gpc_ok (List.mem_range.1 hk)
theorem lps_ok (all : List (List UInt8)) : ∀ p ∈ lps all, POk p := by
  intro p hp
  obtain ⟨s, _, hs⟩ := List.mem_flatMap.1 hp
  exact gps_ok s p hs
theorem lps_snoc (all : List (List UInt8)) (s : List UInt8) : lps (all ++ [s]) = lps all ++ gps s := by unfold lps; rw [List.flatMap_append]; simp
theorem lps_cons (all : List (List UInt8)) (s : List UInt8) : lps (s :: all) = gps s ++ lps all := by unfold lps; rw [List.flatMap_cons]
/-- what pieces tell -/
def pstep (st : List (List UInt8) × List UInt8) (p : Pc) : List (List UInt8) × List UInt8 := if p.2 = 1 then (st.1 ++ [st.2 ++ p.1], []) else (st.1, st.2 ++ p.1)
theorem gpc_next {s : List UInt8} {k : Nat} (h : k < nd s.length) : s.take (k * 58) ++ gpc s k = s.take (gend s.length k) := by
  obtain ⟨g1, _, _, _⟩ := gend_bd h
  unfold gpc
  have e : s.take (k * 58) = (s.take (gend s.length k)).take (k * 58) := by rw [List.take_take, Nat.min_eq_left g1]
  rw [e, List.take_append_drop]
theorem gps_part (s : List UInt8) (G : List (List UInt8)) : ∀ j, j < nd s.length → ((gps s).take j).foldl pstep (G, []) = (G, s.take (j * 58))
  | 0, _ => by simp
  | j + 1, h => by
    have hj : j < nd s.length := by omega
    obtain ⟨_, _, _, g4⟩ := gend_bd hj
    have ne : ¬ j + 1 = nd s.length := by omega
    rw [take_snoc (gps_at hj), List.foldl_append, gps_part s G j hj]
    have hf : gfl s.length j = 0 := by unfold gfl; rw [if_neg ne]
    simp only [List.foldl_cons, List.foldl_nil, pstep, hf]
    rw [if_neg (by decide), gpc_next hj, g4 ne]
theorem gps_all (s : List UInt8) (G : List (List UInt8)) : (gps s).foldl pstep (G, []) = (G ++ [s], []) := by
  have hp := nd_pos s.length
  obtain ⟨m, hm⟩ : ∃ m, nd s.length = m + 1 := ⟨nd s.length - 1, by omega⟩
  have hlt : m < nd s.length := by omega
  have e : gps s = (gps s).take m ++ [(gpc s m, gfl s.length m)] := by
    rw [← take_snoc (gps_at hlt), List.take_of_length_le (by rw [gps_len]; omega)]
  rw [e, List.foldl_append, gps_part s G m hlt]
  have hf : gfl s.length m = 1 := by unfold gfl; rw [if_pos hm.symm]
  have hg : gend s.length m = s.length := by unfold gend; rw [if_pos hm.symm]
  simp only [List.foldl_cons, List.foldl_nil, pstep, hf]
  rw [if_pos trivial, gpc_next hlt, hg, List.take_length]
theorem lps_tell : ∀ (all : List (List UInt8)) (W : Nat) (G : List (List UInt8)), ∃ r, r ≤ all.length ∧ (((lps all).take W).foldl pstep (G, [])).1 = G ++ all.take r ∧ ∀ q, q ≤ all.length → (lps (all.take q)).length ≤ W → q ≤ r
  | [], W, G => ⟨0, Nat.le_refl _, by simp [lps], fun q h _ => h⟩
  | s :: t, W, G => by
    rw [lps_cons]
    by_cases hW : (gps s).length ≤ W
    · obtain ⟨r, h1, h2, h3⟩ := lps_tell t (W - (gps s).length) (G ++ [s])
      refine ⟨r + 1, by rw [List.length_cons]; omega, ?_, ?_⟩
      · rw [List.take_append, List.take_of_length_le hW, List.foldl_append, gps_all, h2, List.take_succ_cons, List.append_assoc]; rfl
      · intro q hq hl
        cases q with
        | zero => omega
        | succ q =>
          rw [List.take_succ_cons, lps_cons, List.length_append] at hl
          have := h3 q (by rw [List.length_cons] at hq; omega) (by omega)
          omega
    · refine ⟨0, Nat.zero_le _, ?_, ?_⟩
      · rw [List.take_append_of_le_length (by omega), gps_part s G W (by rw [gps_len] at hW; omega)]; simp
      · intro q hq hl
        cases q with
        | zero => exact Nat.le_refl _
        | succ q =>
          rw [List.take_succ_cons, lps_cons, List.length_append] at hl
          omega
/-- block i (from 1 on) of a log -/
def lbk (ps : List Pc) (i : Nat) : List UInt8 := match ps[i - 1]? with
  | some p => rblk i p.2 p.1
  | none => zbytes 64
theorem lbk_app {ps qs : List Pc} {i : Nat} (h1 : 1 ≤ i) (h : i ≤ ps.length) : lbk (ps ++ qs) i = lbk ps i := by
  unfold lbk; rw [List.getElem?_append_left (by omega)]
theorem lbk_len {ps : List Pc} (h : ∀ p ∈ ps, POk p) (i : Nat) : (lbk ps i).length = 64 := by
  unfold lbk
  cases hp : ps[i - 1]? with
  | none => exact zbytes_len 64
  | some p => exact rblk_len (h p (List.mem_of_getElem? hp)).2.1
theorem pce_lbk {ps : List Pc} (h : ∀ p ∈ ps, POk p) {i : Nat} {p : Pc} (hi : i < 65536) (hp : ps[i - 1]? = some p) : pce i (lbk ps i) = (p.1, decide (p.2 = 1), true) := by
  obtain ⟨h1, h2, h3⟩ := h p (List.mem_of_getElem? hp)
  unfold lbk
  rw [hp]
  exact pce_rblk hi h1 h2 h3
/-- what stands in block k, as it is read -/
def rdk (ds : List Slot) (k : Nat) : List UInt8 := (ds.getD k slot0).read
theorem rdk_at {ds : List Slot} {k : Nat} {s : Slot} (h : ds[k]? = some s) : rdk ds k = s.read := by unfold rdk; rw [List.getD_eq_getElem?_getD, h]; rfl
theorem drd_rdk {ds : List Slot} {k : Nat} (h : k < ds.length) : (drd ds (k : Nat)).1 = rdk ds k := by
  unfold drd rdk
  rw [if_neg (by omega), if_neg (by omega), Int.toNat_natCast]
/-- behind a crash: each log block is the document's, or is not whole; the first F are the document's -/
structure Torn (a n : Nat) (ps : List Pc) (F : Nat) (ds : List Slot) : Prop where
  len : a + n ≤ ds.length
  blk : ∀ i, 1 ≤ i → i < n → (i ≤ ps.length ∧ rdk ds (a + i) = lbk ps i) ∨ (pce i (rdk ds (a + i))).2.2 = false
  sure : ∀ i, 1 ≤ i → i ≤ F → i ≤ ps.length ∧ rdk ds (a + i) = lbk ps i
  room : ps.length < n
  ok : ∀ p ∈ ps, POk p
theorem Torn.whole {a n : Nat} {ps : List Pc} {F : Nat} {ds : List Slot} (h : Torn a n ps F ds) (hn : n ≤ 65536) : ∀ m, m < n → ∃ W, W ≤ m ∧ (∀ i, 1 ≤ i → i ≤ W → i ≤ ps.length ∧ rdk ds (a + i) = lbk ps i) ∧ (W = m ∨ (pce (W + 1) (rdk ds (a + (W + 1)))).2.2 = false) ∧ (F ≤ W ∨ W = m)
  | 0, _ => ⟨0, Nat.le_refl _, fun i h1 h2 => by omega, .inl rfl, .inr rfl⟩
  | m + 1, hm => by
    obtain ⟨W, h1, h2, h3, h4⟩ := h.whole hn m (by omega)
    rcases h3 with rfl | h3
    · rcases h.blk (W + 1) (by omega) hm with hb | hb
      · exact ⟨W + 1, Nat.le_refl _, fun i hi1 hi2 => by
          rcases Nat.lt_or_ge i (W + 1) with hlt | hge
          · exact h2 i hi1 (by omega)
          · obtain rfl : i = W + 1 := by omega
            exact hb, .inl rfl, .inr rfl⟩
      · refine ⟨W, by omega, h2, .inr hb, .inl ?_⟩
        rcases Nat.lt_or_ge W F with hlt | hge
        · exfalso
          obtain ⟨g1, g2⟩ := h.sure (W + 1) (by omega) (by omega)
          obtain ⟨p, hp⟩ : ∃ p, ps[W + 1 - 1]? = some p := ⟨_, List.getElem?_eq_getElem (by omega)⟩
          rw [g2, pce_lbk h.ok (by omega) hp] at hb
          cases hb
        · exact hge
    · refine ⟨W, by omega, h2, .inr h3, .inl ?_⟩
      rcases h4 with h4 | rfl
      · exact h4
      · rcases Nat.lt_or_ge W F with hlt | hge
        · exfalso
          obtain ⟨g1, g2⟩ := h.sure (W + 1) (by omega) (by omega)
          obtain ⟨p, hp⟩ : ∃ p, ps[W + 1 - 1]? = some p := ⟨_, List.getElem?_eq_getElem (by omega)⟩
          rw [g2, pce_lbk h.ok (by omega) hp] at h3
          cases h3
        · exact hge
theorem rblks_rdk {ds : List Slot} {a n : Nat} (h : a + n ≤ ds.length) {k : Nat} (hk : k < n) : (rblks ds a n)[k]? = some (k, rdk ds (a + k)) := by
  rw [rblks_at ds a hk, drd_rdk (by omega)]
theorem rtell_ps {a n : Nat} {ps : List Pc} {ds : List Slot} (hl : a + n ≤ ds.length) (hn : n ≤ 65536) (hok : ∀ p ∈ ps, POk p) {W : Nat} (hW : W < n) (h : ∀ i, 1 ≤ i → i ≤ W → i ≤ ps.length ∧ rdk ds (a + i) = lbk ps i) :
    rtell ((rblks ds a n).take (W + 1)) = ⟨hdr (rdk ds a), ((ps.take W).foldl pstep ([], [])).1, ((ps.take W).foldl pstep ([], [])).2, true⟩ := by
  induction W with
  | zero =>
    rw [take_snoc (rblks_rdk hl hW), rtell_snoc, List.take_zero]
    rfl
  | succ W ih =>
    have ih' := ih (by omega) (fun i h1 h2 => h i h1 (by omega))
    obtain ⟨g1, g2⟩ := h (W + 1) (by omega) (Nat.le_refl _)
    obtain ⟨p, hp⟩ : ∃ p, ps[W]? = some p := ⟨_, List.getElem?_eq_getElem (by omega)⟩
    rw [take_snoc (rblks_rdk hl hW), rtell_snoc, ih', g2, take_snoc hp, List.foldl_append]
    unfold rstep
    rw [if_neg (by simp)]
    simp only
    rw [pce_lbk hok (by omega) (p := p) (by simpa using hp)]
    simp only [Bool.and_self, Bool.true_eq_false, if_false, List.foldl_cons, List.foldl_nil, decide_eq_true_eq]
    unfold pstep
    split <;> rfl
theorem rtell_rest : ∀ (l : List (Nat × List UInt8)) (st : Rs), st.going = false → (∀ p ∈ l, p.1 ≠ 0) → l.foldl rstep st = st
  | [], _, _, _ => rfl
  | p :: l, st, h, hp => by
    have e : rstep st p = st := by
      unfold rstep
      rw [if_neg (hp p (.head _)), if_pos (by rw [h]; rfl)]
      obtain ⟨g, gs, gr, go⟩ := st
      simp only at h; subst h; rfl
    rw [List.foldl_cons, e]
    exact rtell_rest l st h (fun q hq => hp q (.tail _ hq))
theorem rtell_stop {a n : Nat} {ds : List Slot} (hl : a + n ≤ ds.length) {W : Nat} (hW : W < n) (hW0 : 0 < W) {st : Rs} (h : rtell ((rblks ds a n).take W) = st) (hb : (pce W (rdk ds (a + W))).2.2 = false) :
    (rtell (rblks ds a n)).groups = st.groups ∧ (rtell (rblks ds a n)).gen = st.gen := by
  have e : rblks ds a n = (rblks ds a n).take (W + 1) ++ (rblks ds a n).drop (W + 1) := (List.take_append_drop _ _).symm
  have e1 : rtell ((rblks ds a n).take (W + 1)) = { st with going := false } := by
    rw [take_snoc (rblks_rdk hl hW), rtell_snoc, h]
    unfold rstep
    rw [if_neg (by simp only; omega), if_pos (by rw [hb, Bool.and_false])]
  have e2 : rtell (rblks ds a n) = { st with going := false } := by
    rw [e]
    unfold rtell at e1 ⊢
    rw [List.foldl_append, e1]
    refine rtell_rest _ _ rfl (fun p hp => ?_)
    obtain ⟨j, hj⟩ := List.getElem?_of_mem hp
    rw [List.getElem?_drop] at hj
    have hlt : W + 1 + j < n := by
      have := (List.getElem?_eq_some_iff.1 hj).1; rwa [rblks_len] at this
    rw [rblks_rdk hl hlt] at hj
    cases hj
    simp only; omega
  rw [e2]
  exact ⟨rfl, rfl⟩
/-- what is read of a log behind a crash -/
theorem Torn.tell {a n : Nat} {all : List (List UInt8)} {F : Nat} {ds : List Slot} (h : Torn a n (lps all) F ds) (hn : n ≤ 65536) (hn2 : 2 ≤ n) :
    (rtell (rblks ds a n)).gen = hdr (rdk ds a) ∧ ∃ r, r ≤ all.length ∧ (rtell (rblks ds a n)).groups = all.take r ∧ ∀ q, q ≤ all.length → (lps (all.take q)).length ≤ F → q ≤ r := by
  have hlen := h.len
  have hroom := h.room
  obtain ⟨W, h1, h2, h3, h4⟩ := h.whole hn (n - 1) (by omega)
  have hFW : F ≤ W := by
    rcases h4 with h4 | rfl
    · exact h4
    · rcases Nat.lt_or_ge (n - 1) F with hlt | hge
      · have := (h.sure (n - 1 + 1) (by omega) (by omega)).1; omega
      · exact hge
  have e1 := rtell_ps hlen hn h.ok (by omega : W < n) h2
  obtain ⟨r, r1, r2, r3⟩ := lps_tell all W []
  rw [List.nil_append] at r2
  rcases h3 with rfl | h3
  · rw [show n - 1 + 1 = n by omega, List.take_of_length_le (by rw [rblks_len]; exact Nat.le_refl _)] at e1
    rw [e1]
    exact ⟨rfl, r, r1, r2, fun q hq hl => r3 q hq (by omega)⟩
  · rcases Nat.lt_or_ge (W + 1) n with hlt | hge
    · obtain ⟨g1, g2⟩ := rtell_stop hlen hlt (by omega) e1 h3
      rw [g1, g2]
      exact ⟨rfl, r, r1, r2, fun q hq hl => r3 q hq (by omega)⟩
    · rw [show W + 1 = n by omega, List.take_of_length_le (by rw [rblks_len]; exact Nat.le_refl _)] at e1
      rw [e1]
      exact ⟨rfl, r, r1, r2, fun q hq hl => r3 q hq (by omega)⟩
/-- all is sure: all is told -/
theorem Torn.tellAll {a n : Nat} {all : List (List UInt8)} {ds : List Slot} (h : Torn a n (lps all) (lps all).length ds) (hn : n ≤ 65536) (hn2 : 2 ≤ n) :
    (rtell (rblks ds a n)).gen = hdr (rdk ds a) ∧ (rtell (rblks ds a n)).groups = all := by
  obtain ⟨h1, r, r1, r2, r3⟩ := h.tell hn hn2
  refine ⟨h1, ?_⟩
  have := r3 all.length (Nat.le_refl _) (by rw [List.take_length]; exact Nat.le_refl _)
  rw [r2, List.take_of_length_le this]
end Go.X
