/- Ways, Cut. -/
import Derived.Test.YtoeejaikmhedoaaNetD
namespace Go.X
open Go Go.Proofs
def wl (ps : List Wy) (f t : Nat) : List Tx := (ps[f * 8 + t]?.map (·.2)).getD []
def nz (ps : List Wy) (f t : Nat) : Bool := decide (0 < (wl ps f t).length)
def wrow (ps : List Wy) (f t : Nat) : List (Nat × Nat) := ((List.range t).filter (nz ps f)).map fun t => (f, t)
def wpre (ps : List Wy) (n j : Nat) : List (Nat × Nat) := (List.range j).flatMap fun f => wrow ps f n
abbrev wall (ps : List Wy) (n : Nat) : List (Nat × Nat) := wpre ps n n
def witems (ps : List Wy) (n : Nat) : List (List Value) := (wall ps n).map fun p => [iv (p.1 : Int), iv (p.2 : Int)]
structure NW (ps : List Wy) : Prop where
  len : ps.length = 64
  diag : ∀ f, f < 8 → wl ps f f = []
  le : ∀ f t, (wl ps f t).length ≤ 64
theorem wl_get {ps : List Wy} {f t : Nat} (h : f * 8 + t < ps.length) : ∃ v, ps[f * 8 + t]? = some (v, wl ps f t) := by
  obtain ⟨p, hp⟩ : ∃ p, ps[f * 8 + t]? = some p := ⟨_, List.getElem?_eq_getElem h⟩
  refine ⟨p.1, ?_⟩
  unfold wl; rw [hp]; rfl
theorem wl_set (ps : List Wy) {f t f' t' : Nat} (ht : t < 8) (ht' : t' < 8) (hlt : f * 8 + t < ps.length) (v : Value) (xs : List Tx) : wl (ps.set (f * 8 + t) (v, xs)) f' t' = if f' = f ∧ t' = t then xs else wl ps f' t' := by
  unfold wl
  by_cases h : f' = f ∧ t' = t
  · obtain ⟨rfl, rfl⟩ := h
    rw [if_pos ⟨rfl, rfl⟩, List.getElem?_set_self hlt]; rfl
  · rw [if_neg h, List.getElem?_set_ne (by omega)]
theorem wrow_snoc (ps : List Wy) (f t : Nat) : wrow ps f (t + 1) = wrow ps f t ++ if nz ps f t = true then [(f, t)] else [] := by
  unfold wrow
  rw [List.range_succ, List.filter_append, List.map_append]
  congr 1
  cases h : nz ps f t <;> simp [h]
theorem wrow_ext (ps : List Wy) (f : Nat) {t : Nat} : ∀ {n : Nat}, t ≤ n → ∃ tl, wrow ps f n = wrow ps f t ++ tl
  | 0, h => by obtain rfl : t = 0 := by omega
               exact ⟨[], by simp⟩
  | n + 1, h => by
    by_cases e : t = n + 1
    · subst e; exact ⟨[], by simp⟩
    · obtain ⟨tl, h1⟩ := wrow_ext ps f (t := t) (n := n) (by omega)
      rw [wrow_snoc, h1, List.append_assoc]; exact ⟨_, rfl⟩
theorem wpre_snoc (ps : List Wy) (n j : Nat) : wpre ps n (j + 1) = wpre ps n j ++ wrow ps j n := by
  unfold wpre; rw [List.range_succ, List.flatMap_append]; simp
theorem wpre_ext (ps : List Wy) (n : Nat) {j : Nat} : ∀ {m : Nat}, j ≤ m → ∃ tl, wpre ps n m = wpre ps n j ++ tl
  | 0, h => by obtain rfl : j = 0 := by omega
               exact ⟨[], by simp⟩
  | m + 1, h => by
    by_cases e : j = m + 1
    · subst e; exact ⟨[], by simp⟩
    · obtain ⟨tl, h1⟩ := wpre_ext ps n (j := j) (m := m) (by omega)
      rw [wpre_snoc, h1, List.append_assoc]; exact ⟨_, rfl⟩
theorem wall_ext (ps : List Wy) {n j t : Nat} (hj : j < n) (ht : t ≤ n) : ∃ tl, wall ps n = (wpre ps n j ++ wrow ps j t) ++ tl := by
  obtain ⟨a, h1⟩ := wpre_ext ps n (j := j + 1) (m := n) (by omega)
  obtain ⟨b, h2⟩ := wrow_ext ps j (t := t) (n := n) ht
  exact ⟨b ++ a, by rw [wall, h1, wpre_snoc, h2]; simp⟩
theorem wrow_mem {ps : List Wy} {f t : Nat} {p : Nat × Nat} : p ∈ wrow ps f t ↔ p.1 = f ∧ p.2 < t ∧ nz ps f p.2 = true := by
  unfold wrow
  simp only [List.mem_map, List.mem_filter, List.mem_range]
  constructor
  · rintro ⟨u, ⟨h1, h2⟩, rfl⟩; exact ⟨rfl, h1, h2⟩
  · rintro ⟨rfl, h1, h2⟩; exact ⟨p.2, ⟨h1, h2⟩, rfl⟩
theorem wpre_mem {ps : List Wy} {n j : Nat} {p : Nat × Nat} : p ∈ wpre ps n j ↔ p.1 < j ∧ p.2 < n ∧ nz ps p.1 p.2 = true := by
  unfold wpre
  simp only [List.mem_flatMap, List.mem_range, wrow_mem]
  constructor
  · rintro ⟨f, h1, rfl, h2, h3⟩; exact ⟨h1, h2, h3⟩
  · rintro ⟨h1, h2, h3⟩; exact ⟨p.1, h1, rfl, h2, h3⟩
theorem wall_hit (ps : List Wy) {n j t : Nat} (hj : j < n) (ht : t < n) (h : nz ps j t = true) : (wall ps n)[(wpre ps n j ++ wrow ps j t).length]? = some (j, t) := by
  obtain ⟨tl, h1⟩ := wall_ext ps (t := t + 1) hj ht
  rw [h1, wrow_snoc, if_pos h, ← List.append_assoc, List.append_assoc, List.getElem?_append_right (Nat.le_refl _), Nat.sub_self]; rfl
theorem wall_take (ps : List Wy) {n j t : Nat} (hj : j < n) (ht : t ≤ n) : (wall ps n).take (wpre ps n j ++ wrow ps j t).length = wpre ps n j ++ wrow ps j t := by
  obtain ⟨tl, h1⟩ := wall_ext ps (t := t) hj ht
  rw [h1, List.take_left]
theorem waits_in (b f t n : Nat) (lost : Nat) (ps : List Wy) (w : World) (hf : f < n) (ht : t < n) (hn : n ≤ 8) (hw : NW ps) (ho : Owns w (netG b n lost ps)) :
    Fx Try.prog 11 [ptr b, iv f, iv t] w (Pure w (iv (wl ps f t).length)) := by
  by_cases e : f = t
  · subst e
    rw [hw.diag f (by omega)]
    have hb : w.heap[b]? = some (.cells (netCs n lost ps).toArray _ (0, 0)) := ho.ok _ (.head _)
    exact waits_none f f w (ptr b) 2 (by decide) fun w' hk => at_bad b n _ _ _ f f w' (by omega) (fun h => h.2.2 rfl) ((hk.same b (Array.getElem?_eq_some_iff.1 hb).1 (by simp [X.ids])).trans hb)
  · obtain ⟨v, hv⟩ := wl_get (ps := ps) (f := f) (t := t) (by rw [hw.len]; omega)
    exact waits_ok b f t n lost ps v (wl ps f t) w (by omega) (by omega) e (by omega) hv ho
theorem ways_ok (x : Value) (hx : x.cells.toList = [x]) (w : World) : Fx Try.prog 22 [x] w (Ret w [] (fun bx : Nat => .func (.func 32) #[] #[ptr bx]) (fun bx => [.blk bx [x] 23]) (fun _ => True)) := by
  refine Fx.of (L0 := []) Try.func22 rfl (by kernel_rfl) Try.ntmps22 rfl (Owns.nil w) ?_
  refine go (k := ?_)
  refine XL.box rfl hx rfl fun bx => ?_
  refine go (k := ?_)
  exact XE.ret1 bx [0] rfl rfl trivial rfl rfl rfl
set_option maxHeartbeats 1000000 in
theorem ways_seq {α : Type} (bx b n : Nat) (hn : n ≤ 8) (ps : List Wy) (st : α → Nat × List Wy) (φ : Nat → α → Prop)
    (hφ : ∀ k x, φ k x → NW (st x).2 ∧ ∀ f t, f < n → t < n → (f, t) ∉ (wall ps n).take k → nz (st x).2 f t = nz ps f t) :
    SeqA Try.prog 32 [] [ptr bx] (fun x => [.blk bx [ptr b] 23, netE b n (st x).1 (st x).2]) φ (witems ps n) := by
  intro β l M Z ψ w x0 hx0 ho hy
  have h0 : ∀ x : α, (netCs n (st x).1 (st x).2)[0 + 0]? = some (iv n) := fun _ => rfl
  refine Fx.of Try.func32 rfl (by kernel_rfl) Try.ntmps32 rfl ho ?_
  refine go (k := ?_)
  refine XL.q (.inG (.tail _ (.head _)) (.ld rfl rfl rfl (.head _) (h0 x0))) rfl ?_
  refine go (k := ?_)
  refine XC.loop (α := Nat × α) (fun x => [(0, yv l), (1, ptr bx), (10, iv n), (11, iv x.1)]) (fun x => [.blk bx [ptr b] 23, netE b n (st x.2).1 (st x.2).2, M x.2])
    (fun x => x.1 ≤ n ∧ φ (wpre ps n x.1).length x.2) (fun x => n - x.1) (0, x0) [0, 1, 2] ⟨Nat.zero_le _, hx0⟩ ⟨rfl, rfl, rfl, rfl, trivial⟩ rfl rfl ?_
  rintro ⟨j, x⟩ ⟨hj, hx⟩
  simp only at hj hx ⊢
  by_cases hlt : j < n
  · refine go (k := ?_)
    refine XL.q (.inG (.tail _ (.head _)) (.ld rfl rfl rfl (.head _) (h0 x))) rfl ?_
    refine go (k := ?_)
    refine XC.loop (α := Nat × α) (fun y => [(0, yv l), (1, ptr bx), (3, iv j), (10, iv n), (11, iv j), (17, iv n), (18, iv y.1)]) (fun y => [.blk bx [ptr b] 23, netE b n (st y.2).1 (st y.2).2, M y.2])
      (fun y => y.1 ≤ n ∧ φ (wpre ps n j ++ wrow ps j y.1).length y.2) (fun y => n - y.1) (0, x) [0, 1, 2] ⟨Nat.zero_le _, by simpa [wrow] using hx⟩ ⟨rfl, rfl, rfl, rfl, rfl, rfl, rfl, trivial⟩ rfl rfl ?_
    rintro ⟨t, x'⟩ ⟨ht, hx'⟩
    simp only at ht hx' ⊢
    by_cases htl : t < n
    · obtain ⟨hw, hnz⟩ := hφ _ _ hx'
      have hz := hnz j t hlt htl (by
        rw [wall_take ps hlt ht, List.mem_append, wpre_mem, wrow_mem]
        simp only; omega)
      have hle := hw.le j t
      have hsn := wrow_snoc ps j t
      cases hc : nz ps j t with
      | true =>
        rw [hc] at hz hsn
        have hpos : 0 < (wl (st x').2 j t).length := of_decide_eq_true hz
        have hit : (witems ps n)[(wpre ps n j ++ wrow ps j t).length]? = some [iv (j : Int), iv (t : Int)] := by
          unfold witems; rw [List.getElem?_map, wall_hit ps hlt htl hc]; rfl
        rw [if_pos rfl] at hsn
        refine go (k := ?_)
        refine XL.q (.call rfl rfl fun _ w hs => waits_in b j t n _ _ w hlt htl hn hw (hs.own.grp (.tail _ (.head _)))) rfl ?_
        refine go (k := ?_)
        refine XL.yield [0, 1, 2] [] rfl rfl rfl rfl rfl (fun a w' hs ho' => hy _ _ x' w' hit hx' ho' hs.kept fun b hb => hs.wr b hb) fun z hz' => ?_
        rcases z with x'' | y
        · refine go (k := ?_)
          refine XE.mid (t + 1, x'') [0, 1, 2] ⟨⟨by simp only; omega, ?_⟩, by simp only; omega⟩ ⟨rfl, rfl, rfl, rfl, rfl, rfl, rfl, trivial⟩ rfl rfl
          simp only
          rw [hsn, ← List.append_assoc, List.length_append]; exact hz'
        · refine go (k := ?_)
          exact XE.ret0 (Sum.inr y) [0] rfl hz' rfl rfl rfl
      | false =>
        rw [hc] at hz hsn
        have hpos : ¬ 0 < (wl (st x').2 j t).length := of_decide_eq_false hz
        rw [if_neg (by decide), List.append_nil] at hsn
        refine go (k := ?_)
        refine XL.q (.call rfl rfl fun _ w hs => waits_in b j t n _ _ w hlt htl hn hw (hs.own.grp (.tail _ (.head _)))) rfl ?_
        refine go (k := ?_)
        refine XE.mid (t + 1, x') [0, 1, 2] ⟨⟨by simp only; omega, ?_⟩, by simp only; omega⟩ ⟨rfl, rfl, rfl, rfl, rfl, rfl, rfl, trivial⟩ rfl rfl
        simp only; rw [hsn]; exact hx'
    · obtain rfl : t = n := by omega
      refine go (k := ?_)
      refine XE.mid (j + 1, x') [0, 1, 2] ⟨⟨by simp only; omega, ?_⟩, by simp only; omega⟩ ⟨rfl, rfl, rfl, rfl, trivial⟩ rfl rfl
      simp only; rw [wpre_snoc]; exact hx'
  · obtain rfl : j = n := by omega
    refine go (k := ?_)
    refine XE.end0 (Sum.inl x) [0, 1, 2] rfl ?_ rfl rfl rfl
    show φ (witems ps j).length x
    unfold witems; rw [List.length_map]; exact hx
end Go.X
