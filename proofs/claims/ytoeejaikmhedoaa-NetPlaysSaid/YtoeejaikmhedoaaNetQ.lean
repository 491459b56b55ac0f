/- The reference of package net (revertref29): Take, Cut, Ways. -/
import Derived.Test.YtoeejaikmhedoaaNetO
namespace Go.X
open Go Go.Proofs
/-- without the first message of a way -/
def rdel (f t : Nat) : List Lt → List Lt
  | [] => []
  | x :: L => if x.1 = f ∧ x.2.1 = t then L else x :: rdel f t L
theorem rdel_wof (f t : Nat) : ∀ L : List Lt, wof (rdel f t L) f t = (wof L f t).tail
  | [] => rfl
  | x :: L => by
    unfold rdel
    by_cases h : x.1 = f ∧ x.2.1 = t
    · rw [if_pos h, wof_cons, if_pos h]; rfl
    · rw [if_neg h, wof_cons, if_neg h, wof_cons, if_neg h]; exact rdel_wof f t L
theorem rdel_other (f t f' t' : Nat) (hne : ¬ (f' = f ∧ t' = t)) : ∀ L : List Lt, wof (rdel f t L) f' t' = wof L f' t'
  | [] => rfl
  | x :: L => by
    unfold rdel
    by_cases h : x.1 = f ∧ x.2.1 = t
    · rw [if_pos h, wof_cons, if_neg (by omega)]
    · rw [if_neg h, wof_cons, wof_cons, rdel_other f t f' t' hne L]
theorem rdel_mem {f t : Nat} {x : Lt} : ∀ {L : List Lt}, x ∈ rdel f t L → x ∈ L
  | [], h => h
  | y :: L, h => by
    unfold rdel at h
    split at h
    · exact .tail _ h
    · rcases List.mem_cons.1 h with h | h
      · rw [h]; exact .head _
      · exact .tail _ (rdel_mem h)
theorem rdel_len (f t : Nat) : ∀ L : List Lt, (rdel f t L).length ≤ L.length
  | [] => Nat.le_refl _
  | y :: L => by
    unfold rdel
    split
    · exact Nat.le_succ _
    · have := rdel_len f t L; simp only [List.length_cons]; omega
/-- what stands ahead is of other ways: so the first one is here -/
theorem rdel_at {f t : Nat} : ∀ {L : List Lt} {i : Nat} {x : Lt}, wof (L.take i) f t = [] → L[i]? = some x → x.1 = f ∧ x.2.1 = t → rdel f t L = L.take i ++ L.drop (i + 1) ∧ (wof L f t).head? = some x.2.2
  | [], i, x, _, h, _ => by simp at h
  | y :: L, 0, x, _, h, hx => by
    simp at h; subst h
    unfold rdel
    rw [if_pos hx, wof_cons, if_pos hx]; exact ⟨rfl, rfl⟩
  | y :: L, i + 1, x, hw, h, hx => by
    rw [List.take_succ_cons, wof_cons] at hw
    by_cases hy : y.1 = f ∧ y.2.1 = t
    · rw [if_pos hy] at hw; cases hw
    · rw [if_neg hy] at hw
      obtain ⟨h1, h2⟩ := rdel_at (L := L) (i := i) hw (by simpa using h) hx
      unfold rdel
      rw [if_neg hy, wof_cons, if_neg hy, h1]; exact ⟨rfl, h2⟩
theorem rdel_none {f t : Nat} : ∀ {L : List Lt}, wof L f t = [] → rdel f t L = L
  | [], _ => rfl
  | y :: L, h => by
    rw [wof_cons] at h
    by_cases hy : y.1 = f ∧ y.2.1 = t
    · rw [if_pos hy] at h; cases h
    · rw [if_neg hy] at h
      unfold rdel
      rw [if_neg hy, rdel_none h]
section
variable (br f t : Nat) (n : Int) (gone : Nat) (rv : Value) (L : List Lt)
theorem rtake_none (x y : Int) (w : World) (h : ¬ okw n x y) (ho : Owns w (rnG br n gone rv L)) : Fx Try.prog 29 [ptr br, iv x, iv y] w (Pure w (.tuple #[str [], iv 2])) := by
  have hb : w.heap[br]? = some (.cells [iv n, iv gone, rv].toArray _ (0, 0)) := ho.ok _ (.head _)
  refine Fx.of (L0 := []) Try.func29 rfl (by kernel_rfl) Try.ntmps29 rfl (Owns.nil w) ?_
  refine go (k := ?_)
  refine XL.q (.call rfl rfl fun _ w' hs => may29_ok br n _ _ _ x y w' ((hs.kept.same br (Array.getElem?_eq_some_iff.1 hb).1 (by simp [X.ids])).trans hb)) rfl ?_
  rw [decide_eq_false h]
  refine go (k := ?_)
  exact XE.ret2 () [] rfl rfl rfl trivial rfl rfl rfl
set_option maxHeartbeats 4000000 in
theorem rtake_ok (w : World) (h : okw n f t) (hl : L.length ≤ 5000) (ho : Owns w (rnG br n gone rv L)) :
    Fx Try.prog 29 [ptr br, iv f, iv t] w (Ret w (rnG br n gone rv L) (fun _ : Value => .tuple #[str ((wof L f t).headD []), iv (if wof L f t = [] then 5 else 0)]) (fun rv' => rnG br n gone rv' (rdel f t L)) (fun _ => True)) := by
  refine Fx.of Try.func29 rfl (by kernel_rfl) Try.ntmps29 rfl ho ?_
  have hrow : ∀ H : Heap, Ent.sl rv 76 3 (ltcs L) ∈ H → Rd w (ids (rnG br n gone rv L)) H rv 3 L.length (ltcs L) := fun H hm => .sl hm (by decide) (ltcs_len L).symm
  refine XC.rdv (hrow _ (.tail _ (.head _))) fun ao m hva _ hlm haa => ?_
  subst hva
  have c2 : [iv n, iv gone, Value.slice ao L.length m][0 + 2]? = some (Value.slice ao L.length m) := rfl
  have hrd := hrow (rnG br n gone (.slice ao L.length m) L) (.tail _ (.head _))
  have hrt : ∀ (H : Heap) (i : Nat), Ent.sl (.slice ao L.length m) 76 3 (ltcs L) ∈ H → i ≤ L.length → Rd w (ids (rnG br n gone (.slice ao L.length m) L)) H (tlV (.slice ao L.length m) i 3) 3 (L.length - i) (ltcs (L.drop i)) := fun H i hm hi => by
    have h := (hrow H hm).tl hi
    rw [ltcs_drop] at h; exact h
  refine go (k := ?_)
  refine XL.q (.call rfl rfl fun _ w' hs => may29_ok br n _ _ _ f t w' (hs.own.ok _ (.head _))) rfl ?_
  rw [decide_eq_true h]
  refine go (k := ?_)
  refine XC.loop (α := Nat) (fun i => [(0, ptr br), (1, iv f), (2, iv t), (8, iv i)]) (fun _ => rnG br n gone (.slice ao L.length m) L) (fun i => i ≤ L.length ∧ wof (L.take i) f t = []) (fun i => L.length - i) 0 [0, 1] ⟨Nat.zero_le _, rfl⟩ ⟨rfl, rfl, rfl, rfl, trivial⟩ rfl rfl ?_
  rintro i ⟨hi, hpre⟩
  by_cases hil : i < L.length
  · obtain ⟨x, hx⟩ : ∃ x, L[i]? = some x := ⟨_, List.getElem?_eq_getElem hil⟩
    obtain ⟨b1, o1, rfl⟩ : ∃ b off, ao = some ⟨b, off, none⟩ := haa.resolve_left (by omega)
    obtain ⟨d1, d2, d3⟩ := ltcs_at hx
    have hnext : ¬ (x.1 = f ∧ x.2.1 = t) → wof (L.take (i + 1)) f t = [] := fun h => by
      rw [take_snoc hx, wof_app, hpre, wof_cons, if_neg h]; rfl
    by_cases h1 : x.1 = f
    · by_cases h2 : x.2.1 = t
      · obtain ⟨hd1, hd2⟩ := rdel_at hpre hx ⟨h1, h2⟩
        obtain ⟨tl, htl⟩ : ∃ tl, wof L f t = x.2.2 :: tl := by
          cases hw : wof L f t with
          | nil => rw [hw] at hd2; cases hd2
          | cons a tl => rw [hw] at hd2; cases hd2; exact ⟨tl, rfl⟩
        rw [htl, hd1, if_neg (List.cons_ne_nil _ _), List.headD_cons]
        refine go (k := ?_)
        refine XL.q (.ldRd (j := i * 3) rfl rfl rfl hrd (by omega) d1) rfl ?_
        refine go (k := ?_)
        refine XL.q (.ldRd (j := i * 3 + 1) rfl rfl rfl hrd (by omega) d2) rfl ?_
        refine go (k := ?_)
        refine XL.q (.ldRd (j := i * 3 + 2) rfl rfl rfl hrd (by omega) d3) rfl ?_
        refine go (k := ?_)
        refine XL.make (.app (m := i) (news := ltcs (L.take i)) rfl rfl rfl rfl rfl rfl (by decide) (by have h := hrd.hd (i := i) (by omega); rw [ltcs_take] at h; exact h) (ltcs_one _) (by rw [ltcs_len, List.length_take]; omega) (by rw [ltcs_len, List.length_take]; omega)) rfl fun v1 H hH => ?_
        subst hH
        refine go (k := ?_)
        rw [show ((i : Int) + 1) = ((i + 1 : Nat) : Int) from rfl]
        refine XL.q (.cutT (i := i + 1) rfl rfl rfl rfl (hrow _ (.tail _ (.tail _ (.head _)))) (by omega)) rfl ?_
        refine go (k := ?_)
        refine XL.app (m := L.length - (i + 1)) (news := ltcs (L.drop (i + 1))) (L' := fun v3 => .sl v3 76 3 (ltcs (L.take i) ++ ltcs (L.drop (i + 1))) :: _) rfl rfl rfl rfl rfl rfl (by decide) (.head _) (hrt _ _ (.tail _ (.tail _ (.head _))) (by omega)) (ltcs_one _) (by simp only [ltcs_len, List.length_take, List.length_drop]; omega) (by simp only [ltcs_len, List.length_take, List.length_drop]; omega) (fun v3 => .here) rfl fun v3 => ?_
        rw [← ltcs_app]
        refine XL.slv (.head _) fun ao' q' m' hv' _ _ => ?_
        subst hv'
        refine go (k := ?_)
        exact XE.ret2 (Value.slice ao' q' m') [1, 0] rfl rfl rfl trivial rfl rfl rfl
      · refine go (k := ?_)
        refine XL.q (.ldRd (j := i * 3) rfl rfl rfl hrd (by omega) d1) rfl ?_
        refine go (k := ?_)
        refine XL.q (.ldRd (j := i * 3 + 1) rfl rfl rfl hrd (by omega) d2) rfl ?_
        refine go (k := ?_)
        exact XE.mid (i + 1) [0, 1] ⟨⟨by omega, hnext fun h => h2 h.2⟩, by omega⟩ ⟨rfl, rfl, rfl, rfl, trivial⟩ rfl rfl
    · refine go (k := ?_)
      refine XL.q (.ldRd (j := i * 3) rfl rfl rfl hrd (by omega) d1) rfl ?_
      refine go (k := ?_)
      exact XE.mid (i + 1) [0, 1] ⟨⟨by omega, hnext fun h => h1 h.1⟩, by omega⟩ ⟨rfl, rfl, rfl, rfl, trivial⟩ rfl rfl
  · obtain rfl : i = L.length := by omega
    rw [List.take_length] at hpre
    rw [hpre, rdel_none hpre]
    refine go (k := ?_)
    exact XE.ret2 (Value.slice ao L.length m) [0, 1] rfl rfl rfl trivial rfl rfl rfl
/-- all that leads to r is lost -/
def rcut (r : Nat) (L : List Lt) : List Lt := L.filter fun x => decide (x.2.1 ≠ r)
def rcutn (r : Nat) (L : List Lt) : Nat := (L.filter fun x => decide (x.2.1 = r)).length
theorem rcut_snoc {r : Nat} {x : Lt} {k : Nat} (h : L[k]? = some x) : rcut r (L.take (k + 1)) = rcut r (L.take k) ++ (if x.2.1 = r then [] else [x]) ∧ rcutn r (L.take (k + 1)) = rcutn r (L.take k) + (if x.2.1 = r then 1 else 0) := by
  unfold rcut rcutn
  rw [take_snoc h, List.filter_append, List.filter_append, List.length_append]
  by_cases e : x.2.1 = r <;> simp [e]
theorem rcut_bad (r : Int) (w : World) (h : ¬ (0 ≤ r ∧ r < n)) (ho : Owns w (rnG br n gone rv L)) : Fx Try.prog 30 [ptr br, iv r] w (Pure w (iv 2)) := by
  have hb : w.heap[br]? = some (.cells [iv n, iv gone, rv].toArray _ (0, 0)) := ho.ok _ (.head _)
  have hB : br ∉ ids ([] : Heap) := by simp [X.ids]
  have c0 : [iv n, iv gone, rv][0 + 0]? = some (iv n) := rfl
  clear ho
  refine Fx.of (L0 := []) Try.func30 rfl (by kernel_rfl) Try.ntmps30 rfl (Owns.nil w) ?_
  by_cases h1 : r < 0
  · refine go (k := ?_)
    exact XE.ret1 () [] rfl rfl trivial rfl rfl rfl
  · have h2 : n ≤ r := by omega
    refine go (k := ?_)
    exact XE.ret1 () [] rfl rfl trivial rfl rfl rfl
set_option maxHeartbeats 4000000 in
theorem rcut_ok (r : Nat) (w : World) (h : (r : Int) < n) (hl : L.length ≤ 5000) (hg : gone ≤ 1000000000) (ho : Owns w (rnG br n gone rv L)) :
    Fx Try.prog 30 [ptr br, iv r] w (Ret w (rnG br n gone rv L) (fun _ : Value => iv 0) (fun rv' => rnG br n (gone + rcutn r L) rv' (rcut r L)) (fun _ => True)) := by
  refine Fx.of Try.func30 rfl (by kernel_rfl) Try.ntmps30 rfl ho ?_
  have hrow : ∀ H : Heap, Ent.sl rv 76 3 (ltcs L) ∈ H → Rd w (ids (rnG br n gone rv L)) H rv 3 L.length (ltcs L) := fun H hm => .sl hm (by decide) (ltcs_len L).symm
  refine XC.rdv (hrow _ (.tail _ (.head _))) fun ao m hva _ hlm haa => ?_
  subst hva
  have c0 : [iv n, iv gone, Value.slice ao L.length m][0 + 0]? = some (iv n) := rfl
  refine go (k := ?_)
  refine XC.addNil 76 3 ?_
  refine XC.loop (α := Nat × Value) (fun x => [(0, ptr br), (1, iv r), (5, x.2), (6, iv x.1)]) (fun x => [.sl x.2 76 3 (ltcs (rcut r (L.take x.1))), .blk br [iv n, iv ((gone + rcutn r (L.take x.1) : Nat) : Int), .slice ao L.length m] 46, .sl (.slice ao L.length m) 76 3 (ltcs L)])
    (fun x => x.1 ≤ L.length) (fun x => L.length - x.1) (0, nil0) [0, 1, 2] (Nat.zero_le _) ⟨rfl, rfl, rfl, rfl, trivial⟩ rfl rfl ?_
  rintro ⟨i, v⟩ hi
  simp only at hi ⊢
  have hcn : rcutn r (L.take i) ≤ i := Nat.le_trans (List.length_filter_le _ _) (by rw [List.length_take]; omega)
  have hcl : (rcut r (L.take i)).length ≤ i := Nat.le_trans (List.length_filter_le _ _) (by rw [List.length_take]; omega)
  have c2 : [iv n, iv ((gone + rcutn r (L.take i) : Nat) : Int), Value.slice ao L.length m][0 + 2]? = some (Value.slice ao L.length m) := rfl
  have hrd := hrow [.sl v 76 3 (ltcs (rcut r (L.take i))), .blk br [iv n, iv ((gone + rcutn r (L.take i) : Nat) : Int), .slice ao L.length m] 46, .sl (.slice ao L.length m) 76 3 (ltcs L)] (.tail _ (.tail _ (.head _)))
  by_cases hil : i < L.length
  · obtain ⟨x, hx⟩ : ∃ x, L[i]? = some x := ⟨_, List.getElem?_eq_getElem hil⟩
    obtain ⟨b1, o1, rfl⟩ : ∃ b off, ao = some ⟨b, off, none⟩ := haa.resolve_left (by omega)
    obtain ⟨d1, d2, d3⟩ := ltcs_at hx
    have hcut3 : X.cut (ltcs L) (i * 3) 3 = some (ltc x) := by
      have hl3 := ltcs_len L
      rw [cut_some (by omega), ltcs_drop, List.drop_eq_getElem_cons hil, (List.getElem?_eq_some_iff.1 hx).2]; rfl
    obtain ⟨s1, s2⟩ := rcut_snoc L (r := r) hx
    by_cases e : x.2.1 = r
    · rw [if_pos e, List.append_nil] at s1
      rw [if_pos e] at s2
      have g1 : [iv n, iv ((gone + rcutn r (L.take i) : Nat) : Int), Value.slice (some ⟨b1, o1, none⟩) L.length m][0 + 1]? = some (iv ((gone + rcutn r (L.take i) : Nat) : Int)) := rfl
      have e1 : ((gone + rcutn r (L.take (i + 1)) : Nat) : Int) = ((gone + rcutn r (L.take i) : Nat) : Int) + 1 := by rw [s2]; omega
      refine go (k := ?_)
      refine XL.q (.ldRd (j := i * 3 + 1) rfl rfl rfl hrd (by omega) d2) rfl ?_
      refine go (k := ?_)
      exact XE.mid (i + 1, v) [0, 1, 2] ⟨by simp only; omega, by simp only; omega⟩ ⟨rfl, rfl, rfl, rfl, trivial⟩ rfl (by simp only; rw [s1, e1]; rfl)
    · rw [if_neg e] at s1
      rw [if_neg e, Nat.add_zero] at s2
      refine go (k := ?_)
      refine XL.q (.ldRd (j := i * 3 + 1) rfl rfl rfl hrd (by omega) d2) rfl ?_
      refine go (k := ?_)
      refine XL.q (.ldRdN (j := i * 3) rfl rfl rfl rfl hrd (by omega) hcut3) rfl ?_
      refine go (k := ?_)
      refine XL.make (.bslice rfl rfl rfl rfl rfl rfl) rfl fun _ _ hq => ?_
      obtain ⟨bq, rfl, rfl⟩ := hq
      refine XL.app (m := 1) (news := ltcs [x]) (L' := fun v2 => _ :: .sl v2 76 3 (ltcs (rcut r (L.take i)) ++ ltcs [x]) :: _) rfl rfl rfl rfl rfl rfl (by decide) (.tail _ (.head _)) (.blk (.head _) rfl (Nat.le_refl _) rfl) (ltcs_one _) (by simp only [ltcs_len, List.length_singleton]; omega) (by simp only [ltcs_len, List.length_singleton]; omega) (fun v2 => .there .here) rfl fun v2 => ?_
      rw [← ltcs_app, ← s1]
      refine go (k := ?_)
      exact XE.mid (i + 1, v2) [1, 2, 3] ⟨by simp only; omega, by simp only; omega⟩ ⟨rfl, rfl, rfl, rfl, trivial⟩ rfl (by simp only; rw [s2]; rfl)
  · obtain rfl : i = L.length := by omega
    rw [List.take_length]
    refine XC.slv (.head _) fun ao' q' m' hv' _ _ => ?_
    subst hv'
    refine go (k := ?_)
    exact XE.ret1 (Value.slice ao' q' m') [1, 0] rfl rfl trivial rfl rfl rfl
end
abbrev pcs (l : List (Nat × Nat)) : List Value := l.flatMap fun p => [iv (p.1 : Int), iv (p.2 : Int)]
theorem pcs_len : ∀ l, (pcs l).length = l.length * 2
  | [] => rfl
  | a :: l => by
    have := pcs_len l
    have e : pcs (a :: l) = [iv (a.1 : Int), iv (a.2 : Int)] ++ pcs l := rfl
    rw [e, List.length_append, this]
    simp only [List.length_cons, List.length_nil]; omega
theorem pcs_one (l : List (Nat × Nat)) : (pcs l).all Value.oneCell' = true := by
  induction l with
  | nil => rfl
  | cons a l ih => rw [pcs, List.flatMap_cons, List.all_append]; exact ih
theorem pcs_app (a b : List (Nat × Nat)) : pcs (a ++ b) = pcs a ++ pcs b := List.flatMap_append
theorem pcs_at : ∀ {l : List (Nat × Nat)} {i : Nat} {p : Nat × Nat}, l[i]? = some p → X.cut (pcs l) (i * 2) 2 = some [iv (p.1 : Int), iv (p.2 : Int)]
  | [], i, p, h => by simp at h
  | q :: l, 0, p, h => by
    simp at h; subst h
    have := pcs_len (q :: l)
    rw [cut_some (by rw [this, List.length_cons]; omega)]; rfl
  | q :: l, i + 1, p, h => by
    have ih := pcs_at (l := l) (i := i) (by simpa using h)
    have hl := pcs_len l
    have hlt := (List.getElem?_eq_some_iff.1 h).1
    simp only [List.length_cons] at hlt
    rw [cut_some (by omega)] at ih
    rw [cut_some (by rw [pcs_len, List.length_cons]; omega), show (i + 1) * 2 = i * 2 + 1 + 1 by omega]
    exact ih
set_option maxHeartbeats 4000000 in
theorem rways_ok (br n : Nat) (gone : Nat) (rv : Value) (L : List Lt) (ps : List Wy) (w : World) (hn : n ≤ 8) (hl : L.length ≤ 5000) (hR : ∀ f t, f < n → t < n → (wof L f t).length = (wl ps f t).length) (ho : Owns w (rnG br n gone rv L)) :
    Fx Try.prog 21 [ptr br] w (Ret w [] (fun v : Value => v) (fun v => [.sl v 53 2 (pcs (wall ps n))]) (fun _ => True)) := by
  have hb : w.heap[br]? = some (.cells [iv n, iv gone, rv].toArray _ (0, 0)) := ho.ok _ (.head _)
  have hB : br ∉ ids ([] : Heap) := by simp [X.ids]
  have c0 : [iv n, iv gone, rv][0 + 0]? = some (iv n) := rfl
  have hown : ∀ w', Kept (ids []) w w' → Owns w' (rnG br n gone rv L) := fun w' hk => ho.of_kept hk (fun _ _ h => by simp [X.ids] at h)
  clear ho
  refine Fx.of (L0 := []) Try.func21 rfl (by kernel_rfl) Try.ntmps21 rfl (Owns.nil w) ?_
  refine go (k := ?_)
  refine XC.addNil 53 2 ?_
  refine XC.loop (α := Nat × Value) (fun x => [(0, ptr br), (3, x.2), (4, iv x.1)]) (fun x => [.sl x.2 53 2 (pcs (wpre ps n x.1))]) (fun x => x.1 ≤ n) (fun x => n - x.1) (0, nil0) [0] (Nat.zero_le _) ⟨rfl, rfl, rfl, trivial⟩ rfl rfl ?_
  rintro ⟨j, v⟩ hj
  simp only at hj ⊢
  by_cases hjn : j < n
  · refine go (k := ?_)
    refine XC.loop (α := Nat × Value) (fun x => [(0, ptr br), (3, x.2), (4, iv j), (5, iv x.1)]) (fun x => [.sl x.2 53 2 (pcs (wpre ps n j ++ wrow ps j x.1))]) (fun x => x.1 ≤ n) (fun x => n - x.1) (0, v) [0] (Nat.zero_le _) ⟨rfl, rfl, rfl, rfl, trivial⟩ rfl (by simp [wrow]; rfl) ?_
    rintro ⟨t, v'⟩ ht
    simp only at ht ⊢
    by_cases htn : t < n
    · have hsn := wrow_snoc ps j t
      have hRj := hR j t hjn htn
      have hle := wof_len L j t
      have hwl := wall_len (ps := ps) (n := n)
      obtain ⟨tl, htl⟩ := wall_ext ps (t := t) hjn ht
      have hlen : (wpre ps n j ++ wrow ps j t).length ≤ 64 := by
        have h1 := congrArg List.length htl
        rw [List.length_append] at h1
        have h2 : n * n ≤ 8 * 8 := Nat.mul_le_mul hn hn
        omega
      by_cases hz : 0 < (wof L j t).length
      · rw [if_pos (show nz ps j t = true from decide_eq_true (by omega))] at hsn
        refine go (k := ?_)
        refine XL.q (.call rfl rfl fun _ w' hs => rwaits_ok br n gone rv L j t w' (by omega) (hown w' hs.kept)) rfl ?_
        rw [rcnt_nat]
        refine go (k := ?_)
        refine XL.make (.bslice rfl rfl rfl rfl rfl rfl) rfl fun _ _ hq => ?_
        obtain ⟨bq, rfl, rfl⟩ := hq
        refine XL.app (m := 1) (news := pcs [(j, t)]) (L' := fun v2 => _ :: .sl v2 53 2 (pcs (wpre ps n j ++ wrow ps j t) ++ pcs [(j, t)]) :: _) rfl rfl rfl rfl rfl rfl (by decide) (.tail _ (.head _)) (.blk (.head _) rfl (Nat.le_refl _) rfl) (pcs_one _) (by simp only [pcs_len, List.length_singleton]; omega) (by simp only [pcs_len, List.length_singleton]; omega) (fun v2 => .there .here) rfl fun v2 => ?_
        rw [← pcs_app, List.append_assoc, ← hsn]
        refine go (k := ?_)
        exact XE.mid (t + 1, v2) [1] ⟨by simp only; omega, by simp only; omega⟩ ⟨rfl, rfl, rfl, rfl, trivial⟩ rfl rfl
      · rw [if_neg (show ¬ nz ps j t = true from fun h => by have h' : 0 < (wl ps j t).length := of_decide_eq_true h; omega), List.append_nil] at hsn
        refine go (k := ?_)
        refine XL.q (.call rfl rfl fun _ w' hs => rwaits_ok br n gone rv L j t w' (by omega) (hown w' hs.kept)) rfl ?_
        rw [rcnt_nat]
        refine go (k := ?_)
        exact XE.mid (t + 1, v') [0] ⟨by simp only; omega, by simp only; omega⟩ ⟨rfl, rfl, rfl, rfl, trivial⟩ rfl (by simp only; rw [hsn]; rfl)
    · obtain rfl : t = n := by omega
      refine go (k := ?_)
      exact XE.mid (j + 1, v') [0] ⟨by simp only; omega, by simp only; omega⟩ ⟨rfl, rfl, rfl, trivial⟩ rfl (by simp only; rw [wpre_snoc]; rfl)
  · obtain rfl : j = n := by omega
    refine go (k := ?_)
    exact XE.ret1 v [0] rfl rfl trivial rfl rfl rfl
end Go.X
