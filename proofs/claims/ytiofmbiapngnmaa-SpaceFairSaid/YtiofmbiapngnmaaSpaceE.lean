/- Contracts: the reference's Use, Take, Give, Free, All, Copy, Load. -/
import Derived.Test.YtiofmbiapngnmaaSpaceD
namespace Go.X
open Go Go.Proofs
def inl (l : List Int) : Nat → Bool := fun k => decide ((k : Int) ∈ l)
def rUse (f n : Int) (l : List Int) (a : Int) : Int × List Int := if a < f ∨ n ≤ a then (2, l) else if a ∈ l then (6, l) else (0, l ++ [a])
theorem rUse_len (f n : Int) (l : List Int) (a : Int) : (rUse f n l a).2.length ≤ l.length + 1 := by
  unfold rUse
  split
  · simp
  · split <;> simp
theorem ruse_ok (b : Nat) (v : Value) (f n : Int) (l : List Int) (a : Int) (w : World) (hl : l.length ≤ 100000) (ho : Owns w (rsG b v f n l)) :
    Fx Try.prog 26 [ptr b, iv a] w (Ret w (rsG b v f n l) (fun _ : Value => iv (rUse f n l a).1) (fun v' => rsG b v' f n (rUse f n l a).2) (fun _ => True)) := by
  refine Fx.of Try.func26 rfl (by kernel_rfl) Try.ntmps26 rfl ho ?_
  by_cases h1 : a < f
  · have e : rUse f n l a = (2, l) := by unfold rUse; rw [if_pos (.inl h1)]
    rw [e]
    refine go (k := ?_)
    exact XE.ret1 v [0, 1] rfl rfl trivial rfl rfl rfl
  by_cases h2 : n ≤ a
  · have e : rUse f n l a = (2, l) := by unfold rUse; rw [if_pos (.inr h2)]
    rw [e]
    refine go (k := ?_)
    exact XE.ret1 v [0, 1] rfl rfl trivial rfl rfl rfl
  · refine go (k := ?_)
    refine XL.q (.call rfl rfl fun _ w' hs => rat_ok b v f n l a w' (by omega) hs.own) rfl ?_
    by_cases hin : a ∈ l
    · have hidx : 0 ≤ idxOf a l := Int.not_lt.1 (fun h => (idxOf_neg.1 h) hin)
      have e : rUse f n l a = (6, l) := by unfold rUse; rw [if_neg (by omega), if_pos hin]
      rw [e]
      refine go (k := ?_)
      exact XE.ret1 v [0, 1] rfl rfl trivial rfl rfl rfl
    · have hidx : idxOf a l < 0 := idxOf_neg.2 hin
      have e : rUse f n l a = (0, l ++ [a]) := by unfold rUse; rw [if_neg (by omega), if_neg hin]
      rw [e]
      refine go (k := ?_)
      refine XL.make (.bslice rfl rfl rfl rfl rfl rfl) rfl fun _ _ hb => ?_
      obtain ⟨bs, rfl, rfl⟩ := hb
      refine XL.app (m := 1) (news := [iv a]) (L' := fun v'' => _ :: _ :: .sl v'' 3 1 (ivs l ++ [iv a]) :: _) rfl rfl rfl rfl rfl rfl (by decide) (.tail _ (.tail _ (.head _)))
        (.blk (.head _) rfl (Nat.le_refl _) rfl) rfl (by simp only [ivs_len, List.length_singleton]; omega) (by simp only [ivs_len, List.length_singleton]; omega) (fun v'' => .there (.there .here)) rfl fun v'' => ?_
      rw [show ivs l ++ [iv a] = ivs (l ++ [a]) from (ivs_app l [a]).symm]
      refine XL.slv (.tail _ (.tail _ (.head _))) fun ao q m hv _ _ => ?_
      subst hv
      refine go (k := ?_)
      exact XE.ret1 (.slice ao q m) [1, 2] rfl rfl trivial rfl rfl rfl
def rTake (f n : Nat) (l : List Int) : Int × Int × List Int := match frees f n (inl l) with
  | [] => (0, 7, l)
  | k :: _ => (((k : Nat) : Int), 0, l ++ [((k : Nat) : Int)])
theorem rtake_ok (b : Nat) (v : Value) (f n : Nat) (l : List Int) (w : World) (h1 : f < n) (h2 : n ≤ 2048) (hl : l.length ≤ 100000) (ho : Owns w (rsG b v f n l)) :
    Fx Try.prog 29 [ptr b] w (Ret w (rsG b v f n l) (fun _ : Value => .tuple #[iv (rTake f n l).1, iv (rTake f n l).2.1]) (fun v' => rsG b v' f n (rTake f n l).2.2) (fun _ => True)) := by
  refine Fx.of Try.func29 rfl (by kernel_rfl) Try.ntmps29 rfl ho ?_
  refine go (k := ?_)
  refine XC.loop (α := Nat) (fun k => [(0, ptr b), (4, iv k)]) (fun _ => rsG b v f n l) (fun k => f ≤ k ∧ k ≤ n ∧ frees f k (inl l) = []) (fun k => n - k) f [0, 1] ⟨Nat.le_refl _, Nat.le_of_lt h1, frees_self _ _⟩ ⟨rfl, rfl, trivial⟩ rfl rfl ?_
  intro k ⟨hk1, hk2, hk3⟩
  by_cases hlt : k < n
  · refine go (k := ?_)
    refine XL.q (.call rfl rfl fun _ w' hs => rat_ok b v f n l k w' (by omega) hs.own) rfl ?_
    have hsn := frees_snoc (inl l) hk1
    by_cases hin : (k : Int) ∈ l
    · have hidx : ¬ idxOf (k : Int) l < 0 := fun h => (idxOf_neg.1 h) hin
      rw [if_pos (by simpa [inl] using hin), hk3] at hsn
      refine go (k := ?_)
      exact XE.mid (k + 1) [0, 1] ⟨⟨by omega, by omega, hsn⟩, by omega⟩ ⟨rfl, rfl, trivial⟩ rfl rfl
    · have hidx : idxOf (k : Int) l < 0 := idxOf_neg.2 hin
      have e : rTake f n l = ((k : Int), 0, l ++ [(k : Int)]) := by
        have : frees f n (inl l) = k :: frees (k + 1) n (inl l) := by
          rw [frees_split (inl l) hk1 hk2, hk3, frees_cons (inl l) hlt, if_neg (by simpa [inl] using hin)]; rfl
        unfold rTake; rw [this]
      rw [e]
      refine go (k := ?_)
      refine XL.make (.bslice rfl rfl rfl rfl rfl rfl) rfl fun _ _ hb => ?_
      obtain ⟨bs, rfl, rfl⟩ := hb
      refine XL.app (m := 1) (news := [iv k]) (L' := fun v'' => _ :: _ :: .sl v'' 3 1 (ivs l ++ [iv k]) :: _) rfl rfl rfl rfl rfl rfl (by decide) (.tail _ (.tail _ (.head _)))
        (.blk (.head _) rfl (Nat.le_refl _) rfl) rfl (by simp only [ivs_len, List.length_singleton]; omega) (by simp only [ivs_len, List.length_singleton]; omega) (fun v'' => .there (.there .here)) rfl fun v'' => ?_
      rw [show ivs l ++ [iv (k : Int)] = ivs (l ++ [(k : Int)]) from (ivs_app l [(k : Int)]).symm]
      refine XL.slv (.tail _ (.tail _ (.head _))) fun ao q m hv _ _ => ?_
      subst hv
      refine go (k := ?_)
      exact XE.ret2 (.slice ao q m) [1, 2] rfl rfl rfl trivial rfl rfl rfl
  · obtain rfl : k = n := by omega
    have e : rTake f k l = (0, 7, l) := by unfold rTake; rw [hk3]
    rw [e]
    refine go (k := ?_)
    exact XE.ret2 v [0, 1] rfl rfl rfl trivial rfl rfl rfl
def rGive (f n : Int) (l : List Int) (a : Int) : Int × List Int := if a < f ∨ n ≤ a then (2, l) else if a ∈ l then (0, del a l) else (5, l)
theorem rgive_ok (b : Nat) (v : Value) (f n : Int) (l : List Int) (a : Int) (w : World) (hl : l.length ≤ 100000) (ho : Owns w (rsG b v f n l)) :
    Fx Try.prog 28 [ptr b, iv a] w (Ret w (rsG b v f n l) (fun _ : Value => iv (rGive f n l a).1) (fun v' => rsG b v' f n (rGive f n l a).2) (fun _ => True)) := by
  refine Fx.of Try.func28 rfl (by kernel_rfl) Try.ntmps28 rfl ho ?_
  by_cases h1 : a < f
  · have e : rGive f n l a = (2, l) := by unfold rGive; rw [if_pos (.inl h1)]
    rw [e]
    refine go (k := ?_)
    exact XE.ret1 v [0, 1] rfl rfl trivial rfl rfl rfl
  by_cases h2 : n ≤ a
  · have e : rGive f n l a = (2, l) := by unfold rGive; rw [if_pos (.inr h2)]
    rw [e]
    refine go (k := ?_)
    exact XE.ret1 v [0, 1] rfl rfl trivial rfl rfl rfl
  refine go (k := ?_)
  refine XL.q (.call rfl rfl fun _ w' hs => rat_ok b v f n l a w' (by omega) hs.own) rfl ?_
  by_cases hin : a ∈ l
  · obtain ⟨i, hi⟩ := idxOf_mem hin
    have hb := idxOf_lt a l
    have hil : i < l.length := by omega
    have e : rGive f n l a = (0, l.eraseIdx i) := by unfold rGive; rw [if_neg (by omega), if_pos hin, erase_idx hi]
    rw [e, hi]
    refine XL.openSl (m := l.length) (.tail _ (.head _)) (by decide) (by simp) (by omega) (fun _ _ => .there .here) fun b1 cs cap hv hc hcl hct => ?_
    subst hv
    have hcut : ∀ j q, j + q ≤ l.length → cut cs (0 + j * 1) (q * 1) = some (ivs ((l.drop j).take q)) := by
      intro j q hjq
      rw [cut_some (by omega), ivs, List.map_take, List.map_drop, ← ivs, ← hct, ivs_len]
      congr 1
      rw [show 0 + j * 1 = j by omega, List.drop_take, List.take_take, Nat.min_eq_left (by omega), Nat.mul_one]
    refine go (k := ?_)
    have hr1 := hcut 0 i (by omega)
    rw [List.drop_zero] at hr1
    have hl1 : (ivs (l.take i)).length = i * 1 := by rw [ivs_len, List.length_take]; omega
    refine XL.make (.app (news := ivs (l.take i)) rfl rfl rfl rfl rfl rfl (by decide) (.blk (.tail _ (.head _)) hl1.symm (by omega) (by rw [hl1]; exact hr1)) (ivs_one _) (by omega) (by omega)) rfl fun v1 H hH => ?_
    subst hH
    refine go (k := ?_)
    refine XL.q (.cutX (l := i + 1) (h := l.length) (q := cap) rfl (.inl ⟨_, _, rfl, rfl⟩) (.inr ⟨rfl, rfl, rfl⟩) (.inr ⟨rfl, rfl⟩) rfl rfl (by omega) hc (Nat.le_refl _)) rfl ?_
    have hr2 := hcut (i + 1) (l.length - (i + 1)) (by omega)
    rw [List.take_of_length_le (by simp)] at hr2
    have hl2 : (ivs (l.drop (i + 1))).length = (l.length - (i + 1)) * 1 := by rw [ivs_len, List.length_drop]; omega
    refine XL.app (news := ivs (l.drop (i + 1))) (L' := fun v' => [.sl v' 3 1 (ivs (l.take i) ++ ivs (l.drop (i + 1))), .blk b [iv f, iv n, .slice (some ⟨b1, 0, none⟩) l.length cap] 48, .blk b1 cs 3])
      rfl rfl rfl rfl rfl rfl (by decide) (.head _) (.cut (.tail _ (.tail _ (.head _))) hl2.symm (by omega) (by omega) (by rw [hl2]; exact hr2)) (ivs_one _) (by omega) (by omega) (fun _ => .here) rfl fun v' => ?_
    rw [← ivs_app, ← List.eraseIdx_eq_take_drop_succ]
    refine XL.slv (.head _) fun ao' q' m' hv' _ _ => ?_
    subst hv'
    refine go (k := ?_)
    exact XE.ret1 (.slice ao' q' m') [1, 0] rfl rfl trivial rfl rfl rfl
  · have hidx : idxOf a l < 0 := idxOf_neg.2 hin
    have e : rGive f n l a = (5, l) := by unfold rGive; rw [if_neg (by omega), if_neg hin]
    rw [e]
    refine go (k := ?_)
    exact XE.ret1 v [0, 1] rfl rfl trivial rfl rfl rfl
theorem rfree_ok (b : Nat) (v : Value) (f n : Int) (l : List Int) (a : Int) (w : World) (hl : l.length ≤ 100000) (ho : Owns w (rsG b v f n l)) :
    Fx Try.prog 19 [ptr b, iv a] w (Pure w (.bool (decide (f ≤ a) && decide (a < n) && !decide (a ∈ l)))) := by
  have hk : ∀ w', Kept [] w w' → Owns w' (rsG b v f n l) := fun w' k => ho.of_kept k (fun _ _ h => by cases h)
  have hb : w.heap[b]? = some (.cells [iv f, iv n, v].toArray _ (0, 0)) := ho.ok _ (.head _)
  have hB : b ∉ ids ([] : Heap) := by simp [X.ids]
  have c0 : [iv f, iv n, v][0 + 0]? = some (iv f) := rfl
  have c1 : [iv f, iv n, v][0 + 1]? = some (iv n) := rfl
  refine Fx.of (L0 := []) Try.func19 rfl (by kernel_rfl) Try.ntmps19 rfl (Owns.nil w) ?_
  by_cases h1 : f ≤ a
  · by_cases h2 : a < n
    · refine go (k := ?_)
      refine XL.q (.call rfl rfl fun _ w' hs => rat_ok b v f n l a w' (by omega) (hk w' hs.kept)) rfl ?_
      refine go (k := ?_)
      refine XE.ret1 () [] rfl rfl trivial ?_ rfl rfl
      rw [decide_eq_true h1, decide_eq_true h2]
      by_cases hin : a ∈ l
      · have hidx : ¬ idxOf a l < 0 := fun h => (idxOf_neg.1 h) hin
        simp [hin, hidx]
      · simp [hin, idxOf_neg.2 hin]
    · refine go (k := ?_)
      refine XE.ret1 () [] rfl rfl trivial ?_ rfl rfl
      rw [decide_eq_false h2]; simp
  · refine go (k := ?_)
    refine XE.ret1 () [] rfl rfl trivial ?_ rfl rfl
    rw [decide_eq_false h1]; simp
theorem rall_ok (b : Nat) (v : Value) (f n : Nat) (l : List Int) (w : World) (h1 : f < n) (h2 : n ≤ 2048) (hl : l.length ≤ 100000) (ho : Owns w (rsG b v f n l)) :
    Fx Try.prog 21 [ptr b] w (Ret w [] (fun v : Value => v) (fun v => [.sl v 3 1 (ivs ((frees f n (inl l)).map Int.ofNat))]) (fun _ => True)) := by
  have hk : ∀ w', Kept [] w w' → Owns w' (rsG b v f n l) := fun w' k => ho.of_kept k (fun _ _ h => by cases h)
  have hb : w.heap[b]? = some (.cells [iv f, iv n, v].toArray _ (0, 0)) := ho.ok _ (.head _)
  have hB : b ∉ ids ([] : Heap) := by simp [X.ids]
  have c0 : [iv f, iv n, v][0 + 0]? = some (iv f) := rfl
  have c1 : [iv f, iv n, v][0 + 1]? = some (iv n) := rfl
  refine Fx.of (L0 := []) Try.func21 rfl (by kernel_rfl) Try.ntmps21 rfl (Owns.nil w) ?_
  refine go (k := ?_)
  refine XC.addNil 3 1 ?_
  refine XC.loop (α := Nat × Value) (fun x => [(0, ptr b), (3, x.2), (4, iv x.1)]) (fun x => [.sl x.2 3 1 (ivs ((frees f x.1 (inl l)).map Int.ofNat))]) (fun x => f ≤ x.1 ∧ x.1 ≤ n) (fun x => n - x.1) (f, .slice none 0 0) [0] ⟨Nat.le_refl _, Nat.le_of_lt h1⟩ ⟨rfl, rfl, rfl, trivial⟩ rfl (by rw [frees_self]; rfl) ?_
  rintro ⟨k, v1⟩ ⟨hk1, hk2⟩
  simp only at hk1 hk2 ⊢
  by_cases hlt : k < n
  · refine go (k := ?_)
    refine XL.q (.call rfl rfl fun _ w' hs => rat_ok b v f n l k w' (by omega) (hk w' hs.kept)) rfl ?_
    have hsn := frees_snoc (inl l) hk1
    by_cases hin : (k : Int) ∈ l
    · have hidx : ¬ idxOf (k : Int) l < 0 := fun h => (idxOf_neg.1 h) hin
      rw [if_pos (by simpa [inl] using hin), List.append_nil] at hsn
      refine go (k := ?_)
      exact XE.mid (k + 1, v1) [0] ⟨⟨by simp only; omega, by simp only; omega⟩, by simp only; omega⟩ ⟨rfl, rfl, rfl, trivial⟩ rfl (by rw [hsn]; rfl)
    · have hidx : idxOf (k : Int) l < 0 := idxOf_neg.2 hin
      rw [if_neg (by simpa [inl] using hin)] at hsn
      have hfl := frees_len (inl l) f k
      refine go (k := ?_)
      refine XL.make (.bslice rfl rfl rfl rfl rfl rfl) rfl fun _ _ hb => ?_
      obtain ⟨bs, rfl, rfl⟩ := hb
      refine XL.app (m := 1) (news := [iv k]) (L' := fun v'' => _ :: .sl v'' 3 1 (ivs ((frees f k (inl l)).map Int.ofNat) ++ [iv k]) :: _) rfl rfl rfl rfl rfl rfl (by decide) (.tail _ (.head _))
        (.blk (.head _) rfl (Nat.le_refl _) rfl) rfl (by simp only [List.length_map, List.length_singleton]; omega) (by simp only [List.length_map, List.length_singleton]; omega) (fun v'' => .there .here) rfl fun v'' => ?_
      refine go (k := ?_)
      refine XE.mid (k + 1, v'') [1] ⟨⟨by simp only; omega, by simp only; omega⟩, by simp only; omega⟩ ⟨rfl, rfl, rfl, trivial⟩ rfl ?_
      rw [hsn, List.map_append, ivs_app]; rfl
  · obtain rfl : k = n := by omega
    refine go (k := ?_)
    exact XE.ret1 v1 [0] rfl rfl trivial rfl rfl rfl
theorem rcopy_ok (b : Nat) (v : Value) (f n : Int) (l : List Int) (w : World) (hl : l.length ≤ 100000) (ho : Owns w (rsG b v f n l)) :
    Fx Try.prog 17 [ptr b] w (Ret w [] (fun x : Nat × Value => ptr x.1) (fun x => rsG x.1 x.2 f n l) (fun _ => True)) := by
  have hb : w.heap[b]? = some (.cells [iv f, iv n, v].toArray _ (0, 0)) := ho.ok _ (.head _)
  have hB : b ∉ ids ([] : Heap) := by simp [X.ids]
  have c0 : [iv f, iv n, v][0 + 0]? = some (iv f) := rfl
  have c1 : [iv f, iv n, v][0 + 1]? = some (iv n) := rfl
  have c2 : [iv f, iv n, v][0 + 2]? = some v := rfl
  have hra : RowAt w v 1 l.length (ivs l) := (ho.ok _ (.tail _ (.head _)) : SlOk w v _ 1 _).rowAt (by decide) (by simp)
  have hr : ∀ L : Heap, Rd w (ids []) L v 1 l.length (ivs l) := fun L => .old hra (fun _ _ _ => by simp [X.ids])
  refine Fx.of (L0 := []) Try.func17 rfl (by kernel_rfl) Try.ntmps17 rfl (Owns.nil w) ?_
  refine go (k := ?_)
  refine XL.box rfl rfl rfl fun b' => ?_
  refine go (k := ?_)
  refine XD.make (.app (news := ivs l) rfl rfl rfl rfl rfl rfl (by decide) (hr _) (ivs_one _) (by rw [ivs_len]; omega) (by rw [ivs_len]; omega)) rfl rfl ?_
  refine go (k := ?_)
  refine XD.tail1 rfl (by decide +kernel) fun v1 H hv => ?_
  subst hv
  refine XL.slv (.head _) fun ao q m hv _ _ => ?_
  subst hv
  refine go (k := ?_)
  exact XE.ret1 (b', .slice ao q m) [1, 0] rfl rfl trivial rfl rfl rfl
def rLoad (f n : Int) : List Int → List Int → Option (List Int)
  | l, [] => some l
  | l, a :: us => if (rUse f n l a).1 = 0 then rLoad f n (rUse f n l a).2 us else none
theorem rLoad_snoc (f n : Int) : ∀ (us l : List Int) (a : Int), rLoad f n l (us ++ [a]) = (rLoad f n l us).bind fun l' => if (rUse f n l' a).1 = 0 then some (rUse f n l' a).2 else none
  | [], l, a => rfl
  | x :: us, l, a => by
    simp only [List.cons_append, rLoad]
    split
    · exact rLoad_snoc f n us _ a
    · rfl
theorem rLoad_none (f n : Int) : ∀ (us m l : List Int), rLoad f n l us = none → rLoad f n l (us ++ m) = none
  | [], m, l, h => by cases h
  | x :: us, m, l, h => by
    simp only [List.cons_append, rLoad] at h ⊢
    split
    · rename_i h0; rw [if_pos h0] at h; exact rLoad_none f n us m _ h
    · rfl
theorem rload_arg (f n : Int) (v : Value) (w : World) (h : ¬ (0 ≤ f ∧ f < n ∧ n ≤ 2048)) : Fx Try.prog 14 [iv f, iv n, v] w (Pure w (.tuple #[.pointer none, iv 2])) := by
  refine Fx.of (L0 := []) Try.func14 rfl (by kernel_rfl) Try.ntmps14 rfl (Owns.nil w) ?_
  refine go (k := ?_)
  refine XL.q (.call rfl rfl fun _ w _ => may_ok f n w) rfl ?_
  rw [decide_eq_false h]
  refine go (k := ?_)
  exact XE.ret2 () [] rfl rfl rfl trivial rfl rfl rfl
theorem rload_ok (f n : Int) (v : Value) (us : List Int) (w : World) (h : 0 ≤ f ∧ f < n ∧ n ≤ 2048) (hv : RowAt w v 1 us.length (ivs us)) (hl : us.length ≤ 1000) :
    Fx Try.prog 14 [iv f, iv n, v] w (Ret w [] (fun x : Option (Nat × Value × List Int) => match x with
        | some x => .tuple #[ptr x.1, iv 0]
        | none => .tuple #[.pointer none, iv 4]) (fun x => match x with
        | some x => rsG x.1 x.2.1 f n x.2.2
        | none => []) (fun x => rLoad f n [] us = x.map (·.2.2) ∧ ∀ y, x = some y → y.2.2.length ≤ us.length)) := by
  have hrd : ∀ L : Heap, Rd w (ids []) L v 1 us.length (ivs us) := fun L => .old hv (fun _ _ _ => by simp [X.ids])
  refine Fx.of (L0 := []) Try.func14 rfl (by kernel_rfl) Try.ntmps14 rfl (Owns.nil w) ?_
  refine XC.rdv (hrd _) fun ao m hva _ _ haa => ?_
  subst hva
  refine go (k := ?_)
  refine XL.q (.call rfl rfl fun _ w _ => may_ok f n w) rfl ?_
  rw [decide_eq_true h]
  refine go (k := ?_)
  refine XL.box rfl rfl rfl fun b => ?_
  refine go (k := ?_)
  refine XC.addNil 3 1 ?_
  refine XC.loop (α := Nat × Value × List Int) (fun x => [(2, .slice ao us.length m), (8, ptr b), (9, iv x.1)]) (fun x => rsG b x.2.1 f n x.2.2)
    (fun x => x.1 ≤ us.length ∧ rLoad f n [] (us.take x.1) = some x.2.2 ∧ x.2.2.length ≤ x.1) (fun x => us.length - x.1) (0, .slice none 0 0, []) [1, 0] ⟨Nat.zero_le _, rfl, Nat.le_refl _⟩ ⟨rfl, rfl, rfl, trivial⟩ rfl rfl ?_
  rintro ⟨k, v1, l⟩ ⟨hk, hu, hll⟩
  simp only at hk hu hll ⊢
  by_cases hkl : k < us.length
  · obtain ⟨a, ha⟩ : ∃ x, us[k]? = some x := ⟨_, List.getElem?_eq_getElem hkl⟩
    obtain ⟨b1, o1, rfl⟩ : ∃ b off, ao = some ⟨b, off, none⟩ := haa.resolve_left (by omega)
    have hv1 : (ivs us)[k * 1]? = some (iv a) := by simp [ivs, ha]
    have hsn := rLoad_snoc f n (us.take k) [] a
    rw [← htake_snoc ha, hu, Option.bind_some] at hsn
    have hul := rUse_len f n l a
    refine go (k := ?_)
    refine XL.q (.ldRd rfl rfl rfl (hrd _) (by omega) hv1) rfl ?_
    refine go (k := ?_)
    refine XL.call [0, 1] [] rfl rfl rfl rfl rfl (fun _ w _ ho => ruse_ok b v1 f n l a w (by omega) ho) fun v2 _ => ?_
    by_cases he : (rUse f n l a).1 = 0
    · rw [if_pos he] at hsn
      refine go (k := ?_)
      exact XE.mid (k + 1, v2, (rUse f n l a).2) [0, 1] ⟨⟨by simp only; omega, hsn, by simp only; omega⟩, by simp only; omega⟩ ⟨rfl, rfl, rfl, trivial⟩ rfl rfl
    · rw [if_neg he] at hsn
      have hno : rLoad f n [] us = none := by rw [← List.take_append_drop (k + 1) us]; exact rLoad_none f n _ _ _ hsn
      refine go (k := ?_)
      exact XE.ret2 none [] rfl rfl rfl ⟨hno, fun _ h => by cases h⟩ rfl rfl rfl
  · obtain rfl : k = us.length := by omega
    rw [List.take_length] at hu
    refine go (k := ?_)
    exact XE.ret2 (some (b, v1, l)) [0, 1] rfl rfl rfl ⟨by simpa using hu, fun y hy => by cases hy; exact hll⟩ rfl rfl rfl
end Go.X
