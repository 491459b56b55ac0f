/- Plain laws: the words and the reference's list; one act of both. -/
import Derived.Test.YtiofmbiapngnmaaSpaceF
namespace Go.X
open Go Go.Proofs
structure SInv (f n : Nat) (l : List Int) : Prop where
  nd : l.Nodup
  rng : ∀ x ∈ l, (f : Int) ≤ x ∧ x < n
theorem SInv.nil (f n : Nat) : SInv f n [] := ⟨.nil, fun _ h => by cases h⟩
theorem SInv.snoc {f n : Nat} {l : List Int} (h : SInv f n l) {a : Int} (ha : a ∉ l) (h1 : (f : Int) ≤ a) (h2 : a < n) : SInv f n (l ++ [a]) :=
  ⟨List.nodup_append.2 ⟨h.nd, by simp, fun x hx y hy => by rw [List.mem_singleton.1 hy]; exact fun e => ha (e ▸ hx)⟩, fun x hx => by
    rcases List.mem_append.1 hx with hx | hx
    · exact h.rng x hx
    · rw [List.mem_singleton.1 hx]; exact ⟨h1, h2⟩⟩
theorem del_sub {α : Type} [DecidableEq α] (x : α) : ∀ l : List α, (del x l).Sublist l
  | [] => .refl _
  | y :: l => by
    simp only [del]
    split
    · exact List.sublist_cons_self _ _
    · exact (del_sub x l).cons_cons _
theorem SInv.del {f n : Nat} {l : List Int} (h : SInv f n l) (a : Int) : SInv f n (X.del a l) :=
  ⟨h.nd.sublist (del_sub a l), fun x hx => h.rng x ((del_sub a l).mem hx)⟩
theorem mem_del {α : Type} [DecidableEq α] {x y : α} : ∀ {l : List α}, l.Nodup → (y ∈ del x l ↔ y ∈ l ∧ y ≠ x)
  | [], _ => by simp [del]
  | z :: l, h => by
    have ⟨hz, hl⟩ := List.nodup_cons.1 h
    have ih := mem_del (x := x) (y := y) hl
    simp only [del]
    by_cases hzx : z = x
    · subst hzx
      rw [if_pos rfl]
      constructor
      · exact fun hy => ⟨.tail _ hy, fun e => hz (e ▸ hy)⟩
      · rintro ⟨hy, hne⟩
        rcases List.mem_cons.1 hy with rfl | hy
        · exact absurd rfl hne
        · exact hy
    · rw [if_neg hzx, List.mem_cons, ih, List.mem_cons]
      constructor
      · rintro (rfl | ⟨h1, h2⟩)
        · exact ⟨.inl rfl, hzx⟩
        · exact ⟨.inr h1, h2⟩
      · rintro ⟨rfl | h1, h2⟩
        · exact .inl rfl
        · exact .inr ⟨h1, h2⟩
theorem suse_inl (f n : Nat) (l : List Int) (a : Int) : suse f n (inl l) a = ((rUse f n l a).1, inl (rUse f n l a).2) := by
  unfold suse rUse
  by_cases h : a < f ∨ (n : Int) ≤ a
  · rw [if_pos h, if_pos h]
  · rw [if_neg h, if_neg h]
    obtain ⟨k, rfl⟩ : ∃ k : Nat, a = k := ⟨a.toNat, by omega⟩
    have e : inl l (k : Int).toNat = decide ((k : Int) ∈ l) := by unfold inl; rw [Int.toNat_natCast]
    rw [e]
    by_cases hk : (k : Int) ∈ l
    · rw [if_pos (decide_eq_true hk), if_pos hk]
    · rw [if_neg (by simpa using hk), if_neg hk]
      refine congrArg (Prod.mk 0) (funext fun i => ?_)
      unfold upd inl
      rw [Int.toNat_natCast]
      by_cases hi : i = k
      · rw [if_pos hi]; simp [hi]
      · rw [if_neg hi]; simp; intro h2; omega
theorem sgive_inl (f n : Nat) (l : List Int) (a : Int) (hl : l.Nodup) : sgive f n (inl l) a = ((rGive f n l a).1, inl (rGive f n l a).2) := by
  unfold sgive rGive
  by_cases h : a < f ∨ (n : Int) ≤ a
  · rw [if_pos h, if_pos h]
  · rw [if_neg h, if_neg h]
    obtain ⟨k, rfl⟩ : ∃ k : Nat, a = k := ⟨a.toNat, by omega⟩
    have e : inl l (k : Int).toNat = decide ((k : Int) ∈ l) := by unfold inl; rw [Int.toNat_natCast]
    rw [e]
    by_cases hk : (k : Int) ∈ l
    · rw [if_pos (decide_eq_true hk), if_pos hk]
      refine congrArg (Prod.mk 0) (funext fun i => ?_)
      unfold upd inl
      rw [Int.toNat_natCast]
      have hm : ((i : Int) ∈ X.del (k : Int) l) ↔ ((i : Int) ∈ l ∧ (i : Int) ≠ k) := mem_del hl
      by_cases hi : i = k
      · have hno : ¬ (i : Int) ∈ X.del (k : Int) l := fun hh => (hm.1 hh).2 (by omega)
        rw [if_pos hi, decide_eq_false hno]
      · have hi' : (i : Int) ≠ k := by omega
        rw [if_neg hi]; simp [hm, hi']
    · rw [if_neg (by simpa using hk), if_neg hk]
theorem stake_inl (f n : Nat) (l : List Int) : stake f n (inl l) = ((rTake f n l).1, (rTake f n l).2.1, inl (rTake f n l).2.2) := by
  unfold stake rTake
  cases frees f n (inl l) with
  | nil => rfl
  | cons k t =>
    refine congrArg (fun x => (((k : Nat) : Int), (0 : Int), x)) (funext fun i => ?_)
    unfold upd inl
    by_cases hi : i = k
    · rw [if_pos hi]; simp [hi]
    · rw [if_neg hi]; simp; intro h2; omega
theorem SInv.use {f n : Nat} {l : List Int} (h : SInv f n l) (a : Int) : SInv f n (rUse f n l a).2 := by
  unfold rUse
  split
  · exact h
  · split
    · exact h
    · rename_i h1 h2; exact h.snoc h2 (by omega) (by omega)
theorem SInv.give {f n : Nat} {l : List Int} (h : SInv f n l) (a : Int) : SInv f n (rGive f n l a).2 := by
  unfold rGive
  split
  · exact h
  · split
    · exact h.del a
    · exact h
theorem SInv.take {f n : Nat} {l : List Int} (h : SInv f n l) : SInv f n (rTake f n l).2.2 := by
  unfold rTake
  cases hf : frees f n (inl l) with
  | nil => exact h
  | cons k t =>
    have hk : k ∈ frees f n (inl l) := by rw [hf]; exact .head _
    unfold frees at hk
    rw [List.mem_filter, List.mem_range'_1] at hk
    refine h.snoc (a := (k : Int)) ?_ (by omega) (by omega)
    have := hk.2
    simpa [inl] using this
theorem rUse_le (f n : Int) (l : List Int) (a : Int) : (rUse f n l a).2.length ≤ l.length + 1 := rUse_len f n l a
theorem rGive_le (f n : Int) (l : List Int) (a : Int) : (rGive f n l a).2.length ≤ l.length + 1 := by
  unfold rGive
  split
  · simp
  · split
    · have := (del_sub a l).length_le; simp only; omega
    · simp
theorem rTake_le (f n : Nat) (l : List Int) : (rTake f n l).2.2.length ≤ l.length + 1 := by
  unfold rTake
  cases frees f n (inl l) <;> simp
/-- as many are free as are ruled, less those that are used -/
theorem filter_one {p : Nat → Bool} {x : Nat} : ∀ {R : List Nat}, R.Nodup → x ∈ R → p x = true → (R.filter p).length = (R.filter fun y => p y && !decide (y = x)).length + 1
  | [], _, h, _ => by cases h
  | z :: R, hn, hx, hp => by
    have ⟨hz, hR⟩ := List.nodup_cons.1 hn
    by_cases hzx : z = x
    · subst hzx
      have e : (R.filter fun y => p y && !decide (y = z)) = R.filter p := by
        refine List.filter_congr fun y hy => ?_
        have : y ≠ z := fun e => hz (e ▸ hy)
        simp [this]
      simp [hp, e]
    · have hxR : x ∈ R := (List.mem_cons.1 hx).resolve_left (fun e => hzx e.symm)
      have ih := filter_one (p := p) hR hxR hp
      by_cases hpz : p z = true
      · rw [List.filter_cons_of_pos hpz, List.filter_cons_of_pos (by simp [hpz, hzx])]
        simp only [List.length_cons]; omega
      · rw [List.filter_cons_of_neg hpz, List.filter_cons_of_neg (by simp [hpz])]; exact ih
theorem frees_inl {f n : Nat} (hfn : f ≤ n) : ∀ {l : List Int}, SInv f n l → (frees f n (inl l)).length + l.length = n - f
  | [], _ => by
    have : (frees f n (inl [])) = List.range' f (n - f) := by unfold frees; exact List.filter_eq_self.2 fun _ _ => by simp [inl]
    rw [this]; simp
  | a :: l, h => by
    have ⟨ha, hl⟩ := List.nodup_cons.1 h.nd
    have hr := h.rng a (.head _)
    obtain ⟨k, rfl⟩ : ∃ k : Nat, a = k := ⟨a.toNat, by omega⟩
    have ih := frees_inl hfn (l := l) ⟨hl, fun x hx => h.rng x (.tail _ hx)⟩
    have h1 : (frees f n (inl l)).length = (frees f n (inl ((k : Int) :: l))).length + 1 := by
      unfold frees
      rw [filter_one (x := k) List.nodup_range' (List.mem_range'_1.2 (by omega)) (by simpa [inl] using ha)]
      congr 2
      refine List.filter_congr fun y _ => ?_
      simp only [inl, List.mem_cons]
      by_cases hy : y = k
      · simp [hy]
      · have : ¬ (y : Int) = k := by omega
        simp [hy, this]
    simp only [List.length_cons]; omega
theorem zero_inl : zero = inl [] := funext fun _ => by simp [zero, inl]
theorem sload_inl (f n : Nat) : ∀ (us : List Int) (l : List Int), sload f n (inl l) us = (rLoad f n l us).map inl
  | [], l => rfl
  | a :: us, l => by
    simp only [sload, rLoad, suse_inl]
    split
    · exact sload_inl f n us _
    · rfl
theorem rLoad_inv {f n : Nat} : ∀ (us : List Int) {l l' : List Int}, SInv f n l → rLoad f n l us = some l' → SInv f n l'
  | [], l, l', h, e => by cases e; exact h
  | a :: us, l, l', h, e => by
    simp only [rLoad] at e
    split at e
    · exact rLoad_inv us (h.use a) e
    · cases e
/-! ### one act of both -/
structure SAct where
  what : Int
  at_ : Int
def scells : List SAct → List Value
  | [] => []
  | a :: l => .int .u8 a.what :: iv a.at_ :: scells l
theorem scells_len : ∀ l, (scells l).length = l.length * 2
  | [] => rfl
  | a :: l => by simp only [scells, List.length_cons, scells_len l]; omega
theorem scells_at : ∀ {l : List SAct} {i : Nat} {a : SAct}, l[i]? = some a → (scells l)[i * 2]? = some (.int .u8 a.what) ∧ (scells l)[i * 2 + 1]? = some (iv a.at_)
  | [], i, p, h => by simp at h
  | q :: l, 0, p, h => by simp at h; subst h; exact ⟨rfl, rfl⟩
  | q :: l, i + 1, p, h => by
    have := scells_at (l := l) (i := i) (by simpa using h)
    rw [show (i + 1) * 2 = i * 2 + 1 + 1 by omega]
    exact this
theorem scells_cut {l : List SAct} {i : Nat} {a : SAct} (h : l[i]? = some a) : cut (scells l) (i * 2) 2 = some [.int .u8 a.what, iv a.at_] := by
  obtain ⟨h1, h2⟩ := scells_at h
  have hlt : i * 2 + 2 ≤ (scells l).length := by rw [scells_len]; have := (List.getElem?_eq_some_iff.1 h).1; omega
  rw [cut_some hlt]
  congr 1
  apply List.ext_getElem?
  intro q
  rw [List.getElem?_take]
  match q with
  | 0 => simpa using h1
  | 1 => simpa using h2
  | q + 2 => simp only [List.getElem?_drop]; rw [if_neg (by omega)]; rfl
def sstep (f n : Nat) (l : List Int) (a : SAct) : List Int := if a.what % 5 = 2 then (rUse f n l a.at_).2 else if a.what % 5 = 3 then (rGive f n l a.at_).2 else if a.what % 5 = 4 then l else (rTake f n l).2.2
theorem SInv.step {f n : Nat} {l : List Int} (h : SInv f n l) (a : SAct) : SInv f n (sstep f n l a) := by
  unfold sstep
  split
  · exact h.use _
  · split
    · exact h.give _
    · split
      · exact h
      · exact h.take
theorem sstep_le (f n : Nat) (l : List Int) (a : SAct) : (sstep f n l a).length ≤ l.length + 1 := by
  unfold sstep
  split
  · exact rUse_le _ _ _ _
  · split
    · exact rGive_le _ _ _ _
    · split
      · omega
      · exact rTake_le _ _ _
theorem sone_ok (b rb : Nat) (lv rv : Value) (f n : Nat) (l : List Int) (a : SAct) (w : World) (h1 : f < n) (h2 : n ≤ 2048) (hi : SInv f n l) (hl : l.length ≤ 10000) (hw : 0 ≤ a.what ∧ a.what ≤ 255) (ho : Owns w (spE b lv f n (inl l) :: rsG rb rv f n l)) :
    Fx Try.prog 18 [ptr b, ptr rb, .agg #[.int .u8 a.what, iv a.at_]] w (Ret w (spE b lv f n (inl l) :: rsG rb rv f n l) (fun _ : Value => .bool true) (fun v' => spE b lv f n (inl (sstep f n l a)) :: rsG rb v' f n (sstep f n l a)) (fun _ => True)) := by
  refine Fx.of Try.func18 rfl (by kernel_rfl) Try.ntmps18 rfl ho ?_
  refine go (k := ?_)
  refine XL.box rfl rfl rfl fun bx => ?_
  by_cases w2 : a.what % 5 = 2
  · have e : sstep f n l a = (rUse f n l a.at_).2 := by unfold sstep; rw [if_pos w2]
    rw [e]
    refine go (k := ?_)
    refine XL.call [1] [0, 2, 3] rfl rfl rfl rfl rfl (fun _ w _ ho => use_ok b lv f n (inl l) a.at_ w (by omega) h2 ho) fun _ _ => ?_
    rw [suse_inl]
    refine go (k := ?_)
    refine XL.call [2, 3] [0, 1] rfl rfl rfl rfl rfl (fun _ w _ ho => ruse_ok rb rv f n l a.at_ w (by omega) ho) fun v' _ => ?_
    refine go (k := ?_)
    refine XE.ret1 v' [2, 0, 1] rfl rfl trivial ?_ rfl rfl
    simp
  by_cases w3 : a.what % 5 = 3
  · have e : sstep f n l a = (rGive f n l a.at_).2 := by unfold sstep; rw [if_neg w2, if_pos w3]
    rw [e]
    refine go (k := ?_)
    refine XL.call [1] [0, 2, 3] rfl rfl rfl rfl rfl (fun _ w _ ho => give_ok b lv f n (inl l) a.at_ w (by omega) h2 ho) fun _ _ => ?_
    rw [sgive_inl _ _ _ _ hi.nd]
    refine go (k := ?_)
    refine XL.call [2, 3] [0, 1] rfl rfl rfl rfl rfl (fun _ w _ ho => rgive_ok rb rv f n l a.at_ w (by omega) ho) fun v' _ => ?_
    refine go (k := ?_)
    refine XE.ret1 v' [2, 0, 1] rfl rfl trivial ?_ rfl rfl
    simp
  by_cases w4 : a.what % 5 = 4
  · have e : sstep f n l a = l := by unfold sstep; rw [if_neg w2, if_neg w3, if_pos w4]
    rw [e]
    refine go (k := ?_)
    exact XE.ret1 rv [1, 2, 3] rfl rfl trivial rfl rfl rfl
  · have e : sstep f n l a = (rTake f n l).2.2 := by unfold sstep; rw [if_neg w2, if_neg w3, if_neg w4]
    rw [e]
    refine go (k := ?_)
    refine XL.call [1] [0, 2, 3] rfl rfl rfl rfl rfl (fun _ w _ ho => take_ok b lv f n (inl l) w h1 h2 ho) fun _ _ => ?_
    rw [stake_inl]
    refine go (k := ?_)
    refine XL.call [2, 3] [0, 1] rfl rfl rfl rfl rfl (fun _ w _ ho => rtake_ok rb rv f n l w h1 h2 (by omega) ho) fun v' _ => ?_
    refine go (k := ?_)
    refine XE.ret1 v' [2, 0, 1] rfl rfl trivial ?_ rfl rfl
    simp
end Go.X
