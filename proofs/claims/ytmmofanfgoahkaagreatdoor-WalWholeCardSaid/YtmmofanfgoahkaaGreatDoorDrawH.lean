/- A region whose order is open, with stores: what they write stands aside, nothing else of the region looks at it, and they come in the order of the text. -/
import Derived.Test.YtmmofanfgoahkaaGreatDoorDrawG
import Derived.Test.YtmmofanfgoahkaaGreatDoorSlice
namespace Go.X
open Go
section
variable {P : Program} {r : Option Nat} {w0 : World} {B : List Nat} {n : Nat} {Q : Post} {e : Env} {ds : List Deferred} {L C C1 : Heap}

/-- An operation without a value that makes of the entries C the entries C1. -/
structure Sto (P : Program) (r : Option Nat) (w0 : World) (B : List Nat) (n : Nat) (ds : List Deferred) (L C C1 : Heap) (op : Op) (ty : TypeId) (e : Env) : Prop where
  at_ : ∀ (pos : String) (af : Array Edge) (a : Act) (w : World), Sit w0 B n (restr e (tmpsOf op)) ds (C ++ L) a w →
    ∀ (K : Act → World → Prop) (Qx : Post), (∀ w', Sit w0 B n [] ds (C1 ++ L) a w' → K a w') → Oper.wpIn (FW r) 0 P ⟨none, op, ty, pos, af, none⟩ a w K Qx
def QH (P : Program) (r : Option Nat) (w0 : World) (B : List Nat) (n : Nat) (ds : List Deferred) (L : Heap) : List Oper → Env → Heap → Env → Heap → Prop
  | [], e, C, e', C' => e = e' ∧ C = C'
  | o :: l, e, C, e', C' => (∃ d v, o.dst = some d ∧ Nat.blt d n = true ∧ o.guard = none ∧ Quiet P r w0 B n ds L o.op o.type e v ∧ QH P r w0 B n ds L l ((d, v) :: e) C e' C') ∨
    (∃ C1, o.dst = none ∧ o.guard = none ∧ Sto P r w0 B n ds L C C1 o.op o.type e ∧ QH P r w0 B n ds L l e C1 e' C')
abbrev elS : El := .soft true (fun _ _ => True)
def Cx (el : Nat → El) (cv : Nat → Heap) (C : Heap) : Nat → Heap
  | 0 => C
  | i + 1 => match el i with
    | .soft _ _ => cv i
    | .det _ => Cx el cv C i
def CV (el : Nat → El) (cv : Nat → Heap) (C : Heap) (D : Nat → Bool) : Nat → Heap
  | 0 => C
  | i + 1 => match el i with
    | .soft _ _ => if D i = true then cv i else CV el cv C D i
    | .det _ => CV el cv C D i
theorem CV_agree {el : Nat → El} {cv : Nat → Heap} {C : Heap} {D D' : Nat → Bool} : ∀ m, (∀ i, i < m → el i = elS → D i = D' i) → (∀ i, i < m → (∃ v, el i = .det v) ∨ el i = elS) → CV el cv C D m = CV el cv C D' m
  | 0, _, _ => rfl
  | m + 1, h, hk => by
    have ih := CV_agree (el := el) (cv := cv) (C := C) (D := D) (D' := D') m (fun i hi => h i (by omega)) (fun i hi => hk i (by omega))
    simp only [CV]
    rcases hk m (by omega) with ⟨v, hv⟩ | hv
    · rw [hv]; exact ih
    · rw [hv]; simp only [ih, h m (by omega) hv]
theorem CV_full {el : Nat → El} {cv : Nat → Heap} {C : Heap} {D : Nat → Bool} : ∀ m, (∀ i, i < m → el i = elS → D i = true) → (∀ i, i < m → (∃ v, el i = .det v) ∨ el i = elS) → CV el cv C D m = Cx el cv C m
  | 0, _, _ => rfl
  | m + 1, h, hk => by
    have ih := CV_full (el := el) (cv := cv) (C := C) (D := D) m (fun i hi => h i (by omega)) (fun i hi => hk i (by omega))
    simp only [CV, Cx]
    rcases hk m (by omega) with ⟨v, hv⟩ | hv
    · rw [hv]; exact ih
    · rw [hv]; simp [h m (by omega) hv]
theorem CV_cut {el : Nat → El} {cv : Nat → Heap} {C : Heap} {D : Nat → Bool} {j : Nat} : ∀ m, j ≤ m → (∀ i, j ≤ i → i < m → el i = elS → D i = false) → (∀ i, i < m → (∃ v, el i = .det v) ∨ el i = elS) → CV el cv C D m = CV el cv C D j
  | 0, h, _, _ => by obtain rfl : j = 0 := (by omega); rfl
  | m + 1, h, hf, hk => by
    by_cases e : j = m + 1
    · rw [e]
    · have ih := CV_cut (el := el) (cv := cv) (C := C) (D := D) (j := j) m (by omega) (fun i h1 h2 => hf i h1 (by omega)) (fun i hi => hk i (by omega))
      simp only [CV]
      rcases hk m (by omega) with ⟨v, hv⟩ | hv
      · rw [hv]; exact ih
      · rw [hv]; simp [hf m (by omega) (by omega) hv, ih]
def kon {α : Type} (x : α) (f : Nat → α) : Nat → α
  | 0 => x
  | k + 1 => f k
theorem Ei_kon {dst : Nat → Nat} {el : Nat → El} {e : Env} {d : Nat} {x : El} : ∀ i, Ei (kon d dst) (kon x el) e (i + 1) = Ei dst el (x.env d e) i
  | 0 => rfl
  | i + 1 => by
    have := Ei_kon (dst := dst) (el := el) (e := e) (d := d) (x := x) i
    show (el i).env (dst i) (Ei (kon d dst) (kon x el) e (i + 1)) = (el i).env (dst i) (Ei dst el (x.env d e) i)
    rw [this]
theorem Cx_kon {el : Nat → El} {cv : Nat → Heap} {C C1 : Heap} {x : El} : ∀ i, Cx (kon x el) (kon C1 cv) C (i + 1) = Cx el cv (match x with | .soft _ _ => C1 | .det _ => C) i
  | 0 => by cases x <;> rfl
  | i + 1 => by
    have := Cx_kon (el := el) (cv := cv) (C := C) (C1 := C1) (x := x) i
    show (match el i with | .soft _ _ => cv i | .det _ => Cx (kon x el) (kon C1 cv) C (i + 1)) = (match el i with | .soft _ _ => cv i | .det _ => Cx el cv _ i)
    rw [this]
theorem QH.get : ∀ {l : List Oper} {e e' : Env} {C C' : Heap}, QH P r w0 B n ds L l e C e' C' →
    ∃ (dst : Nat → Nat) (el : Nat → El) (cv : Nat → Heap), (∀ i o, l[i]? = some o → (∃ v, el i = .det v ∧ o.dst = some (dst i) ∧ Nat.blt (dst i) n = true ∧ o.guard = none ∧ Quiet P r w0 B n ds L o.op o.type (Ei dst el e i) v) ∨
      (el i = elS ∧ o.dst = none ∧ o.guard = none ∧ Sto P r w0 B n ds L (Cx el cv C i) (cv i) o.op o.type (Ei dst el e i))) ∧ e' = Ei dst el e l.length ∧ C' = Cx el cv C l.length
  | [], e, e', C, C', h => ⟨fun _ => 0, fun _ => elS, fun _ => [], fun i o ho => by simp at ho, h.1.symm, h.2.symm⟩
  | o :: l, e, e', C, C', h => by
    rcases h with ⟨d, v, h1, h2, h3, h4, hr⟩ | ⟨C1, h1, h2, h4, hr⟩
    · obtain ⟨dst, el, cv, h5, h6, h7⟩ := QH.get hr
      have hc := fun i => Cx_kon (el := el) (cv := cv) (C := C) (C1 := []) (x := .det v) i
      have hsh := fun i => Ei_kon (dst := dst) (el := el) (e := e) (d := d) (x := .det v) i
      refine ⟨kon d dst, kon (.det v) el, kon [] cv, ?_, ?_, ?_⟩
      · intro i o' ho'
        cases i with
        | zero => simp at ho'; subst ho'; exact .inl ⟨v, rfl, h1, h2, h3, h4⟩
        | succ i =>
          simp at ho'
          have := h5 i o' ho'
          rw [hsh, hc]
          exact this
      · rw [h6, List.length_cons, hsh]; rfl
      · rw [h7, List.length_cons, hc]
    · obtain ⟨dst, el, cv, h5, h6, h7⟩ := QH.get hr
      have hc := fun i => Cx_kon (el := el) (cv := cv) (C := C) (C1 := C1) (x := elS) i
      have hsh := fun i => Ei_kon (dst := dst) (el := el) (e := e) (d := 0) (x := elS) i
      refine ⟨kon 0 dst, kon elS el, kon C1 cv, ?_, ?_, ?_⟩
      · intro i o' ho'
        cases i with
        | zero => simp at ho'; subst ho'; exact .inr ⟨rfl, h1, h2, h4⟩
        | succ i =>
          simp at ho'
          have := h5 i o' ho'
          rw [hsh, hc]
          exact this
      · rw [h6, List.length_cons, hsh]; rfl
      · rw [h7, List.length_cons, hc]
/-- of two stores the one that stands ahead comes ahead -/
def stoOk (ops : Array Oper) (m : Nat) : Bool :=
  let l := ops.toList
  let bs := masks l
  (List.range m).all fun j => (List.range j).all fun i => ((bs.getD j 0).testBit i) || (l.getD i default).dst.isSome || (l.getD j default).dst.isSome
theorem stoOk_get {ops : Array Oper} {m : Nat} (h : stoOk ops m = true) {i j : Nat} {x y : Oper} (hx : ops.toList[i]? = some x) (hy : ops.toList[j]? = some y) (hij : i < j) (hj : j < m) (h1 : x.dst = none) (h2 : y.dst = none) :
    i ∈ (befs ops.toList).getD j [] := by
  simp only [stoOk, List.all_eq_true, List.mem_range] at h
  have := h j hj i hij
  have e1 : ops.toList.getD i default = x := by rw [List.getD_eq_getElem?_getD, hx]; rfl
  have e2 : ops.toList.getD j default = y := by rw [List.getD_eq_getElem?_getD, hy]; rfl
  rw [e1, e2, h1, h2] at this
  simp only [Bool.or_eq_true, Option.isSome_none, Bool.false_eq_true, or_false] at this
  exact mem_befs.2 ⟨(List.getElem?_eq_some_iff.1 hx).1, this⟩
/-- the phase, as it is walked; C stands aside -/
structure XH (P : Program) (r : Option Nat) (w0 : World) (B : List Nat) (n : Nat) (ops : Array Oper) (m : Nat) (l : List Oper) (Q : Post) (e : Env) (ds : List Deferred) (L C : Heap) : Prop where
  parts : ∃ l1 l2 e' C', l = l1 ++ l2 ∧ ops.size - l2.length = m ∧ l2.length ≤ ops.size ∧ QH P r w0 B n ds L l1 e C e' C' ∧ XR P r w0 B n ops l2 Q e' ds (C' ++ L)
variable {m : Nat}
theorem XH.st {ops : Array Oper} {rest : List Oper} {d : Nat} {op : Op} {ty : TypeId} {pos : String} {af : Array Edge} {v : Value}
    (hq : Quiet P r w0 B n ds L op ty e v) (hd : Nat.blt d n = true) (h : XH P r w0 B n ops m rest Q ((d, v) :: e) ds L C) : XH P r w0 B n ops m (⟨some d, op, ty, pos, af, none⟩ :: rest) Q e ds L C := by
  obtain ⟨l1, l2, e', C', rfl, h1, h2, h3, h4⟩ := h.parts
  exact ⟨_ :: l1, l2, e', C', rfl, h1, h2, .inl ⟨d, v, rfl, hd, rfl, hq, h3⟩, h4⟩
theorem XH.sto {ops : Array Oper} {rest : List Oper} {op : Op} {ty : TypeId} {pos : String} {af : Array Edge}
    (hq : Sto P r w0 B n ds L C C1 op ty e) (h : XH P r w0 B n ops m rest Q e ds L C1) : XH P r w0 B n ops m (⟨none, op, ty, pos, af, none⟩ :: rest) Q e ds L C := by
  obtain ⟨l1, l2, e', C', rfl, h1, h2, h3, h4⟩ := h.parts
  exact ⟨_ :: l1, l2, e', C', rfl, h1, h2, .inr ⟨C1, rfl, rfl, hq, h3⟩, h4⟩
theorem XH.nil {ops : Array Oper} (hm : Nat.beq ops.size m = true) (h : XE w0 B n .normal Q e ds (C ++ L)) : XH P r w0 B n ops m [] Q e ds L C :=
  ⟨[], [], e, C, rfl, by have := Nat.eq_of_beq_eq_true hm; simpa using this, by simp, ⟨rfl, rfl⟩, .nil h⟩
theorem XH.run {ops : Array Oper} {l : List Oper} (hl : ops.toList = l) (hedge : edgesOk ops = true) (hpair : pairOk ops 0 m = true) (hsto : stoOk ops m = true) (hcut : cutOk ops m = true)
    (h : XH P r w0 B n ops m l Q e ds L C) : XR P r w0 B n ops ops.toList Q e ds (C ++ L) := by
  refine ⟨fun _ _ a w hs => ?_⟩
  obtain ⟨l1, l2, e', C', hl2, hm2, hle, hqa, hx⟩ := h.parts
  rw [hl2] at hl
  obtain ⟨dst, el, cv, hst, he', hC'⟩ := hqa.get
  have hlen : ops.toList.length = ops.size := by simp
  have hm1 : l1.length = m := by have := congrArg List.length hl; simp at this; omega
  have hat : ∀ i, i < m → ∀ o, ops.toList[i]? = some o → l1[i]? = some o := fun i hi o ho => by
    rw [hl, List.getElem?_append_left (by omega)] at ho
    exact ho
  have hback := edgesOk_back hedge
  have hget : ∀ {i : Nat} (hi : i < ops.size), ops.toList[i]? = some (ops.toList[i]'(hlen.symm ▸ hi)) := fun hi => List.getElem?_eq_getElem _
  have hmle : m ≤ ops.size := by omega
  have hkind : ∀ i, i < m → (∃ v, el i = .det v) ∨ el i = elS := fun i hi => by
    rcases hst i _ (hat i hi _ (hget (by omega))) with ⟨v, h1, _⟩ | ⟨h1, _⟩
    · exact .inl ⟨v, h1⟩
    · exact .inr h1
  let Low : Array Bool → Act → World → Prop := fun D a w => (∀ s v, view dst el e (inD D) s m = some v → a.tmps[s]? = some v) ∧ Sit w0 B n [] ds (CV el cv C (inD D) m ++ L) a w
  have main : ∀ fuel D a w, cnt (inD D) ops.size = fuel → D.size = ops.size → (∀ j o, ops.toList[j]? = some o → inD D j = true → ∀ x ∈ o.after.toList, Region.binds .any x = true → inD D x.on = true) →
      (∀ i, m ≤ i → inD D i = false) → Low D a w → wpAnyIn (FW r) 0 P .any ops Q fuel D a w := by
    intro fuel
    have fin : ∀ D a w, D.size = ops.size → (∀ i, m ≤ i → inD D i = false) → (∀ i, i < m → inD D i = true) → Low D a w → wpAnyIn (FW r) 0 P .any ops Q (cnt (inD D) ops.size) D a w := by
      intro D a w hsz hhi hdone ⟨hv, hsit⟩
      have henv : ∀ s v, X.get e' s = some v → a.tmps[s]? = some v := fun s v hg => hv s v (by
        rw [he', hm1, get_Ei] at hg; rw [← hg]; exact view_agree m fun i hi _ => hdone i hi)
      rw [CV_full m (fun i hi _ => hdone i hi) hkind] at hsit
      rw [hC', hm1] at hx
      have := hx.run ⟨l1, hl.symm⟩ hedge a w (hsit.setEnv henv)
      rw [hm2] at this
      refine this D hsz fun i hi => ?_
      by_cases h1 : i < m
      · rw [hdone i h1]; simp [h1]
      · rw [hhi i (by omega)]; simp [h1]
    induction fuel with
    | zero =>
      intro D a w hc hsz hcl hhi hlow
      have hall := cnt_zero hc
      have := fin D a w hsz hhi (fun i hi => hall i (by omega)) hlow
      rwa [hc] at this
    | succ fuel ih =>
      intro D a w hc hsz hcl hhi hlow
      by_cases hdone : ∀ i, i < m → inD D i = true
      · have := fin D a w hsz hhi hdone hlow
        rwa [hc] at this
      constructor
      · intro hr
        exfalso
        rcases first_false (f := inD D) ops.size with h | ⟨j, h1, h2, h3⟩
        · rw [cnt_all h] at hc; omega
        · have : j ∈ Region.ready .any ops D := (mem_ready hsz).2 ⟨_, hget h1, h2, fun x hx hb => h3 _ (hback j _ (hget h1) x hx hb)⟩
          rw [hr] at this; cases this
      · intro j hj
        obtain ⟨hjs, hjD⟩ := ready_lt hsz hj
        obtain ⟨o, ho, _, hedges⟩ := (mem_ready hsz).1 hj
        have hbef := ready_befs hedge hsz hcl hj
        have hclosed := befs_closed hcl hback
        have hsetD : ∀ q, inD (D.setIfInBounds j true) q = if q = j then true else inD D q := fun q => inD_set (by omega)
        have hcnt : cnt (inD (D.setIfInBounds j true)) ops.size = fuel := by
          have := cnt_set (f := inD D) ops.size hjs hjD (g := inD (D.setIfInBounds j true)) (by rw [hsetD]; simp) (fun q hq => by rw [hsetD]; simp [hq])
          omega
        have hcl' : ∀ i o', ops.toList[i]? = some o' → inD (D.setIfInBounds j true) i = true → ∀ x ∈ o'.after.toList, Region.binds .any x = true → inD (D.setIfInBounds j true) x.on = true := by
          intro i o' hi hD x hx hb
          rw [hsetD] at hD ⊢
          by_cases hij : i = j
          · subst hij
            have : o' = o := by rw [ho] at hi; exact (Option.some.inj hi).symm
            subst this
            rw [hedges x hx hb]; simp
          · rw [if_neg hij] at hD; rw [hcl i o' hi hD x hx hb]; simp
        have ho' : ops[j]? = some o := by simpa using ho
        obtain ⟨hview, hsit⟩ := hlow
        have hjm : j < m := by
          rcases Nat.lt_or_ge j m with h1 | h1
          · exact h1
          · exact absurd (fun i hi => hbef _ (cutOk_get hcut (by omega) hi h1)) hdone
        have hord : ∀ i, i < m → i ≠ j → ∀ x, ops.toList[i]? = some x → clash ops x o = true → inD D i = decide (i < j) := by
          intro i hi hne x hx hcl2
          rcases Nat.lt_or_gt_of_ne hne with hlt | hgt
          · rcases pairOk_get hpair (i := i) (j := j) (by rw [Nat.zero_add]; exact hx) (by rw [Nat.zero_add]; exact ho) (by omega) (by omega) with h1 | h1
            · rw [Nat.zero_add, Nat.zero_add] at h1; rw [hbef _ h1]; simp [hlt]
            · rw [h1] at hcl2; cases hcl2
          · rcases pairOk_get hpair (i := j) (j := i) (by rw [Nat.zero_add]; exact ho) (by rw [Nat.zero_add]; exact hx) (by omega) (by omega) with h1 | h1
            · rw [Nat.zero_add, Nat.zero_add] at h1
              cases hDi : inD D i with
              | false => simp; omega
              | true =>
                have := hclosed i (by have := (List.getElem?_eq_some_iff.1 hx).1; omega) hDi _ h1
                rw [hjD] at this; cases this
            · rw [clash_symm, h1] at hcl2; cases hcl2
        have hdet : ∀ i, i < m → ∀ v, el i = .det v → ∃ x, ops.toList[i]? = some x ∧ x.dst = some (dst i) := fun i hi v hv => by
          have hil := hget (show i < ops.size by omega)
          rcases hst i _ (hat i hi _ hil) with ⟨_, _, h1, _⟩ | ⟨h1, _⟩
          · exact ⟨_, hil, h1⟩
          · rw [hv] at h1; cases h1
        -- views agree where the operations that yield do
        have vagree : ∀ {D1 D2 : Nat → Bool} {s : Nat} p, p ≤ m → (∀ i v, i < p → el i = .det v → dst i = s → D1 i = D2 i) → view dst el e D1 s p = view dst el e D2 s p := by
          intro D1 D2 s p
          induction p with
          | zero => intro _ _; rfl
          | succ p ihp =>
            intro hp h
            simp only [view]
            rw [ihp (by omega) (fun i v hi => h i v (by omega))]
            cases hel : el p with
            | soft _ _ => rfl
            | det v =>
              by_cases hs : dst p = s
              · rw [h p v (by omega) hel hs]
              · simp [hs]
        have hlook : ∀ s ∈ lookL ops o, ∀ v, X.get (Ei dst el e j) s = some v → a.tmps[s]? = some v := by
          intro s hsl v hv
          apply hview
          rw [← hv, get_Ei, ← view_cut m (Nat.le_of_lt hjm)]
          refine vagree m (Nat.le_refl _) (fun i u hi hel hds => ?_)
          by_cases hij : i = j
          · subst hij; rw [hjD]; simp
          · obtain ⟨x, hx, hxd⟩ := hdet i hi u hel
            exact hord i hi hij x hx (clash_of_look hxd hsl hds)
        have hrest : ∀ {M : Heap}, Sit w0 B n [] ds M a w → Sit w0 B n (restr (Ei dst el e j) (tmpsOf o.op)) ds M a w := by
          intro M hM
          refine hM.setEnv fun i v hi => ?_
          by_cases hit : i ∈ tmpsOf o.op
          · rw [get_restr hit] at hi; exact hlook i (by simp [lookL, hit]) v hi
          · rw [restr_none hit] at hi; cases hi
        have hhi' : ∀ i, m ≤ i → inD (D.setIfInBounds j true) i = false := fun i hi => by rw [hsetD, if_neg (by omega), hhi i hi]
        rcases hst j o (hat j hjm o ho) with ⟨v, hel, hod, hdn, hgd, hquiet⟩ | ⟨hel, hod, hgd, hsq⟩
        · have hlt : dst j < a.tmps.size := by rw [hsit.sz]; simpa [Nat.blt_eq] using hdn
          unfold wpOpIn
          simp only [ho']
          rw [if_pos (by simp [Region.wanted, hgd])]
          refine hquiet.at_ o.dst o.pos o.after o.guard a w (hrest (hsit.subl (List.sublist_append_right _ _))) _ _ fun w' hkp => ?_
          rw [hod]
          refine ih _ _ _ hcnt (by simp [hsz]) hcl' hhi' ⟨?_, ?_⟩
          · intro s u hu
            rw [put_get? hlt]
            by_cases hsd : s = dst j
            · rw [if_pos hsd]
              have h1 : view dst el e (inD (D.setIfInBounds j true)) s m = view dst el e (fun i => decide (i < j + 1)) s m := vagree m (Nat.le_refl _) (fun i u' hi hel' hds => by
                rw [hsetD]
                by_cases hij : i = j
                · simp [hij]
                · rw [if_neg hij]
                  obtain ⟨x, hx, hxd⟩ := hdet i hi u' hel'
                  rw [hord i hi hij x hx (clash_of_dst (hxd.trans (by rw [hds, hsd])) hod)]
                  simp; omega)
              rw [h1, view_cut m (by omega)] at hu
              simp only [view, hel, hsd] at hu
              simpa using hu
            · rw [if_neg hsd]
              refine hview s u ?_
              rw [← hu]
              exact vagree m (Nat.le_refl _) (fun i u' hi hel' hds => by rw [hsetD, if_neg (fun e => hsd (by rw [← hds, e]))])
          · rw [CV_agree (D' := inD D) m (fun i hi hs => by rw [hsetD, if_neg (fun e => by rw [e, hel] at hs; cases hs)]) hkind]
            exact ((hsit.step hkp (fun _ h => by cases h) (hsit.own.of_kept hkp (fun _ _ h => by cases h)) (fun b hb => .inl hb)).put (v := v) hdn).setEnv fun i v h => by simp [X.get] at h
        · have hsame : ∀ i, i < m → el i = elS → ∃ x, ops.toList[i]? = some x ∧ x.dst = none := fun i hi hs => by
            have hil := hget (show i < ops.size by omega)
            rcases hst i _ (hat i hi _ hil) with ⟨_, h1, _⟩ | ⟨_, h1, _⟩
            · rw [hs] at h1; cases h1
            · exact ⟨_, hil, h1⟩
          have hlo : ∀ i, i < j → el i = elS → inD D i = true := fun i hi hs => by
            obtain ⟨x, hx, hxd⟩ := hsame i (by omega) hs
            exact hbef _ (stoOk_get hsto hx ho hi hjm hxd hod)
          have hup : ∀ i, j ≤ i → i < m → el i = elS → inD D i = false := fun i h1 h2 hs => by
            by_cases hij : i = j
            · rw [hij]; exact hjD
            · obtain ⟨x, hx, hxd⟩ := hsame i h2 hs
              cases hDi : inD D i with
              | false => rfl
              | true =>
                have := hclosed i (by omega) hDi _ (stoOk_get hsto ho hx (by omega) h2 hod hxd)
                rw [hjD] at this; cases this
          have hC : CV el cv C (inD D) m = Cx el cv C j := by
            rw [CV_cut m (Nat.le_of_lt hjm) hup hkind, CV_full j hlo fun i hi => hkind i (by omega)]
          have hC1 : CV el cv C (inD (D.setIfInBounds j true)) m = cv j := by
            rw [CV_cut (j := j + 1) m hjm (fun i h1 h2 hs => by rw [hsetD, if_neg (by omega)]; exact hup i (by omega) h2 hs) hkind]
            simp only [CV, hel, hsetD]
            simp
          rw [hC] at hsit
          unfold wpOpIn
          simp only [ho']
          rw [if_pos (by simp [Region.wanted, hgd])]
          have hon : o = ⟨none, o.op, o.type, o.pos, o.after, none⟩ := by cases o; simp only at hod hgd; rw [hod, hgd]
          rw [hon]
          refine hsq.at_ o.pos o.after a w (hrest hsit) _ _ fun w' hs' => ?_
          refine ih _ _ _ hcnt (by simp [hsz]) hcl' hhi' ⟨?_, by rw [hC1]; exact hs'⟩
          intro s u hu
          refine hview s u ?_
          rw [← hu]
          exact vagree m (Nat.le_refl _) (fun i u' hi hel' hds => by rw [hsetD, if_neg (fun e => by rw [e, hel] at hel'; cases hel')])
  intro D hD hin
  rw [hlen, Nat.sub_self] at hin
  have hin0 : ∀ i, inD D i = false := fun i => by
    by_cases h1 : i < ops.size
    · rw [hin i h1]; simp
    · simp only [inD, Array.getD_eq_getD_getElem?]; rw [Array.getElem?_eq_none (by omega)]; rfl
  refine main _ D a w rfl hD (fun j o _ hj => by rw [hin0] at hj; cases hj) (fun i _ => hin0 i) ⟨?_, ?_⟩
  · intro s v hv
    have : ∀ p, view dst el e (inD D) s p = X.get e s := fun p => by
      induction p with
      | zero => rfl
      | succ p ih =>
        simp only [view, hin0, ih]
        cases el p <;> simp
    rw [this] at hv
    exact hs.env s v hv
  · rw [CV_cut (j := 0) m (Nat.zero_le _) (fun i _ _ _ => hin0 i) hkind]
    exact hs.sub fun i v h => by simp [X.get] at h
theorem XC.drawH {rid : Nat} {ops : Array Oper} (m : Nat) (hm : P.follows .mixedOrders = true) (hedge : edgesOk ops = true) (hpair : pairOk ops 0 m = true) (hsto : stoOk ops m = true) (hcut : cutOk ops m = true)
    (h : XH P r w0 B n ops m ops.toList Q e ds L C) : XC P r w0 B n (.region rid ops true) Q e ds (C ++ L) :=
  .drawR hm hedge (XH.run rfl hedge hpair hsto hcut h)
theorem Sto.of {op : Op} {ty : TypeId} (hop : ∀ c, op ≠ .defer c)
    (hrun : ∀ (pos : String) (af : Array Edge) a w, Sit w0 B n (restr e (tmpsOf op)) ds (C ++ L) a w → ∃ w', (execOp a.eval ⟨none, op, ty, pos, af, none⟩).run P w = .ok .skip w' ∧ Sit w0 B n [] ds (C1 ++ L) a w') : Sto P r w0 B n ds L C C1 op ty e := by
  refine ⟨fun pos af a w hs K Qx hK => ?_⟩
  obtain ⟨w', hr, hs'⟩ := hrun pos af a w hs
  refine ⟨fun _ _ => trivial, ?_⟩
  have hsem : Oper.semAt (FW r).round a.eval ⟨none, op, ty, pos, af, none⟩ = execOp a.eval ⟨none, op, ty, pos, af, none⟩ := by
    simp only [FW_round]
    cases r with
    | none => rfl
    | some l => exact Oper.semAt_some l _ _ hop
  rw [hsem, hr]
  exact hK _ hs'
theorem Upd.app {L C C1 : Heap} {x y : Ent} (h : Upd C x y C1) : Upd (C ++ L) x y (C1 ++ L) := by
  induction h with
  | here => exact .here
  | there _ ih => exact .there ih
theorem Sto.st [T : Tab P] {t ty : TypeId} {x y : Operand} {b off s by' : Nat} {z v : Value} {tt : TypeId} {cs cs' : List Value}
    (hx : ev e x = some (.pointer (some ⟨b, off, none⟩))) (hy : ev e y = some v) (hi : T.inf t = some (s, by', z)) (hl : v.cells.toList.length = s) (h1 : v.cells.toList.all Value.oneCell' = true)
    (hu : Upd C (.blk b cs tt) (.blk b cs' tt) C1) (hp : spl cs off v.cells.toList = some cs') : Sto P r w0 B n ds L C C1 (.store t x y) ty e := by
  refine .of (by simp) fun pos af a w hs => ?_
  have hu' : Upd (C ++ L) (.blk b cs tt) (.blk b cs' tt) (C1 ++ L) := hu.app
  have hb : w.heap[b]? = some (.cells cs.toArray tt (0, 0)) := hs.own.ok _ hu'.mem
  obtain ⟨w', h2, h3, h4⟩ := run_storeVar (P := P) hi rfl hl h1 hb (spl_ok hp)
  refine ⟨w', ?_, (hs.step (C := [b]) h4 (fun c hc => by simp at hc; subst hc; exact mem_ids.2 ⟨_, hu'.mem, by simp [Ent.ids]⟩) (hu'.owns hs.own rfl h3 h4) (fun c hc => .inl (by rw [hu'.ids rfl] at hc; exact hc))).sub fun i v h => by simp [X.get] at h⟩
  have ex : a.eval x = _ := hs.eval (by rw [ev_restr (by simp [Op.operands])]; exact hx)
  have ey : a.eval y = _ := hs.eval (by rw [ev_restr (by simp [Op.operands])]; exact hy)
  simp only [execOp, ex, ey, Instr.storeAt, Instr.sureAddr, Sem.run_bind, Sem.run_pure, Result.andThen, h2]
end
end Go.X
